/-
  That the program computes just that (printed by gen2.py).
-/
import Derived.Test.YtphbclogflflmaaShal
import Derived.Test.YtphbclogflflmaaRows
import Derived.WalkKit
set_option linter.unusedVariables false
namespace Go.Proofs.Ytphbclogflflmaa
open Go Ev
noncomputable section
def E0 : Env := { sl := [(22, 5, .n .u8 0), (24, 3, .n .i64 0), (101, 9, .s ByteArray.empty)], gr := [(26, 24)], sc := [3, 4, 5, 9, 21, 121, 123], bl := [4], ik := [(3, .i64), (5, .u8), (21, .i32), (121, .u32), (123, .u64)], st := [9], one := [3, 4, 5, 9, 21, 121, 123, 22, 24, 101, 1, 23, 28, 29, 30, 31, 32, 34, 36, 37, 38, 40, 42, 43, 45, 47, 48, 49, 51, 52, 53, 54, 56, 57, 58, 59, 60, 61, 63, 64, 66, 67, 68, 69, 70, 71, 72, 73, 74, 75, 76, 77, 78, 79, 80, 81, 82, 83, 85, 86, 87, 88, 89, 90, 91, 92, 93, 94, 95, 96, 97, 98, 99, 100, 102, 103, 104, 109, 110, 111, 112, 113, 116, 117, 118, 119, 120, 122, 125, 126, 127, 129, 132, 133, 139, 142], al := [(3, [.sc (.n .i64 0)]), (4, [.sc (.b false)]), (5, [.sc (.n .u8 0)]), (9, [.sc (.s ByteArray.empty)]), (21, [.sc (.n .i32 0)]), (121, [.sc (.n .u32 0)]), (123, [.sc (.n .u64 0)]), (22, [.sl]), (24, [.sl]), (101, [.sl]), (1, [.fn]), (23, [.fn]), (26, [.sl]), (28, [.fn]), (29, [.fn]), (30, [.fn]), (31, [.fn]), (32, [.fn]), (34, [.fn]), (36, [.fn]), (37, [.fn]), (38, [.fn]), (40, [.fn]), (42, [.fn]), (43, [.fn]), (45, [.fn]), (47, [.fn]), (48, [.fn]), (49, [.fn]), (51, [.fn]), (52, [.fn]), (53, [.fn]), (54, [.fn]), (56, [.fn]), (57, [.fn]), (58, [.fn]), (59, [.fn]), (60, [.fn]), (61, [.fn]), (63, [.fn]), (64, [.fn]), (66, [.fn]), (67, [.fn]), (68, [.fn]), (69, [.fn]), (70, [.fn]), (71, [.fn]), (72, [.fn]), (73, [.fn]), (74, [.fn]), (75, [.fn]), (76, [.fn]), (77, [.fn]), (78, [.fn]), (79, [.fn]), (80, [.fn]), (81, [.fn]), (82, [.fn]), (83, [.fn]), (85, [.fn]), (86, [.fn]), (87, [.fn]), (88, [.fn]), (89, [.fn]), (90, [.fn]), (91, [.fn]), (92, [.fn]), (93, [.fn]), (94, [.fn]), (95, [.fn]), (96, [.fn]), (97, [.fn]), (98, [.fn]), (99, [.fn]), (100, [.fn]), (102, [.fn]), (103, [.fn]), (104, [.fn]), (109, [.fn]), (110, [.fn]), (111, [.fn]), (112, [.fn]), (113, [.fn]), (116, [.fn]), (117, [.fn]), (118, [.fn]), (119, [.fn]), (120, [.fn]), (122, [.fn]), (125, [.fn]), (126, [.fn]), (127, [.fn]), (129, [.fn]), (132, [.fn]), (133, [.fn]), (139, [.fn]), (142, [.fn]), (107, [.sl, .sc (.n .i64 0), .sc (.n .i64 0)])], fd := [(26, 1), (107, 3)], ll := [(108, 24)] }
def H0 : Hints := { md := [(177, [.fz]), (187, [.ro, .fz, .ro, .io]), (188, [.fz]), (198, [.io]), (163, [.io]), (164, [.io, .ro]), (165, [.io, .ro]), (166, [.io, .ro]), (167, [.io, .ro]), (168, [.io, .ro]), (186, [.io]), (195, [.io, .ro]), (200, [.io, .ro]), (204, [.io]), (205, [.io]), (208, [.io])], soft := [62, 65, 67, 162, 163, 165, 166, 167, 168, 175, 177, 180, 184, 195, 208] }
theorem E0ok : EnvOk Try.prog E0 := okEnv_spec (by kernel_rfl)

def f_l_big_F : Fi := { nv := 0, nc := 0, m := 0, vt := [], kl := [], sk := [], mvs := [], fz := [] }
def f_l_big_a (code0 : List Sc) : List AV := enc [.p .sl] [.l code0]
def f_l_big_i (code0 : List Sc) : List AV := enc [] []
def f_l_big_en (r : Bool) : List AV × List AV := (enc [.p .boo] [.b r], enc [] [])
def f_l_big_M : Calling := noC
theorem f_l_big_Mt : CallOk Try.prog (f_l_big_M) := noC_true
theorem f_l_big_o : loopsOnce Try.f9 = true := by kernel_rfl
theorem f_l_big_p {R : Type} (code0 : List Sc) (kR : Bool → Option R) : f_l_big_k code0 kR = (f_l_big_k code0 some).bind kR := by
  simp only [f_l_big_k, someB]
theorem f_l_big_e (code0 : List Sc) : runFn E0 f_l_big_M H0 f_l_big_F (asL (noL)) Try.f9 (f_l_big_a code0) (f_l_big_i code0) = f_l_big_k code0 (fun r => some (f_l_big_en r)) := by kernel_rfl
theorem f_l_big_ok (code0 : List Sc) (r : Bool) (h : f_l_big code0 = some r) : CS Try.prog 9 (f_l_big_a code0) (f_l_big_i code0) (f_l_big_en r).1 (f_l_big_en r).2 :=
  fn_true (Gk := fun k => f_l_big_k code0 k) (en := f_l_big_en) Try.func9 E0ok f_l_big_Mt (noL_true) f_l_big_o (f_l_big_e code0) (f_l_big_p code0) h
def f_l_big_c : CRow := fun args inh => match dec2 [.p .sl] [] args inh with
  | some ([.l code0], []) => some ((f_l_big code0).isSome, (f_l_big_en ((f_l_big code0).getD false)).1, (f_l_big_en ((f_l_big code0).getD false)).2)
  | _ => none
theorem f_l_big_cc : CTrue Try.prog 9 f_l_big_c := by
  intro args inh rs out h
  unfold f_l_big_c at h
  split at h
  · rename_i hd
    obtain ⟨h1, h2⟩ := dec2_enc hd
    rw [← h1, ← h2]
    exact rowC (f_l_big_ok _) h
  · cases h

def f_s_l1New_F : Fi := { nv := 3, nc := 3, m := 0, vt := [(31, 0)], kl := [(0, ([0, 1, 2, 4, 5, 8, 9, 10, 11, 12, 13, 14, 15, 16, 17, 18, 19, 20, 21, 22, 23, 24, 25, 26, 27, 28, 29, 30, 31, 32, 33, 34], [0, 1, 2, 4, 5, 7, 8, 9, 10, 11, 12, 13, 14, 15, 16, 17, 18, 19, 20, 21, 22, 23, 24, 25, 26, 27, 28, 29, 30, 31, 32, 33, 34], [3, 4, 6, 7, 8, 9, 10, 11, 12, 13, 14, 15, 16, 17, 18, 19, 20, 21, 22, 23, 24, 25, 26, 27, 28, 29, 30, 31, 32, 33, 34]))], sk := [], mvs := [], fz := [] }
def f_s_l1New_a (code0 : List Sc) : List AV := enc [.p .sl] [.l code0]
def f_s_l1New_i (code0 : List Sc) : List AV := enc [] []
def f_s_l1New_en (r : List Sc × Int × Int) : List AV × List AV := (enc [.p (.pt 0 3)] [], enc [.p .sl, .p (.int .i64), .p (.int .i64)] [.l r.1, .i r.2.1, .i r.2.2])
def f_s_l1New_M : Calling := noC
theorem f_s_l1New_Mt : CallOk Try.prog (f_s_l1New_M) := noC_true
theorem f_s_l1New_o : loopsOnce Try.f162 = true := by kernel_rfl
def f_s_l1New_h0 : List Sh := [.u, .u, .u, .p .sl, .u, .u, .p (.int .i64), .p (.int .i64), .u, .u, .u, .u, .u, .u, .u, .u, .u, .u, .u, .u, .u, .u, .u, .u, .u, .u, .u, .u, .u, .u, .u, .u, .u, .u, .u]
def f_s_l1New_fr0 (code0 : List Sc) (s : Int × Int) : List AV := enc f_s_l1New_h0 [.l code0, .i s.1, .i s.2]
def f_s_l1New_g0_1 : List Sh := [.u, .u, .u, .p .sl, .u, .u, .p (.int .i64), .u, .u, .u, .u, .u, .u, .u, .u, .u, .u, .u, .u, .u, .u, .u, .u, .u, .u, .u, .u, .u, .u, .u, .u, .u, .u, .u, .u]
def f_s_l1New_x0_1 (code0 : List Sc) (e : Int) : X × List AV := (.out 0, enc f_s_l1New_g0_1 [.l code0, .i e])
def f_s_l1New_x0_2 (code0 : List Sc) (_e : Unit) : X × List AV := (.ret, [])
theorem f_s_l1New_p0 {R : Type} (code0 : List Sc) (s : Int × Int) (kN : Int × Int → Option R) (kA : Int → Option R) (kB : Unit → Option R) : f_s_l1New_k0 code0 s.1 s.2 kN kA = (f_s_l1New_r0 code0 s).bind (Ro.el kN kA kB) := by
  simp only [f_s_l1New_k0, f_s_l1New_r0, brB, someB, noneB, Ro.el]
theorem f_s_l1New_e0 (code0 : List Sc) (s : Int × Int) : EC E0 f_s_l1New_M H0 f_s_l1New_F (asL (noL)) 0 (bodyOf Try.f162 0) (f_s_l1New_fr0 code0 s) (done (klOf f_s_l1New_F 0)) = f_s_l1New_k0 code0 s.1 s.2 (fun s => some (.norm, f_s_l1New_fr0 code0 s)) (fun e => some (f_s_l1New_x0_1 code0 e)) := by kernel_rfl
theorem f_s_l1New_l0 (code0 : List Sc) : ∀ s r, loopL (f_s_l1New_r0 code0) s = some r → LS Try.prog f_s_l1New_F (bodyOf Try.f162 0) (f_s_l1New_fr0 code0 s) (enX (f_s_l1New_x0_1 code0) (f_s_l1New_x0_2 code0) r) :=
  loop_true E0ok f_s_l1New_Mt (noL_true) f_s_l1New_o (fun _ h => by cases h) (fun _ h => by cases h) (fun s => (f_s_l1New_e0 code0 s).trans (f_s_l1New_p0 code0 s _ _ (fun e => some (f_s_l1New_x0_2 code0 e))))
def f_s_l1New_t0 (σ : List AV) : Option (Bool × Bool × (X × List AV) × (X × List AV)) := match dec f_s_l1New_h0 σ with
  | some [.l code0, .i h3, .i i4] => some (isOne (loopL (f_s_l1New_r0 code0) (h3, i4)), true, f_s_l1New_x0_1 code0 (getOne 0 (loopL (f_s_l1New_r0 code0) (h3, i4))), (.ret, []))
  | _ => none
theorem f_s_l1New_tt0 : TTrue Try.prog f_s_l1New_F Try.f162 0 (f_s_l1New_t0) := by
  intro σ p r r' h
  unfold f_s_l1New_t0 at h
  split at h
  · rename_i hd
    rw [← dec_enc hd]
    exact row1 (f_s_l1New_l0 _ _) h
  · cases h
theorem f_s_l1New_p {R : Type} (code0 : List Sc) (kR : List Sc × Int × Int → Option R) : f_s_l1New_k code0 kR = (f_s_l1New_k code0 some).bind kR := by
  simp only [f_s_l1New_k, bl1B, someB]
theorem f_s_l1New_e (code0 : List Sc) : runFn E0 f_s_l1New_M H0 f_s_l1New_F (asL (addL 0 (f_s_l1New_t0) (noL))) Try.f162 (f_s_l1New_a code0) (f_s_l1New_i code0) = f_s_l1New_k code0 (fun r => some (f_s_l1New_en r)) := by kernel_rfl
theorem f_s_l1New_ok (code0 : List Sc) (r : List Sc × Int × Int) (h : f_s_l1New code0 = some r) : CS Try.prog 162 (f_s_l1New_a code0) (f_s_l1New_i code0) (f_s_l1New_en r).1 (f_s_l1New_en r).2 :=
  fn_true (Gk := fun k => f_s_l1New_k code0 k) (en := f_s_l1New_en) Try.func162 E0ok f_s_l1New_Mt (addL_true (f_s_l1New_tt0) (noL_true)) f_s_l1New_o (f_s_l1New_e code0) (f_s_l1New_p code0) h
def f_s_l1New_c : CRow := fun args inh => match dec2 [.p .sl] [] args inh with
  | some ([.l code0], []) => some ((f_s_l1New code0).isSome, (f_s_l1New_en ((f_s_l1New code0).getD ([], 0, 0))).1, (f_s_l1New_en ((f_s_l1New code0).getD ([], 0, 0))).2)
  | _ => none
theorem f_s_l1New_cc : CTrue Try.prog 162 f_s_l1New_c := by
  intro args inh rs out h
  unfold f_s_l1New_c at h
  split at h
  · rename_i hd
    obtain ⟨h1, h2⟩ := dec2_enc hd
    rw [← h1, ← h2]
    exact rowC (f_s_l1New_ok _) h
  · cases h

def f_s_l1Byte_io_F : Fi := { nv := 3, nc := 3, m := 3, vt := [], kl := [], sk := [], mvs := [], fz := [] }
def f_s_l1Byte_io_a (h0 : List Sc) (h1 : Int) (h2 : Int) : List AV := enc [.p (.pt 0 3)] []
def f_s_l1Byte_io_i (h0 : List Sc) (h1 : Int) (h2 : Int) : List AV := enc [.p .sl, .p (.int .i64), .p (.int .i64)] [.l h0, .i h1, .i h2]
def f_s_l1Byte_io_en (r : Int × List Sc × Int × Int) : List AV × List AV := (enc [.p (.int .i64)] [.i r.1], enc [.p .sl, .p (.int .i64), .p (.int .i64)] [.l r.2.1, .i r.2.2.1, .i r.2.2.2])
def f_s_l1Byte_io_M : Calling := noC
theorem f_s_l1Byte_io_Mt : CallOk Try.prog (f_s_l1Byte_io_M) := noC_true
theorem f_s_l1Byte_io_o : loopsOnce Try.f208 = true := by kernel_rfl
theorem f_s_l1Byte_io_p {R : Type} (h0 : List Sc) (h1 : Int) (h2 : Int) (kR : Int × List Sc × Int × Int → Option R) : f_s_l1Byte_io_k h0 h1 h2 kR = (f_s_l1Byte_io_k h0 h1 h2 some).bind kR := by
  simp only [f_s_l1Byte_io_k, brB, someB, noneB]
theorem f_s_l1Byte_io_e (h0 : List Sc) (h1 : Int) (h2 : Int) : runFn E0 f_s_l1Byte_io_M H0 f_s_l1Byte_io_F (asL (noL)) Try.f208 (f_s_l1Byte_io_a h0 h1 h2) (f_s_l1Byte_io_i h0 h1 h2) = f_s_l1Byte_io_k h0 h1 h2 (fun r => some (f_s_l1Byte_io_en r)) := by kernel_rfl
theorem f_s_l1Byte_io_ok (h0 : List Sc) (h1 : Int) (h2 : Int) (r : Int × List Sc × Int × Int) (h : f_s_l1Byte_io h0 h1 h2 = some r) : CS Try.prog 208 (f_s_l1Byte_io_a h0 h1 h2) (f_s_l1Byte_io_i h0 h1 h2) (f_s_l1Byte_io_en r).1 (f_s_l1Byte_io_en r).2 :=
  fn_true (Gk := fun k => f_s_l1Byte_io_k h0 h1 h2 k) (en := f_s_l1Byte_io_en) Try.func208 E0ok f_s_l1Byte_io_Mt (noL_true) f_s_l1Byte_io_o (f_s_l1Byte_io_e h0 h1 h2) (f_s_l1Byte_io_p h0 h1 h2) h
def f_s_l1Byte_io_c : CRow := fun args inh => match dec2 [.p (.pt 0 3)] [.p .sl, .p (.int .i64), .p (.int .i64)] args inh with
  | some ([], [.l h0, .i h1, .i h2]) => some ((f_s_l1Byte_io h0 h1 h2).isSome, (f_s_l1Byte_io_en ((f_s_l1Byte_io h0 h1 h2).getD (0, [], 0, 0))).1, (f_s_l1Byte_io_en ((f_s_l1Byte_io h0 h1 h2).getD (0, [], 0, 0))).2)
  | _ => none
theorem f_s_l1Byte_io_cc : CTrue Try.prog 208 f_s_l1Byte_io_c := by
  intro args inh rs out h
  unfold f_s_l1Byte_io_c at h
  split at h
  · rename_i hd
    obtain ⟨h1, h2⟩ := dec2_enc hd
    rw [← h1, ← h2]
    exact rowC (f_s_l1Byte_io_ok _ _ _) h
  · cases h

def f_s_l1Below_io_F : Fi := { nv := 3, nc := 3, m := 3, vt := [], kl := [], sk := [], mvs := [], fz := [] }
def f_s_l1Below_io_a (n1 : Int) (h0 : List Sc) (h1 : Int) (h2 : Int) : List AV := enc [.p (.pt 0 3), .p (.int .i64)] [.i n1]
def f_s_l1Below_io_i (n1 : Int) (h0 : List Sc) (h1 : Int) (h2 : Int) : List AV := enc [.p .sl, .p (.int .i64), .p (.int .i64)] [.l h0, .i h1, .i h2]
def f_s_l1Below_io_en (r : Int × List Sc × Int × Int) : List AV × List AV := (enc [.p (.int .i64)] [.i r.1], enc [.p .sl, .p (.int .i64), .p (.int .i64)] [.l r.2.1, .i r.2.2.1, .i r.2.2.2])
def f_s_l1Below_io_M : Calling := addC 208 f_s_l1Byte_io_c (noC)
theorem f_s_l1Below_io_Mt : CallOk Try.prog (f_s_l1Below_io_M) := addC_true f_s_l1Byte_io_cc (noC_true)
theorem f_s_l1Below_io_o : loopsOnce Try.f166 = true := by kernel_rfl
theorem f_s_l1Below_io_p {R : Type} (n1 : Int) (h0 : List Sc) (h1 : Int) (h2 : Int) (kR : Int × List Sc × Int × Int → Option R) : f_s_l1Below_io_k n1 h0 h1 h2 kR = (f_s_l1Below_io_k n1 h0 h1 h2 some).bind kR := by
  simp only [f_s_l1Below_io_k, brB, boB, someB, noneB]
theorem f_s_l1Below_io_e (n1 : Int) (h0 : List Sc) (h1 : Int) (h2 : Int) : runFn E0 f_s_l1Below_io_M H0 f_s_l1Below_io_F (asL (noL)) Try.f166 (f_s_l1Below_io_a n1 h0 h1 h2) (f_s_l1Below_io_i n1 h0 h1 h2) = f_s_l1Below_io_k n1 h0 h1 h2 (fun r => some (f_s_l1Below_io_en r)) := by kernel_rfl
theorem f_s_l1Below_io_ok (n1 : Int) (h0 : List Sc) (h1 : Int) (h2 : Int) (r : Int × List Sc × Int × Int) (h : f_s_l1Below_io n1 h0 h1 h2 = some r) : CS Try.prog 166 (f_s_l1Below_io_a n1 h0 h1 h2) (f_s_l1Below_io_i n1 h0 h1 h2) (f_s_l1Below_io_en r).1 (f_s_l1Below_io_en r).2 :=
  fn_true (Gk := fun k => f_s_l1Below_io_k n1 h0 h1 h2 k) (en := f_s_l1Below_io_en) Try.func166 E0ok f_s_l1Below_io_Mt (noL_true) f_s_l1Below_io_o (f_s_l1Below_io_e n1 h0 h1 h2) (f_s_l1Below_io_p n1 h0 h1 h2) h
def f_s_l1Below_io_c : CRow := fun args inh => match dec2 [.p (.pt 0 3), .p (.int .i64)] [.p .sl, .p (.int .i64), .p (.int .i64)] args inh with
  | some ([.i n1], [.l h0, .i h1, .i h2]) => some ((f_s_l1Below_io n1 h0 h1 h2).isSome, (f_s_l1Below_io_en ((f_s_l1Below_io n1 h0 h1 h2).getD (0, [], 0, 0))).1, (f_s_l1Below_io_en ((f_s_l1Below_io n1 h0 h1 h2).getD (0, [], 0, 0))).2)
  | _ => none
theorem f_s_l1Below_io_cc : CTrue Try.prog 166 f_s_l1Below_io_c := by
  intro args inh rs out h
  unfold f_s_l1Below_io_c at h
  split at h
  · rename_i hd
    obtain ⟨h1, h2⟩ := dec2_enc hd
    rw [← h1, ← h2]
    exact rowC (f_s_l1Below_io_ok _ _ _ _) h
  · cases h

def f_s_l1PickInt_io_F : Fi := { nv := 3, nc := 3, m := 3, vt := [], kl := [], sk := [], mvs := [], fz := [] }
def f_s_l1PickInt_io_a (list1 : List Sc) (h0 : List Sc) (h1 : Int) (h2 : Int) : List AV := enc [.p (.pt 0 3), .p .sl] [.l list1]
def f_s_l1PickInt_io_i (list1 : List Sc) (h0 : List Sc) (h1 : Int) (h2 : Int) : List AV := enc [.p .sl, .p (.int .i64), .p (.int .i64)] [.l h0, .i h1, .i h2]
def f_s_l1PickInt_io_en (r : Int × List Sc × Int × Int) : List AV × List AV := (enc [.p (.int .i64)] [.i r.1], enc [.p .sl, .p (.int .i64), .p (.int .i64)] [.l r.2.1, .i r.2.2.1, .i r.2.2.2])
def f_s_l1PickInt_io_M : Calling := addC 166 f_s_l1Below_io_c (noC)
theorem f_s_l1PickInt_io_Mt : CallOk Try.prog (f_s_l1PickInt_io_M) := addC_true f_s_l1Below_io_cc (noC_true)
theorem f_s_l1PickInt_io_o : loopsOnce Try.f168 = true := by kernel_rfl
theorem f_s_l1PickInt_io_p {R : Type} (list1 : List Sc) (h0 : List Sc) (h1 : Int) (h2 : Int) (kR : Int × List Sc × Int × Int → Option R) : f_s_l1PickInt_io_k list1 h0 h1 h2 kR = (f_s_l1PickInt_io_k list1 h0 h1 h2 some).bind kR := by
  simp only [f_s_l1PickInt_io_k, brB, boB, someB, noneB]
theorem f_s_l1PickInt_io_e (list1 : List Sc) (h0 : List Sc) (h1 : Int) (h2 : Int) : runFn E0 f_s_l1PickInt_io_M H0 f_s_l1PickInt_io_F (asL (noL)) Try.f168 (f_s_l1PickInt_io_a list1 h0 h1 h2) (f_s_l1PickInt_io_i list1 h0 h1 h2) = f_s_l1PickInt_io_k list1 h0 h1 h2 (fun r => some (f_s_l1PickInt_io_en r)) := by kernel_rfl
theorem f_s_l1PickInt_io_ok (list1 : List Sc) (h0 : List Sc) (h1 : Int) (h2 : Int) (r : Int × List Sc × Int × Int) (h : f_s_l1PickInt_io list1 h0 h1 h2 = some r) : CS Try.prog 168 (f_s_l1PickInt_io_a list1 h0 h1 h2) (f_s_l1PickInt_io_i list1 h0 h1 h2) (f_s_l1PickInt_io_en r).1 (f_s_l1PickInt_io_en r).2 :=
  fn_true (Gk := fun k => f_s_l1PickInt_io_k list1 h0 h1 h2 k) (en := f_s_l1PickInt_io_en) Try.func168 E0ok f_s_l1PickInt_io_Mt (noL_true) f_s_l1PickInt_io_o (f_s_l1PickInt_io_e list1 h0 h1 h2) (f_s_l1PickInt_io_p list1 h0 h1 h2) h
def f_s_l1PickInt_io_c : CRow := fun args inh => match dec2 [.p (.pt 0 3), .p .sl] [.p .sl, .p (.int .i64), .p (.int .i64)] args inh with
  | some ([.l list1], [.l h0, .i h1, .i h2]) => some ((f_s_l1PickInt_io list1 h0 h1 h2).isSome, (f_s_l1PickInt_io_en ((f_s_l1PickInt_io list1 h0 h1 h2).getD (0, [], 0, 0))).1, (f_s_l1PickInt_io_en ((f_s_l1PickInt_io list1 h0 h1 h2).getD (0, [], 0, 0))).2)
  | _ => none
theorem f_s_l1PickInt_io_cc : CTrue Try.prog 168 f_s_l1PickInt_io_c := by
  intro args inh rs out h
  unfold f_s_l1PickInt_io_c at h
  split at h
  · rename_i hd
    obtain ⟨h1, h2⟩ := dec2_enc hd
    rw [← h1, ← h2]
    exact rowC (f_s_l1PickInt_io_ok _ _ _ _) h
  · cases h

def f_s_DrawEgzPart_F : Fi := { nv := 3, nc := 3, m := 0, vt := [(9, 0)], kl := [(0, ([3, 4, 5, 6, 11, 12, 13, 14, 15, 16, 17, 18, 19, 20, 21, 22, 23, 24, 25, 26, 27, 28, 29, 30, 31, 32, 33, 34, 35, 36, 37, 38, 39, 40, 41, 42, 43, 44, 45, 46, 47, 48, 49, 50, 51, 52, 53, 54], [3, 4, 5, 6, 10, 11, 12, 13, 14, 15, 16, 17, 18, 19, 20, 21, 22, 23, 24, 25, 26, 27, 28, 29, 30, 31, 32, 33, 34, 35, 36, 37, 38, 39, 40, 41, 42, 43, 44, 45, 46, 47, 48, 49, 50, 51, 52, 53, 54], [0, 1, 2, 3, 4, 7, 8, 9, 10, 11, 12, 13, 14, 15, 16, 17, 18, 19, 20, 21, 22, 23, 24, 25, 26, 27, 28, 29, 30, 31, 32, 33, 34, 35, 36, 37, 38, 39, 40, 41, 42, 43, 44, 45, 46, 47, 48, 49, 50, 51, 52, 53, 54]))], sk := [], mvs := [], fz := [], so := true }
def f_s_DrawEgzPart_a (code0 : List Sc) : List AV := enc [.p .sl] [.l code0]
def f_s_DrawEgzPart_i (code0 : List Sc) : List AV := enc [] []
def f_s_DrawEgzPart_en (r : List Sc × Int) : List AV × List AV := (enc [.p .sl, .p (.int .i64)] [.l r.1, .i r.2], enc [] [])
def f_s_DrawEgzPart_M : Calling := addC 162 f_s_l1New_c (addC 166 f_s_l1Below_io_c (addC 168 f_s_l1PickInt_io_c (noC)))
theorem f_s_DrawEgzPart_Mt : CallOk Try.prog (f_s_DrawEgzPart_M) := addC_true f_s_l1New_cc (addC_true f_s_l1Below_io_cc (addC_true f_s_l1PickInt_io_cc (noC_true)))
theorem f_s_DrawEgzPart_o : loopsOnce Try.f62 = true := by kernel_rfl
def f_s_DrawEgzPart_h0 : List Sh := [.p .sl, .p (.int .i64), .p (.int .i64), .u, .u, .u, .u, .p (.pt 0 3), .p (.int .i64), .own 3, .p (.int .i64), .u, .u, .u, .u, .u, .u, .u, .u, .u, .u, .u, .u, .u, .u, .u, .u, .u, .u, .u, .u, .u, .u, .u, .u, .u, .u, .u, .u, .u, .u, .u, .u, .u, .u, .u, .u, .u, .u, .u, .u, .u, .u, .u, .u]
def f_s_DrawEgzPart_fr0 (n5 : Int) (s : List Sc × Int × Int × List Sc × Int) : List AV := enc f_s_DrawEgzPart_h0 [.l s.1, .i s.2.1, .i s.2.2.1, .i n5, .l s.2.2.2.1, .i s.2.2.2.2]
def f_s_DrawEgzPart_g0_1 : List Sh := [.p .sl, .p (.int .i64), .p (.int .i64), .u, .u, .u, .u, .p (.pt 0 3), .p (.int .i64), .own 3, .u, .u, .u, .u, .u, .u, .u, .u, .u, .u, .u, .u, .u, .u, .u, .u, .u, .u, .u, .u, .u, .u, .u, .u, .u, .u, .u, .u, .u, .u, .u, .u, .u, .u, .u, .u, .u, .u, .u, .u, .u, .u, .u, .u, .u]
def f_s_DrawEgzPart_x0_1 (n5 : Int) (e : List Sc × Int × Int × List Sc) : X × List AV := (.out 0, enc f_s_DrawEgzPart_g0_1 [.l e.1, .i e.2.1, .i e.2.2.1, .i n5, .l e.2.2.2])
def f_s_DrawEgzPart_x0_2 (n5 : Int) (_e : Unit) : X × List AV := (.ret, [])
theorem f_s_DrawEgzPart_p0 {R : Type} (n5 : Int) (s : List Sc × Int × Int × List Sc × Int) (kN : List Sc × Int × Int × List Sc × Int → Option R) (kA : List Sc × Int × Int × List Sc → Option R) (kB : Unit → Option R) : f_s_DrawEgzPart_k0 n5 s.1 s.2.1 s.2.2.1 s.2.2.2.1 s.2.2.2.2 kN kA = (f_s_DrawEgzPart_r0 n5 s).bind (Ro.el kN kA kB) := by
  simp only [f_s_DrawEgzPart_k0, f_s_DrawEgzPart_r0, brB, boB, someB, noneB, Ro.el]
theorem f_s_DrawEgzPart_e0 (n5 : Int) (s : List Sc × Int × Int × List Sc × Int) : EC E0 f_s_DrawEgzPart_M H0 f_s_DrawEgzPart_F (asL (noL)) 0 (bodyOf Try.f62 0) (f_s_DrawEgzPart_fr0 n5 s) (done (klOf f_s_DrawEgzPart_F 0)) = f_s_DrawEgzPart_k0 n5 s.1 s.2.1 s.2.2.1 s.2.2.2.1 s.2.2.2.2 (fun s => some (.norm, f_s_DrawEgzPart_fr0 n5 s)) (fun e => some (f_s_DrawEgzPart_x0_1 n5 e)) := by kernel_rfl
theorem f_s_DrawEgzPart_l0 (n5 : Int) : ∀ s r, loopL (f_s_DrawEgzPart_r0 n5) s = some r → LS Try.prog f_s_DrawEgzPart_F (bodyOf Try.f62 0) (f_s_DrawEgzPart_fr0 n5 s) (enX (f_s_DrawEgzPart_x0_1 n5) (f_s_DrawEgzPart_x0_2 n5) r) :=
  loop_true E0ok f_s_DrawEgzPart_Mt (noL_true) f_s_DrawEgzPart_o (fun _ h => by cases h) (fun _ h => by cases h) (fun s => (f_s_DrawEgzPart_e0 n5 s).trans (f_s_DrawEgzPart_p0 n5 s _ _ (fun e => some (f_s_DrawEgzPart_x0_2 n5 e))))
def f_s_DrawEgzPart_t0 (σ : List AV) : Option (Bool × Bool × (X × List AV) × (X × List AV)) := match dec f_s_DrawEgzPart_h0 σ with
  | some [.l v0, .i v1, .i v2, .i n5, .l l6, .i k7] => some (isOne (loopL (f_s_DrawEgzPart_r0 n5) (v0, v1, v2, l6, k7)), true, f_s_DrawEgzPart_x0_1 n5 (getOne ([], 0, 0, []) (loopL (f_s_DrawEgzPart_r0 n5) (v0, v1, v2, l6, k7))), (.ret, []))
  | _ => none
theorem f_s_DrawEgzPart_tt0 : TTrue Try.prog f_s_DrawEgzPart_F Try.f62 0 (f_s_DrawEgzPart_t0) := by
  intro σ p r r' h
  unfold f_s_DrawEgzPart_t0 at h
  split at h
  · rename_i hd
    rw [← dec_enc hd]
    exact row1 (f_s_DrawEgzPart_l0 _ _) h
  · cases h
theorem f_s_DrawEgzPart_p {R : Type} (code0 : List Sc) (kR : List Sc × Int → Option R) : f_s_DrawEgzPart_k code0 kR = (f_s_DrawEgzPart_k code0 some).bind kR := by
  simp only [f_s_DrawEgzPart_k, brB, boB, bl1B, someB, noneB]
theorem f_s_DrawEgzPart_e (code0 : List Sc) : runFn E0 f_s_DrawEgzPart_M H0 f_s_DrawEgzPart_F (asL (addL 0 (f_s_DrawEgzPart_t0) (noL))) Try.f62 (f_s_DrawEgzPart_a code0) (f_s_DrawEgzPart_i code0) = f_s_DrawEgzPart_k code0 (fun r => some (f_s_DrawEgzPart_en r)) := by kernel_rfl
theorem f_s_DrawEgzPart_ok (code0 : List Sc) (r : List Sc × Int) (h : f_s_DrawEgzPart code0 = some r) : CS Try.prog 62 (f_s_DrawEgzPart_a code0) (f_s_DrawEgzPart_i code0) (f_s_DrawEgzPart_en r).1 (f_s_DrawEgzPart_en r).2 :=
  fn_true (Gk := fun k => f_s_DrawEgzPart_k code0 k) (en := f_s_DrawEgzPart_en) Try.func62 E0ok f_s_DrawEgzPart_Mt (addL_true (f_s_DrawEgzPart_tt0) (noL_true)) f_s_DrawEgzPart_o (f_s_DrawEgzPart_e code0) (f_s_DrawEgzPart_p code0) h
def f_s_DrawEgzPart_c : CRow := fun args inh => match dec2 [.p .sl] [] args inh with
  | some ([.l code0], []) => some ((f_s_DrawEgzPart code0).isSome, (f_s_DrawEgzPart_en ((f_s_DrawEgzPart code0).getD ([], 0))).1, (f_s_DrawEgzPart_en ((f_s_DrawEgzPart code0).getD ([], 0))).2)
  | _ => none
theorem f_s_DrawEgzPart_cc : CTrue Try.prog 62 f_s_DrawEgzPart_c := by
  intro args inh rs out h
  unfold f_s_DrawEgzPart_c at h
  split at h
  · rename_i hd
    obtain ⟨h1, h2⟩ := dec2_enc hd
    rw [← h1, ← h2]
    exact rowC (f_s_DrawEgzPart_ok _) h
  · cases h

def f_i_within_F : Fi := { nv := 0, nc := 0, m := 0, vt := [], kl := [], sk := [], mvs := [], fz := [] }
def f_i_within_a (x0 : Int) (lo1 : Int) (hi2 : Int) : List AV := enc [.p (.int .i64), .p (.int .i64), .p (.int .i64)] [.i x0, .i lo1, .i hi2]
def f_i_within_i (x0 : Int) (lo1 : Int) (hi2 : Int) : List AV := enc [] []
def f_i_within_en (r : Bool) : List AV × List AV := (enc [.p .boo] [.b r], enc [] [])
def f_i_within_M : Calling := noC
theorem f_i_within_Mt : CallOk Try.prog (f_i_within_M) := noC_true
theorem f_i_within_o : loopsOnce Try.f144 = true := by kernel_rfl
theorem f_i_within_p {R : Type} (x0 : Int) (lo1 : Int) (hi2 : Int) (kR : Bool → Option R) : f_i_within_k x0 lo1 hi2 kR = (f_i_within_k x0 lo1 hi2 some).bind kR := by
  simp only [f_i_within_k, brB, someB]
theorem f_i_within_e (x0 : Int) (lo1 : Int) (hi2 : Int) : runFn E0 f_i_within_M H0 f_i_within_F (asL (noL)) Try.f144 (f_i_within_a x0 lo1 hi2) (f_i_within_i x0 lo1 hi2) = f_i_within_k x0 lo1 hi2 (fun r => some (f_i_within_en r)) := by kernel_rfl
theorem f_i_within_ok (x0 : Int) (lo1 : Int) (hi2 : Int) (r : Bool) (h : f_i_within x0 lo1 hi2 = some r) : CS Try.prog 144 (f_i_within_a x0 lo1 hi2) (f_i_within_i x0 lo1 hi2) (f_i_within_en r).1 (f_i_within_en r).2 :=
  fn_true (Gk := fun k => f_i_within_k x0 lo1 hi2 k) (en := f_i_within_en) Try.func144 E0ok f_i_within_Mt (noL_true) f_i_within_o (f_i_within_e x0 lo1 hi2) (f_i_within_p x0 lo1 hi2) h
def f_i_within_c : CRow := fun args inh => match dec2 [.p (.int .i64), .p (.int .i64), .p (.int .i64)] [] args inh with
  | some ([.i x0, .i lo1, .i hi2], []) => some ((f_i_within x0 lo1 hi2).isSome, (f_i_within_en ((f_i_within x0 lo1 hi2).getD false)).1, (f_i_within_en ((f_i_within x0 lo1 hi2).getD false)).2)
  | _ => none
theorem f_i_within_cc : CTrue Try.prog 144 f_i_within_c := by
  intro args inh rs out h
  unfold f_i_within_c at h
  split at h
  · rename_i hd
    obtain ⟨h1, h2⟩ := dec2_enc hd
    rw [← h1, ← h2]
    exact rowC (f_i_within_ok _ _ _) h
  · cases h

def f_i_bits_F : Fi := { nv := 0, nc := 0, m := 0, vt := [], kl := [(0, ([1, 2, 4, 5, 6, 7, 8, 9, 10, 11, 12], [0, 1, 2, 4, 5, 6, 7, 8, 9, 10, 11, 12], [0, 1, 3, 4, 5, 6, 7, 8, 9, 10, 11, 12]))], sk := [], mvs := [], fz := [] }
def f_i_bits_a (a0 : Int) : List AV := enc [.p (.int .i64)] [.i a0]
def f_i_bits_i (a0 : Int) : List AV := enc [] []
def f_i_bits_en (r : Int) : List AV × List AV := (enc [.p (.int .i64)] [.i r], enc [] [])
def f_i_bits_M : Calling := noC
theorem f_i_bits_Mt : CallOk Try.prog (f_i_bits_M) := noC_true
theorem f_i_bits_o : loopsOnce Try.f126 = true := by kernel_rfl
def f_i_bits_h0 : List Sh := [.p (.int .i64), .u, .u, .p (.int .i64), .u, .u, .u, .u, .u, .u, .u, .u, .u]
def f_i_bits_fr0 (s : Int × Int) : List AV := enc f_i_bits_h0 [.i s.1, .i s.2]
def f_i_bits_g0_1 : List Sh := [.u, .u, .u, .p (.int .i64), .u, .u, .u, .u, .u, .u, .u, .u, .u]
def f_i_bits_x0_1 (e : Int) : X × List AV := (.out 0, enc f_i_bits_g0_1 [.i e])
def f_i_bits_x0_2 (_e : Unit) : X × List AV := (.ret, [])
theorem f_i_bits_p0 {R : Type} (s : Int × Int) (kN : Int × Int → Option R) (kA : Int → Option R) (kB : Unit → Option R) : f_i_bits_k0 s.1 s.2 kN kA = (f_i_bits_r0 s).bind (Ro.el kN kA kB) := by
  simp only [f_i_bits_k0, f_i_bits_r0, brB, someB, Ro.el]
theorem f_i_bits_e0 (s : Int × Int) : EC E0 f_i_bits_M H0 f_i_bits_F (asL (noL)) 0 (bodyOf Try.f126 0) (f_i_bits_fr0 s) (done (klOf f_i_bits_F 0)) = f_i_bits_k0 s.1 s.2 (fun s => some (.norm, f_i_bits_fr0 s)) (fun e => some (f_i_bits_x0_1 e)) := by kernel_rfl
theorem f_i_bits_l0 : ∀ s r, loopL (f_i_bits_r0) s = some r → LS Try.prog f_i_bits_F (bodyOf Try.f126 0) (f_i_bits_fr0 s) (enX (f_i_bits_x0_1) (f_i_bits_x0_2) r) :=
  loop_true E0ok f_i_bits_Mt (noL_true) f_i_bits_o (fun _ h => by cases h) (fun _ h => by cases h) (fun s => (f_i_bits_e0 s).trans (f_i_bits_p0 s _ _ (fun e => some (f_i_bits_x0_2 e))))
def f_i_bits_t0 (σ : List AV) : Option (Bool × Bool × (X × List AV) × (X × List AV)) := match dec f_i_bits_h0 σ with
  | some [.i a0, .i n3] => some (isOne (loopL (f_i_bits_r0) (a0, n3)), true, f_i_bits_x0_1 (getOne 0 (loopL (f_i_bits_r0) (a0, n3))), (.ret, []))
  | _ => none
theorem f_i_bits_tt0 : TTrue Try.prog f_i_bits_F Try.f126 0 (f_i_bits_t0) := by
  intro σ p r r' h
  unfold f_i_bits_t0 at h
  split at h
  · rename_i hd
    rw [← dec_enc hd]
    exact row1 (f_i_bits_l0 _) h
  · cases h
theorem f_i_bits_p {R : Type} (a0 : Int) (kR : Int → Option R) : f_i_bits_k a0 kR = (f_i_bits_k a0 some).bind kR := by
  simp only [f_i_bits_k, bl1B, someB]
theorem f_i_bits_e (a0 : Int) : runFn E0 f_i_bits_M H0 f_i_bits_F (asL (addL 0 (f_i_bits_t0) (noL))) Try.f126 (f_i_bits_a a0) (f_i_bits_i a0) = f_i_bits_k a0 (fun r => some (f_i_bits_en r)) := by kernel_rfl
theorem f_i_bits_ok (a0 : Int) (r : Int) (h : f_i_bits a0 = some r) : CS Try.prog 126 (f_i_bits_a a0) (f_i_bits_i a0) (f_i_bits_en r).1 (f_i_bits_en r).2 :=
  fn_true (Gk := fun k => f_i_bits_k a0 k) (en := f_i_bits_en) Try.func126 E0ok f_i_bits_Mt (addL_true (f_i_bits_tt0) (noL_true)) f_i_bits_o (f_i_bits_e a0) (f_i_bits_p a0) h
def f_i_bits_c : CRow := fun args inh => match dec2 [.p (.int .i64)] [] args inh with
  | some ([.i a0], []) => some ((f_i_bits a0).isSome, (f_i_bits_en ((f_i_bits a0).getD 0)).1, (f_i_bits_en ((f_i_bits a0).getD 0)).2)
  | _ => none
theorem f_i_bits_cc : CTrue Try.prog 126 f_i_bits_c := by
  intro args inh rs out h
  unfold f_i_bits_c at h
  split at h
  · rename_i hd
    obtain ⟨h1, h2⟩ := dec2_enc hd
    rw [← h1, ← h2]
    exact rowC (f_i_bits_ok _) h
  · cases h

def f_i_in_F : Fi := { nv := 0, nc := 0, m := 0, vt := [], kl := [], sk := [], mvs := [], fz := [] }
def f_i_in_a (a0 : Int) (x1 : Int) : List AV := enc [.p (.int .i64), .p (.int .i64)] [.i a0, .i x1]
def f_i_in_i (a0 : Int) (x1 : Int) : List AV := enc [] []
def f_i_in_en (r : Bool) : List AV × List AV := (enc [.p .boo] [.b r], enc [] [])
def f_i_in_M : Calling := noC
theorem f_i_in_Mt : CallOk Try.prog (f_i_in_M) := noC_true
theorem f_i_in_o : loopsOnce Try.f153 = true := by kernel_rfl
theorem f_i_in_p {R : Type} (a0 : Int) (x1 : Int) (kR : Bool → Option R) : f_i_in_k a0 x1 kR = (f_i_in_k a0 x1 some).bind kR := by
  simp only [f_i_in_k, brB, someB, noneB]
theorem f_i_in_e (a0 : Int) (x1 : Int) : runFn E0 f_i_in_M H0 f_i_in_F (asL (noL)) Try.f153 (f_i_in_a a0 x1) (f_i_in_i a0 x1) = f_i_in_k a0 x1 (fun r => some (f_i_in_en r)) := by kernel_rfl
theorem f_i_in_ok (a0 : Int) (x1 : Int) (r : Bool) (h : f_i_in a0 x1 = some r) : CS Try.prog 153 (f_i_in_a a0 x1) (f_i_in_i a0 x1) (f_i_in_en r).1 (f_i_in_en r).2 :=
  fn_true (Gk := fun k => f_i_in_k a0 x1 k) (en := f_i_in_en) Try.func153 E0ok f_i_in_Mt (noL_true) f_i_in_o (f_i_in_e a0 x1) (f_i_in_p a0 x1) h
def f_i_in_c : CRow := fun args inh => match dec2 [.p (.int .i64), .p (.int .i64)] [] args inh with
  | some ([.i a0, .i x1], []) => some ((f_i_in a0 x1).isSome, (f_i_in_en ((f_i_in a0 x1).getD false)).1, (f_i_in_en ((f_i_in a0 x1).getD false)).2)
  | _ => none
theorem f_i_in_cc : CTrue Try.prog 153 f_i_in_c := by
  intro args inh rs out h
  unfold f_i_in_c at h
  split at h
  · rename_i hd
    obtain ⟨h1, h2⟩ := dec2_enc hd
    rw [← h1, ← h2]
    exact rowC (f_i_in_ok _ _) h
  · cases h

def f_i_part_F : Fi := { nv := 0, nc := 0, m := 0, vt := [], kl := [(0, ([0, 2, 3, 4, 6, 7, 8, 12, 13, 14, 15, 16, 17, 18, 19, 20, 21, 22, 23, 24], [0, 1, 2, 3, 4, 6, 7, 8, 9, 10, 11, 12, 13, 14, 15, 16, 17, 18, 19, 20, 21, 22, 23, 24], [0, 1, 2, 3, 5, 6, 7, 8, 9, 10, 11, 12, 13, 14, 15, 16, 17, 18, 19, 20, 21, 22, 23, 24]))], sk := [], mvs := [], fz := [] }
def f_i_part_a (l0 : List Sc) (mask1 : Int) : List AV := enc [.p .sl, .p (.int .i64)] [.l l0, .i mask1]
def f_i_part_i (l0 : List Sc) (mask1 : Int) : List AV := enc [] []
def f_i_part_en (r : List Sc) : List AV × List AV := (enc [.p (.al 0)] [], enc [.own 3] [.l r])
def f_i_part_M : Calling := addC 153 f_i_in_c (noC)
theorem f_i_part_Mt : CallOk Try.prog (f_i_part_M) := addC_true f_i_in_cc (noC_true)
theorem f_i_part_o : loopsOnce Try.f173 = true := by kernel_rfl
def f_i_part_h0 : List Sh := [.u, .p (.int .i64), .u, .u, .u, .own 3, .u, .u, .u, .p .sl, .p (.int .i64), .p (.int .i64), .u, .u, .u, .u, .u, .u, .u, .u, .u, .u, .u, .u, .u]
def f_i_part_fr0 (mask1 : Int) (t9 : List Sc) (t10 : Int) (s : List Sc × Int) : List AV := enc f_i_part_h0 [.i mask1, .l s.1, .l t9, .i t10, .i s.2]
def f_i_part_g0_1 : List Sh := [.u, .u, .u, .u, .u, .own 3, .u, .u, .u, .u, .u, .u, .u, .u, .u, .u, .u, .u, .u, .u, .u, .u, .u, .u, .u]
def f_i_part_x0_1 (mask1 : Int) (t9 : List Sc) (t10 : Int) (e : List Sc) : X × List AV := (.out 0, enc f_i_part_g0_1 [.l e])
def f_i_part_x0_2 (mask1 : Int) (t9 : List Sc) (t10 : Int) (_e : Unit) : X × List AV := (.ret, [])
theorem f_i_part_p0 {R : Type} (mask1 : Int) (t9 : List Sc) (t10 : Int) (s : List Sc × Int) (kN : List Sc × Int → Option R) (kA : List Sc → Option R) (kB : Unit → Option R) : f_i_part_k0 mask1 t9 t10 s.1 s.2 kN kA = (f_i_part_r0 mask1 t9 t10 s).bind (Ro.el kN kA kB) := by
  simp only [f_i_part_k0, f_i_part_r0, brB, boB, someB, noneB, Ro.el]
theorem f_i_part_e0 (mask1 : Int) (t9 : List Sc) (t10 : Int) (s : List Sc × Int) : EC E0 f_i_part_M H0 f_i_part_F (asL (noL)) 0 (bodyOf Try.f173 0) (f_i_part_fr0 mask1 t9 t10 s) (done (klOf f_i_part_F 0)) = f_i_part_k0 mask1 t9 t10 s.1 s.2 (fun s => some (.norm, f_i_part_fr0 mask1 t9 t10 s)) (fun e => some (f_i_part_x0_1 mask1 t9 t10 e)) := by kernel_rfl
theorem f_i_part_l0 (mask1 : Int) (t9 : List Sc) (t10 : Int) : ∀ s r, loopL (f_i_part_r0 mask1 t9 t10) s = some r → LS Try.prog f_i_part_F (bodyOf Try.f173 0) (f_i_part_fr0 mask1 t9 t10 s) (enX (f_i_part_x0_1 mask1 t9 t10) (f_i_part_x0_2 mask1 t9 t10) r) :=
  loop_true E0ok f_i_part_Mt (noL_true) f_i_part_o (fun _ h => by cases h) (fun _ h => by cases h) (fun s => (f_i_part_e0 mask1 t9 t10 s).trans (f_i_part_p0 mask1 t9 t10 s _ _ (fun e => some (f_i_part_x0_2 mask1 t9 t10 e))))
def f_i_part_t0 (σ : List AV) : Option (Bool × Bool × (X × List AV) × (X × List AV)) := match dec f_i_part_h0 σ with
  | some [.i mask1, .l out5, .l t9, .i t10, .i t11] => some (isOne (loopL (f_i_part_r0 mask1 t9 t10) (out5, t11)), true, f_i_part_x0_1 mask1 t9 t10 (getOne [] (loopL (f_i_part_r0 mask1 t9 t10) (out5, t11))), (.ret, []))
  | _ => none
theorem f_i_part_tt0 : TTrue Try.prog f_i_part_F Try.f173 0 (f_i_part_t0) := by
  intro σ p r r' h
  unfold f_i_part_t0 at h
  split at h
  · rename_i hd
    rw [← dec_enc hd]
    exact row1 (f_i_part_l0 _ _ _ _) h
  · cases h
theorem f_i_part_p {R : Type} (l0 : List Sc) (mask1 : Int) (kR : List Sc → Option R) : f_i_part_k l0 mask1 kR = (f_i_part_k l0 mask1 some).bind kR := by
  simp only [f_i_part_k, bl1B, someB]
theorem f_i_part_e (l0 : List Sc) (mask1 : Int) : runFn E0 f_i_part_M H0 f_i_part_F (asL (addL 0 (f_i_part_t0) (noL))) Try.f173 (f_i_part_a l0 mask1) (f_i_part_i l0 mask1) = f_i_part_k l0 mask1 (fun r => some (f_i_part_en r)) := by kernel_rfl
theorem f_i_part_ok (l0 : List Sc) (mask1 : Int) (r : List Sc) (h : f_i_part l0 mask1 = some r) : CS Try.prog 173 (f_i_part_a l0 mask1) (f_i_part_i l0 mask1) (f_i_part_en r).1 (f_i_part_en r).2 :=
  fn_true (Gk := fun k => f_i_part_k l0 mask1 k) (en := f_i_part_en) Try.func173 E0ok f_i_part_Mt (addL_true (f_i_part_tt0) (noL_true)) f_i_part_o (f_i_part_e l0 mask1) (f_i_part_p l0 mask1) h
def f_i_part_c : CRow := fun args inh => match dec2 [.p .sl, .p (.int .i64)] [] args inh with
  | some ([.l l0, .i mask1], []) => some ((f_i_part l0 mask1).isSome, (f_i_part_en ((f_i_part l0 mask1).getD [])).1, (f_i_part_en ((f_i_part l0 mask1).getD [])).2)
  | _ => none
theorem f_i_part_cc : CTrue Try.prog 173 f_i_part_c := by
  intro args inh rs out h
  unfold f_i_part_c at h
  split at h
  · rename_i hd
    obtain ⟨h1, h2⟩ := dec2_enc hd
    rw [← h1, ← h2]
    exact rowC (f_i_part_ok _ _) h
  · cases h

def f_i_EgzPart_F : Fi := { nv := 0, nc := 0, m := 0, vt := [], kl := [(4, ([2, 3, 4, 5, 6, 7, 10, 11, 12, 13, 14, 15, 16, 17, 18, 19, 20, 21, 22, 23, 24, 25, 26, 27, 28, 29, 30, 31, 32, 33, 34, 35, 36, 37, 40, 41, 42, 43, 44, 45, 46, 47, 51, 52, 53, 54, 55, 56, 57, 58, 59, 60, 61, 62, 63, 64, 65, 66], [2, 3, 4, 5, 6, 7, 10, 11, 12, 13, 14, 15, 16, 17, 18, 19, 20, 21, 22, 23, 24, 25, 26, 27, 28, 29, 30, 31, 32, 33, 34, 35, 36, 37, 40, 41, 42, 43, 44, 45, 46, 47, 48, 49, 50, 51, 52, 53, 54, 55, 56, 57, 58, 59, 60, 61, 62, 63, 64, 65, 66], [0, 1, 2, 3, 6, 7, 8, 9, 10, 11, 12, 13, 14, 15, 16, 17, 18, 19, 20, 21, 22, 23, 24, 25, 26, 27, 28, 29, 30, 31, 32, 33, 34, 35, 36, 37, 38, 39, 40, 41, 42, 43, 44, 45, 46, 47, 48, 49, 50, 51, 52, 53, 54, 55, 56, 57, 58, 59, 60, 61, 62, 63, 64, 65, 66])), (2, ([2, 3, 4, 5, 6, 7, 8, 9, 10, 11, 12, 13, 14, 15, 16, 17, 18, 19, 20, 21, 22, 23, 24, 25, 26, 27, 28, 29, 30, 31, 32, 33, 34, 35, 36, 37, 40, 41, 42, 43, 44, 45, 46, 47, 48, 49, 50, 51, 52, 53, 54, 55, 56, 57, 58, 59, 60, 61, 62, 63, 64, 65, 66], [2, 3, 4, 5, 6, 7, 10, 11, 12, 13, 14, 15, 16, 17, 18, 19, 20, 21, 22, 23, 24, 25, 26, 27, 28, 29, 30, 31, 32, 33, 34, 35, 36, 37, 40, 41, 42, 43, 44, 45, 46, 47, 48, 49, 50, 51, 52, 53, 54, 55, 56, 57, 58, 59, 60, 61, 62, 63, 64, 65, 66], [0, 1, 2, 3, 6, 7, 8, 9, 10, 11, 12, 13, 14, 15, 16, 17, 18, 19, 20, 21, 22, 23, 24, 25, 26, 27, 28, 29, 30, 31, 32, 33, 34, 35, 36, 37, 38, 39, 40, 41, 42, 43, 44, 45, 46, 47, 48, 49, 50, 51, 52, 53, 54, 55, 56, 57, 58, 59, 60, 61, 62, 63, 64, 65, 66])), (0, ([2, 3, 4, 5, 6, 7, 8, 9, 10, 11, 12, 13, 14, 15, 16, 17, 18, 19, 20, 21, 22, 23, 24, 28, 29, 30, 31, 32, 33, 34, 35, 36, 37, 38, 39, 40, 41, 42, 43, 44, 45, 46, 47, 48, 49, 50, 51, 52, 53, 54, 55, 56, 57, 58, 59, 60, 61, 62, 63, 64, 65, 66], [2, 3, 4, 5, 6, 7, 8, 9, 10, 11, 12, 13, 14, 15, 16, 17, 18, 19, 20, 21, 22, 23, 24, 25, 26, 27, 28, 29, 30, 31, 32, 33, 34, 35, 36, 37, 38, 39, 40, 41, 42, 43, 44, 45, 46, 47, 48, 49, 50, 51, 52, 53, 54, 55, 56, 57, 58, 59, 60, 61, 62, 63, 64, 65, 66], [0, 1, 2, 3, 6, 7, 8, 9, 10, 11, 12, 13, 14, 15, 16, 17, 18, 19, 20, 21, 22, 23, 24, 25, 26, 27, 28, 29, 30, 31, 32, 33, 34, 35, 36, 37, 38, 39, 40, 41, 42, 43, 44, 45, 46, 47, 48, 49, 50, 51, 52, 53, 54, 55, 56, 57, 58, 59, 60, 61, 62, 63, 64, 65, 66]))], sk := [], mvs := [], fz := [] }
def f_i_EgzPart_a (L0 : List Sc) (p1 : Int) : List AV := enc [.p .sl, .p (.int .i64)] [.l L0, .i p1]
def f_i_EgzPart_i (L0 : List Sc) (p1 : Int) : List AV := enc [] []
def f_i_EgzPart_en (r : List Sc × Bool) : List AV × List AV := (enc [.p (.al 0), .p .boo] [.b r.2], enc [.own 3] [.l r.1])
def f_i_EgzPart_M : Calling := addC 144 f_i_within_c (addC 126 f_i_bits_c (addC 173 f_i_part_c (noC)))
theorem f_i_EgzPart_Mt : CallOk Try.prog (f_i_EgzPart_M) := addC_true f_i_within_cc (addC_true f_i_bits_cc (addC_true f_i_part_cc (noC_true)))
theorem f_i_EgzPart_o : loopsOnce Try.f63 = true := by kernel_rfl
def f_i_EgzPart_h0 : List Sh := [.p .sl, .p (.int .i64), .u, .u, .u, .u, .u, .u, .u, .u, .u, .u, .u, .u, .u, .u, .u, .u, .u, .u, .u, .u, .u, .u, .u, .p .sl, .p (.int .i64), .p (.int .i64), .u, .u, .u, .u, .u, .u, .u, .u, .u, .u, .u, .u, .u, .u, .u, .u, .u, .u, .u, .u, .u, .u, .u, .u, .u, .u, .u, .u, .u, .u, .u, .u, .u, .u, .u, .u, .u, .u, .u]
def f_i_EgzPart_fr0 (L0 : List Sc) (t1 : Int) (t25 : List Sc) (t26 : Int) (s : Int) : List AV := enc f_i_EgzPart_h0 [.l L0, .i t1, .l t25, .i t26, .i s]
def f_i_EgzPart_g0_1 : List Sh := [.p .sl, .p (.int .i64), .u, .u, .u, .u, .u, .u, .u, .u, .u, .u, .u, .u, .u, .u, .u, .u, .u, .u, .u, .u, .u, .u, .u, .u, .u, .u, .u, .u, .u, .u, .u, .u, .u, .u, .u, .u, .u, .u, .u, .u, .u, .u, .u, .u, .u, .u, .u, .u, .u, .u, .u, .u, .u, .u, .u, .u, .u, .u, .u, .u, .u, .u, .u, .u, .u]
def f_i_EgzPart_x0_1 (L0 : List Sc) (t1 : Int) (t25 : List Sc) (t26 : Int) (e : Unit) : X × List AV := (.out 0, enc f_i_EgzPart_g0_1 [.l L0, .i t1])
def f_i_EgzPart_g0_2 : List Sh := [.u, .u, .u, .u, .own 3, .p .boo, .u, .u, .u, .u, .u, .u, .u, .u, .u, .u, .u, .u, .u, .u, .u, .u, .u, .u, .u, .u, .u, .u, .u, .u, .u, .u, .u, .u, .u, .u, .u, .u, .u, .u, .u, .u, .u, .u, .u, .u, .u, .u, .u, .u, .u, .u, .u, .u, .u, .u, .u, .u, .u, .u, .u, .u, .u, .u, .u, .u, .u]
def f_i_EgzPart_x0_2 (L0 : List Sc) (t1 : Int) (t25 : List Sc) (t26 : Int) (e : List Sc) : X × List AV := (.ret, enc f_i_EgzPart_g0_2 [.l e, .b false])
theorem f_i_EgzPart_p0 {R : Type} (L0 : List Sc) (t1 : Int) (t25 : List Sc) (t26 : Int) (s : Int) (kN : Int → Option R) (kA : Unit → Option R) (kB : List Sc → Option R) : f_i_EgzPart_k0 L0 t1 t25 t26 s kN kA kB = (f_i_EgzPart_r0 L0 t1 t25 t26 s).bind (Ro.el kN kA kB) := by
  simp only [f_i_EgzPart_k0, f_i_EgzPart_r0, brB, boB, someB, noneB, Ro.el]
theorem f_i_EgzPart_e0 (L0 : List Sc) (t1 : Int) (t25 : List Sc) (t26 : Int) (s : Int) : EC E0 f_i_EgzPart_M H0 f_i_EgzPart_F (asL (noL)) 0 (bodyOf Try.f63 0) (f_i_EgzPart_fr0 L0 t1 t25 t26 s) (done (klOf f_i_EgzPart_F 0)) = f_i_EgzPart_k0 L0 t1 t25 t26 s (fun s => some (.norm, f_i_EgzPart_fr0 L0 t1 t25 t26 s)) (fun e => some (f_i_EgzPart_x0_1 L0 t1 t25 t26 e)) (fun e => some (f_i_EgzPart_x0_2 L0 t1 t25 t26 e)) := by kernel_rfl
theorem f_i_EgzPart_l0 (L0 : List Sc) (t1 : Int) (t25 : List Sc) (t26 : Int) : ∀ s r, loopL (f_i_EgzPart_r0 L0 t1 t25 t26) s = some r → LS Try.prog f_i_EgzPart_F (bodyOf Try.f63 0) (f_i_EgzPart_fr0 L0 t1 t25 t26 s) (enX (f_i_EgzPart_x0_1 L0 t1 t25 t26) (f_i_EgzPart_x0_2 L0 t1 t25 t26) r) :=
  loop_true E0ok f_i_EgzPart_Mt (noL_true) f_i_EgzPart_o (fun _ h => by cases h) (fun _ h => by cases h) (fun s => (f_i_EgzPart_e0 L0 t1 t25 t26 s).trans (f_i_EgzPart_p0 L0 t1 t25 t26 s _ _ (fun e => some (f_i_EgzPart_x0_2 L0 t1 t25 t26 e))))
def f_i_EgzPart_t0 (σ : List AV) : Option (Bool × Bool × (X × List AV) × (X × List AV)) := match dec f_i_EgzPart_h0 σ with
  | some [.l L0, .i t1, .l t25, .i t26, .i t27] => some ((loopL (f_i_EgzPart_r0 L0 t1 t25 t26) t27).isSome, isOne (loopL (f_i_EgzPart_r0 L0 t1 t25 t26) t27), f_i_EgzPart_x0_1 L0 t1 t25 t26 (getOne () (loopL (f_i_EgzPart_r0 L0 t1 t25 t26) t27)), f_i_EgzPart_x0_2 L0 t1 t25 t26 (getTwo [] (loopL (f_i_EgzPart_r0 L0 t1 t25 t26) t27)))
  | _ => none
theorem f_i_EgzPart_tt0 : TTrue Try.prog f_i_EgzPart_F Try.f63 0 (f_i_EgzPart_t0) := by
  intro σ p r r' h
  unfold f_i_EgzPart_t0 at h
  split at h
  · rename_i hd
    rw [← dec_enc hd]
    exact row2 (f_i_EgzPart_l0 _ _ _ _ _) h
  · cases h
def f_i_EgzPart_h4 : List Sh := [.p .sl, .p (.int .i64), .u, .u, .u, .u, .u, .u, .p (.int .i64), .p (.int .i64), .u, .u, .u, .u, .u, .u, .u, .u, .u, .u, .u, .u, .u, .u, .u, .u, .u, .u, .u, .u, .u, .u, .u, .u, .u, .u, .u, .u, .p (.int .i64), .p (.int .i64), .u, .u, .u, .u, .u, .u, .u, .u, .own 3, .p (.int .i64), .p (.int .i64), .u, .u, .u, .u, .u, .u, .u, .u, .u, .u, .u, .u, .u, .u, .u, .u]
def f_i_EgzPart_fr4 (L0 : List Sc) (t1 : Int) (t8 : Int) (t38 : Int) (t39 : Int) (t49 : Int) (s : Int × List Sc × Int) : List AV := enc f_i_EgzPart_h4 [.l L0, .i t1, .i t8, .i s.1, .i t38, .i t39, .l s.2.1, .i t49, .i s.2.2]
def f_i_EgzPart_g4_1 : List Sh := [.p .sl, .p (.int .i64), .u, .u, .u, .u, .u, .u, .p (.int .i64), .p (.int .i64), .u, .u, .u, .u, .u, .u, .u, .u, .u, .u, .u, .u, .u, .u, .u, .u, .u, .u, .u, .u, .u, .u, .u, .u, .u, .u, .u, .u, .p (.int .i64), .p (.int .i64), .u, .u, .u, .u, .u, .u, .u, .u, .u, .u, .u, .u, .u, .u, .u, .u, .u, .u, .u, .u, .u, .u, .u, .u, .u, .u, .u]
def f_i_EgzPart_x4_1 (L0 : List Sc) (t1 : Int) (t8 : Int) (t38 : Int) (t39 : Int) (t49 : Int) (e : Int) : X × List AV := (.out 4, enc f_i_EgzPart_g4_1 [.l L0, .i t1, .i t8, .i e, .i t38, .i t39])
def f_i_EgzPart_x4_2 (L0 : List Sc) (t1 : Int) (t8 : Int) (t38 : Int) (t39 : Int) (t49 : Int) (_e : Unit) : X × List AV := (.ret, [])
theorem f_i_EgzPart_p4 {R : Type} (L0 : List Sc) (t1 : Int) (t8 : Int) (t38 : Int) (t39 : Int) (t49 : Int) (s : Int × List Sc × Int) (kN : Int × List Sc × Int → Option R) (kA : Int → Option R) (kB : Unit → Option R) : f_i_EgzPart_k4 L0 t1 t8 t38 t39 t49 s.1 s.2.1 s.2.2 kN kA = (f_i_EgzPart_r4 L0 t1 t8 t38 t39 t49 s).bind (Ro.el kN kA kB) := by
  simp only [f_i_EgzPart_k4, f_i_EgzPart_r4, brB, someB, noneB, Ro.el]
theorem f_i_EgzPart_e4 (L0 : List Sc) (t1 : Int) (t8 : Int) (t38 : Int) (t39 : Int) (t49 : Int) (s : Int × List Sc × Int) : EC E0 f_i_EgzPart_M H0 f_i_EgzPart_F (asL (addL 0 (f_i_EgzPart_t0) (noL))) 4 (bodyOf Try.f63 4) (f_i_EgzPart_fr4 L0 t1 t8 t38 t39 t49 s) (done (klOf f_i_EgzPart_F 4)) = f_i_EgzPart_k4 L0 t1 t8 t38 t39 t49 s.1 s.2.1 s.2.2 (fun s => some (.norm, f_i_EgzPart_fr4 L0 t1 t8 t38 t39 t49 s)) (fun e => some (f_i_EgzPart_x4_1 L0 t1 t8 t38 t39 t49 e)) := by kernel_rfl
theorem f_i_EgzPart_l4 (L0 : List Sc) (t1 : Int) (t8 : Int) (t38 : Int) (t39 : Int) (t49 : Int) : ∀ s r, loopL (f_i_EgzPart_r4 L0 t1 t8 t38 t39 t49) s = some r → LS Try.prog f_i_EgzPart_F (bodyOf Try.f63 4) (f_i_EgzPart_fr4 L0 t1 t8 t38 t39 t49 s) (enX (f_i_EgzPart_x4_1 L0 t1 t8 t38 t39 t49) (f_i_EgzPart_x4_2 L0 t1 t8 t38 t39 t49) r) :=
  loop_true E0ok f_i_EgzPart_Mt (addL_true (f_i_EgzPart_tt0) (noL_true)) f_i_EgzPart_o (fun _ h => by cases h) (fun _ h => by cases h) (fun s => (f_i_EgzPart_e4 L0 t1 t8 t38 t39 t49 s).trans (f_i_EgzPart_p4 L0 t1 t8 t38 t39 t49 s _ _ (fun e => some (f_i_EgzPart_x4_2 L0 t1 t8 t38 t39 t49 e))))
def f_i_EgzPart_t4 (σ : List AV) : Option (Bool × Bool × (X × List AV) × (X × List AV)) := match dec f_i_EgzPart_h4 σ with
  | some [.l L0, .i t1, .i t8, .i t9, .i t38, .i t39, .l t48, .i t49, .i t50] => some (isOne (loopL (f_i_EgzPart_r4 L0 t1 t8 t38 t39 t49) (t9, t48, t50)), true, f_i_EgzPart_x4_1 L0 t1 t8 t38 t39 t49 (getOne 0 (loopL (f_i_EgzPart_r4 L0 t1 t8 t38 t39 t49) (t9, t48, t50))), (.ret, []))
  | _ => none
theorem f_i_EgzPart_tt4 : TTrue Try.prog f_i_EgzPart_F Try.f63 4 (f_i_EgzPart_t4) := by
  intro σ p r r' h
  unfold f_i_EgzPart_t4 at h
  split at h
  · rename_i hd
    rw [← dec_enc hd]
    exact row1 (f_i_EgzPart_l4 _ _ _ _ _ _ _) h
  · cases h
def f_i_EgzPart_h2 : List Sh := [.p .sl, .p (.int .i64), .u, .u, .u, .u, .u, .u, .u, .u, .u, .u, .u, .u, .u, .u, .u, .u, .u, .u, .u, .u, .u, .u, .u, .u, .u, .u, .u, .u, .u, .u, .u, .u, .u, .u, .u, .u, .p (.int .i64), .p (.int .i64), .u, .u, .u, .u, .u, .u, .u, .u, .u, .u, .u, .u, .u, .u, .u, .u, .u, .u, .u, .u, .u, .u, .u, .u, .u, .u, .u]
def f_i_EgzPart_fr2 (L0 : List Sc) (t1 : Int) (t38 : Int) (s : Int) : List AV := enc f_i_EgzPart_h2 [.l L0, .i t1, .i t38, .i s]
def f_i_EgzPart_g2_1 : List Sh := [.p .sl, .p (.int .i64), .u, .u, .u, .u, .u, .u, .u, .u, .u, .u, .u, .u, .u, .u, .u, .u, .u, .u, .u, .u, .u, .u, .u, .u, .u, .u, .u, .u, .u, .u, .u, .u, .u, .u, .u, .u, .p (.int .i64), .p (.int .i64), .u, .u, .u, .u, .u, .u, .u, .u, .u, .u, .u, .u, .u, .u, .u, .u, .u, .u, .u, .u, .u, .u, .u, .u, .u, .u, .u]
def f_i_EgzPart_x2_1 (L0 : List Sc) (t1 : Int) (t38 : Int) (e : Int) : X × List AV := (.out 2, enc f_i_EgzPart_g2_1 [.l L0, .i t1, .i t38, .i e])
def f_i_EgzPart_g2_2 : List Sh := [.u, .u, .u, .u, .own 3, .p .boo, .u, .u, .u, .u, .u, .u, .u, .u, .u, .u, .u, .u, .u, .u, .u, .u, .u, .u, .u, .u, .u, .u, .u, .u, .u, .u, .u, .u, .u, .u, .u, .u, .u, .u, .u, .u, .u, .u, .u, .u, .u, .u, .u, .u, .u, .u, .u, .u, .u, .u, .u, .u, .u, .u, .u, .u, .u, .u, .u, .u, .u]
def f_i_EgzPart_x2_2 (L0 : List Sc) (t1 : Int) (t38 : Int) (e : List Sc) : X × List AV := (.ret, enc f_i_EgzPart_g2_2 [.l e, .b true])
theorem f_i_EgzPart_p2 {R : Type} (L0 : List Sc) (t1 : Int) (t38 : Int) (s : Int) (kN : Int → Option R) (kA : Int → Option R) (kB : List Sc → Option R) : f_i_EgzPart_k2 L0 t1 t38 s kN kA kB = (f_i_EgzPart_r2 L0 t1 t38 s).bind (Ro.el kN kA kB) := by
  simp only [f_i_EgzPart_k2, f_i_EgzPart_r2, brB, boB, bl1B, someB, noneB, Ro.el]
theorem f_i_EgzPart_e2 (L0 : List Sc) (t1 : Int) (t38 : Int) (s : Int) : EC E0 f_i_EgzPart_M H0 f_i_EgzPart_F (asL (addL 4 (f_i_EgzPart_t4) (addL 0 (f_i_EgzPart_t0) (noL)))) 2 (bodyOf Try.f63 2) (f_i_EgzPart_fr2 L0 t1 t38 s) (done (klOf f_i_EgzPart_F 2)) = f_i_EgzPart_k2 L0 t1 t38 s (fun s => some (.norm, f_i_EgzPart_fr2 L0 t1 t38 s)) (fun e => some (f_i_EgzPart_x2_1 L0 t1 t38 e)) (fun e => some (f_i_EgzPart_x2_2 L0 t1 t38 e)) := by kernel_rfl
theorem f_i_EgzPart_l2 (L0 : List Sc) (t1 : Int) (t38 : Int) : ∀ s r, loopL (f_i_EgzPart_r2 L0 t1 t38) s = some r → LS Try.prog f_i_EgzPart_F (bodyOf Try.f63 2) (f_i_EgzPart_fr2 L0 t1 t38 s) (enX (f_i_EgzPart_x2_1 L0 t1 t38) (f_i_EgzPart_x2_2 L0 t1 t38) r) :=
  loop_true E0ok f_i_EgzPart_Mt (addL_true (f_i_EgzPart_tt4) (addL_true (f_i_EgzPart_tt0) (noL_true))) f_i_EgzPart_o (fun _ h => by cases h) (fun _ h => by cases h) (fun s => (f_i_EgzPart_e2 L0 t1 t38 s).trans (f_i_EgzPart_p2 L0 t1 t38 s _ _ (fun e => some (f_i_EgzPart_x2_2 L0 t1 t38 e))))
def f_i_EgzPart_t2 (σ : List AV) : Option (Bool × Bool × (X × List AV) × (X × List AV)) := match dec f_i_EgzPart_h2 σ with
  | some [.l L0, .i t1, .i t38, .i t39] => some ((loopL (f_i_EgzPart_r2 L0 t1 t38) t39).isSome, isOne (loopL (f_i_EgzPart_r2 L0 t1 t38) t39), f_i_EgzPart_x2_1 L0 t1 t38 (getOne 0 (loopL (f_i_EgzPart_r2 L0 t1 t38) t39)), f_i_EgzPart_x2_2 L0 t1 t38 (getTwo [] (loopL (f_i_EgzPart_r2 L0 t1 t38) t39)))
  | _ => none
theorem f_i_EgzPart_tt2 : TTrue Try.prog f_i_EgzPart_F Try.f63 2 (f_i_EgzPart_t2) := by
  intro σ p r r' h
  unfold f_i_EgzPart_t2 at h
  split at h
  · rename_i hd
    rw [← dec_enc hd]
    exact row2 (f_i_EgzPart_l2 _ _ _ _) h
  · cases h
theorem f_i_EgzPart_p {R : Type} (L0 : List Sc) (p1 : Int) (kR : List Sc × Bool → Option R) : f_i_EgzPart_k L0 p1 kR = (f_i_EgzPart_k L0 p1 some).bind kR := by
  simp only [f_i_EgzPart_k, brB, boB, blB, someB, noneB]
theorem f_i_EgzPart_e (L0 : List Sc) (p1 : Int) : runFn E0 f_i_EgzPart_M H0 f_i_EgzPart_F (asL (addL 2 (f_i_EgzPart_t2) (addL 4 (f_i_EgzPart_t4) (addL 0 (f_i_EgzPart_t0) (noL))))) Try.f63 (f_i_EgzPart_a L0 p1) (f_i_EgzPart_i L0 p1) = f_i_EgzPart_k L0 p1 (fun r => some (f_i_EgzPart_en r)) := by kernel_rfl
theorem f_i_EgzPart_ok (L0 : List Sc) (p1 : Int) (r : List Sc × Bool) (h : f_i_EgzPart L0 p1 = some r) : CS Try.prog 63 (f_i_EgzPart_a L0 p1) (f_i_EgzPart_i L0 p1) (f_i_EgzPart_en r).1 (f_i_EgzPart_en r).2 :=
  fn_true (Gk := fun k => f_i_EgzPart_k L0 p1 k) (en := f_i_EgzPart_en) Try.func63 E0ok f_i_EgzPart_Mt (addL_true (f_i_EgzPart_tt2) (addL_true (f_i_EgzPart_tt4) (addL_true (f_i_EgzPart_tt0) (noL_true)))) f_i_EgzPart_o (f_i_EgzPart_e L0 p1) (f_i_EgzPart_p L0 p1) h
def f_i_EgzPart_c : CRow := fun args inh => match dec2 [.p .sl, .p (.int .i64)] [] args inh with
  | some ([.l L0, .i p1], []) => some ((f_i_EgzPart L0 p1).isSome, (f_i_EgzPart_en ((f_i_EgzPart L0 p1).getD ([], false))).1, (f_i_EgzPart_en ((f_i_EgzPart L0 p1).getD ([], false))).2)
  | _ => none
theorem f_i_EgzPart_cc : CTrue Try.prog 63 f_i_EgzPart_c := by
  intro args inh rs out h
  unfold f_i_EgzPart_c at h
  split at h
  · rename_i hd
    obtain ⟨h1, h2⟩ := dec2_enc hd
    rw [← h1, ← h2]
    exact rowC (f_i_EgzPart_ok _ _) h
  · cases h

def f_s_l1In_F : Fi := { nv := 0, nc := 0, m := 0, vt := [], kl := [], sk := [], mvs := [], fz := [] }
def f_s_l1In_a (x0 : Int) (low1 : Int) (high2 : Int) : List AV := enc [.p (.int .i64), .p (.int .i64), .p (.int .i64)] [.i x0, .i low1, .i high2]
def f_s_l1In_i (x0 : Int) (low1 : Int) (high2 : Int) : List AV := enc [] []
def f_s_l1In_en (r : Bool) : List AV × List AV := (enc [.p .boo] [.b r], enc [] [])
def f_s_l1In_M : Calling := noC
theorem f_s_l1In_Mt : CallOk Try.prog (f_s_l1In_M) := noC_true
theorem f_s_l1In_o : loopsOnce Try.f150 = true := by kernel_rfl
theorem f_s_l1In_p {R : Type} (x0 : Int) (low1 : Int) (high2 : Int) (kR : Bool → Option R) : f_s_l1In_k x0 low1 high2 kR = (f_s_l1In_k x0 low1 high2 some).bind kR := by
  simp only [f_s_l1In_k, brB, someB]
theorem f_s_l1In_e (x0 : Int) (low1 : Int) (high2 : Int) : runFn E0 f_s_l1In_M H0 f_s_l1In_F (asL (noL)) Try.f150 (f_s_l1In_a x0 low1 high2) (f_s_l1In_i x0 low1 high2) = f_s_l1In_k x0 low1 high2 (fun r => some (f_s_l1In_en r)) := by kernel_rfl
theorem f_s_l1In_ok (x0 : Int) (low1 : Int) (high2 : Int) (r : Bool) (h : f_s_l1In x0 low1 high2 = some r) : CS Try.prog 150 (f_s_l1In_a x0 low1 high2) (f_s_l1In_i x0 low1 high2) (f_s_l1In_en r).1 (f_s_l1In_en r).2 :=
  fn_true (Gk := fun k => f_s_l1In_k x0 low1 high2 k) (en := f_s_l1In_en) Try.func150 E0ok f_s_l1In_Mt (noL_true) f_s_l1In_o (f_s_l1In_e x0 low1 high2) (f_s_l1In_p x0 low1 high2) h
def f_s_l1In_c : CRow := fun args inh => match dec2 [.p (.int .i64), .p (.int .i64), .p (.int .i64)] [] args inh with
  | some ([.i x0, .i low1, .i high2], []) => some ((f_s_l1In x0 low1 high2).isSome, (f_s_l1In_en ((f_s_l1In x0 low1 high2).getD false)).1, (f_s_l1In_en ((f_s_l1In x0 low1 high2).getD false)).2)
  | _ => none
theorem f_s_l1In_cc : CTrue Try.prog 150 f_s_l1In_c := by
  intro args inh rs out h
  unfold f_s_l1In_c at h
  split at h
  · rename_i hd
    obtain ⟨h1, h2⟩ := dec2_enc hd
    rw [← h1, ← h2]
    exact rowC (f_s_l1In_ok _ _ _) h
  · cases h

def f_s_l16Part_F : Fi := { nv := 0, nc := 0, m := 0, vt := [], kl := [(0, ([2, 3, 4, 7, 8, 9, 10, 11, 12, 13, 14, 15, 16, 17, 18, 19, 20, 21, 22, 23, 24, 25, 26], [0, 1, 2, 3, 4, 6, 7, 8, 9, 10, 11, 12, 13, 14, 15, 16, 17, 18, 19, 20, 21, 22, 23, 24, 25, 26], [0, 1, 2, 3, 5, 6, 7, 8, 9, 10, 11, 12, 13, 14, 15, 16, 17, 18, 19, 20, 21, 22, 23, 24, 25, 26]))], sk := [], mvs := [], fz := [] }
def f_s_l16Part_a (l0 : List Sc) (code1 : Int) : List AV := enc [.p .sl, .p (.int .i64)] [.l l0, .i code1]
def f_s_l16Part_i (l0 : List Sc) (code1 : Int) : List AV := enc [] []
def f_s_l16Part_en (r : List Sc) : List AV × List AV := (enc [.p (.al 0)] [], enc [.own 3] [.l r])
def f_s_l16Part_M : Calling := noC
theorem f_s_l16Part_Mt : CallOk Try.prog (f_s_l16Part_M) := noC_true
theorem f_s_l16Part_o : loopsOnce Try.f174 = true := by kernel_rfl
def f_s_l16Part_h0 : List Sh := [.p .sl, .p (.int .i64), .u, .u, .u, .own 3, .p (.int .i64), .u, .u, .u, .u, .u, .u, .u, .u, .u, .u, .u, .u, .u, .u, .u, .u, .u, .u, .u, .u]
def f_s_l16Part_fr0 (l0 : List Sc) (code1 : Int) (s : List Sc × Int) : List AV := enc f_s_l16Part_h0 [.l l0, .i code1, .l s.1, .i s.2]
def f_s_l16Part_g0_1 : List Sh := [.u, .u, .u, .u, .u, .own 3, .u, .u, .u, .u, .u, .u, .u, .u, .u, .u, .u, .u, .u, .u, .u, .u, .u, .u, .u, .u, .u]
def f_s_l16Part_x0_1 (l0 : List Sc) (code1 : Int) (e : List Sc) : X × List AV := (.out 0, enc f_s_l16Part_g0_1 [.l e])
def f_s_l16Part_x0_2 (l0 : List Sc) (code1 : Int) (_e : Unit) : X × List AV := (.ret, [])
theorem f_s_l16Part_p0 {R : Type} (l0 : List Sc) (code1 : Int) (s : List Sc × Int) (kN : List Sc × Int → Option R) (kA : List Sc → Option R) (kB : Unit → Option R) : f_s_l16Part_k0 l0 code1 s.1 s.2 kN kA = (f_s_l16Part_r0 l0 code1 s).bind (Ro.el kN kA kB) := by
  simp only [f_s_l16Part_k0, f_s_l16Part_r0, brB, someB, noneB, Ro.el]
theorem f_s_l16Part_e0 (l0 : List Sc) (code1 : Int) (s : List Sc × Int) : EC E0 f_s_l16Part_M H0 f_s_l16Part_F (asL (noL)) 0 (bodyOf Try.f174 0) (f_s_l16Part_fr0 l0 code1 s) (done (klOf f_s_l16Part_F 0)) = f_s_l16Part_k0 l0 code1 s.1 s.2 (fun s => some (.norm, f_s_l16Part_fr0 l0 code1 s)) (fun e => some (f_s_l16Part_x0_1 l0 code1 e)) := by kernel_rfl
theorem f_s_l16Part_l0 (l0 : List Sc) (code1 : Int) : ∀ s r, loopL (f_s_l16Part_r0 l0 code1) s = some r → LS Try.prog f_s_l16Part_F (bodyOf Try.f174 0) (f_s_l16Part_fr0 l0 code1 s) (enX (f_s_l16Part_x0_1 l0 code1) (f_s_l16Part_x0_2 l0 code1) r) :=
  loop_true E0ok f_s_l16Part_Mt (noL_true) f_s_l16Part_o (fun _ h => by cases h) (fun _ h => by cases h) (fun s => (f_s_l16Part_e0 l0 code1 s).trans (f_s_l16Part_p0 l0 code1 s _ _ (fun e => some (f_s_l16Part_x0_2 l0 code1 e))))
def f_s_l16Part_t0 (σ : List AV) : Option (Bool × Bool × (X × List AV) × (X × List AV)) := match dec f_s_l16Part_h0 σ with
  | some [.l l0, .i code1, .l out5, .i i6] => some (isOne (loopL (f_s_l16Part_r0 l0 code1) (out5, i6)), true, f_s_l16Part_x0_1 l0 code1 (getOne [] (loopL (f_s_l16Part_r0 l0 code1) (out5, i6))), (.ret, []))
  | _ => none
theorem f_s_l16Part_tt0 : TTrue Try.prog f_s_l16Part_F Try.f174 0 (f_s_l16Part_t0) := by
  intro σ p r r' h
  unfold f_s_l16Part_t0 at h
  split at h
  · rename_i hd
    rw [← dec_enc hd]
    exact row1 (f_s_l16Part_l0 _ _ _) h
  · cases h
theorem f_s_l16Part_p {R : Type} (l0 : List Sc) (code1 : Int) (kR : List Sc → Option R) : f_s_l16Part_k l0 code1 kR = (f_s_l16Part_k l0 code1 some).bind kR := by
  simp only [f_s_l16Part_k, bl1B, someB]
theorem f_s_l16Part_e (l0 : List Sc) (code1 : Int) : runFn E0 f_s_l16Part_M H0 f_s_l16Part_F (asL (addL 0 (f_s_l16Part_t0) (noL))) Try.f174 (f_s_l16Part_a l0 code1) (f_s_l16Part_i l0 code1) = f_s_l16Part_k l0 code1 (fun r => some (f_s_l16Part_en r)) := by kernel_rfl
theorem f_s_l16Part_ok (l0 : List Sc) (code1 : Int) (r : List Sc) (h : f_s_l16Part l0 code1 = some r) : CS Try.prog 174 (f_s_l16Part_a l0 code1) (f_s_l16Part_i l0 code1) (f_s_l16Part_en r).1 (f_s_l16Part_en r).2 :=
  fn_true (Gk := fun k => f_s_l16Part_k l0 code1 k) (en := f_s_l16Part_en) Try.func174 E0ok f_s_l16Part_Mt (addL_true (f_s_l16Part_tt0) (noL_true)) f_s_l16Part_o (f_s_l16Part_e l0 code1) (f_s_l16Part_p l0 code1) h
def f_s_l16Part_c : CRow := fun args inh => match dec2 [.p .sl, .p (.int .i64)] [] args inh with
  | some ([.l l0, .i code1], []) => some ((f_s_l16Part l0 code1).isSome, (f_s_l16Part_en ((f_s_l16Part l0 code1).getD [])).1, (f_s_l16Part_en ((f_s_l16Part l0 code1).getD [])).2)
  | _ => none
theorem f_s_l16Part_cc : CTrue Try.prog 174 f_s_l16Part_c := by
  intro args inh rs out h
  unfold f_s_l16Part_c at h
  split at h
  · rename_i hd
    obtain ⟨h1, h2⟩ := dec2_enc hd
    rw [← h1, ← h2]
    exact rowC (f_s_l16Part_ok _ _) h
  · cases h

def f_s_EgzPart_F : Fi := { nv := 0, nc := 0, m := 0, vt := [], kl := [(4, ([2, 3, 4, 5, 6, 11, 12, 13, 14, 15, 16, 17, 18, 19, 20, 21, 22, 23, 24, 25, 26, 27, 28, 29, 30, 31, 32, 33, 34, 35, 36, 37, 38, 39, 40, 41, 42, 43, 44, 45, 46, 47, 48, 49, 50, 51, 52, 53, 54, 55, 56, 57, 58, 59, 60, 61, 62, 63, 64, 65, 66, 67, 68, 69, 70], [2, 3, 4, 5, 6, 10, 11, 12, 13, 14, 15, 16, 17, 18, 19, 20, 21, 22, 23, 24, 25, 26, 27, 28, 29, 30, 31, 32, 33, 34, 35, 36, 37, 38, 39, 40, 41, 42, 43, 44, 45, 46, 47, 48, 49, 50, 51, 52, 53, 54, 55, 56, 57, 58, 59, 60, 61, 62, 63, 64, 65, 66, 67, 68, 69, 70], [0, 1, 2, 3, 6, 7, 8, 9, 10, 11, 12, 13, 14, 15, 16, 17, 18, 19, 20, 21, 22, 23, 24, 25, 26, 27, 28, 29, 30, 31, 32, 33, 34, 35, 36, 37, 38, 39, 40, 41, 42, 43, 44, 45, 46, 47, 48, 49, 50, 51, 52, 53, 54, 55, 56, 57, 58, 59, 60, 61, 62, 63, 64, 65, 66, 67, 68, 69, 70])), (2, ([2, 3, 4, 5, 6, 8, 9, 10, 11, 12, 13, 14, 15, 16, 17, 18, 19, 20, 21, 22, 23, 24, 25, 26, 27, 28, 29, 30, 31, 32, 33, 34, 35, 36, 37, 38, 39, 40, 41, 42, 43, 44, 45, 46, 47, 48, 49, 50, 51, 52, 53, 54, 55, 56, 57, 58, 59, 60, 61, 62, 63, 64, 65, 66, 67, 68, 69, 70], [2, 3, 4, 5, 6, 10, 11, 12, 13, 14, 15, 16, 17, 18, 19, 20, 21, 22, 23, 24, 25, 26, 27, 28, 29, 30, 31, 32, 33, 34, 35, 36, 37, 38, 39, 40, 41, 42, 43, 44, 45, 46, 47, 48, 49, 50, 51, 52, 53, 54, 55, 56, 57, 58, 59, 60, 61, 62, 63, 64, 65, 66, 67, 68, 69, 70], [0, 1, 2, 3, 6, 7, 8, 9, 10, 11, 12, 13, 14, 15, 16, 17, 18, 19, 20, 21, 22, 23, 24, 25, 26, 27, 28, 29, 30, 31, 32, 33, 34, 35, 36, 37, 38, 39, 40, 41, 42, 43, 44, 45, 46, 47, 48, 49, 50, 51, 52, 53, 54, 55, 56, 57, 58, 59, 60, 61, 62, 63, 64, 65, 66, 67, 68, 69, 70])), (0, ([2, 3, 4, 5, 7, 8, 9, 10, 11, 12, 13, 14, 15, 16, 17, 18, 19, 20, 21, 22, 23, 24, 25, 26, 27, 28, 29, 30, 31, 32, 33, 34, 35, 36, 37, 38, 39, 40, 41, 42, 43, 44, 45, 46, 47, 48, 49, 50, 51, 52, 53, 54, 55, 56, 57, 58, 59, 60, 61, 62, 63, 64, 65, 66, 67, 68, 69, 70], [2, 3, 4, 5, 6, 7, 8, 9, 10, 11, 12, 13, 14, 15, 16, 17, 18, 19, 20, 21, 22, 23, 24, 25, 26, 27, 28, 29, 30, 31, 32, 33, 34, 35, 36, 37, 38, 39, 40, 41, 42, 43, 44, 45, 46, 47, 48, 49, 50, 51, 52, 53, 54, 55, 56, 57, 58, 59, 60, 61, 62, 63, 64, 65, 66, 67, 68, 69, 70], [0, 1, 2, 3, 6, 7, 8, 9, 10, 11, 12, 13, 14, 15, 16, 17, 18, 19, 20, 21, 22, 23, 24, 25, 26, 27, 28, 29, 30, 31, 32, 33, 34, 35, 36, 37, 38, 39, 40, 41, 42, 43, 44, 45, 46, 47, 48, 49, 50, 51, 52, 53, 54, 55, 56, 57, 58, 59, 60, 61, 62, 63, 64, 65, 66, 67, 68, 69, 70]))], sk := [], mvs := [], fz := [] }
def f_s_EgzPart_a (L0 : List Sc) (p1 : Int) : List AV := enc [.p .sl, .p (.int .i64)] [.l L0, .i p1]
def f_s_EgzPart_i (L0 : List Sc) (p1 : Int) : List AV := enc [] []
def f_s_EgzPart_en (r : List Sc × Bool) : List AV × List AV := (enc [.p (.al 0), .p .boo] [.b r.2], enc [.own 3] [.l r.1])
def f_s_EgzPart_M : Calling := addC 150 f_s_l1In_c (addC 174 f_s_l16Part_c (noC))
theorem f_s_EgzPart_Mt : CallOk Try.prog (f_s_EgzPart_M) := addC_true f_s_l1In_cc (addC_true f_s_l16Part_cc (noC_true))
theorem f_s_EgzPart_o : loopsOnce Try.f64 = true := by kernel_rfl
def f_s_EgzPart_h0 : List Sh := [.p .sl, .p (.int .i64), .u, .u, .u, .u, .p (.int .i64), .u, .u, .u, .u, .u, .u, .u, .u, .u, .u, .u, .u, .u, .u, .u, .u, .u, .u, .u, .u, .u, .u, .u, .u, .u, .u, .u, .u, .u, .u, .u, .u, .u, .u, .u, .u, .u, .u, .u, .u, .u, .u, .u, .u, .u, .u, .u, .u, .u, .u, .u, .u, .u, .u, .u, .u, .u, .u, .u, .u, .u, .u, .u, .u]
def f_s_EgzPart_fr0 (L0 : List Sc) (t1 : Int) (s : Int) : List AV := enc f_s_EgzPart_h0 [.l L0, .i t1, .i s]
def f_s_EgzPart_g0_1 : List Sh := [.p .sl, .p (.int .i64), .u, .u, .u, .u, .u, .u, .u, .u, .u, .u, .u, .u, .u, .u, .u, .u, .u, .u, .u, .u, .u, .u, .u, .u, .u, .u, .u, .u, .u, .u, .u, .u, .u, .u, .u, .u, .u, .u, .u, .u, .u, .u, .u, .u, .u, .u, .u, .u, .u, .u, .u, .u, .u, .u, .u, .u, .u, .u, .u, .u, .u, .u, .u, .u, .u, .u, .u, .u, .u]
def f_s_EgzPart_x0_1 (L0 : List Sc) (t1 : Int) (e : Unit) : X × List AV := (.out 0, enc f_s_EgzPart_g0_1 [.l L0, .i t1])
def f_s_EgzPart_g0_2 : List Sh := [.u, .u, .u, .u, .own 3, .p .boo, .u, .u, .u, .u, .u, .u, .u, .u, .u, .u, .u, .u, .u, .u, .u, .u, .u, .u, .u, .u, .u, .u, .u, .u, .u, .u, .u, .u, .u, .u, .u, .u, .u, .u, .u, .u, .u, .u, .u, .u, .u, .u, .u, .u, .u, .u, .u, .u, .u, .u, .u, .u, .u, .u, .u, .u, .u, .u, .u, .u, .u, .u, .u, .u, .u]
def f_s_EgzPart_x0_2 (L0 : List Sc) (t1 : Int) (e : List Sc) : X × List AV := (.ret, enc f_s_EgzPart_g0_2 [.l e, .b false])
theorem f_s_EgzPart_p0 {R : Type} (L0 : List Sc) (t1 : Int) (s : Int) (kN : Int → Option R) (kA : Unit → Option R) (kB : List Sc → Option R) : f_s_EgzPart_k0 L0 t1 s kN kA kB = (f_s_EgzPart_r0 L0 t1 s).bind (Ro.el kN kA kB) := by
  simp only [f_s_EgzPart_k0, f_s_EgzPart_r0, brB, boB, someB, noneB, Ro.el]
theorem f_s_EgzPart_e0 (L0 : List Sc) (t1 : Int) (s : Int) : EC E0 f_s_EgzPart_M H0 f_s_EgzPart_F (asL (noL)) 0 (bodyOf Try.f64 0) (f_s_EgzPart_fr0 L0 t1 s) (done (klOf f_s_EgzPart_F 0)) = f_s_EgzPart_k0 L0 t1 s (fun s => some (.norm, f_s_EgzPart_fr0 L0 t1 s)) (fun e => some (f_s_EgzPart_x0_1 L0 t1 e)) (fun e => some (f_s_EgzPart_x0_2 L0 t1 e)) := by kernel_rfl
theorem f_s_EgzPart_l0 (L0 : List Sc) (t1 : Int) : ∀ s r, loopL (f_s_EgzPart_r0 L0 t1) s = some r → LS Try.prog f_s_EgzPart_F (bodyOf Try.f64 0) (f_s_EgzPart_fr0 L0 t1 s) (enX (f_s_EgzPart_x0_1 L0 t1) (f_s_EgzPart_x0_2 L0 t1) r) :=
  loop_true E0ok f_s_EgzPart_Mt (noL_true) f_s_EgzPart_o (fun _ h => by cases h) (fun _ h => by cases h) (fun s => (f_s_EgzPart_e0 L0 t1 s).trans (f_s_EgzPart_p0 L0 t1 s _ _ (fun e => some (f_s_EgzPart_x0_2 L0 t1 e))))
def f_s_EgzPart_t0 (σ : List AV) : Option (Bool × Bool × (X × List AV) × (X × List AV)) := match dec f_s_EgzPart_h0 σ with
  | some [.l L0, .i t1, .i t6] => some ((loopL (f_s_EgzPart_r0 L0 t1) t6).isSome, isOne (loopL (f_s_EgzPart_r0 L0 t1) t6), f_s_EgzPart_x0_1 L0 t1 (getOne () (loopL (f_s_EgzPart_r0 L0 t1) t6)), f_s_EgzPart_x0_2 L0 t1 (getTwo [] (loopL (f_s_EgzPart_r0 L0 t1) t6)))
  | _ => none
theorem f_s_EgzPart_tt0 : TTrue Try.prog f_s_EgzPart_F Try.f64 0 (f_s_EgzPart_t0) := by
  intro σ p r r' h
  unfold f_s_EgzPart_t0 at h
  split at h
  · rename_i hd
    rw [← dec_enc hd]
    exact row2 (f_s_EgzPart_l0 _ _ _) h
  · cases h
def f_s_EgzPart_h4 : List Sh := [.p .sl, .p (.int .i64), .u, .u, .u, .u, .u, .p (.int .i64), .p (.int .i64), .own 3, .p (.int .i64), .u, .u, .u, .u, .u, .u, .u, .u, .u, .u, .u, .u, .u, .u, .u, .u, .u, .u, .u, .u, .u, .u, .u, .u, .u, .u, .u, .u, .u, .u, .u, .u, .u, .u, .u, .u, .u, .u, .u, .u, .u, .u, .u, .u, .u, .u, .u, .u, .u, .u, .u, .u, .u, .u, .u, .u, .u, .u, .u, .u]
def f_s_EgzPart_fr4 (L0 : List Sc) (t1 : Int) (t7 : Int) (s : Int × List Sc × Int) : List AV := enc f_s_EgzPart_h4 [.l L0, .i t1, .i t7, .i s.1, .l s.2.1, .i s.2.2]
def f_s_EgzPart_g4_1 : List Sh := [.p .sl, .p (.int .i64), .u, .u, .u, .u, .u, .p (.int .i64), .p (.int .i64), .own 3, .u, .u, .u, .u, .u, .u, .u, .u, .u, .u, .u, .u, .u, .u, .u, .u, .u, .u, .u, .u, .u, .u, .u, .u, .u, .u, .u, .u, .u, .u, .u, .u, .u, .u, .u, .u, .u, .u, .u, .u, .u, .u, .u, .u, .u, .u, .u, .u, .u, .u, .u, .u, .u, .u, .u, .u, .u, .u, .u, .u, .u]
def f_s_EgzPart_x4_1 (L0 : List Sc) (t1 : Int) (t7 : Int) (e : Int × List Sc) : X × List AV := (.out 4, enc f_s_EgzPart_g4_1 [.l L0, .i t1, .i t7, .i e.1, .l e.2])
def f_s_EgzPart_x4_2 (L0 : List Sc) (t1 : Int) (t7 : Int) (_e : Unit) : X × List AV := (.ret, [])
theorem f_s_EgzPart_p4 {R : Type} (L0 : List Sc) (t1 : Int) (t7 : Int) (s : Int × List Sc × Int) (kN : Int × List Sc × Int → Option R) (kA : Int × List Sc → Option R) (kB : Unit → Option R) : f_s_EgzPart_k4 L0 t1 t7 s.1 s.2.1 s.2.2 kN kA = (f_s_EgzPart_r4 L0 t1 t7 s).bind (Ro.el kN kA kB) := by
  simp only [f_s_EgzPart_k4, f_s_EgzPart_r4, brB, someB, noneB, Ro.el]
theorem f_s_EgzPart_e4 (L0 : List Sc) (t1 : Int) (t7 : Int) (s : Int × List Sc × Int) : EC E0 f_s_EgzPart_M H0 f_s_EgzPart_F (asL (addL 0 (f_s_EgzPart_t0) (noL))) 4 (bodyOf Try.f64 4) (f_s_EgzPart_fr4 L0 t1 t7 s) (done (klOf f_s_EgzPart_F 4)) = f_s_EgzPart_k4 L0 t1 t7 s.1 s.2.1 s.2.2 (fun s => some (.norm, f_s_EgzPart_fr4 L0 t1 t7 s)) (fun e => some (f_s_EgzPart_x4_1 L0 t1 t7 e)) := by kernel_rfl
theorem f_s_EgzPart_l4 (L0 : List Sc) (t1 : Int) (t7 : Int) : ∀ s r, loopL (f_s_EgzPart_r4 L0 t1 t7) s = some r → LS Try.prog f_s_EgzPart_F (bodyOf Try.f64 4) (f_s_EgzPart_fr4 L0 t1 t7 s) (enX (f_s_EgzPart_x4_1 L0 t1 t7) (f_s_EgzPart_x4_2 L0 t1 t7) r) :=
  loop_true E0ok f_s_EgzPart_Mt (addL_true (f_s_EgzPart_tt0) (noL_true)) f_s_EgzPart_o (fun _ h => by cases h) (fun _ h => by cases h) (fun s => (f_s_EgzPart_e4 L0 t1 t7 s).trans (f_s_EgzPart_p4 L0 t1 t7 s _ _ (fun e => some (f_s_EgzPart_x4_2 L0 t1 t7 e))))
def f_s_EgzPart_t4 (σ : List AV) : Option (Bool × Bool × (X × List AV) × (X × List AV)) := match dec f_s_EgzPart_h4 σ with
  | some [.l L0, .i t1, .i t7, .i t8, .l t9, .i t10] => some (isOne (loopL (f_s_EgzPart_r4 L0 t1 t7) (t8, t9, t10)), true, f_s_EgzPart_x4_1 L0 t1 t7 (getOne (0, []) (loopL (f_s_EgzPart_r4 L0 t1 t7) (t8, t9, t10))), (.ret, []))
  | _ => none
theorem f_s_EgzPart_tt4 : TTrue Try.prog f_s_EgzPart_F Try.f64 4 (f_s_EgzPart_t4) := by
  intro σ p r r' h
  unfold f_s_EgzPart_t4 at h
  split at h
  · rename_i hd
    rw [← dec_enc hd]
    exact row1 (f_s_EgzPart_l4 _ _ _ _) h
  · cases h
def f_s_EgzPart_h2 : List Sh := [.p .sl, .p (.int .i64), .u, .u, .u, .u, .u, .p (.int .i64), .u, .u, .u, .u, .u, .u, .u, .u, .u, .u, .u, .u, .u, .u, .u, .u, .u, .u, .u, .u, .u, .u, .u, .u, .u, .u, .u, .u, .u, .u, .u, .u, .u, .u, .u, .u, .u, .u, .u, .u, .u, .u, .u, .u, .u, .u, .u, .u, .u, .u, .u, .u, .u, .u, .u, .u, .u, .u, .u, .u, .u, .u, .u]
def f_s_EgzPart_fr2 (L0 : List Sc) (t1 : Int) (s : Int) : List AV := enc f_s_EgzPart_h2 [.l L0, .i t1, .i s]
def f_s_EgzPart_g2_1 : List Sh := [.p .sl, .p (.int .i64), .u, .u, .u, .u, .u, .p (.int .i64), .u, .u, .u, .u, .u, .u, .u, .u, .u, .u, .u, .u, .u, .u, .u, .u, .u, .u, .u, .u, .u, .u, .u, .u, .u, .u, .u, .u, .u, .u, .u, .u, .u, .u, .u, .u, .u, .u, .u, .u, .u, .u, .u, .u, .u, .u, .u, .u, .u, .u, .u, .u, .u, .u, .u, .u, .u, .u, .u, .u, .u, .u, .u]
def f_s_EgzPart_x2_1 (L0 : List Sc) (t1 : Int) (e : Int) : X × List AV := (.out 2, enc f_s_EgzPart_g2_1 [.l L0, .i t1, .i e])
def f_s_EgzPart_g2_2 : List Sh := [.u, .u, .u, .u, .own 3, .p .boo, .u, .u, .u, .u, .u, .u, .u, .u, .u, .u, .u, .u, .u, .u, .u, .u, .u, .u, .u, .u, .u, .u, .u, .u, .u, .u, .u, .u, .u, .u, .u, .u, .u, .u, .u, .u, .u, .u, .u, .u, .u, .u, .u, .u, .u, .u, .u, .u, .u, .u, .u, .u, .u, .u, .u, .u, .u, .u, .u, .u, .u, .u, .u, .u, .u]
def f_s_EgzPart_x2_2 (L0 : List Sc) (t1 : Int) (e : List Sc) : X × List AV := (.ret, enc f_s_EgzPart_g2_2 [.l e, .b true])
theorem f_s_EgzPart_p2 {R : Type} (L0 : List Sc) (t1 : Int) (s : Int) (kN : Int → Option R) (kA : Int → Option R) (kB : List Sc → Option R) : f_s_EgzPart_k2 L0 t1 s kN kA kB = (f_s_EgzPart_r2 L0 t1 s).bind (Ro.el kN kA kB) := by
  simp only [f_s_EgzPart_k2, f_s_EgzPart_r2, brB, boB, bl1B, someB, noneB, Ro.el]
theorem f_s_EgzPart_e2 (L0 : List Sc) (t1 : Int) (s : Int) : EC E0 f_s_EgzPart_M H0 f_s_EgzPart_F (asL (addL 4 (f_s_EgzPart_t4) (addL 0 (f_s_EgzPart_t0) (noL)))) 2 (bodyOf Try.f64 2) (f_s_EgzPart_fr2 L0 t1 s) (done (klOf f_s_EgzPart_F 2)) = f_s_EgzPart_k2 L0 t1 s (fun s => some (.norm, f_s_EgzPart_fr2 L0 t1 s)) (fun e => some (f_s_EgzPart_x2_1 L0 t1 e)) (fun e => some (f_s_EgzPart_x2_2 L0 t1 e)) := by kernel_rfl
theorem f_s_EgzPart_l2 (L0 : List Sc) (t1 : Int) : ∀ s r, loopL (f_s_EgzPart_r2 L0 t1) s = some r → LS Try.prog f_s_EgzPart_F (bodyOf Try.f64 2) (f_s_EgzPart_fr2 L0 t1 s) (enX (f_s_EgzPart_x2_1 L0 t1) (f_s_EgzPart_x2_2 L0 t1) r) :=
  loop_true E0ok f_s_EgzPart_Mt (addL_true (f_s_EgzPart_tt4) (addL_true (f_s_EgzPart_tt0) (noL_true))) f_s_EgzPart_o (fun _ h => by cases h) (fun _ h => by cases h) (fun s => (f_s_EgzPart_e2 L0 t1 s).trans (f_s_EgzPart_p2 L0 t1 s _ _ (fun e => some (f_s_EgzPart_x2_2 L0 t1 e))))
def f_s_EgzPart_t2 (σ : List AV) : Option (Bool × Bool × (X × List AV) × (X × List AV)) := match dec f_s_EgzPart_h2 σ with
  | some [.l L0, .i t1, .i t7] => some ((loopL (f_s_EgzPart_r2 L0 t1) t7).isSome, isOne (loopL (f_s_EgzPart_r2 L0 t1) t7), f_s_EgzPart_x2_1 L0 t1 (getOne 0 (loopL (f_s_EgzPart_r2 L0 t1) t7)), f_s_EgzPart_x2_2 L0 t1 (getTwo [] (loopL (f_s_EgzPart_r2 L0 t1) t7)))
  | _ => none
theorem f_s_EgzPart_tt2 : TTrue Try.prog f_s_EgzPart_F Try.f64 2 (f_s_EgzPart_t2) := by
  intro σ p r r' h
  unfold f_s_EgzPart_t2 at h
  split at h
  · rename_i hd
    rw [← dec_enc hd]
    exact row2 (f_s_EgzPart_l2 _ _ _) h
  · cases h
theorem f_s_EgzPart_p {R : Type} (L0 : List Sc) (p1 : Int) (kR : List Sc × Bool → Option R) : f_s_EgzPart_k L0 p1 kR = (f_s_EgzPart_k L0 p1 some).bind kR := by
  simp only [f_s_EgzPart_k, brB, boB, blB, someB]
theorem f_s_EgzPart_e (L0 : List Sc) (p1 : Int) : runFn E0 f_s_EgzPart_M H0 f_s_EgzPart_F (asL (addL 2 (f_s_EgzPart_t2) (addL 4 (f_s_EgzPart_t4) (addL 0 (f_s_EgzPart_t0) (noL))))) Try.f64 (f_s_EgzPart_a L0 p1) (f_s_EgzPart_i L0 p1) = f_s_EgzPart_k L0 p1 (fun r => some (f_s_EgzPart_en r)) := by kernel_rfl
theorem f_s_EgzPart_ok (L0 : List Sc) (p1 : Int) (r : List Sc × Bool) (h : f_s_EgzPart L0 p1 = some r) : CS Try.prog 64 (f_s_EgzPart_a L0 p1) (f_s_EgzPart_i L0 p1) (f_s_EgzPart_en r).1 (f_s_EgzPart_en r).2 :=
  fn_true (Gk := fun k => f_s_EgzPart_k L0 p1 k) (en := f_s_EgzPart_en) Try.func64 E0ok f_s_EgzPart_Mt (addL_true (f_s_EgzPart_tt2) (addL_true (f_s_EgzPart_tt4) (addL_true (f_s_EgzPart_tt0) (noL_true)))) f_s_EgzPart_o (f_s_EgzPart_e L0 p1) (f_s_EgzPart_p L0 p1) h
def f_s_EgzPart_c : CRow := fun args inh => match dec2 [.p .sl, .p (.int .i64)] [] args inh with
  | some ([.l L0, .i p1], []) => some ((f_s_EgzPart L0 p1).isSome, (f_s_EgzPart_en ((f_s_EgzPart L0 p1).getD ([], false))).1, (f_s_EgzPart_en ((f_s_EgzPart L0 p1).getD ([], false))).2)
  | _ => none
theorem f_s_EgzPart_cc : CTrue Try.prog 64 f_s_EgzPart_c := by
  intro args inh rs out h
  unfold f_s_EgzPart_c at h
  split at h
  · rename_i hd
    obtain ⟨h1, h2⟩ := dec2_enc hd
    rw [← h1, ← h2]
    exact rowC (f_s_EgzPart_ok _ _) h
  · cases h

def f_l_sameInts_F : Fi := { nv := 0, nc := 0, m := 0, vt := [], kl := [(0, ([2, 3, 4, 6, 7, 8, 9, 10, 11, 12, 13, 14, 15, 16, 17, 18, 19, 20, 21, 22, 23, 24, 25], [0, 1, 2, 3, 4, 5, 6, 7, 8, 9, 10, 11, 12, 13, 14, 15, 16, 17, 18, 19, 20, 21, 22, 23, 24, 25], [0, 1, 2, 3, 5, 6, 7, 8, 9, 10, 11, 12, 13, 14, 15, 16, 17, 18, 19, 20, 21, 22, 23, 24, 25]))], sk := [], mvs := [], fz := [] }
def f_l_sameInts_a (a0 : List Sc) (b1 : List Sc) : List AV := enc [.p .sl, .p .sl] [.l a0, .l b1]
def f_l_sameInts_i (a0 : List Sc) (b1 : List Sc) : List AV := enc [] []
def f_l_sameInts_en (r : Bool) : List AV × List AV := (enc [.p .boo] [.b r], enc [] [])
def f_l_sameInts_M : Calling := noC
theorem f_l_sameInts_Mt : CallOk Try.prog (f_l_sameInts_M) := noC_true
theorem f_l_sameInts_o : loopsOnce Try.f24 = true := by kernel_rfl
def f_l_sameInts_h0 : List Sh := [.p .sl, .p .sl, .u, .u, .u, .p (.int .i64), .u, .u, .u, .u, .u, .u, .u, .u, .u, .u, .u, .u, .u, .u, .u, .u, .u, .u, .u, .u]
def f_l_sameInts_fr0 (a0 : List Sc) (b1 : List Sc) (s : Int) : List AV := enc f_l_sameInts_h0 [.l a0, .l b1, .i s]
def f_l_sameInts_g0_1 : List Sh := [.u, .u, .u, .u, .u, .u, .u, .u, .u, .u, .u, .u, .u, .u, .u, .u, .u, .u, .u, .u, .u, .u, .u, .u, .u, .u]
def f_l_sameInts_x0_1 (a0 : List Sc) (b1 : List Sc) (e : Unit) : X × List AV := (.out 0, enc f_l_sameInts_g0_1 [])
def f_l_sameInts_g0_2 : List Sh := [.u, .u, .u, .u, .p .boo, .u, .u, .u, .u, .u, .u, .u, .u, .u, .u, .u, .u, .u, .u, .u, .u, .u, .u, .u, .u, .u]
def f_l_sameInts_x0_2 (a0 : List Sc) (b1 : List Sc) (e : Unit) : X × List AV := (.ret, enc f_l_sameInts_g0_2 [.b false])
theorem f_l_sameInts_p0 {R : Type} (a0 : List Sc) (b1 : List Sc) (s : Int) (kN : Int → Option R) (kA : Unit → Option R) (kB : Unit → Option R) : f_l_sameInts_k0 a0 b1 s kN kA kB = (f_l_sameInts_r0 a0 b1 s).bind (Ro.el kN kA kB) := by
  simp only [f_l_sameInts_k0, f_l_sameInts_r0, brB, someB, noneB, Ro.el]
theorem f_l_sameInts_e0 (a0 : List Sc) (b1 : List Sc) (s : Int) : EC E0 f_l_sameInts_M H0 f_l_sameInts_F (asL (noL)) 0 (bodyOf Try.f24 0) (f_l_sameInts_fr0 a0 b1 s) (done (klOf f_l_sameInts_F 0)) = f_l_sameInts_k0 a0 b1 s (fun s => some (.norm, f_l_sameInts_fr0 a0 b1 s)) (fun e => some (f_l_sameInts_x0_1 a0 b1 e)) (fun e => some (f_l_sameInts_x0_2 a0 b1 e)) := by kernel_rfl
theorem f_l_sameInts_l0 (a0 : List Sc) (b1 : List Sc) : ∀ s r, loopL (f_l_sameInts_r0 a0 b1) s = some r → LS Try.prog f_l_sameInts_F (bodyOf Try.f24 0) (f_l_sameInts_fr0 a0 b1 s) (enX (f_l_sameInts_x0_1 a0 b1) (f_l_sameInts_x0_2 a0 b1) r) :=
  loop_true E0ok f_l_sameInts_Mt (noL_true) f_l_sameInts_o (fun _ h => by cases h) (fun _ h => by cases h) (fun s => (f_l_sameInts_e0 a0 b1 s).trans (f_l_sameInts_p0 a0 b1 s _ _ (fun e => some (f_l_sameInts_x0_2 a0 b1 e))))
def f_l_sameInts_t0 (σ : List AV) : Option (Bool × Bool × (X × List AV) × (X × List AV)) := match dec f_l_sameInts_h0 σ with
  | some [.l a0, .l b1, .i i5] => some ((loopL (f_l_sameInts_r0 a0 b1) i5).isSome, isOne (loopL (f_l_sameInts_r0 a0 b1) i5), f_l_sameInts_x0_1 a0 b1 (getOne () (loopL (f_l_sameInts_r0 a0 b1) i5)), f_l_sameInts_x0_2 a0 b1 (getTwo () (loopL (f_l_sameInts_r0 a0 b1) i5)))
  | _ => none
theorem f_l_sameInts_tt0 : TTrue Try.prog f_l_sameInts_F Try.f24 0 (f_l_sameInts_t0) := by
  intro σ p r r' h
  unfold f_l_sameInts_t0 at h
  split at h
  · rename_i hd
    rw [← dec_enc hd]
    exact row2 (f_l_sameInts_l0 _ _ _) h
  · cases h
theorem f_l_sameInts_p {R : Type} (a0 : List Sc) (b1 : List Sc) (kR : Bool → Option R) : f_l_sameInts_k a0 b1 kR = (f_l_sameInts_k a0 b1 some).bind kR := by
  simp only [f_l_sameInts_k, brB, blB, someB]
theorem f_l_sameInts_e (a0 : List Sc) (b1 : List Sc) : runFn E0 f_l_sameInts_M H0 f_l_sameInts_F (asL (addL 0 (f_l_sameInts_t0) (noL))) Try.f24 (f_l_sameInts_a a0 b1) (f_l_sameInts_i a0 b1) = f_l_sameInts_k a0 b1 (fun r => some (f_l_sameInts_en r)) := by kernel_rfl
theorem f_l_sameInts_ok (a0 : List Sc) (b1 : List Sc) (r : Bool) (h : f_l_sameInts a0 b1 = some r) : CS Try.prog 24 (f_l_sameInts_a a0 b1) (f_l_sameInts_i a0 b1) (f_l_sameInts_en r).1 (f_l_sameInts_en r).2 :=
  fn_true (Gk := fun k => f_l_sameInts_k a0 b1 k) (en := f_l_sameInts_en) Try.func24 E0ok f_l_sameInts_Mt (addL_true (f_l_sameInts_tt0) (noL_true)) f_l_sameInts_o (f_l_sameInts_e a0 b1) (f_l_sameInts_p a0 b1) h
def f_l_sameInts_c : CRow := fun args inh => match dec2 [.p .sl, .p .sl] [] args inh with
  | some ([.l a0, .l b1], []) => some ((f_l_sameInts a0 b1).isSome, (f_l_sameInts_en ((f_l_sameInts a0 b1).getD false)).1, (f_l_sameInts_en ((f_l_sameInts a0 b1).getD false)).2)
  | _ => none
theorem f_l_sameInts_cc : CTrue Try.prog 24 f_l_sameInts_c := by
  intro args inh rs out h
  unfold f_l_sameInts_c at h
  split at h
  · rename_i hd
    obtain ⟨h1, h2⟩ := dec2_enc hd
    rw [← h1, ← h2]
    exact rowC (f_l_sameInts_ok _ _) h
  · cases h

def f_l_total_F : Fi := { nv := 0, nc := 0, m := 0, vt := [], kl := [(0, ([1, 2, 5, 6, 7, 8, 9, 10, 11, 12, 13, 14, 15, 16, 17], [0, 1, 2, 4, 5, 6, 7, 8, 9, 10, 11, 12, 13, 14, 15, 16, 17], [0, 1, 3, 4, 5, 6, 7, 8, 9, 10, 11, 12, 13, 14, 15, 16, 17]))], sk := [], mvs := [], fz := [] }
def f_l_total_a (l0 : List Sc) : List AV := enc [.p .sl] [.l l0]
def f_l_total_i (l0 : List Sc) : List AV := enc [] []
def f_l_total_en (r : Int) : List AV × List AV := (enc [.p (.int .i64)] [.i r], enc [] [])
def f_l_total_M : Calling := noC
theorem f_l_total_Mt : CallOk Try.prog (f_l_total_M) := noC_true
theorem f_l_total_o : loopsOnce Try.f25 = true := by kernel_rfl
def f_l_total_h0 : List Sh := [.p .sl, .u, .u, .p (.int .i64), .p (.int .i64), .u, .u, .u, .u, .u, .u, .u, .u, .u, .u, .u, .u, .u]
def f_l_total_fr0 (l0 : List Sc) (s : Int × Int) : List AV := enc f_l_total_h0 [.l l0, .i s.1, .i s.2]
def f_l_total_g0_1 : List Sh := [.u, .u, .u, .p (.int .i64), .u, .u, .u, .u, .u, .u, .u, .u, .u, .u, .u, .u, .u, .u]
def f_l_total_x0_1 (l0 : List Sc) (e : Int) : X × List AV := (.out 0, enc f_l_total_g0_1 [.i e])
def f_l_total_x0_2 (l0 : List Sc) (_e : Unit) : X × List AV := (.ret, [])
theorem f_l_total_p0 {R : Type} (l0 : List Sc) (s : Int × Int) (kN : Int × Int → Option R) (kA : Int → Option R) (kB : Unit → Option R) : f_l_total_k0 l0 s.1 s.2 kN kA = (f_l_total_r0 l0 s).bind (Ro.el kN kA kB) := by
  simp only [f_l_total_k0, f_l_total_r0, brB, someB, noneB, Ro.el]
theorem f_l_total_e0 (l0 : List Sc) (s : Int × Int) : EC E0 f_l_total_M H0 f_l_total_F (asL (noL)) 0 (bodyOf Try.f25 0) (f_l_total_fr0 l0 s) (done (klOf f_l_total_F 0)) = f_l_total_k0 l0 s.1 s.2 (fun s => some (.norm, f_l_total_fr0 l0 s)) (fun e => some (f_l_total_x0_1 l0 e)) := by kernel_rfl
theorem f_l_total_l0 (l0 : List Sc) : ∀ s r, loopL (f_l_total_r0 l0) s = some r → LS Try.prog f_l_total_F (bodyOf Try.f25 0) (f_l_total_fr0 l0 s) (enX (f_l_total_x0_1 l0) (f_l_total_x0_2 l0) r) :=
  loop_true E0ok f_l_total_Mt (noL_true) f_l_total_o (fun _ h => by cases h) (fun _ h => by cases h) (fun s => (f_l_total_e0 l0 s).trans (f_l_total_p0 l0 s _ _ (fun e => some (f_l_total_x0_2 l0 e))))
def f_l_total_t0 (σ : List AV) : Option (Bool × Bool × (X × List AV) × (X × List AV)) := match dec f_l_total_h0 σ with
  | some [.l l0, .i n3, .i i4] => some (isOne (loopL (f_l_total_r0 l0) (n3, i4)), true, f_l_total_x0_1 l0 (getOne 0 (loopL (f_l_total_r0 l0) (n3, i4))), (.ret, []))
  | _ => none
theorem f_l_total_tt0 : TTrue Try.prog f_l_total_F Try.f25 0 (f_l_total_t0) := by
  intro σ p r r' h
  unfold f_l_total_t0 at h
  split at h
  · rename_i hd
    rw [← dec_enc hd]
    exact row1 (f_l_total_l0 _ _) h
  · cases h
theorem f_l_total_p {R : Type} (l0 : List Sc) (kR : Int → Option R) : f_l_total_k l0 kR = (f_l_total_k l0 some).bind kR := by
  simp only [f_l_total_k, bl1B, someB]
theorem f_l_total_e (l0 : List Sc) : runFn E0 f_l_total_M H0 f_l_total_F (asL (addL 0 (f_l_total_t0) (noL))) Try.f25 (f_l_total_a l0) (f_l_total_i l0) = f_l_total_k l0 (fun r => some (f_l_total_en r)) := by kernel_rfl
theorem f_l_total_ok (l0 : List Sc) (r : Int) (h : f_l_total l0 = some r) : CS Try.prog 25 (f_l_total_a l0) (f_l_total_i l0) (f_l_total_en r).1 (f_l_total_en r).2 :=
  fn_true (Gk := fun k => f_l_total_k l0 k) (en := f_l_total_en) Try.func25 E0ok f_l_total_Mt (addL_true (f_l_total_tt0) (noL_true)) f_l_total_o (f_l_total_e l0) (f_l_total_p l0) h
def f_l_total_c : CRow := fun args inh => match dec2 [.p .sl] [] args inh with
  | some ([.l l0], []) => some ((f_l_total l0).isSome, (f_l_total_en ((f_l_total l0).getD 0)).1, (f_l_total_en ((f_l_total l0).getD 0)).2)
  | _ => none
theorem f_l_total_cc : CTrue Try.prog 25 f_l_total_c := by
  intro args inh rs out h
  unfold f_l_total_c at h
  split at h
  · rename_i hd
    obtain ⟨h1, h2⟩ := dec2_enc hd
    rw [← h1, ← h2]
    exact rowC (f_l_total_ok _) h
  · cases h

def f_s_l18Group_F : Fi := { nv := 4, nc := 4, m := 0, vt := [(2, 0), (6, 1)], kl := [], sk := [], mvs := [], fz := [], fl := [7, 8, 9, 10, 11, 12, 13, 14] }
def f_s_l18Group_a (code0 : List Sc) : List AV := enc [.p .sl] [.l code0]
def f_s_l18Group_i (code0 : List Sc) : List AV := enc [] []
def f_s_l18Group_en (r : List Sc) : List AV × List AV := (enc [.p .gr] [.l r], enc [] [])
def f_s_l18Group_M : Calling := addC 162 f_s_l1New_c (addC 166 f_s_l1Below_io_c (noC))
theorem f_s_l18Group_Mt : CallOk Try.prog (f_s_l18Group_M) := addC_true f_s_l1New_cc (addC_true f_s_l1Below_io_cc (noC_true))
theorem f_s_l18Group_o : loopsOnce Try.f175 = true := by kernel_rfl
theorem f_s_l18Group_p {R : Type} (code0 : List Sc) (kR : List Sc → Option R) : f_s_l18Group_k code0 kR = (f_s_l18Group_k code0 some).bind kR := by
  simp only [f_s_l18Group_k, brB, boB, someB, noneB]
theorem f_s_l18Group_e (code0 : List Sc) : runFn E0 f_s_l18Group_M H0 f_s_l18Group_F (asL (noL)) Try.f175 (f_s_l18Group_a code0) (f_s_l18Group_i code0) = f_s_l18Group_k code0 (fun r => some (f_s_l18Group_en r)) := by kernel_rfl
theorem f_s_l18Group_ok (code0 : List Sc) (r : List Sc) (h : f_s_l18Group code0 = some r) : CS Try.prog 175 (f_s_l18Group_a code0) (f_s_l18Group_i code0) (f_s_l18Group_en r).1 (f_s_l18Group_en r).2 :=
  fn_true (Gk := fun k => f_s_l18Group_k code0 k) (en := f_s_l18Group_en) Try.func175 E0ok f_s_l18Group_Mt (noL_true) f_s_l18Group_o (f_s_l18Group_e code0) (f_s_l18Group_p code0) h
def f_s_l18Group_c : CRow := fun args inh => match dec2 [.p .sl] [] args inh with
  | some ([.l code0], []) => some ((f_s_l18Group code0).isSome, (f_s_l18Group_en ((f_s_l18Group code0).getD [])).1, (f_s_l18Group_en ((f_s_l18Group code0).getD [])).2)
  | _ => none
theorem f_s_l18Group_cc : CTrue Try.prog 175 f_s_l18Group_c := by
  intro args inh rs out h
  unfold f_s_l18Group_c at h
  split at h
  · rename_i hd
    obtain ⟨h1, h2⟩ := dec2_enc hd
    rw [← h1, ← h2]
    exact rowC (f_s_l18Group_ok _) h
  · cases h

def f_s_DrawEgzExample_F : Fi := { nv := 1, nc := 1, m := 0, vt := [(2, 0)], kl := [], sk := [], mvs := [], fz := [] }
def f_s_DrawEgzExample_a (code0 : List Sc) : List AV := enc [.p .sl] [.l code0]
def f_s_DrawEgzExample_i (code0 : List Sc) : List AV := enc [] []
def f_s_DrawEgzExample_en (r : List Sc) : List AV × List AV := (enc [.p .gr] [.l r], enc [] [])
def f_s_DrawEgzExample_M : Calling := addC 175 f_s_l18Group_c (noC)
theorem f_s_DrawEgzExample_Mt : CallOk Try.prog (f_s_DrawEgzExample_M) := addC_true f_s_l18Group_cc (noC_true)
theorem f_s_DrawEgzExample_o : loopsOnce Try.f65 = true := by kernel_rfl
theorem f_s_DrawEgzExample_p {R : Type} (code0 : List Sc) (kR : List Sc → Option R) : f_s_DrawEgzExample_k code0 kR = (f_s_DrawEgzExample_k code0 some).bind kR := by
  simp only [f_s_DrawEgzExample_k, boB, someB]
theorem f_s_DrawEgzExample_e (code0 : List Sc) : runFn E0 f_s_DrawEgzExample_M H0 f_s_DrawEgzExample_F (asL (noL)) Try.f65 (f_s_DrawEgzExample_a code0) (f_s_DrawEgzExample_i code0) = f_s_DrawEgzExample_k code0 (fun r => some (f_s_DrawEgzExample_en r)) := by kernel_rfl
theorem f_s_DrawEgzExample_ok (code0 : List Sc) (r : List Sc) (h : f_s_DrawEgzExample code0 = some r) : CS Try.prog 65 (f_s_DrawEgzExample_a code0) (f_s_DrawEgzExample_i code0) (f_s_DrawEgzExample_en r).1 (f_s_DrawEgzExample_en r).2 :=
  fn_true (Gk := fun k => f_s_DrawEgzExample_k code0 k) (en := f_s_DrawEgzExample_en) Try.func65 E0ok f_s_DrawEgzExample_Mt (noL_true) f_s_DrawEgzExample_o (f_s_DrawEgzExample_e code0) (f_s_DrawEgzExample_p code0) h
def f_s_DrawEgzExample_c : CRow := fun args inh => match dec2 [.p .sl] [] args inh with
  | some ([.l code0], []) => some ((f_s_DrawEgzExample code0).isSome, (f_s_DrawEgzExample_en ((f_s_DrawEgzExample code0).getD [])).1, (f_s_DrawEgzExample_en ((f_s_DrawEgzExample code0).getD [])).2)
  | _ => none
theorem f_s_DrawEgzExample_cc : CTrue Try.prog 65 f_s_DrawEgzExample_c := by
  intro args inh rs out h
  unfold f_s_DrawEgzExample_c at h
  split at h
  · rename_i hd
    obtain ⟨h1, h2⟩ := dec2_enc hd
    rw [← h1, ← h2]
    exact rowC (f_s_DrawEgzExample_ok _) h
  · cases h

def f_i_IsGroup_F : Fi := { nv := 0, nc := 0, m := 0, vt := [], kl := [(0, ([0, 1, 2, 4, 5, 6, 7, 8, 9, 10, 14, 15, 16, 17, 18, 19, 20, 21, 22, 23, 24, 25], [0, 1, 2, 4, 5, 6, 7, 8, 9, 10, 11, 12, 13, 14, 15, 16, 17, 18, 19, 20, 21, 22, 23, 24, 25], [0, 1, 3, 4, 5, 6, 7, 8, 9, 10, 11, 12, 13, 14, 15, 16, 17, 18, 19, 20, 21, 22, 23, 24, 25]))], sk := [], mvs := [], fz := [] }
def f_i_IsGroup_a (g0 : List Sc) : List AV := enc [.p .gr] [.l g0]
def f_i_IsGroup_i (g0 : List Sc) : List AV := enc [] []
def f_i_IsGroup_en (r : Bool) : List AV × List AV := (enc [.p .boo] [.b r], enc [] [])
def f_i_IsGroup_M : Calling := addC 144 f_i_within_c (noC)
theorem f_i_IsGroup_Mt : CallOk Try.prog (f_i_IsGroup_M) := addC_true f_i_within_cc (noC_true)
theorem f_i_IsGroup_o : loopsOnce Try.f142 = true := by kernel_rfl
def f_i_IsGroup_h0 : List Sh := [.u, .u, .u, .p (.int .i64), .u, .u, .u, .u, .u, .u, .u, .p .sl, .p (.int .i64), .p (.int .i64), .u, .u, .u, .u, .u, .u, .u, .u, .u, .u, .u, .u]
def f_i_IsGroup_fr0 (t11 : List Sc) (t12 : Int) (s : Int × Int) : List AV := enc f_i_IsGroup_h0 [.i s.1, .l t11, .i t12, .i s.2]
def f_i_IsGroup_g0_1 : List Sh := [.u, .u, .u, .p (.int .i64), .u, .u, .u, .u, .u, .u, .u, .u, .u, .u, .u, .u, .u, .u, .u, .u, .u, .u, .u, .u, .u, .u]
def f_i_IsGroup_x0_1 (t11 : List Sc) (t12 : Int) (e : Int) : X × List AV := (.out 0, enc f_i_IsGroup_g0_1 [.i e])
def f_i_IsGroup_g0_2 : List Sh := [.u, .u, .p .boo, .u, .u, .u, .u, .u, .u, .u, .u, .u, .u, .u, .u, .u, .u, .u, .u, .u, .u, .u, .u, .u, .u, .u]
def f_i_IsGroup_x0_2 (t11 : List Sc) (t12 : Int) (e : Unit) : X × List AV := (.ret, enc f_i_IsGroup_g0_2 [.b false])
theorem f_i_IsGroup_p0 {R : Type} (t11 : List Sc) (t12 : Int) (s : Int × Int) (kN : Int × Int → Option R) (kA : Int → Option R) (kB : Unit → Option R) : f_i_IsGroup_k0 t11 t12 s.1 s.2 kN kA kB = (f_i_IsGroup_r0 t11 t12 s).bind (Ro.el kN kA kB) := by
  simp only [f_i_IsGroup_k0, f_i_IsGroup_r0, brB, boB, someB, noneB, Ro.el]
theorem f_i_IsGroup_e0 (t11 : List Sc) (t12 : Int) (s : Int × Int) : EC E0 f_i_IsGroup_M H0 f_i_IsGroup_F (asL (noL)) 0 (bodyOf Try.f142 0) (f_i_IsGroup_fr0 t11 t12 s) (done (klOf f_i_IsGroup_F 0)) = f_i_IsGroup_k0 t11 t12 s.1 s.2 (fun s => some (.norm, f_i_IsGroup_fr0 t11 t12 s)) (fun e => some (f_i_IsGroup_x0_1 t11 t12 e)) (fun e => some (f_i_IsGroup_x0_2 t11 t12 e)) := by kernel_rfl
theorem f_i_IsGroup_l0 (t11 : List Sc) (t12 : Int) : ∀ s r, loopL (f_i_IsGroup_r0 t11 t12) s = some r → LS Try.prog f_i_IsGroup_F (bodyOf Try.f142 0) (f_i_IsGroup_fr0 t11 t12 s) (enX (f_i_IsGroup_x0_1 t11 t12) (f_i_IsGroup_x0_2 t11 t12) r) :=
  loop_true E0ok f_i_IsGroup_Mt (noL_true) f_i_IsGroup_o (fun _ h => by cases h) (fun _ h => by cases h) (fun s => (f_i_IsGroup_e0 t11 t12 s).trans (f_i_IsGroup_p0 t11 t12 s _ _ (fun e => some (f_i_IsGroup_x0_2 t11 t12 e))))
def f_i_IsGroup_t0 (σ : List AV) : Option (Bool × Bool × (X × List AV) × (X × List AV)) := match dec f_i_IsGroup_h0 σ with
  | some [.i n3, .l t11, .i t12, .i t13] => some ((loopL (f_i_IsGroup_r0 t11 t12) (n3, t13)).isSome, isOne (loopL (f_i_IsGroup_r0 t11 t12) (n3, t13)), f_i_IsGroup_x0_1 t11 t12 (getOne 0 (loopL (f_i_IsGroup_r0 t11 t12) (n3, t13))), f_i_IsGroup_x0_2 t11 t12 (getTwo () (loopL (f_i_IsGroup_r0 t11 t12) (n3, t13))))
  | _ => none
theorem f_i_IsGroup_tt0 : TTrue Try.prog f_i_IsGroup_F Try.f142 0 (f_i_IsGroup_t0) := by
  intro σ p r r' h
  unfold f_i_IsGroup_t0 at h
  split at h
  · rename_i hd
    rw [← dec_enc hd]
    exact row2 (f_i_IsGroup_l0 _ _ _) h
  · cases h
theorem f_i_IsGroup_p {R : Type} (g0 : List Sc) (kR : Bool → Option R) : f_i_IsGroup_k g0 kR = (f_i_IsGroup_k g0 some).bind kR := by
  simp only [f_i_IsGroup_k, brB, blB, someB]
theorem f_i_IsGroup_e (g0 : List Sc) : runFn E0 f_i_IsGroup_M H0 f_i_IsGroup_F (asL (addL 0 (f_i_IsGroup_t0) (noL))) Try.f142 (f_i_IsGroup_a g0) (f_i_IsGroup_i g0) = f_i_IsGroup_k g0 (fun r => some (f_i_IsGroup_en r)) := by kernel_rfl
theorem f_i_IsGroup_ok (g0 : List Sc) (r : Bool) (h : f_i_IsGroup g0 = some r) : CS Try.prog 142 (f_i_IsGroup_a g0) (f_i_IsGroup_i g0) (f_i_IsGroup_en r).1 (f_i_IsGroup_en r).2 :=
  fn_true (Gk := fun k => f_i_IsGroup_k g0 k) (en := f_i_IsGroup_en) Try.func142 E0ok f_i_IsGroup_Mt (addL_true (f_i_IsGroup_tt0) (noL_true)) f_i_IsGroup_o (f_i_IsGroup_e g0) (f_i_IsGroup_p g0) h
def f_i_IsGroup_c : CRow := fun args inh => match dec2 [.p .gr] [] args inh with
  | some ([.l g0], []) => some ((f_i_IsGroup g0).isSome, (f_i_IsGroup_en ((f_i_IsGroup g0).getD false)).1, (f_i_IsGroup_en ((f_i_IsGroup g0).getD false)).2)
  | _ => none
theorem f_i_IsGroup_cc : CTrue Try.prog 142 f_i_IsGroup_c := by
  intro args inh rs out h
  unfold f_i_IsGroup_c at h
  split at h
  · rename_i hd
    obtain ⟨h1, h2⟩ := dec2_enc hd
    rw [← h1, ← h2]
    exact rowC (f_i_IsGroup_ok _) h
  · cases h

def f_i_OrderOf_F : Fi := { nv := 0, nc := 0, m := 0, vt := [], kl := [(0, ([0, 1, 2, 4, 5, 6, 7, 8, 9, 13, 14, 15, 16, 17, 18, 19, 20], [0, 1, 2, 4, 5, 6, 7, 8, 9, 10, 11, 12, 13, 14, 15, 16, 17, 18, 19, 20], [0, 1, 3, 4, 5, 6, 7, 8, 9, 10, 11, 12, 13, 14, 15, 16, 17, 18, 19, 20]))], sk := [], mvs := [], fz := [] }
def f_i_OrderOf_a (g0 : List Sc) : List AV := enc [.p .gr] [.l g0]
def f_i_OrderOf_i (g0 : List Sc) : List AV := enc [] []
def f_i_OrderOf_en (r : Int) : List AV × List AV := (enc [.p (.int .i64)] [.i r], enc [] [])
def f_i_OrderOf_M : Calling := addC 142 f_i_IsGroup_c (noC)
theorem f_i_OrderOf_Mt : CallOk Try.prog (f_i_OrderOf_M) := addC_true f_i_IsGroup_cc (noC_true)
theorem f_i_OrderOf_o : loopsOnce Try.f122 = true := by kernel_rfl
def f_i_OrderOf_h0 : List Sh := [.u, .u, .u, .p (.int .i64), .u, .u, .u, .u, .u, .u, .p .sl, .p (.int .i64), .p (.int .i64), .u, .u, .u, .u, .u, .u, .u, .u]
def f_i_OrderOf_fr0 (t10 : List Sc) (t11 : Int) (s : Int × Int) : List AV := enc f_i_OrderOf_h0 [.i s.1, .l t10, .i t11, .i s.2]
def f_i_OrderOf_g0_1 : List Sh := [.u, .u, .u, .p (.int .i64), .u, .u, .u, .u, .u, .u, .u, .u, .u, .u, .u, .u, .u, .u, .u, .u, .u]
def f_i_OrderOf_x0_1 (t10 : List Sc) (t11 : Int) (e : Int) : X × List AV := (.out 0, enc f_i_OrderOf_g0_1 [.i e])
def f_i_OrderOf_x0_2 (t10 : List Sc) (t11 : Int) (_e : Unit) : X × List AV := (.ret, [])
theorem f_i_OrderOf_p0 {R : Type} (t10 : List Sc) (t11 : Int) (s : Int × Int) (kN : Int × Int → Option R) (kA : Int → Option R) (kB : Unit → Option R) : f_i_OrderOf_k0 t10 t11 s.1 s.2 kN kA = (f_i_OrderOf_r0 t10 t11 s).bind (Ro.el kN kA kB) := by
  simp only [f_i_OrderOf_k0, f_i_OrderOf_r0, brB, someB, noneB, Ro.el]
theorem f_i_OrderOf_e0 (t10 : List Sc) (t11 : Int) (s : Int × Int) : EC E0 f_i_OrderOf_M H0 f_i_OrderOf_F (asL (noL)) 0 (bodyOf Try.f122 0) (f_i_OrderOf_fr0 t10 t11 s) (done (klOf f_i_OrderOf_F 0)) = f_i_OrderOf_k0 t10 t11 s.1 s.2 (fun s => some (.norm, f_i_OrderOf_fr0 t10 t11 s)) (fun e => some (f_i_OrderOf_x0_1 t10 t11 e)) := by kernel_rfl
theorem f_i_OrderOf_l0 (t10 : List Sc) (t11 : Int) : ∀ s r, loopL (f_i_OrderOf_r0 t10 t11) s = some r → LS Try.prog f_i_OrderOf_F (bodyOf Try.f122 0) (f_i_OrderOf_fr0 t10 t11 s) (enX (f_i_OrderOf_x0_1 t10 t11) (f_i_OrderOf_x0_2 t10 t11) r) :=
  loop_true E0ok f_i_OrderOf_Mt (noL_true) f_i_OrderOf_o (fun _ h => by cases h) (fun _ h => by cases h) (fun s => (f_i_OrderOf_e0 t10 t11 s).trans (f_i_OrderOf_p0 t10 t11 s _ _ (fun e => some (f_i_OrderOf_x0_2 t10 t11 e))))
def f_i_OrderOf_t0 (σ : List AV) : Option (Bool × Bool × (X × List AV) × (X × List AV)) := match dec f_i_OrderOf_h0 σ with
  | some [.i n3, .l t10, .i t11, .i t12] => some (isOne (loopL (f_i_OrderOf_r0 t10 t11) (n3, t12)), true, f_i_OrderOf_x0_1 t10 t11 (getOne 0 (loopL (f_i_OrderOf_r0 t10 t11) (n3, t12))), (.ret, []))
  | _ => none
theorem f_i_OrderOf_tt0 : TTrue Try.prog f_i_OrderOf_F Try.f122 0 (f_i_OrderOf_t0) := by
  intro σ p r r' h
  unfold f_i_OrderOf_t0 at h
  split at h
  · rename_i hd
    rw [← dec_enc hd]
    exact row1 (f_i_OrderOf_l0 _ _ _) h
  · cases h
theorem f_i_OrderOf_p {R : Type} (g0 : List Sc) (kR : Int → Option R) : f_i_OrderOf_k g0 kR = (f_i_OrderOf_k g0 some).bind kR := by
  simp only [f_i_OrderOf_k, brB, boB, bl1B, someB]
theorem f_i_OrderOf_e (g0 : List Sc) : runFn E0 f_i_OrderOf_M H0 f_i_OrderOf_F (asL (addL 0 (f_i_OrderOf_t0) (noL))) Try.f122 (f_i_OrderOf_a g0) (f_i_OrderOf_i g0) = f_i_OrderOf_k g0 (fun r => some (f_i_OrderOf_en r)) := by kernel_rfl
theorem f_i_OrderOf_ok (g0 : List Sc) (r : Int) (h : f_i_OrderOf g0 = some r) : CS Try.prog 122 (f_i_OrderOf_a g0) (f_i_OrderOf_i g0) (f_i_OrderOf_en r).1 (f_i_OrderOf_en r).2 :=
  fn_true (Gk := fun k => f_i_OrderOf_k g0 k) (en := f_i_OrderOf_en) Try.func122 E0ok f_i_OrderOf_Mt (addL_true (f_i_OrderOf_tt0) (noL_true)) f_i_OrderOf_o (f_i_OrderOf_e g0) (f_i_OrderOf_p g0) h
def f_i_OrderOf_c : CRow := fun args inh => match dec2 [.p .gr] [] args inh with
  | some ([.l g0], []) => some ((f_i_OrderOf g0).isSome, (f_i_OrderOf_en ((f_i_OrderOf g0).getD 0)).1, (f_i_OrderOf_en ((f_i_OrderOf g0).getD 0)).2)
  | _ => none
theorem f_i_OrderOf_cc : CTrue Try.prog 122 f_i_OrderOf_c := by
  intro args inh rs out h
  unfold f_i_OrderOf_c at h
  split at h
  · rename_i hd
    obtain ⟨h1, h2⟩ := dec2_enc hd
    rw [← h1, ← h2]
    exact rowC (f_i_OrderOf_ok _) h
  · cases h

def f_i_gcd_F : Fi := { nv := 0, nc := 0, m := 0, vt := [], kl := [(0, ([2, 3, 4, 5, 6, 7, 8, 9, 10, 11], [1, 2, 3, 4, 5, 6, 7, 8, 9, 10, 11], [0, 1, 2, 3, 5, 6, 7, 8, 9, 10, 11]))], sk := [], mvs := [], fz := [] }
def f_i_gcd_a (a0 : Int) (b1 : Int) : List AV := enc [.p (.int .i64), .p (.int .i64)] [.i a0, .i b1]
def f_i_gcd_i (a0 : Int) (b1 : Int) : List AV := enc [] []
def f_i_gcd_en (r : Int) : List AV × List AV := (enc [.p (.int .i64)] [.i r], enc [] [])
def f_i_gcd_M : Calling := noC
theorem f_i_gcd_Mt : CallOk Try.prog (f_i_gcd_M) := noC_true
theorem f_i_gcd_o : loopsOnce Try.f190 = true := by kernel_rfl
def f_i_gcd_h0 : List Sh := [.p (.int .i64), .p (.int .i64), .u, .u, .u, .u, .u, .u, .u, .u, .u, .u]
def f_i_gcd_fr0 (s : Int × Int) : List AV := enc f_i_gcd_h0 [.i s.1, .i s.2]
def f_i_gcd_g0_1 : List Sh := [.p (.int .i64), .u, .u, .u, .u, .u, .u, .u, .u, .u, .u, .u]
def f_i_gcd_x0_1 (e : Int) : X × List AV := (.out 0, enc f_i_gcd_g0_1 [.i e])
def f_i_gcd_x0_2 (_e : Unit) : X × List AV := (.ret, [])
theorem f_i_gcd_p0 {R : Type} (s : Int × Int) (kN : Int × Int → Option R) (kA : Int → Option R) (kB : Unit → Option R) : f_i_gcd_k0 s.1 s.2 kN kA = (f_i_gcd_r0 s).bind (Ro.el kN kA kB) := by
  simp only [f_i_gcd_k0, f_i_gcd_r0, brB, someB, noneB, Ro.el]
theorem f_i_gcd_e0 (s : Int × Int) : EC E0 f_i_gcd_M H0 f_i_gcd_F (asL (noL)) 0 (bodyOf Try.f190 0) (f_i_gcd_fr0 s) (done (klOf f_i_gcd_F 0)) = f_i_gcd_k0 s.1 s.2 (fun s => some (.norm, f_i_gcd_fr0 s)) (fun e => some (f_i_gcd_x0_1 e)) := by kernel_rfl
theorem f_i_gcd_l0 : ∀ s r, loopL (f_i_gcd_r0) s = some r → LS Try.prog f_i_gcd_F (bodyOf Try.f190 0) (f_i_gcd_fr0 s) (enX (f_i_gcd_x0_1) (f_i_gcd_x0_2) r) :=
  loop_true E0ok f_i_gcd_Mt (noL_true) f_i_gcd_o (fun _ h => by cases h) (fun _ h => by cases h) (fun s => (f_i_gcd_e0 s).trans (f_i_gcd_p0 s _ _ (fun e => some (f_i_gcd_x0_2 e))))
def f_i_gcd_t0 (σ : List AV) : Option (Bool × Bool × (X × List AV) × (X × List AV)) := match dec f_i_gcd_h0 σ with
  | some [.i a0, .i b1] => some (isOne (loopL (f_i_gcd_r0) (a0, b1)), true, f_i_gcd_x0_1 (getOne 0 (loopL (f_i_gcd_r0) (a0, b1))), (.ret, []))
  | _ => none
theorem f_i_gcd_tt0 : TTrue Try.prog f_i_gcd_F Try.f190 0 (f_i_gcd_t0) := by
  intro σ p r r' h
  unfold f_i_gcd_t0 at h
  split at h
  · rename_i hd
    rw [← dec_enc hd]
    exact row1 (f_i_gcd_l0 _) h
  · cases h
theorem f_i_gcd_p {R : Type} (a0 : Int) (b1 : Int) (kR : Int → Option R) : f_i_gcd_k a0 b1 kR = (f_i_gcd_k a0 b1 some).bind kR := by
  simp only [f_i_gcd_k, bl1B, someB]
theorem f_i_gcd_e (a0 : Int) (b1 : Int) : runFn E0 f_i_gcd_M H0 f_i_gcd_F (asL (addL 0 (f_i_gcd_t0) (noL))) Try.f190 (f_i_gcd_a a0 b1) (f_i_gcd_i a0 b1) = f_i_gcd_k a0 b1 (fun r => some (f_i_gcd_en r)) := by kernel_rfl
theorem f_i_gcd_ok (a0 : Int) (b1 : Int) (r : Int) (h : f_i_gcd a0 b1 = some r) : CS Try.prog 190 (f_i_gcd_a a0 b1) (f_i_gcd_i a0 b1) (f_i_gcd_en r).1 (f_i_gcd_en r).2 :=
  fn_true (Gk := fun k => f_i_gcd_k a0 b1 k) (en := f_i_gcd_en) Try.func190 E0ok f_i_gcd_Mt (addL_true (f_i_gcd_tt0) (noL_true)) f_i_gcd_o (f_i_gcd_e a0 b1) (f_i_gcd_p a0 b1) h
def f_i_gcd_c : CRow := fun args inh => match dec2 [.p (.int .i64), .p (.int .i64)] [] args inh with
  | some ([.i a0, .i b1], []) => some ((f_i_gcd a0 b1).isSome, (f_i_gcd_en ((f_i_gcd a0 b1).getD 0)).1, (f_i_gcd_en ((f_i_gcd a0 b1).getD 0)).2)
  | _ => none
theorem f_i_gcd_cc : CTrue Try.prog 190 f_i_gcd_c := by
  intro args inh rs out h
  unfold f_i_gcd_c at h
  split at h
  · rename_i hd
    obtain ⟨h1, h2⟩ := dec2_enc hd
    rw [← h1, ← h2]
    exact rowC (f_i_gcd_ok _ _) h
  · cases h

def f_i_ExponentOf_F : Fi := { nv := 0, nc := 0, m := 0, vt := [], kl := [(0, ([0, 1, 2, 4, 5, 6, 7, 8, 9, 13, 14, 15, 16, 17, 18, 19, 20, 21, 22, 23, 24], [0, 1, 2, 4, 5, 6, 7, 8, 9, 10, 11, 12, 13, 14, 15, 16, 17, 18, 19, 20, 21, 22, 23, 24], [0, 1, 3, 4, 5, 6, 7, 8, 9, 10, 11, 12, 13, 14, 15, 16, 17, 18, 19, 20, 21, 22, 23, 24]))], sk := [], mvs := [], fz := [] }
def f_i_ExponentOf_a (g0 : List Sc) : List AV := enc [.p .gr] [.l g0]
def f_i_ExponentOf_i (g0 : List Sc) : List AV := enc [] []
def f_i_ExponentOf_en (r : Int) : List AV × List AV := (enc [.p (.int .i64)] [.i r], enc [] [])
def f_i_ExponentOf_M : Calling := addC 142 f_i_IsGroup_c (addC 190 f_i_gcd_c (noC))
theorem f_i_ExponentOf_Mt : CallOk Try.prog (f_i_ExponentOf_M) := addC_true f_i_IsGroup_cc (addC_true f_i_gcd_cc (noC_true))
theorem f_i_ExponentOf_o : loopsOnce Try.f176 = true := by kernel_rfl
def f_i_ExponentOf_h0 : List Sh := [.u, .u, .u, .p (.int .i64), .u, .u, .u, .u, .u, .u, .p .sl, .p (.int .i64), .p (.int .i64), .u, .u, .u, .u, .u, .u, .u, .u, .u, .u, .u, .u]
def f_i_ExponentOf_fr0 (t10 : List Sc) (t11 : Int) (s : Int × Int) : List AV := enc f_i_ExponentOf_h0 [.i s.1, .l t10, .i t11, .i s.2]
def f_i_ExponentOf_g0_1 : List Sh := [.u, .u, .u, .p (.int .i64), .u, .u, .u, .u, .u, .u, .u, .u, .u, .u, .u, .u, .u, .u, .u, .u, .u, .u, .u, .u, .u]
def f_i_ExponentOf_x0_1 (t10 : List Sc) (t11 : Int) (e : Int) : X × List AV := (.out 0, enc f_i_ExponentOf_g0_1 [.i e])
def f_i_ExponentOf_x0_2 (t10 : List Sc) (t11 : Int) (_e : Unit) : X × List AV := (.ret, [])
theorem f_i_ExponentOf_p0 {R : Type} (t10 : List Sc) (t11 : Int) (s : Int × Int) (kN : Int × Int → Option R) (kA : Int → Option R) (kB : Unit → Option R) : f_i_ExponentOf_k0 t10 t11 s.1 s.2 kN kA = (f_i_ExponentOf_r0 t10 t11 s).bind (Ro.el kN kA kB) := by
  simp only [f_i_ExponentOf_k0, f_i_ExponentOf_r0, brB, boB, someB, noneB, Ro.el]
theorem f_i_ExponentOf_e0 (t10 : List Sc) (t11 : Int) (s : Int × Int) : EC E0 f_i_ExponentOf_M H0 f_i_ExponentOf_F (asL (noL)) 0 (bodyOf Try.f176 0) (f_i_ExponentOf_fr0 t10 t11 s) (done (klOf f_i_ExponentOf_F 0)) = f_i_ExponentOf_k0 t10 t11 s.1 s.2 (fun s => some (.norm, f_i_ExponentOf_fr0 t10 t11 s)) (fun e => some (f_i_ExponentOf_x0_1 t10 t11 e)) := by kernel_rfl
theorem f_i_ExponentOf_l0 (t10 : List Sc) (t11 : Int) : ∀ s r, loopL (f_i_ExponentOf_r0 t10 t11) s = some r → LS Try.prog f_i_ExponentOf_F (bodyOf Try.f176 0) (f_i_ExponentOf_fr0 t10 t11 s) (enX (f_i_ExponentOf_x0_1 t10 t11) (f_i_ExponentOf_x0_2 t10 t11) r) :=
  loop_true E0ok f_i_ExponentOf_Mt (noL_true) f_i_ExponentOf_o (fun _ h => by cases h) (fun _ h => by cases h) (fun s => (f_i_ExponentOf_e0 t10 t11 s).trans (f_i_ExponentOf_p0 t10 t11 s _ _ (fun e => some (f_i_ExponentOf_x0_2 t10 t11 e))))
def f_i_ExponentOf_t0 (σ : List AV) : Option (Bool × Bool × (X × List AV) × (X × List AV)) := match dec f_i_ExponentOf_h0 σ with
  | some [.i n3, .l t10, .i t11, .i t12] => some (isOne (loopL (f_i_ExponentOf_r0 t10 t11) (n3, t12)), true, f_i_ExponentOf_x0_1 t10 t11 (getOne 0 (loopL (f_i_ExponentOf_r0 t10 t11) (n3, t12))), (.ret, []))
  | _ => none
theorem f_i_ExponentOf_tt0 : TTrue Try.prog f_i_ExponentOf_F Try.f176 0 (f_i_ExponentOf_t0) := by
  intro σ p r r' h
  unfold f_i_ExponentOf_t0 at h
  split at h
  · rename_i hd
    rw [← dec_enc hd]
    exact row1 (f_i_ExponentOf_l0 _ _ _) h
  · cases h
theorem f_i_ExponentOf_p {R : Type} (g0 : List Sc) (kR : Int → Option R) : f_i_ExponentOf_k g0 kR = (f_i_ExponentOf_k g0 some).bind kR := by
  simp only [f_i_ExponentOf_k, brB, boB, bl1B, someB]
theorem f_i_ExponentOf_e (g0 : List Sc) : runFn E0 f_i_ExponentOf_M H0 f_i_ExponentOf_F (asL (addL 0 (f_i_ExponentOf_t0) (noL))) Try.f176 (f_i_ExponentOf_a g0) (f_i_ExponentOf_i g0) = f_i_ExponentOf_k g0 (fun r => some (f_i_ExponentOf_en r)) := by kernel_rfl
theorem f_i_ExponentOf_ok (g0 : List Sc) (r : Int) (h : f_i_ExponentOf g0 = some r) : CS Try.prog 176 (f_i_ExponentOf_a g0) (f_i_ExponentOf_i g0) (f_i_ExponentOf_en r).1 (f_i_ExponentOf_en r).2 :=
  fn_true (Gk := fun k => f_i_ExponentOf_k g0 k) (en := f_i_ExponentOf_en) Try.func176 E0ok f_i_ExponentOf_Mt (addL_true (f_i_ExponentOf_tt0) (noL_true)) f_i_ExponentOf_o (f_i_ExponentOf_e g0) (f_i_ExponentOf_p g0) h
def f_i_ExponentOf_c : CRow := fun args inh => match dec2 [.p .gr] [] args inh with
  | some ([.l g0], []) => some ((f_i_ExponentOf g0).isSome, (f_i_ExponentOf_en ((f_i_ExponentOf g0).getD 0)).1, (f_i_ExponentOf_en ((f_i_ExponentOf g0).getD 0)).2)
  | _ => none
theorem f_i_ExponentOf_cc : CTrue Try.prog 176 f_i_ExponentOf_c := by
  intro args inh rs out h
  unfold f_i_ExponentOf_c at h
  split at h
  · rename_i hd
    obtain ⟨h1, h2⟩ := dec2_enc hd
    rw [← h1, ← h2]
    exact rowC (f_i_ExponentOf_ok _) h
  · cases h

def f_i_Group_add_F : Fi := { nv := 0, nc := 0, m := 0, vt := [], kl := [(0, ([0, 3, 4, 5, 6, 9, 10, 11, 15, 16, 17, 18, 19, 20, 21, 22, 23, 24, 25, 26, 27, 28, 29, 30, 31, 32, 33, 34, 35, 36, 37, 38, 39, 40, 41], [0, 1, 2, 3, 4, 5, 6, 8, 9, 10, 11, 12, 13, 14, 15, 16, 17, 18, 19, 20, 21, 22, 23, 24, 25, 26, 27, 28, 29, 30, 31, 32, 33, 34, 35, 36, 37, 38, 39, 40, 41], [0, 1, 2, 3, 4, 5, 7, 8, 9, 10, 11, 12, 13, 14, 15, 16, 17, 18, 19, 20, 21, 22, 23, 24, 25, 26, 27, 28, 29, 30, 31, 32, 33, 34, 35, 36, 37, 38, 39, 40, 41]))], sk := [], mvs := [], fz := [] }
def f_i_Group_add_a (g0 : List Sc) (x1 : Int) (y2 : Int) : List AV := enc [.p .gr, .p (.int .i64), .p (.int .i64)] [.l g0, .i x1, .i y2]
def f_i_Group_add_i (g0 : List Sc) (x1 : Int) (y2 : Int) : List AV := enc [] []
def f_i_Group_add_en (r : Int) : List AV × List AV := (enc [.p (.int .i64)] [.i r], enc [] [])
def f_i_Group_add_M : Calling := noC
theorem f_i_Group_add_Mt : CallOk Try.prog (f_i_Group_add_M) := noC_true
theorem f_i_Group_add_o : loopsOnce Try.f155 = true := by kernel_rfl
def f_i_Group_add_h0 : List Sh := [.u, .p (.int .i64), .p (.int .i64), .u, .u, .u, .u, .p (.int .i64), .p (.int .i64), .u, .u, .u, .p .sl, .p (.int .i64), .p (.int .i64), .u, .u, .u, .u, .u, .u, .u, .u, .u, .u, .u, .u, .u, .u, .u, .u, .u, .u, .u, .u, .u, .u, .u, .u, .u, .u, .u]
def f_i_Group_add_fr0 (t12 : List Sc) (t13 : Int) (s : Int × Int × Int × Int × Int) : List AV := enc f_i_Group_add_h0 [.i s.1, .i s.2.1, .i s.2.2.1, .i s.2.2.2.1, .l t12, .i t13, .i s.2.2.2.2]
def f_i_Group_add_g0_1 : List Sh := [.u, .u, .u, .u, .u, .u, .u, .p (.int .i64), .u, .u, .u, .u, .u, .u, .u, .u, .u, .u, .u, .u, .u, .u, .u, .u, .u, .u, .u, .u, .u, .u, .u, .u, .u, .u, .u, .u, .u, .u, .u, .u, .u, .u]
def f_i_Group_add_x0_1 (t12 : List Sc) (t13 : Int) (e : Int) : X × List AV := (.out 0, enc f_i_Group_add_g0_1 [.i e])
def f_i_Group_add_x0_2 (t12 : List Sc) (t13 : Int) (_e : Unit) : X × List AV := (.ret, [])
theorem f_i_Group_add_p0 {R : Type} (t12 : List Sc) (t13 : Int) (s : Int × Int × Int × Int × Int) (kN : Int × Int × Int × Int × Int → Option R) (kA : Int → Option R) (kB : Unit → Option R) : f_i_Group_add_k0 t12 t13 s.1 s.2.1 s.2.2.1 s.2.2.2.1 s.2.2.2.2 kN kA = (f_i_Group_add_r0 t12 t13 s).bind (Ro.el kN kA kB) := by
  simp only [f_i_Group_add_k0, f_i_Group_add_r0, brB, someB, noneB, Ro.el]
theorem f_i_Group_add_e0 (t12 : List Sc) (t13 : Int) (s : Int × Int × Int × Int × Int) : EC E0 f_i_Group_add_M H0 f_i_Group_add_F (asL (noL)) 0 (bodyOf Try.f155 0) (f_i_Group_add_fr0 t12 t13 s) (done (klOf f_i_Group_add_F 0)) = f_i_Group_add_k0 t12 t13 s.1 s.2.1 s.2.2.1 s.2.2.2.1 s.2.2.2.2 (fun s => some (.norm, f_i_Group_add_fr0 t12 t13 s)) (fun e => some (f_i_Group_add_x0_1 t12 t13 e)) := by kernel_rfl
theorem f_i_Group_add_l0 (t12 : List Sc) (t13 : Int) : ∀ s r, loopL (f_i_Group_add_r0 t12 t13) s = some r → LS Try.prog f_i_Group_add_F (bodyOf Try.f155 0) (f_i_Group_add_fr0 t12 t13 s) (enX (f_i_Group_add_x0_1 t12 t13) (f_i_Group_add_x0_2 t12 t13) r) :=
  loop_true E0ok f_i_Group_add_Mt (noL_true) f_i_Group_add_o (fun _ h => by cases h) (fun _ h => by cases h) (fun s => (f_i_Group_add_e0 t12 t13 s).trans (f_i_Group_add_p0 t12 t13 s _ _ (fun e => some (f_i_Group_add_x0_2 t12 t13 e))))
def f_i_Group_add_t0 (σ : List AV) : Option (Bool × Bool × (X × List AV) × (X × List AV)) := match dec f_i_Group_add_h0 σ with
  | some [.i x1, .i y2, .i sum7, .i unit8, .l t12, .i t13, .i t14] => some (isOne (loopL (f_i_Group_add_r0 t12 t13) (x1, y2, sum7, unit8, t14)), true, f_i_Group_add_x0_1 t12 t13 (getOne 0 (loopL (f_i_Group_add_r0 t12 t13) (x1, y2, sum7, unit8, t14))), (.ret, []))
  | _ => none
theorem f_i_Group_add_tt0 : TTrue Try.prog f_i_Group_add_F Try.f155 0 (f_i_Group_add_t0) := by
  intro σ p r r' h
  unfold f_i_Group_add_t0 at h
  split at h
  · rename_i hd
    rw [← dec_enc hd]
    exact row1 (f_i_Group_add_l0 _ _ _) h
  · cases h
theorem f_i_Group_add_p {R : Type} (g0 : List Sc) (x1 : Int) (y2 : Int) (kR : Int → Option R) : f_i_Group_add_k g0 x1 y2 kR = (f_i_Group_add_k g0 x1 y2 some).bind kR := by
  simp only [f_i_Group_add_k, bl1B, someB]
theorem f_i_Group_add_e (g0 : List Sc) (x1 : Int) (y2 : Int) : runFn E0 f_i_Group_add_M H0 f_i_Group_add_F (asL (addL 0 (f_i_Group_add_t0) (noL))) Try.f155 (f_i_Group_add_a g0 x1 y2) (f_i_Group_add_i g0 x1 y2) = f_i_Group_add_k g0 x1 y2 (fun r => some (f_i_Group_add_en r)) := by kernel_rfl
theorem f_i_Group_add_ok (g0 : List Sc) (x1 : Int) (y2 : Int) (r : Int) (h : f_i_Group_add g0 x1 y2 = some r) : CS Try.prog 155 (f_i_Group_add_a g0 x1 y2) (f_i_Group_add_i g0 x1 y2) (f_i_Group_add_en r).1 (f_i_Group_add_en r).2 :=
  fn_true (Gk := fun k => f_i_Group_add_k g0 x1 y2 k) (en := f_i_Group_add_en) Try.func155 E0ok f_i_Group_add_Mt (addL_true (f_i_Group_add_tt0) (noL_true)) f_i_Group_add_o (f_i_Group_add_e g0 x1 y2) (f_i_Group_add_p g0 x1 y2) h
def f_i_Group_add_c : CRow := fun args inh => match dec2 [.p .gr, .p (.int .i64), .p (.int .i64)] [] args inh with
  | some ([.l g0, .i x1, .i y2], []) => some ((f_i_Group_add g0 x1 y2).isSome, (f_i_Group_add_en ((f_i_Group_add g0 x1 y2).getD 0)).1, (f_i_Group_add_en ((f_i_Group_add g0 x1 y2).getD 0)).2)
  | _ => none
theorem f_i_Group_add_cc : CTrue Try.prog 155 f_i_Group_add_c := by
  intro args inh rs out h
  unfold f_i_Group_add_c at h
  split at h
  · rename_i hd
    obtain ⟨h1, h2⟩ := dec2_enc hd
    rw [← h1, ← h2]
    exact rowC (f_i_Group_add_ok _ _ _) h
  · cases h

def f_i_Group_shift_F : Fi := { nv := 0, nc := 0, m := 0, vt := [], kl := [(0, ([0, 4, 5, 6, 9, 10, 11, 12, 13, 14, 15, 16, 17, 18, 19, 20, 21, 22, 23, 24, 25, 26, 27], [0, 1, 2, 3, 4, 5, 6, 8, 9, 10, 11, 12, 13, 14, 15, 16, 17, 18, 19, 20, 21, 22, 23, 24, 25, 26, 27], [0, 1, 2, 3, 4, 5, 7, 8, 9, 10, 11, 12, 13, 14, 15, 16, 17, 18, 19, 20, 21, 22, 23, 24, 25, 26, 27]))], sk := [], mvs := [], fz := [] }
def f_i_Group_shift_a (g0 : List Sc) (a1 : Int) (x2 : Int) : List AV := enc [.p .gr, .p (.int .i64), .p (.int .i64)] [.l g0, .i a1, .i x2]
def f_i_Group_shift_i (g0 : List Sc) (a1 : Int) (x2 : Int) : List AV := enc [] []
def f_i_Group_shift_en (r : Int) : List AV × List AV := (enc [.p (.int .i64)] [.i r], enc [] [])
def f_i_Group_shift_M : Calling := addC 155 f_i_Group_add_c (noC)
theorem f_i_Group_shift_Mt : CallOk Try.prog (f_i_Group_shift_M) := addC_true f_i_Group_add_cc (noC_true)
theorem f_i_Group_shift_o : loopsOnce Try.f123 = true := by kernel_rfl
def f_i_Group_shift_h0 : List Sh := [.u, .p (.int .i64), .p (.int .i64), .p .el, .u, .u, .u, .p (.int .i64), .p (.int .i64), .u, .u, .u, .u, .u, .u, .u, .u, .u, .u, .u, .u, .u, .u, .u, .u, .u, .u, .u]
def f_i_Group_shift_fr0 (a1 : Int) (x2 : Int) (g3 : List Sc) (s : Int × Int) : List AV := enc f_i_Group_shift_h0 [.i a1, .i x2, .l g3, .i s.1, .i s.2]
def f_i_Group_shift_g0_1 : List Sh := [.u, .u, .u, .u, .u, .u, .u, .p (.int .i64), .u, .u, .u, .u, .u, .u, .u, .u, .u, .u, .u, .u, .u, .u, .u, .u, .u, .u, .u, .u]
def f_i_Group_shift_x0_1 (a1 : Int) (x2 : Int) (g3 : List Sc) (e : Int) : X × List AV := (.out 0, enc f_i_Group_shift_g0_1 [.i e])
def f_i_Group_shift_x0_2 (a1 : Int) (x2 : Int) (g3 : List Sc) (_e : Unit) : X × List AV := (.ret, [])
theorem f_i_Group_shift_p0 {R : Type} (a1 : Int) (x2 : Int) (g3 : List Sc) (s : Int × Int) (kN : Int × Int → Option R) (kA : Int → Option R) (kB : Unit → Option R) : f_i_Group_shift_k0 a1 x2 g3 s.1 s.2 kN kA = (f_i_Group_shift_r0 a1 x2 g3 s).bind (Ro.el kN kA kB) := by
  simp only [f_i_Group_shift_k0, f_i_Group_shift_r0, brB, boB, someB, noneB, Ro.el]
theorem f_i_Group_shift_e0 (a1 : Int) (x2 : Int) (g3 : List Sc) (s : Int × Int) : EC E0 f_i_Group_shift_M H0 f_i_Group_shift_F (asL (noL)) 0 (bodyOf Try.f123 0) (f_i_Group_shift_fr0 a1 x2 g3 s) (done (klOf f_i_Group_shift_F 0)) = f_i_Group_shift_k0 a1 x2 g3 s.1 s.2 (fun s => some (.norm, f_i_Group_shift_fr0 a1 x2 g3 s)) (fun e => some (f_i_Group_shift_x0_1 a1 x2 g3 e)) := by kernel_rfl
theorem f_i_Group_shift_l0 (a1 : Int) (x2 : Int) (g3 : List Sc) : ∀ s r, loopL (f_i_Group_shift_r0 a1 x2 g3) s = some r → LS Try.prog f_i_Group_shift_F (bodyOf Try.f123 0) (f_i_Group_shift_fr0 a1 x2 g3 s) (enX (f_i_Group_shift_x0_1 a1 x2 g3) (f_i_Group_shift_x0_2 a1 x2 g3) r) :=
  loop_true E0ok f_i_Group_shift_Mt (noL_true) f_i_Group_shift_o (fun _ h => by cases h) (fun _ h => by cases h) (fun s => (f_i_Group_shift_e0 a1 x2 g3 s).trans (f_i_Group_shift_p0 a1 x2 g3 s _ _ (fun e => some (f_i_Group_shift_x0_2 a1 x2 g3 e))))
def f_i_Group_shift_t0 (σ : List AV) : Option (Bool × Bool × (X × List AV) × (X × List AV)) := match dec f_i_Group_shift_h0 σ with
  | some [.i a1, .i x2, .l g3, .i out7, .i y8] => some (isOne (loopL (f_i_Group_shift_r0 a1 x2 g3) (out7, y8)), true, f_i_Group_shift_x0_1 a1 x2 g3 (getOne 0 (loopL (f_i_Group_shift_r0 a1 x2 g3) (out7, y8))), (.ret, []))
  | _ => none
theorem f_i_Group_shift_tt0 : TTrue Try.prog f_i_Group_shift_F Try.f123 0 (f_i_Group_shift_t0) := by
  intro σ p r r' h
  unfold f_i_Group_shift_t0 at h
  split at h
  · rename_i hd
    rw [← dec_enc hd]
    exact row1 (f_i_Group_shift_l0 _ _ _ _) h
  · cases h
theorem f_i_Group_shift_p {R : Type} (g0 : List Sc) (a1 : Int) (x2 : Int) (kR : Int → Option R) : f_i_Group_shift_k g0 a1 x2 kR = (f_i_Group_shift_k g0 a1 x2 some).bind kR := by
  simp only [f_i_Group_shift_k, bl1B, someB]
theorem f_i_Group_shift_e (g0 : List Sc) (a1 : Int) (x2 : Int) : runFn E0 f_i_Group_shift_M H0 f_i_Group_shift_F (asL (addL 0 (f_i_Group_shift_t0) (noL))) Try.f123 (f_i_Group_shift_a g0 a1 x2) (f_i_Group_shift_i g0 a1 x2) = f_i_Group_shift_k g0 a1 x2 (fun r => some (f_i_Group_shift_en r)) := by kernel_rfl
theorem f_i_Group_shift_ok (g0 : List Sc) (a1 : Int) (x2 : Int) (r : Int) (h : f_i_Group_shift g0 a1 x2 = some r) : CS Try.prog 123 (f_i_Group_shift_a g0 a1 x2) (f_i_Group_shift_i g0 a1 x2) (f_i_Group_shift_en r).1 (f_i_Group_shift_en r).2 :=
  fn_true (Gk := fun k => f_i_Group_shift_k g0 a1 x2 k) (en := f_i_Group_shift_en) Try.func123 E0ok f_i_Group_shift_Mt (addL_true (f_i_Group_shift_tt0) (noL_true)) f_i_Group_shift_o (f_i_Group_shift_e g0 a1 x2) (f_i_Group_shift_p g0 a1 x2) h
def f_i_Group_shift_c : CRow := fun args inh => match dec2 [.p .gr, .p (.int .i64), .p (.int .i64)] [] args inh with
  | some ([.l g0, .i a1, .i x2], []) => some ((f_i_Group_shift g0 a1 x2).isSome, (f_i_Group_shift_en ((f_i_Group_shift g0 a1 x2).getD 0)).1, (f_i_Group_shift_en ((f_i_Group_shift g0 a1 x2).getD 0)).2)
  | _ => none
theorem f_i_Group_shift_cc : CTrue Try.prog 123 f_i_Group_shift_c := by
  intro args inh rs out h
  unfold f_i_Group_shift_c at h
  split at h
  · rename_i hd
    obtain ⟨h1, h2⟩ := dec2_enc hd
    rw [← h1, ← h2]
    exact rowC (f_i_Group_shift_ok _ _ _) h
  · cases h

def f_i_Group_byLength_F : Fi := { nv := 0, nc := 0, m := 0, vt := [], kl := [(2, ([0, 1, 3, 4, 6, 9, 10, 11, 12, 13, 14, 18, 19, 20, 21, 22, 23, 24, 25, 26, 27, 28, 29, 30, 31, 32, 33, 34, 35, 36, 37, 38, 39, 40, 41, 42, 43, 44, 45], [0, 1, 3, 4, 6, 7, 8, 9, 10, 11, 12, 13, 14, 18, 19, 20, 21, 22, 23, 24, 25, 26, 27, 28, 29, 30, 31, 32, 33, 34, 35, 36, 37, 38, 39, 40, 41, 42, 43, 44, 45], [0, 1, 2, 3, 5, 6, 7, 8, 9, 10, 11, 12, 13, 14, 15, 16, 17, 18, 19, 20, 21, 22, 23, 24, 25, 26, 27, 28, 29, 30, 31, 32, 33, 34, 35, 36, 37, 38, 39, 40, 41, 42, 43, 44, 45])), (0, ([0, 1, 3, 4, 6, 7, 8, 9, 10, 11, 12, 13, 14, 18, 19, 20, 21, 22, 23, 24, 25, 26, 27, 28, 29, 30, 31, 32, 33, 34, 35, 36, 37, 38, 39, 40, 41, 42, 43, 44, 45], [0, 1, 3, 4, 6, 7, 8, 9, 10, 11, 12, 13, 14, 18, 19, 20, 21, 22, 23, 24, 25, 26, 27, 28, 29, 30, 31, 32, 33, 34, 35, 36, 37, 38, 39, 40, 41, 42, 43, 44, 45], [0, 1, 2, 3, 5, 6, 7, 8, 9, 10, 11, 12, 13, 14, 15, 16, 17, 18, 19, 20, 21, 22, 23, 24, 25, 26, 27, 28, 29, 30, 31, 32, 33, 34, 35, 36, 37, 38, 39, 40, 41, 42, 43, 44, 45]))], sk := [], mvs := [], fz := [] }
def f_i_Group_byLength_a (g0 : List Sc) (l1 : List Sc) : List AV := enc [.p .gr, .p .sl] [.l g0, .l l1]
def f_i_Group_byLength_i (g0 : List Sc) (l1 : List Sc) : List AV := enc [] []
def f_i_Group_byLength_en (r : List Sc) : List AV × List AV := (enc [.p (.al 0)] [], enc [.own 3] [.l r])
def f_i_Group_byLength_M : Calling := addC 123 f_i_Group_shift_c (noC)
theorem f_i_Group_byLength_Mt : CallOk Try.prog (f_i_Group_byLength_M) := addC_true f_i_Group_shift_cc (noC_true)
theorem f_i_Group_byLength_o : loopsOnce Try.f178 = true := by kernel_rfl
def f_i_Group_byLength_h2 : List Sh := [.u, .u, .p .el, .u, .u, .own 3, .u, .p (.int .i64), .p (.int .i64), .u, .u, .u, .u, .u, .u, .p .sl, .p (.int .i64), .p (.int .i64), .u, .u, .u, .u, .u, .u, .u, .u, .u, .u, .u, .u, .u, .u, .u, .u, .u, .u, .u, .u, .u, .u, .u, .u, .u, .u, .u, .u]
def f_i_Group_byLength_fr2 (g2 : List Sc) (x7 : Int) (t15 : List Sc) (t16 : Int) (t17 : Int) (s : List Sc × Int) : List AV := enc f_i_Group_byLength_h2 [.l g2, .l s.1, .i x7, .i s.2, .l t15, .i t16, .i t17]
def f_i_Group_byLength_g2_1 : List Sh := [.u, .u, .p .el, .u, .u, .own 3, .u, .u, .u, .u, .u, .u, .u, .u, .u, .p .sl, .p (.int .i64), .p (.int .i64), .u, .u, .u, .u, .u, .u, .u, .u, .u, .u, .u, .u, .u, .u, .u, .u, .u, .u, .u, .u, .u, .u, .u, .u, .u, .u, .u, .u]
def f_i_Group_byLength_x2_1 (g2 : List Sc) (x7 : Int) (t15 : List Sc) (t16 : Int) (t17 : Int) (e : List Sc) : X × List AV := (.out 2, enc f_i_Group_byLength_g2_1 [.l g2, .l e, .l t15, .i t16, .i t17])
def f_i_Group_byLength_x2_2 (g2 : List Sc) (x7 : Int) (t15 : List Sc) (t16 : Int) (t17 : Int) (_e : Unit) : X × List AV := (.ret, [])
theorem f_i_Group_byLength_p2 {R : Type} (g2 : List Sc) (x7 : Int) (t15 : List Sc) (t16 : Int) (t17 : Int) (s : List Sc × Int) (kN : List Sc × Int → Option R) (kA : List Sc → Option R) (kB : Unit → Option R) : f_i_Group_byLength_k2 g2 x7 t15 t16 t17 s.1 s.2 kN kA = (f_i_Group_byLength_r2 g2 x7 t15 t16 t17 s).bind (Ro.el kN kA kB) := by
  simp only [f_i_Group_byLength_k2, f_i_Group_byLength_r2, brB, boB, someB, noneB, Ro.el]
theorem f_i_Group_byLength_e2 (g2 : List Sc) (x7 : Int) (t15 : List Sc) (t16 : Int) (t17 : Int) (s : List Sc × Int) : EC E0 f_i_Group_byLength_M H0 f_i_Group_byLength_F (asL (noL)) 2 (bodyOf Try.f178 2) (f_i_Group_byLength_fr2 g2 x7 t15 t16 t17 s) (done (klOf f_i_Group_byLength_F 2)) = f_i_Group_byLength_k2 g2 x7 t15 t16 t17 s.1 s.2 (fun s => some (.norm, f_i_Group_byLength_fr2 g2 x7 t15 t16 t17 s)) (fun e => some (f_i_Group_byLength_x2_1 g2 x7 t15 t16 t17 e)) := by kernel_rfl
theorem f_i_Group_byLength_l2 (g2 : List Sc) (x7 : Int) (t15 : List Sc) (t16 : Int) (t17 : Int) : ∀ s r, loopL (f_i_Group_byLength_r2 g2 x7 t15 t16 t17) s = some r → LS Try.prog f_i_Group_byLength_F (bodyOf Try.f178 2) (f_i_Group_byLength_fr2 g2 x7 t15 t16 t17 s) (enX (f_i_Group_byLength_x2_1 g2 x7 t15 t16 t17) (f_i_Group_byLength_x2_2 g2 x7 t15 t16 t17) r) :=
  loop_true E0ok f_i_Group_byLength_Mt (noL_true) f_i_Group_byLength_o (fun _ h => by cases h) (fun _ h => by cases h) (fun s => (f_i_Group_byLength_e2 g2 x7 t15 t16 t17 s).trans (f_i_Group_byLength_p2 g2 x7 t15 t16 t17 s _ _ (fun e => some (f_i_Group_byLength_x2_2 g2 x7 t15 t16 t17 e))))
def f_i_Group_byLength_t2 (σ : List AV) : Option (Bool × Bool × (X × List AV) × (X × List AV)) := match dec f_i_Group_byLength_h2 σ with
  | some [.l g2, .l out5, .i x7, .i k8, .l t15, .i t16, .i t17] => some (isOne (loopL (f_i_Group_byLength_r2 g2 x7 t15 t16 t17) (out5, k8)), true, f_i_Group_byLength_x2_1 g2 x7 t15 t16 t17 (getOne [] (loopL (f_i_Group_byLength_r2 g2 x7 t15 t16 t17) (out5, k8))), (.ret, []))
  | _ => none
theorem f_i_Group_byLength_tt2 : TTrue Try.prog f_i_Group_byLength_F Try.f178 2 (f_i_Group_byLength_t2) := by
  intro σ p r r' h
  unfold f_i_Group_byLength_t2 at h
  split at h
  · rename_i hd
    rw [← dec_enc hd]
    exact row1 (f_i_Group_byLength_l2 _ _ _ _ _ _) h
  · cases h
def f_i_Group_byLength_h0 : List Sh := [.u, .u, .p .el, .u, .u, .own 3, .u, .u, .u, .u, .u, .u, .u, .u, .u, .p .sl, .p (.int .i64), .p (.int .i64), .u, .u, .u, .u, .u, .u, .u, .u, .u, .u, .u, .u, .u, .u, .u, .u, .u, .u, .u, .u, .u, .u, .u, .u, .u, .u, .u, .u]
def f_i_Group_byLength_fr0 (g2 : List Sc) (t15 : List Sc) (t16 : Int) (s : List Sc × Int) : List AV := enc f_i_Group_byLength_h0 [.l g2, .l s.1, .l t15, .i t16, .i s.2]
def f_i_Group_byLength_g0_1 : List Sh := [.u, .u, .p .el, .u, .u, .own 3, .u, .u, .u, .u, .u, .u, .u, .u, .u, .p .sl, .p (.int .i64), .p (.int .i64), .u, .u, .u, .u, .u, .u, .u, .u, .u, .u, .u, .u, .u, .u, .u, .u, .u, .u, .u, .u, .u, .u, .u, .u, .u, .u, .u, .u]
def f_i_Group_byLength_x0_1 (g2 : List Sc) (t15 : List Sc) (t16 : Int) (e : List Sc × Int) : X × List AV := (.out 0, enc f_i_Group_byLength_g0_1 [.l g2, .l e.1, .l t15, .i t16, .i e.2])
def f_i_Group_byLength_x0_2 (g2 : List Sc) (t15 : List Sc) (t16 : Int) (_e : Unit) : X × List AV := (.ret, [])
theorem f_i_Group_byLength_p0 {R : Type} (g2 : List Sc) (t15 : List Sc) (t16 : Int) (s : List Sc × Int) (kN : List Sc × Int → Option R) (kA : List Sc × Int → Option R) (kB : Unit → Option R) : f_i_Group_byLength_k0 g2 t15 t16 s.1 s.2 kN kA = (f_i_Group_byLength_r0 g2 t15 t16 s).bind (Ro.el kN kA kB) := by
  simp only [f_i_Group_byLength_k0, f_i_Group_byLength_r0, brB, bl1B, someB, noneB, Ro.el]
theorem f_i_Group_byLength_e0 (g2 : List Sc) (t15 : List Sc) (t16 : Int) (s : List Sc × Int) : EC E0 f_i_Group_byLength_M H0 f_i_Group_byLength_F (asL (addL 2 (f_i_Group_byLength_t2) (noL))) 0 (bodyOf Try.f178 0) (f_i_Group_byLength_fr0 g2 t15 t16 s) (done (klOf f_i_Group_byLength_F 0)) = f_i_Group_byLength_k0 g2 t15 t16 s.1 s.2 (fun s => some (.norm, f_i_Group_byLength_fr0 g2 t15 t16 s)) (fun e => some (f_i_Group_byLength_x0_1 g2 t15 t16 e)) := by kernel_rfl
theorem f_i_Group_byLength_l0 (g2 : List Sc) (t15 : List Sc) (t16 : Int) : ∀ s r, loopL (f_i_Group_byLength_r0 g2 t15 t16) s = some r → LS Try.prog f_i_Group_byLength_F (bodyOf Try.f178 0) (f_i_Group_byLength_fr0 g2 t15 t16 s) (enX (f_i_Group_byLength_x0_1 g2 t15 t16) (f_i_Group_byLength_x0_2 g2 t15 t16) r) :=
  loop_true E0ok f_i_Group_byLength_Mt (addL_true (f_i_Group_byLength_tt2) (noL_true)) f_i_Group_byLength_o (fun _ h => by cases h) (fun _ h => by cases h) (fun s => (f_i_Group_byLength_e0 g2 t15 t16 s).trans (f_i_Group_byLength_p0 g2 t15 t16 s _ _ (fun e => some (f_i_Group_byLength_x0_2 g2 t15 t16 e))))
def f_i_Group_byLength_t0 (σ : List AV) : Option (Bool × Bool × (X × List AV) × (X × List AV)) := match dec f_i_Group_byLength_h0 σ with
  | some [.l g2, .l out5, .l t15, .i t16, .i t17] => some (isOne (loopL (f_i_Group_byLength_r0 g2 t15 t16) (out5, t17)), true, f_i_Group_byLength_x0_1 g2 t15 t16 (getOne ([], 0) (loopL (f_i_Group_byLength_r0 g2 t15 t16) (out5, t17))), (.ret, []))
  | _ => none
theorem f_i_Group_byLength_tt0 : TTrue Try.prog f_i_Group_byLength_F Try.f178 0 (f_i_Group_byLength_t0) := by
  intro σ p r r' h
  unfold f_i_Group_byLength_t0 at h
  split at h
  · rename_i hd
    rw [← dec_enc hd]
    exact row1 (f_i_Group_byLength_l0 _ _ _ _) h
  · cases h
theorem f_i_Group_byLength_p {R : Type} (g0 : List Sc) (l1 : List Sc) (kR : List Sc → Option R) : f_i_Group_byLength_k g0 l1 kR = (f_i_Group_byLength_k g0 l1 some).bind kR := by
  simp only [f_i_Group_byLength_k, brB, bl1B, someB, noneB]
theorem f_i_Group_byLength_e (g0 : List Sc) (l1 : List Sc) : runFn E0 f_i_Group_byLength_M H0 f_i_Group_byLength_F (asL (addL 0 (f_i_Group_byLength_t0) (addL 2 (f_i_Group_byLength_t2) (noL)))) Try.f178 (f_i_Group_byLength_a g0 l1) (f_i_Group_byLength_i g0 l1) = f_i_Group_byLength_k g0 l1 (fun r => some (f_i_Group_byLength_en r)) := by kernel_rfl
theorem f_i_Group_byLength_ok (g0 : List Sc) (l1 : List Sc) (r : List Sc) (h : f_i_Group_byLength g0 l1 = some r) : CS Try.prog 178 (f_i_Group_byLength_a g0 l1) (f_i_Group_byLength_i g0 l1) (f_i_Group_byLength_en r).1 (f_i_Group_byLength_en r).2 :=
  fn_true (Gk := fun k => f_i_Group_byLength_k g0 l1 k) (en := f_i_Group_byLength_en) Try.func178 E0ok f_i_Group_byLength_Mt (addL_true (f_i_Group_byLength_tt0) (addL_true (f_i_Group_byLength_tt2) (noL_true))) f_i_Group_byLength_o (f_i_Group_byLength_e g0 l1) (f_i_Group_byLength_p g0 l1) h
def f_i_Group_byLength_c : CRow := fun args inh => match dec2 [.p .gr, .p .sl] [] args inh with
  | some ([.l g0, .l l1], []) => some ((f_i_Group_byLength g0 l1).isSome, (f_i_Group_byLength_en ((f_i_Group_byLength g0 l1).getD [])).1, (f_i_Group_byLength_en ((f_i_Group_byLength g0 l1).getD [])).2)
  | _ => none
theorem f_i_Group_byLength_cc : CTrue Try.prog 178 f_i_Group_byLength_c := by
  intro args inh rs out h
  unfold f_i_Group_byLength_c at h
  split at h
  · rename_i hd
    obtain ⟨h1, h2⟩ := dec2_enc hd
    rw [← h1, ← h2]
    exact rowC (f_i_Group_byLength_ok _ _) h
  · cases h

def f_i_copyInts_F : Fi := { nv := 0, nc := 0, m := 0, vt := [], kl := [], sk := [], mvs := [], fz := [] }
def f_i_copyInts_a (l0 : List Sc) : List AV := enc [.p .sl] [.l l0]
def f_i_copyInts_i (l0 : List Sc) : List AV := enc [] []
def f_i_copyInts_en (r : List Sc) : List AV × List AV := (enc [.p (.al 0)] [], enc [.own 3] [.l r])
def f_i_copyInts_M : Calling := noC
theorem f_i_copyInts_Mt : CallOk Try.prog (f_i_copyInts_M) := noC_true
theorem f_i_copyInts_o : loopsOnce Try.f169 = true := by kernel_rfl
theorem f_i_copyInts_p {R : Type} (l0 : List Sc) (kR : List Sc → Option R) : f_i_copyInts_k l0 kR = (f_i_copyInts_k l0 some).bind kR := by
  simp only [f_i_copyInts_k, brB, someB, noneB]
theorem f_i_copyInts_e (l0 : List Sc) : runFn E0 f_i_copyInts_M H0 f_i_copyInts_F (asL (noL)) Try.f169 (f_i_copyInts_a l0) (f_i_copyInts_i l0) = f_i_copyInts_k l0 (fun r => some (f_i_copyInts_en r)) := by kernel_rfl
theorem f_i_copyInts_ok (l0 : List Sc) (r : List Sc) (h : f_i_copyInts l0 = some r) : CS Try.prog 169 (f_i_copyInts_a l0) (f_i_copyInts_i l0) (f_i_copyInts_en r).1 (f_i_copyInts_en r).2 :=
  fn_true (Gk := fun k => f_i_copyInts_k l0 k) (en := f_i_copyInts_en) Try.func169 E0ok f_i_copyInts_Mt (noL_true) f_i_copyInts_o (f_i_copyInts_e l0) (f_i_copyInts_p l0) h
def f_i_copyInts_c : CRow := fun args inh => match dec2 [.p .sl] [] args inh with
  | some ([.l l0], []) => some ((f_i_copyInts l0).isSome, (f_i_copyInts_en ((f_i_copyInts l0).getD [])).1, (f_i_copyInts_en ((f_i_copyInts l0).getD [])).2)
  | _ => none
theorem f_i_copyInts_cc : CTrue Try.prog 169 f_i_copyInts_c := by
  intro args inh rs out h
  unfold f_i_copyInts_c at h
  split at h
  · rename_i hd
    obtain ⟨h1, h2⟩ := dec2_enc hd
    rw [← h1, ← h2]
    exact rowC (f_i_copyInts_ok _) h
  · cases h

def f_i_EgzExample_1_F : Fi := { nv := 3, nc := 3, m := 3, vt := [], kl := [(0, ([4, 6, 8, 9, 11, 12, 13, 14, 15, 16, 17, 18, 19, 20, 21, 22, 23, 24, 25, 26, 27, 28, 29, 30, 31, 32, 33, 34, 35, 36, 37, 38, 39, 40, 41, 42, 43, 44, 45, 46, 47, 48, 49, 50, 51, 52], [3, 4, 5, 6, 7, 8, 9, 10, 11, 12, 13, 14, 15, 16, 17, 18, 19, 20, 21, 22, 23, 24, 25, 26, 27, 28, 29, 30, 31, 32, 33, 34, 35, 36, 37, 38, 39, 40, 41, 42, 43, 44, 45, 46, 47, 48, 49, 50, 51, 52], [3, 4, 5, 6, 7, 8, 9, 10, 11, 12, 13, 14, 15, 16, 17, 18, 19, 20, 21, 22, 23, 24, 25, 26, 27, 28, 29, 30, 31, 32, 33, 34, 35, 36, 37, 38, 39, 40, 41, 42, 43, 44, 45, 46, 47, 48, 49, 50, 51, 52]))], sk := [], mvs := [], fz := [] }
def f_i_EgzExample_1_a (l0 : List Sc) (p2 : List Sc) (h0 : Int) (h1 : List Sc) (h2 : List Sc) : List AV := enc [.fr 3, .p (.pt 0 1), .p .el, .p (.pt 1 1), .p (.pt 2 1)] [.l l0, .l p2]
def f_i_EgzExample_1_i (l0 : List Sc) (p2 : List Sc) (h0 : Int) (h1 : List Sc) (h2 : List Sc) : List AV := enc [.p (.int .i64), .fr 3, .fn 177 [.pt 0 1, .el, .pt 1 1, .pt 2 1]] [.i h0, .l h1, .l h2]
def f_i_EgzExample_1_en (r : Int × List Sc × List Sc) : List AV × List AV := (enc [] [], enc [.p (.int .i64), .fr 3, .fn 177 [.pt 0 1, .el, .pt 1 1, .pt 2 1]] [.i r.1, .l r.2.1, .l r.2.2])
def f_i_EgzExample_1_cs (self : (List Sc × List Sc × Int × List Sc × List Sc) → Option (Int × List Sc × List Sc)) : CRow := fun args inh => match dec2 [.fr 3, .p (.pt 0 1), .p .el, .p (.pt 1 1), .p (.pt 2 1)] [.p (.int .i64), .fr 3, .fn 177 [.pt 0 1, .el, .pt 1 1, .pt 2 1]] args inh with
  | some ([.l l0, .l p2], [.i h0, .l h1, .l h2]) => some ((self (l0, p2, h0, h1, h2)).isSome, (f_i_EgzExample_1_en ((self (l0, p2, h0, h1, h2)).getD (0, [], []))).1, (f_i_EgzExample_1_en ((self (l0, p2, h0, h1, h2)).getD (0, [], []))).2)
  | _ => none
theorem f_i_EgzExample_1_cst (self : (List Sc × List Sc × Int × List Sc × List Sc) → Option (Int × List Sc × List Sc)) (hs : ∀ a r, self a = some r → CS Try.prog 177 (f_i_EgzExample_1_a a.1 a.2.1 a.2.2.1 a.2.2.2.1 a.2.2.2.2) (f_i_EgzExample_1_i a.1 a.2.1 a.2.2.1 a.2.2.2.1 a.2.2.2.2) (f_i_EgzExample_1_en r).1 (f_i_EgzExample_1_en r).2) : CTrue Try.prog 177 (f_i_EgzExample_1_cs self) := by
  intro args inh rs out h
  unfold f_i_EgzExample_1_cs at h
  split at h
  · rename_i hd
    obtain ⟨h1, h2⟩ := dec2_enc hd
    rw [← h1, ← h2]
    exact rowC (hs _) h
  · cases h
def f_i_EgzExample_1_M (self : (List Sc × List Sc × Int × List Sc × List Sc) → Option (Int × List Sc × List Sc)) : Calling := addC 177 (f_i_EgzExample_1_cs self) (addC 178 f_i_Group_byLength_c (addC 153 f_i_in_c (addC 122 f_i_OrderOf_c (addC 169 f_i_copyInts_c (noC)))))
theorem f_i_EgzExample_1_Mt (self : (List Sc × List Sc × Int × List Sc × List Sc) → Option (Int × List Sc × List Sc)) (hs : ∀ a r, self a = some r → CS Try.prog 177 (f_i_EgzExample_1_a a.1 a.2.1 a.2.2.1 a.2.2.2.1 a.2.2.2.2) (f_i_EgzExample_1_i a.1 a.2.1 a.2.2.1 a.2.2.2.1 a.2.2.2.2) (f_i_EgzExample_1_en r).1 (f_i_EgzExample_1_en r).2) : CallOk Try.prog (f_i_EgzExample_1_M self) := addC_true (f_i_EgzExample_1_cst self hs) (addC_true f_i_Group_byLength_cc (addC_true f_i_in_cc (addC_true f_i_OrderOf_cc (addC_true f_i_copyInts_cc (noC_true)))))
theorem f_i_EgzExample_1_o : loopsOnce Try.f177 = true := by kernel_rfl
def f_i_EgzExample_1_h0 : List Sh := [.p (.int .i64), .fr 3, .fn 177 [.pt 0 1, .el, .pt 1 1, .pt 2 1], .fr 3, .u, .p .el, .u, .p (.pt 2 1), .u, .u, .p (.int .i64), .u, .u, .u, .u, .u, .u, .u, .u, .u, .u, .u, .u, .u, .u, .u, .u, .u, .u, .u, .u, .u, .u, .u, .u, .u, .u, .u, .u, .u, .u, .u, .u, .u, .u, .u, .u, .u, .u, .u, .u, .u, .u]
def f_i_EgzExample_1_fr0 (self : (List Sc × List Sc × Int × List Sc × List Sc) → Option (Int × List Sc × List Sc)) (l0 : List Sc) (t2 : List Sc) (s : Int × List Sc × List Sc × Int) : List AV := enc f_i_EgzExample_1_h0 [.i s.1, .l s.2.1, .l s.2.2.1, .l l0, .l t2, .i s.2.2.2]
def f_i_EgzExample_1_g0_1 : List Sh := [.p (.int .i64), .fr 3, .fn 177 [.pt 0 1, .el, .pt 1 1, .pt 2 1], .u, .u, .u, .u, .u, .u, .u, .u, .u, .u, .u, .u, .u, .u, .u, .u, .u, .u, .u, .u, .u, .u, .u, .u, .u, .u, .u, .u, .u, .u, .u, .u, .u, .u, .u, .u, .u, .u, .u, .u, .u, .u, .u, .u, .u, .u, .u, .u, .u, .u]
def f_i_EgzExample_1_x0_1 (self : (List Sc × List Sc × Int × List Sc × List Sc) → Option (Int × List Sc × List Sc)) (l0 : List Sc) (t2 : List Sc) (e : Int × List Sc × List Sc) : X × List AV := (.out 0, enc f_i_EgzExample_1_g0_1 [.i e.1, .l e.2.1, .l e.2.2])
def f_i_EgzExample_1_x0_2 (self : (List Sc × List Sc × Int × List Sc × List Sc) → Option (Int × List Sc × List Sc)) (l0 : List Sc) (t2 : List Sc) (_e : Unit) : X × List AV := (.ret, [])
theorem f_i_EgzExample_1_p0 {R : Type} (self : (List Sc × List Sc × Int × List Sc × List Sc) → Option (Int × List Sc × List Sc)) (l0 : List Sc) (t2 : List Sc) (s : Int × List Sc × List Sc × Int) (kN : Int × List Sc × List Sc × Int → Option R) (kA : Int × List Sc × List Sc → Option R) (kB : Unit → Option R) : f_i_EgzExample_1_k0 self l0 t2 s.1 s.2.1 s.2.2.1 s.2.2.2 kN kA = (f_i_EgzExample_1_r0 self l0 t2 s).bind (Ro.el kN kA kB) := by
  simp only [f_i_EgzExample_1_k0, f_i_EgzExample_1_r0, brB, boB, someB, noneB, Ro.el]
theorem f_i_EgzExample_1_e0 (self : (List Sc × List Sc × Int × List Sc × List Sc) → Option (Int × List Sc × List Sc)) (l0 : List Sc) (t2 : List Sc) (s : Int × List Sc × List Sc × Int) : EC E0 (f_i_EgzExample_1_M self) H0 f_i_EgzExample_1_F (asL (noL)) 0 (bodyOf Try.f177 0) (f_i_EgzExample_1_fr0 self l0 t2 s) (done (klOf f_i_EgzExample_1_F 0)) = f_i_EgzExample_1_k0 self l0 t2 s.1 s.2.1 s.2.2.1 s.2.2.2 (fun s => some (.norm, f_i_EgzExample_1_fr0 self l0 t2 s)) (fun e => some (f_i_EgzExample_1_x0_1 self l0 t2 e)) := by kernel_rfl
theorem f_i_EgzExample_1_l0 (self : (List Sc × List Sc × Int × List Sc × List Sc) → Option (Int × List Sc × List Sc)) (hs : ∀ a r, self a = some r → CS Try.prog 177 (f_i_EgzExample_1_a a.1 a.2.1 a.2.2.1 a.2.2.2.1 a.2.2.2.2) (f_i_EgzExample_1_i a.1 a.2.1 a.2.2.1 a.2.2.2.1 a.2.2.2.2) (f_i_EgzExample_1_en r).1 (f_i_EgzExample_1_en r).2) (l0 : List Sc) (t2 : List Sc) : ∀ s r, loopL (f_i_EgzExample_1_r0 self l0 t2) s = some r → LS Try.prog f_i_EgzExample_1_F (bodyOf Try.f177 0) (f_i_EgzExample_1_fr0 self l0 t2 s) (enX (f_i_EgzExample_1_x0_1 self l0 t2) (f_i_EgzExample_1_x0_2 self l0 t2) r) :=
  loop_true E0ok (f_i_EgzExample_1_Mt self hs) (noL_true) f_i_EgzExample_1_o (fun _ h => by cases h) (fun _ h => by cases h) (fun s => (f_i_EgzExample_1_e0 self l0 t2 s).trans (f_i_EgzExample_1_p0 self l0 t2 s _ _ (fun e => some (f_i_EgzExample_1_x0_2 self l0 t2 e))))
def f_i_EgzExample_1_t0 (self : (List Sc × List Sc × Int × List Sc × List Sc) → Option (Int × List Sc × List Sc)) (σ : List AV) : Option (Bool × Bool × (X × List AV) × (X × List AV)) := match dec f_i_EgzExample_1_h0 σ with
  | some [.i v0, .l v1, .l v2, .l l0, .l t2, .i x7] => some (isOne (loopL (f_i_EgzExample_1_r0 self l0 t2) (v0, v1, v2, x7)), true, f_i_EgzExample_1_x0_1 self l0 t2 (getOne (0, [], []) (loopL (f_i_EgzExample_1_r0 self l0 t2) (v0, v1, v2, x7))), (.ret, []))
  | _ => none
theorem f_i_EgzExample_1_tt0 (self : (List Sc × List Sc × Int × List Sc × List Sc) → Option (Int × List Sc × List Sc)) (hs : ∀ a r, self a = some r → CS Try.prog 177 (f_i_EgzExample_1_a a.1 a.2.1 a.2.2.1 a.2.2.2.1 a.2.2.2.2) (f_i_EgzExample_1_i a.1 a.2.1 a.2.2.1 a.2.2.2.1 a.2.2.2.2) (f_i_EgzExample_1_en r).1 (f_i_EgzExample_1_en r).2) : TTrue Try.prog f_i_EgzExample_1_F Try.f177 0 (f_i_EgzExample_1_t0 self) := by
  intro σ p r r' h
  unfold f_i_EgzExample_1_t0 at h
  split at h
  · rename_i hd
    rw [← dec_enc hd]
    exact row1 (f_i_EgzExample_1_l0 self hs _ _ _) h
  · cases h
theorem f_i_EgzExample_1_p {R : Type} (self : (List Sc × List Sc × Int × List Sc × List Sc) → Option (Int × List Sc × List Sc)) (l0 : List Sc) (p2 : List Sc) (h0 : Int) (h1 : List Sc) (h2 : List Sc) (kR : Int × List Sc × List Sc → Option R) : f_i_EgzExample_1_k self l0 p2 h0 h1 h2 kR = (f_i_EgzExample_1_k self l0 p2 h0 h1 h2 some).bind kR := by
  simp only [f_i_EgzExample_1_k, brB, boB, bl1B, someB, noneB]
theorem f_i_EgzExample_1_e (self : (List Sc × List Sc × Int × List Sc × List Sc) → Option (Int × List Sc × List Sc)) (l0 : List Sc) (p2 : List Sc) (h0 : Int) (h1 : List Sc) (h2 : List Sc) : runFn E0 (f_i_EgzExample_1_M self) H0 f_i_EgzExample_1_F (asL (addL 0 (f_i_EgzExample_1_t0 self) (noL))) Try.f177 (f_i_EgzExample_1_a l0 p2 h0 h1 h2) (f_i_EgzExample_1_i l0 p2 h0 h1 h2) = f_i_EgzExample_1_k self l0 p2 h0 h1 h2 (fun r => some (f_i_EgzExample_1_en r)) := by kernel_rfl
theorem f_i_EgzExample_1_ks (self : (List Sc × List Sc × Int × List Sc × List Sc) → Option (Int × List Sc × List Sc)) (hs : ∀ a r, self a = some r → CS Try.prog 177 (f_i_EgzExample_1_a a.1 a.2.1 a.2.2.1 a.2.2.2.1 a.2.2.2.2) (f_i_EgzExample_1_i a.1 a.2.1 a.2.2.1 a.2.2.2.1 a.2.2.2.2) (f_i_EgzExample_1_en r).1 (f_i_EgzExample_1_en r).2) (l0 : List Sc) (p2 : List Sc) (h0 : Int) (h1 : List Sc) (h2 : List Sc) (r : Int × List Sc × List Sc) (h : f_i_EgzExample_1_k self l0 p2 h0 h1 h2 some = some r) : CS Try.prog 177 (f_i_EgzExample_1_a l0 p2 h0 h1 h2) (f_i_EgzExample_1_i l0 p2 h0 h1 h2) (f_i_EgzExample_1_en r).1 (f_i_EgzExample_1_en r).2 :=
  fn_true (Gk := fun k => f_i_EgzExample_1_k self l0 p2 h0 h1 h2 k) (en := f_i_EgzExample_1_en) Try.func177 E0ok (f_i_EgzExample_1_Mt self hs) (addL_true (f_i_EgzExample_1_tt0 self hs) (noL_true)) f_i_EgzExample_1_o (f_i_EgzExample_1_e self l0 p2 h0 h1 h2) (f_i_EgzExample_1_p self l0 p2 h0 h1 h2) h
theorem f_i_EgzExample_1_ns : ∀ n a r, f_i_EgzExample_1_n n a = some r → CS Try.prog 177 (f_i_EgzExample_1_a a.1 a.2.1 a.2.2.1 a.2.2.2.1 a.2.2.2.2) (f_i_EgzExample_1_i a.1 a.2.1 a.2.2.1 a.2.2.2.1 a.2.2.2.2) (f_i_EgzExample_1_en r).1 (f_i_EgzExample_1_en r).2
  | 0, _, _, h => by cases h
  | n + 1, a, r, h => f_i_EgzExample_1_ks (f_i_EgzExample_1_n n) (f_i_EgzExample_1_ns n) a.1 a.2.1 a.2.2.1 a.2.2.2.1 a.2.2.2.2 r h
theorem f_i_EgzExample_1_ok (l0 : List Sc) (p2 : List Sc) (h0 : Int) (h1 : List Sc) (h2 : List Sc) (r : Int × List Sc × List Sc) (h : f_i_EgzExample_1 l0 p2 h0 h1 h2 = some r) : CS Try.prog 177 (f_i_EgzExample_1_a l0 p2 h0 h1 h2) (f_i_EgzExample_1_i l0 p2 h0 h1 h2) (f_i_EgzExample_1_en r).1 (f_i_EgzExample_1_en r).2 := by
  obtain ⟨n, hn⟩ := limF_some h
  exact f_i_EgzExample_1_ns n _ r hn
def f_i_EgzExample_1_c : CRow := fun args inh => match dec2 [.fr 3, .p (.pt 0 1), .p .el, .p (.pt 1 1), .p (.pt 2 1)] [.p (.int .i64), .fr 3, .fn 177 [.pt 0 1, .el, .pt 1 1, .pt 2 1]] args inh with
  | some ([.l l0, .l p2], [.i h0, .l h1, .l h2]) => some ((f_i_EgzExample_1 l0 p2 h0 h1 h2).isSome, (f_i_EgzExample_1_en ((f_i_EgzExample_1 l0 p2 h0 h1 h2).getD (0, [], []))).1, (f_i_EgzExample_1_en ((f_i_EgzExample_1 l0 p2 h0 h1 h2).getD (0, [], []))).2)
  | _ => none
theorem f_i_EgzExample_1_cc : CTrue Try.prog 177 f_i_EgzExample_1_c := by
  intro args inh rs out h
  unfold f_i_EgzExample_1_c at h
  split at h
  · rename_i hd
    obtain ⟨h1, h2⟩ := dec2_enc hd
    rw [← h1, ← h2]
    exact rowC (f_i_EgzExample_1_ok _ _ _ _ _) h
  · cases h

def f_i_EgzExample_F : Fi := { nv := 3, nc := 3, m := 0, vt := [(4, 0), (5, 1), (6, 2)], kl := [], sk := [], mvs := [], fz := [18] }
def f_i_EgzExample_a (g0 : List Sc) : List AV := enc [.p .gr] [.l g0]
def f_i_EgzExample_i (g0 : List Sc) : List AV := enc [] []
def f_i_EgzExample_en (r : List Sc × Bool) : List AV × List AV := (enc [.p (.al 0), .p .boo] [.b r.2], enc [.own 3] [.l r.1])
def f_i_EgzExample_M : Calling := addC 142 f_i_IsGroup_c (addC 122 f_i_OrderOf_c (addC 176 f_i_ExponentOf_c (addC 177 f_i_EgzExample_1_c (noC))))
theorem f_i_EgzExample_Mt : CallOk Try.prog (f_i_EgzExample_M) := addC_true f_i_IsGroup_cc (addC_true f_i_OrderOf_cc (addC_true f_i_ExponentOf_cc (addC_true f_i_EgzExample_1_cc (noC_true))))
theorem f_i_EgzExample_o : loopsOnce Try.f66 = true := by kernel_rfl
theorem f_i_EgzExample_p {R : Type} (g0 : List Sc) (kR : List Sc × Bool → Option R) : f_i_EgzExample_k g0 kR = (f_i_EgzExample_k g0 some).bind kR := by
  simp only [f_i_EgzExample_k, brB, boB, someB]
theorem f_i_EgzExample_e (g0 : List Sc) : runFn E0 f_i_EgzExample_M H0 f_i_EgzExample_F (asL (noL)) Try.f66 (f_i_EgzExample_a g0) (f_i_EgzExample_i g0) = f_i_EgzExample_k g0 (fun r => some (f_i_EgzExample_en r)) := by kernel_rfl
theorem f_i_EgzExample_ok (g0 : List Sc) (r : List Sc × Bool) (h : f_i_EgzExample g0 = some r) : CS Try.prog 66 (f_i_EgzExample_a g0) (f_i_EgzExample_i g0) (f_i_EgzExample_en r).1 (f_i_EgzExample_en r).2 :=
  fn_true (Gk := fun k => f_i_EgzExample_k g0 k) (en := f_i_EgzExample_en) Try.func66 E0ok f_i_EgzExample_Mt (noL_true) f_i_EgzExample_o (f_i_EgzExample_e g0) (f_i_EgzExample_p g0) h
def f_i_EgzExample_c : CRow := fun args inh => match dec2 [.p .gr] [] args inh with
  | some ([.l g0], []) => some ((f_i_EgzExample g0).isSome, (f_i_EgzExample_en ((f_i_EgzExample g0).getD ([], false))).1, (f_i_EgzExample_en ((f_i_EgzExample g0).getD ([], false))).2)
  | _ => none
theorem f_i_EgzExample_cc : CTrue Try.prog 66 f_i_EgzExample_c := by
  intro args inh rs out h
  unfold f_i_EgzExample_c at h
  split at h
  · rename_i hd
    obtain ⟨h1, h2⟩ := dec2_enc hd
    rw [← h1, ← h2]
    exact rowC (f_i_EgzExample_ok _) h
  · cases h

def f_s_IsGroup_F : Fi := { nv := 0, nc := 0, m := 0, vt := [], kl := [(0, ([0, 2, 5, 6, 7, 8, 9, 10, 11, 12, 13, 14, 15, 16, 17, 18, 19, 20, 21, 22, 23, 24, 25, 26, 27, 28, 29, 30, 31], [0, 1, 2, 4, 5, 6, 7, 8, 9, 10, 11, 12, 13, 14, 15, 16, 17, 18, 19, 20, 21, 22, 23, 24, 25, 26, 27, 28, 29, 30, 31], [0, 1, 3, 4, 5, 6, 7, 8, 9, 10, 11, 12, 13, 14, 15, 16, 17, 18, 19, 20, 21, 22, 23, 24, 25, 26, 27, 28, 29, 30, 31]))], sk := [], mvs := [], fz := [] }
def f_s_IsGroup_a (g0 : List Sc) : List AV := enc [.p .gr] [.l g0]
def f_s_IsGroup_i (g0 : List Sc) : List AV := enc [] []
def f_s_IsGroup_en (r : Bool) : List AV × List AV := (enc [.p .boo] [.b r], enc [] [])
def f_s_IsGroup_M : Calling := addC 150 f_s_l1In_c (noC)
theorem f_s_IsGroup_Mt : CallOk Try.prog (f_s_IsGroup_M) := addC_true f_s_l1In_cc (noC_true)
theorem f_s_IsGroup_o : loopsOnce Try.f179 = true := by kernel_rfl
def f_s_IsGroup_h0 : List Sh := [.u, .p .el, .u, .p (.int .i64), .p (.int .i64), .u, .u, .u, .u, .u, .u, .u, .u, .u, .u, .u, .u, .u, .u, .u, .u, .u, .u, .u, .u, .u, .u, .u, .u, .u, .u, .u]
def f_s_IsGroup_fr0 (g1 : List Sc) (s : Int × Int) : List AV := enc f_s_IsGroup_h0 [.l g1, .i s.1, .i s.2]
def f_s_IsGroup_g0_1 : List Sh := [.u, .u, .u, .p (.int .i64), .u, .u, .u, .u, .u, .u, .u, .u, .u, .u, .u, .u, .u, .u, .u, .u, .u, .u, .u, .u, .u, .u, .u, .u, .u, .u, .u, .u]
def f_s_IsGroup_x0_1 (g1 : List Sc) (e : Int) : X × List AV := (.out 0, enc f_s_IsGroup_g0_1 [.i e])
def f_s_IsGroup_g0_2 : List Sh := [.u, .u, .p .boo, .u, .u, .u, .u, .u, .u, .u, .u, .u, .u, .u, .u, .u, .u, .u, .u, .u, .u, .u, .u, .u, .u, .u, .u, .u, .u, .u, .u, .u]
def f_s_IsGroup_x0_2 (g1 : List Sc) (e : Unit) : X × List AV := (.ret, enc f_s_IsGroup_g0_2 [.b false])
theorem f_s_IsGroup_p0 {R : Type} (g1 : List Sc) (s : Int × Int) (kN : Int × Int → Option R) (kA : Int → Option R) (kB : Unit → Option R) : f_s_IsGroup_k0 g1 s.1 s.2 kN kA kB = (f_s_IsGroup_r0 g1 s).bind (Ro.el kN kA kB) := by
  simp only [f_s_IsGroup_k0, f_s_IsGroup_r0, brB, boB, someB, noneB, Ro.el]
theorem f_s_IsGroup_e0 (g1 : List Sc) (s : Int × Int) : EC E0 f_s_IsGroup_M H0 f_s_IsGroup_F (asL (noL)) 0 (bodyOf Try.f179 0) (f_s_IsGroup_fr0 g1 s) (done (klOf f_s_IsGroup_F 0)) = f_s_IsGroup_k0 g1 s.1 s.2 (fun s => some (.norm, f_s_IsGroup_fr0 g1 s)) (fun e => some (f_s_IsGroup_x0_1 g1 e)) (fun e => some (f_s_IsGroup_x0_2 g1 e)) := by kernel_rfl
theorem f_s_IsGroup_l0 (g1 : List Sc) : ∀ s r, loopL (f_s_IsGroup_r0 g1) s = some r → LS Try.prog f_s_IsGroup_F (bodyOf Try.f179 0) (f_s_IsGroup_fr0 g1 s) (enX (f_s_IsGroup_x0_1 g1) (f_s_IsGroup_x0_2 g1) r) :=
  loop_true E0ok f_s_IsGroup_Mt (noL_true) f_s_IsGroup_o (fun _ h => by cases h) (fun _ h => by cases h) (fun s => (f_s_IsGroup_e0 g1 s).trans (f_s_IsGroup_p0 g1 s _ _ (fun e => some (f_s_IsGroup_x0_2 g1 e))))
def f_s_IsGroup_t0 (σ : List AV) : Option (Bool × Bool × (X × List AV) × (X × List AV)) := match dec f_s_IsGroup_h0 σ with
  | some [.l g1, .i n3, .i i4] => some ((loopL (f_s_IsGroup_r0 g1) (n3, i4)).isSome, isOne (loopL (f_s_IsGroup_r0 g1) (n3, i4)), f_s_IsGroup_x0_1 g1 (getOne 0 (loopL (f_s_IsGroup_r0 g1) (n3, i4))), f_s_IsGroup_x0_2 g1 (getTwo () (loopL (f_s_IsGroup_r0 g1) (n3, i4))))
  | _ => none
theorem f_s_IsGroup_tt0 : TTrue Try.prog f_s_IsGroup_F Try.f179 0 (f_s_IsGroup_t0) := by
  intro σ p r r' h
  unfold f_s_IsGroup_t0 at h
  split at h
  · rename_i hd
    rw [← dec_enc hd]
    exact row2 (f_s_IsGroup_l0 _ _) h
  · cases h
theorem f_s_IsGroup_p {R : Type} (g0 : List Sc) (kR : Bool → Option R) : f_s_IsGroup_k g0 kR = (f_s_IsGroup_k g0 some).bind kR := by
  simp only [f_s_IsGroup_k, blB, someB]
theorem f_s_IsGroup_e (g0 : List Sc) : runFn E0 f_s_IsGroup_M H0 f_s_IsGroup_F (asL (addL 0 (f_s_IsGroup_t0) (noL))) Try.f179 (f_s_IsGroup_a g0) (f_s_IsGroup_i g0) = f_s_IsGroup_k g0 (fun r => some (f_s_IsGroup_en r)) := by kernel_rfl
theorem f_s_IsGroup_ok (g0 : List Sc) (r : Bool) (h : f_s_IsGroup g0 = some r) : CS Try.prog 179 (f_s_IsGroup_a g0) (f_s_IsGroup_i g0) (f_s_IsGroup_en r).1 (f_s_IsGroup_en r).2 :=
  fn_true (Gk := fun k => f_s_IsGroup_k g0 k) (en := f_s_IsGroup_en) Try.func179 E0ok f_s_IsGroup_Mt (addL_true (f_s_IsGroup_tt0) (noL_true)) f_s_IsGroup_o (f_s_IsGroup_e g0) (f_s_IsGroup_p g0) h
def f_s_IsGroup_c : CRow := fun args inh => match dec2 [.p .gr] [] args inh with
  | some ([.l g0], []) => some ((f_s_IsGroup g0).isSome, (f_s_IsGroup_en ((f_s_IsGroup g0).getD false)).1, (f_s_IsGroup_en ((f_s_IsGroup g0).getD false)).2)
  | _ => none
theorem f_s_IsGroup_cc : CTrue Try.prog 179 f_s_IsGroup_c := by
  intro args inh rs out h
  unfold f_s_IsGroup_c at h
  split at h
  · rename_i hd
    obtain ⟨h1, h2⟩ := dec2_enc hd
    rw [← h1, ← h2]
    exact rowC (f_s_IsGroup_ok _) h
  · cases h

def f_s_l2Order_F : Fi := { nv := 0, nc := 0, m := 0, vt := [], kl := [(0, ([0, 2, 5, 6, 7, 8, 9, 10, 11, 12, 13, 14, 15, 16, 17, 18, 19], [0, 1, 2, 4, 5, 6, 7, 8, 9, 10, 11, 12, 13, 14, 15, 16, 17, 18, 19], [0, 1, 3, 4, 5, 6, 7, 8, 9, 10, 11, 12, 13, 14, 15, 16, 17, 18, 19]))], sk := [], mvs := [], fz := [] }
def f_s_l2Order_a (g0 : List Sc) : List AV := enc [.p .gr] [.l g0]
def f_s_l2Order_i (g0 : List Sc) : List AV := enc [] []
def f_s_l2Order_en (r : Int) : List AV × List AV := (enc [.p (.int .i64)] [.i r], enc [] [])
def f_s_l2Order_M : Calling := noC
theorem f_s_l2Order_Mt : CallOk Try.prog (f_s_l2Order_M) := noC_true
theorem f_s_l2Order_o : loopsOnce Try.f139 = true := by kernel_rfl
def f_s_l2Order_h0 : List Sh := [.u, .p .el, .u, .p (.int .i64), .p (.int .i64), .u, .u, .u, .u, .u, .u, .u, .u, .u, .u, .u, .u, .u, .u, .u]
def f_s_l2Order_fr0 (g1 : List Sc) (s : Int × Int) : List AV := enc f_s_l2Order_h0 [.l g1, .i s.1, .i s.2]
def f_s_l2Order_g0_1 : List Sh := [.u, .u, .u, .p (.int .i64), .u, .u, .u, .u, .u, .u, .u, .u, .u, .u, .u, .u, .u, .u, .u, .u]
def f_s_l2Order_x0_1 (g1 : List Sc) (e : Int) : X × List AV := (.out 0, enc f_s_l2Order_g0_1 [.i e])
def f_s_l2Order_x0_2 (g1 : List Sc) (_e : Unit) : X × List AV := (.ret, [])
theorem f_s_l2Order_p0 {R : Type} (g1 : List Sc) (s : Int × Int) (kN : Int × Int → Option R) (kA : Int → Option R) (kB : Unit → Option R) : f_s_l2Order_k0 g1 s.1 s.2 kN kA = (f_s_l2Order_r0 g1 s).bind (Ro.el kN kA kB) := by
  simp only [f_s_l2Order_k0, f_s_l2Order_r0, brB, someB, noneB, Ro.el]
theorem f_s_l2Order_e0 (g1 : List Sc) (s : Int × Int) : EC E0 f_s_l2Order_M H0 f_s_l2Order_F (asL (noL)) 0 (bodyOf Try.f139 0) (f_s_l2Order_fr0 g1 s) (done (klOf f_s_l2Order_F 0)) = f_s_l2Order_k0 g1 s.1 s.2 (fun s => some (.norm, f_s_l2Order_fr0 g1 s)) (fun e => some (f_s_l2Order_x0_1 g1 e)) := by kernel_rfl
theorem f_s_l2Order_l0 (g1 : List Sc) : ∀ s r, loopL (f_s_l2Order_r0 g1) s = some r → LS Try.prog f_s_l2Order_F (bodyOf Try.f139 0) (f_s_l2Order_fr0 g1 s) (enX (f_s_l2Order_x0_1 g1) (f_s_l2Order_x0_2 g1) r) :=
  loop_true E0ok f_s_l2Order_Mt (noL_true) f_s_l2Order_o (fun _ h => by cases h) (fun _ h => by cases h) (fun s => (f_s_l2Order_e0 g1 s).trans (f_s_l2Order_p0 g1 s _ _ (fun e => some (f_s_l2Order_x0_2 g1 e))))
def f_s_l2Order_t0 (σ : List AV) : Option (Bool × Bool × (X × List AV) × (X × List AV)) := match dec f_s_l2Order_h0 σ with
  | some [.l g1, .i n3, .i i4] => some (isOne (loopL (f_s_l2Order_r0 g1) (n3, i4)), true, f_s_l2Order_x0_1 g1 (getOne 0 (loopL (f_s_l2Order_r0 g1) (n3, i4))), (.ret, []))
  | _ => none
theorem f_s_l2Order_tt0 : TTrue Try.prog f_s_l2Order_F Try.f139 0 (f_s_l2Order_t0) := by
  intro σ p r r' h
  unfold f_s_l2Order_t0 at h
  split at h
  · rename_i hd
    rw [← dec_enc hd]
    exact row1 (f_s_l2Order_l0 _ _) h
  · cases h
theorem f_s_l2Order_p {R : Type} (g0 : List Sc) (kR : Int → Option R) : f_s_l2Order_k g0 kR = (f_s_l2Order_k g0 some).bind kR := by
  simp only [f_s_l2Order_k, bl1B, someB]
theorem f_s_l2Order_e (g0 : List Sc) : runFn E0 f_s_l2Order_M H0 f_s_l2Order_F (asL (addL 0 (f_s_l2Order_t0) (noL))) Try.f139 (f_s_l2Order_a g0) (f_s_l2Order_i g0) = f_s_l2Order_k g0 (fun r => some (f_s_l2Order_en r)) := by kernel_rfl
theorem f_s_l2Order_ok (g0 : List Sc) (r : Int) (h : f_s_l2Order g0 = some r) : CS Try.prog 139 (f_s_l2Order_a g0) (f_s_l2Order_i g0) (f_s_l2Order_en r).1 (f_s_l2Order_en r).2 :=
  fn_true (Gk := fun k => f_s_l2Order_k g0 k) (en := f_s_l2Order_en) Try.func139 E0ok f_s_l2Order_Mt (addL_true (f_s_l2Order_tt0) (noL_true)) f_s_l2Order_o (f_s_l2Order_e g0) (f_s_l2Order_p g0) h
def f_s_l2Order_c : CRow := fun args inh => match dec2 [.p .gr] [] args inh with
  | some ([.l g0], []) => some ((f_s_l2Order g0).isSome, (f_s_l2Order_en ((f_s_l2Order g0).getD 0)).1, (f_s_l2Order_en ((f_s_l2Order g0).getD 0)).2)
  | _ => none
theorem f_s_l2Order_cc : CTrue Try.prog 139 f_s_l2Order_c := by
  intro args inh rs out h
  unfold f_s_l2Order_c at h
  split at h
  · rename_i hd
    obtain ⟨h1, h2⟩ := dec2_enc hd
    rw [← h1, ← h2]
    exact rowC (f_s_l2Order_ok _) h
  · cases h

def f_s_ExponentOf_F : Fi := { nv := 0, nc := 0, m := 0, vt := [], kl := [(2, ([0, 2, 6, 7, 8, 9, 10, 11, 12, 13, 14, 15, 16, 17, 18, 19, 20, 21, 22, 23, 24, 25, 26, 27, 28, 29], [0, 2, 3, 6, 7, 8, 9, 10, 11, 12, 13, 14, 15, 16, 17, 18, 19, 20, 21, 22, 23, 24, 25, 26, 27, 28, 29], [0, 1, 3, 4, 5, 6, 7, 8, 9, 10, 11, 12, 13, 14, 15, 16, 17, 18, 19, 20, 21, 22, 23, 24, 25, 26, 27, 28, 29])), (0, ([0, 2, 5, 6, 7, 8, 9, 10, 11, 12, 13, 14, 15, 16, 17, 18, 19, 20, 21, 22, 23, 24, 25, 26, 27, 28, 29], [0, 2, 6, 7, 8, 9, 10, 11, 12, 13, 14, 15, 16, 17, 18, 19, 20, 21, 22, 23, 24, 25, 26, 27, 28, 29], [0, 1, 3, 4, 5, 6, 7, 8, 9, 10, 11, 12, 13, 14, 15, 16, 17, 18, 19, 20, 21, 22, 23, 24, 25, 26, 27, 28, 29]))], sk := [], mvs := [], fz := [] }
def f_s_ExponentOf_a (g0 : List Sc) : List AV := enc [.p .gr] [.l g0]
def f_s_ExponentOf_i (g0 : List Sc) : List AV := enc [] []
def f_s_ExponentOf_en (r : Int) : List AV × List AV := (enc [.p (.int .i64)] [.i r], enc [] [])
def f_s_ExponentOf_M : Calling := addC 179 f_s_IsGroup_c (noC)
theorem f_s_ExponentOf_Mt : CallOk Try.prog (f_s_ExponentOf_M) := addC_true f_s_IsGroup_cc (noC_true)
theorem f_s_ExponentOf_o : loopsOnce Try.f71 = true := by kernel_rfl
def f_s_ExponentOf_h2 : List Sh := [.u, .p .el, .u, .p (.int .i64), .p (.int .i64), .p (.int .i64), .u, .u, .u, .u, .u, .u, .u, .u, .u, .u, .u, .u, .u, .u, .u, .u, .u, .u, .u, .u, .u, .u, .u, .u]
def f_s_ExponentOf_fr2 (g1 : List Sc) (e3 : Int) (i4 : Int) (s : Int) : List AV := enc f_s_ExponentOf_h2 [.l g1, .i e3, .i i4, .i s]
def f_s_ExponentOf_g2_1 : List Sh := [.u, .p .el, .u, .u, .p (.int .i64), .p (.int .i64), .u, .u, .u, .u, .u, .u, .u, .u, .u, .u, .u, .u, .u, .u, .u, .u, .u, .u, .u, .u, .u, .u, .u, .u]
def f_s_ExponentOf_x2_1 (g1 : List Sc) (e3 : Int) (i4 : Int) (e : Int) : X × List AV := (.out 2, enc f_s_ExponentOf_g2_1 [.l g1, .i i4, .i e])
def f_s_ExponentOf_x2_2 (g1 : List Sc) (e3 : Int) (i4 : Int) (_e : Unit) : X × List AV := (.ret, [])
theorem f_s_ExponentOf_p2 {R : Type} (g1 : List Sc) (e3 : Int) (i4 : Int) (s : Int) (kN : Int → Option R) (kA : Int → Option R) (kB : Unit → Option R) : f_s_ExponentOf_k2 g1 e3 i4 s kN kA = (f_s_ExponentOf_r2 g1 e3 i4 s).bind (Ro.el kN kA kB) := by
  simp only [f_s_ExponentOf_k2, f_s_ExponentOf_r2, brB, someB, noneB, Ro.el]
theorem f_s_ExponentOf_e2 (g1 : List Sc) (e3 : Int) (i4 : Int) (s : Int) : EC E0 f_s_ExponentOf_M H0 f_s_ExponentOf_F (asL (noL)) 2 (bodyOf Try.f71 2) (f_s_ExponentOf_fr2 g1 e3 i4 s) (done (klOf f_s_ExponentOf_F 2)) = f_s_ExponentOf_k2 g1 e3 i4 s (fun s => some (.norm, f_s_ExponentOf_fr2 g1 e3 i4 s)) (fun e => some (f_s_ExponentOf_x2_1 g1 e3 i4 e)) := by kernel_rfl
theorem f_s_ExponentOf_l2 (g1 : List Sc) (e3 : Int) (i4 : Int) : ∀ s r, loopL (f_s_ExponentOf_r2 g1 e3 i4) s = some r → LS Try.prog f_s_ExponentOf_F (bodyOf Try.f71 2) (f_s_ExponentOf_fr2 g1 e3 i4 s) (enX (f_s_ExponentOf_x2_1 g1 e3 i4) (f_s_ExponentOf_x2_2 g1 e3 i4) r) :=
  loop_true E0ok f_s_ExponentOf_Mt (noL_true) f_s_ExponentOf_o (fun _ h => by cases h) (fun _ h => by cases h) (fun s => (f_s_ExponentOf_e2 g1 e3 i4 s).trans (f_s_ExponentOf_p2 g1 e3 i4 s _ _ (fun e => some (f_s_ExponentOf_x2_2 g1 e3 i4 e))))
def f_s_ExponentOf_t2 (σ : List AV) : Option (Bool × Bool × (X × List AV) × (X × List AV)) := match dec f_s_ExponentOf_h2 σ with
  | some [.l g1, .i e3, .i i4, .i x5] => some (isOne (loopL (f_s_ExponentOf_r2 g1 e3 i4) x5), true, f_s_ExponentOf_x2_1 g1 e3 i4 (getOne 0 (loopL (f_s_ExponentOf_r2 g1 e3 i4) x5)), (.ret, []))
  | _ => none
theorem f_s_ExponentOf_tt2 : TTrue Try.prog f_s_ExponentOf_F Try.f71 2 (f_s_ExponentOf_t2) := by
  intro σ p r r' h
  unfold f_s_ExponentOf_t2 at h
  split at h
  · rename_i hd
    rw [← dec_enc hd]
    exact row1 (f_s_ExponentOf_l2 _ _ _ _) h
  · cases h
def f_s_ExponentOf_h0 : List Sh := [.u, .p .el, .u, .p (.int .i64), .p (.int .i64), .u, .u, .u, .u, .u, .u, .u, .u, .u, .u, .u, .u, .u, .u, .u, .u, .u, .u, .u, .u, .u, .u, .u, .u, .u]
def f_s_ExponentOf_fr0 (g1 : List Sc) (s : Int × Int) : List AV := enc f_s_ExponentOf_h0 [.l g1, .i s.1, .i s.2]
def f_s_ExponentOf_g0_1 : List Sh := [.u, .p .el, .u, .p (.int .i64), .p (.int .i64), .u, .u, .u, .u, .u, .u, .u, .u, .u, .u, .u, .u, .u, .u, .u, .u, .u, .u, .u, .u, .u, .u, .u, .u, .u]
def f_s_ExponentOf_x0_1 (g1 : List Sc) (e : Int × Int) : X × List AV := (.out 0, enc f_s_ExponentOf_g0_1 [.l g1, .i e.1, .i e.2])
def f_s_ExponentOf_x0_2 (g1 : List Sc) (_e : Unit) : X × List AV := (.ret, [])
theorem f_s_ExponentOf_p0 {R : Type} (g1 : List Sc) (s : Int × Int) (kN : Int × Int → Option R) (kA : Int × Int → Option R) (kB : Unit → Option R) : f_s_ExponentOf_k0 g1 s.1 s.2 kN kA = (f_s_ExponentOf_r0 g1 s).bind (Ro.el kN kA kB) := by
  simp only [f_s_ExponentOf_k0, f_s_ExponentOf_r0, brB, bl1B, someB, Ro.el]
theorem f_s_ExponentOf_e0 (g1 : List Sc) (s : Int × Int) : EC E0 f_s_ExponentOf_M H0 f_s_ExponentOf_F (asL (addL 2 (f_s_ExponentOf_t2) (noL))) 0 (bodyOf Try.f71 0) (f_s_ExponentOf_fr0 g1 s) (done (klOf f_s_ExponentOf_F 0)) = f_s_ExponentOf_k0 g1 s.1 s.2 (fun s => some (.norm, f_s_ExponentOf_fr0 g1 s)) (fun e => some (f_s_ExponentOf_x0_1 g1 e)) := by kernel_rfl
theorem f_s_ExponentOf_l0 (g1 : List Sc) : ∀ s r, loopL (f_s_ExponentOf_r0 g1) s = some r → LS Try.prog f_s_ExponentOf_F (bodyOf Try.f71 0) (f_s_ExponentOf_fr0 g1 s) (enX (f_s_ExponentOf_x0_1 g1) (f_s_ExponentOf_x0_2 g1) r) :=
  loop_true E0ok f_s_ExponentOf_Mt (addL_true (f_s_ExponentOf_tt2) (noL_true)) f_s_ExponentOf_o (fun _ h => by cases h) (fun _ h => by cases h) (fun s => (f_s_ExponentOf_e0 g1 s).trans (f_s_ExponentOf_p0 g1 s _ _ (fun e => some (f_s_ExponentOf_x0_2 g1 e))))
def f_s_ExponentOf_t0 (σ : List AV) : Option (Bool × Bool × (X × List AV) × (X × List AV)) := match dec f_s_ExponentOf_h0 σ with
  | some [.l g1, .i e3, .i i4] => some (isOne (loopL (f_s_ExponentOf_r0 g1) (e3, i4)), true, f_s_ExponentOf_x0_1 g1 (getOne (0, 0) (loopL (f_s_ExponentOf_r0 g1) (e3, i4))), (.ret, []))
  | _ => none
theorem f_s_ExponentOf_tt0 : TTrue Try.prog f_s_ExponentOf_F Try.f71 0 (f_s_ExponentOf_t0) := by
  intro σ p r r' h
  unfold f_s_ExponentOf_t0 at h
  split at h
  · rename_i hd
    rw [← dec_enc hd]
    exact row1 (f_s_ExponentOf_l0 _ _) h
  · cases h
theorem f_s_ExponentOf_p {R : Type} (g0 : List Sc) (kR : Int → Option R) : f_s_ExponentOf_k g0 kR = (f_s_ExponentOf_k g0 some).bind kR := by
  simp only [f_s_ExponentOf_k, brB, boB, bl1B, someB]
theorem f_s_ExponentOf_e (g0 : List Sc) : runFn E0 f_s_ExponentOf_M H0 f_s_ExponentOf_F (asL (addL 0 (f_s_ExponentOf_t0) (addL 2 (f_s_ExponentOf_t2) (noL)))) Try.f71 (f_s_ExponentOf_a g0) (f_s_ExponentOf_i g0) = f_s_ExponentOf_k g0 (fun r => some (f_s_ExponentOf_en r)) := by kernel_rfl
theorem f_s_ExponentOf_ok (g0 : List Sc) (r : Int) (h : f_s_ExponentOf g0 = some r) : CS Try.prog 71 (f_s_ExponentOf_a g0) (f_s_ExponentOf_i g0) (f_s_ExponentOf_en r).1 (f_s_ExponentOf_en r).2 :=
  fn_true (Gk := fun k => f_s_ExponentOf_k g0 k) (en := f_s_ExponentOf_en) Try.func71 E0ok f_s_ExponentOf_Mt (addL_true (f_s_ExponentOf_tt0) (addL_true (f_s_ExponentOf_tt2) (noL_true))) f_s_ExponentOf_o (f_s_ExponentOf_e g0) (f_s_ExponentOf_p g0) h
def f_s_ExponentOf_c : CRow := fun args inh => match dec2 [.p .gr] [] args inh with
  | some ([.l g0], []) => some ((f_s_ExponentOf g0).isSome, (f_s_ExponentOf_en ((f_s_ExponentOf g0).getD 0)).1, (f_s_ExponentOf_en ((f_s_ExponentOf g0).getD 0)).2)
  | _ => none
theorem f_s_ExponentOf_cc : CTrue Try.prog 71 f_s_ExponentOf_c := by
  intro args inh rs out h
  unfold f_s_ExponentOf_c at h
  split at h
  · rename_i hd
    obtain ⟨h1, h2⟩ := dec2_enc hd
    rw [← h1, ← h2]
    exact rowC (f_s_ExponentOf_ok _) h
  · cases h

def f_s_OrderOf_F : Fi := { nv := 0, nc := 0, m := 0, vt := [], kl := [], sk := [], mvs := [], fz := [] }
def f_s_OrderOf_a (g0 : List Sc) : List AV := enc [.p .gr] [.l g0]
def f_s_OrderOf_i (g0 : List Sc) : List AV := enc [] []
def f_s_OrderOf_en (r : Int) : List AV × List AV := (enc [.p (.int .i64)] [.i r], enc [] [])
def f_s_OrderOf_M : Calling := addC 179 f_s_IsGroup_c (addC 139 f_s_l2Order_c (noC))
theorem f_s_OrderOf_Mt : CallOk Try.prog (f_s_OrderOf_M) := addC_true f_s_IsGroup_cc (addC_true f_s_l2Order_cc (noC_true))
theorem f_s_OrderOf_o : loopsOnce Try.f72 = true := by kernel_rfl
theorem f_s_OrderOf_p {R : Type} (g0 : List Sc) (kR : Int → Option R) : f_s_OrderOf_k g0 kR = (f_s_OrderOf_k g0 some).bind kR := by
  simp only [f_s_OrderOf_k, brB, boB, someB]
theorem f_s_OrderOf_e (g0 : List Sc) : runFn E0 f_s_OrderOf_M H0 f_s_OrderOf_F (asL (noL)) Try.f72 (f_s_OrderOf_a g0) (f_s_OrderOf_i g0) = f_s_OrderOf_k g0 (fun r => some (f_s_OrderOf_en r)) := by kernel_rfl
theorem f_s_OrderOf_ok (g0 : List Sc) (r : Int) (h : f_s_OrderOf g0 = some r) : CS Try.prog 72 (f_s_OrderOf_a g0) (f_s_OrderOf_i g0) (f_s_OrderOf_en r).1 (f_s_OrderOf_en r).2 :=
  fn_true (Gk := fun k => f_s_OrderOf_k g0 k) (en := f_s_OrderOf_en) Try.func72 E0ok f_s_OrderOf_Mt (noL_true) f_s_OrderOf_o (f_s_OrderOf_e g0) (f_s_OrderOf_p g0) h
def f_s_OrderOf_c : CRow := fun args inh => match dec2 [.p .gr] [] args inh with
  | some ([.l g0], []) => some ((f_s_OrderOf g0).isSome, (f_s_OrderOf_en ((f_s_OrderOf g0).getD 0)).1, (f_s_OrderOf_en ((f_s_OrderOf g0).getD 0)).2)
  | _ => none
theorem f_s_OrderOf_cc : CTrue Try.prog 72 f_s_OrderOf_c := by
  intro args inh rs out h
  unfold f_s_OrderOf_c at h
  split at h
  · rename_i hd
    obtain ⟨h1, h2⟩ := dec2_enc hd
    rw [← h1, ← h2]
    exact rowC (f_s_OrderOf_ok _) h
  · cases h

def f_s_l2Is_F : Fi := { nv := 0, nc := 0, m := 0, vt := [], kl := [], sk := [], mvs := [], fz := [] }
def f_s_l2Is_a (g0 : List Sc) (x1 : Int) : List AV := enc [.p .gr, .p (.int .i64)] [.l g0, .i x1]
def f_s_l2Is_i (g0 : List Sc) (x1 : Int) : List AV := enc [] []
def f_s_l2Is_en (r : Bool) : List AV × List AV := (enc [.p .boo] [.b r], enc [] [])
def f_s_l2Is_M : Calling := addC 72 f_s_OrderOf_c (noC)
theorem f_s_l2Is_Mt : CallOk Try.prog (f_s_l2Is_M) := addC_true f_s_OrderOf_cc (noC_true)
theorem f_s_l2Is_o : loopsOnce Try.f148 = true := by kernel_rfl
theorem f_s_l2Is_p {R : Type} (g0 : List Sc) (x1 : Int) (kR : Bool → Option R) : f_s_l2Is_k g0 x1 kR = (f_s_l2Is_k g0 x1 some).bind kR := by
  simp only [f_s_l2Is_k, brB, boB, someB]
theorem f_s_l2Is_e (g0 : List Sc) (x1 : Int) : runFn E0 f_s_l2Is_M H0 f_s_l2Is_F (asL (noL)) Try.f148 (f_s_l2Is_a g0 x1) (f_s_l2Is_i g0 x1) = f_s_l2Is_k g0 x1 (fun r => some (f_s_l2Is_en r)) := by kernel_rfl
theorem f_s_l2Is_ok (g0 : List Sc) (x1 : Int) (r : Bool) (h : f_s_l2Is g0 x1 = some r) : CS Try.prog 148 (f_s_l2Is_a g0 x1) (f_s_l2Is_i g0 x1) (f_s_l2Is_en r).1 (f_s_l2Is_en r).2 :=
  fn_true (Gk := fun k => f_s_l2Is_k g0 x1 k) (en := f_s_l2Is_en) Try.func148 E0ok f_s_l2Is_Mt (noL_true) f_s_l2Is_o (f_s_l2Is_e g0 x1) (f_s_l2Is_p g0 x1) h
def f_s_l2Is_c : CRow := fun args inh => match dec2 [.p .gr, .p (.int .i64)] [] args inh with
  | some ([.l g0, .i x1], []) => some ((f_s_l2Is g0 x1).isSome, (f_s_l2Is_en ((f_s_l2Is g0 x1).getD false)).1, (f_s_l2Is_en ((f_s_l2Is g0 x1).getD false)).2)
  | _ => none
theorem f_s_l2Is_cc : CTrue Try.prog 148 f_s_l2Is_c := by
  intro args inh rs out h
  unfold f_s_l2Is_c at h
  split at h
  · rename_i hd
    obtain ⟨h1, h2⟩ := dec2_enc hd
    rw [← h1, ← h2]
    exact rowC (f_s_l2Is_ok _ _) h
  · cases h

def f_s_IsSequence_F : Fi := { nv := 0, nc := 0, m := 0, vt := [], kl := [(0, ([0, 3, 4, 6, 7, 8, 9, 10, 11, 12, 13, 14, 15, 16, 17, 18, 19, 20, 21, 22, 23, 24, 25, 26, 27, 28, 29, 30, 31, 32, 33, 34, 35, 36, 37, 38, 39, 40, 41], [0, 3, 4, 5, 6, 7, 8, 9, 10, 11, 12, 13, 14, 15, 16, 17, 18, 19, 20, 21, 22, 23, 24, 25, 26, 27, 28, 29, 30, 31, 32, 33, 34, 35, 36, 37, 38, 39, 40, 41], [0, 1, 2, 3, 5, 6, 7, 8, 9, 10, 11, 12, 13, 14, 15, 16, 17, 18, 19, 20, 21, 22, 23, 24, 25, 26, 27, 28, 29, 30, 31, 32, 33, 34, 35, 36, 37, 38, 39, 40, 41]))], sk := [], mvs := [], fz := [] }
def f_s_IsSequence_a (g0 : List Sc) (l1 : List Sc) : List AV := enc [.p .gr, .p .sl] [.l g0, .l l1]
def f_s_IsSequence_i (g0 : List Sc) (l1 : List Sc) : List AV := enc [] []
def f_s_IsSequence_en (r : Bool) : List AV × List AV := (enc [.p .boo] [.b r], enc [] [])
def f_s_IsSequence_M : Calling := addC 148 f_s_l2Is_c (addC 179 f_s_IsGroup_c (noC))
theorem f_s_IsSequence_Mt : CallOk Try.prog (f_s_IsSequence_M) := addC_true f_s_l2Is_cc (addC_true f_s_IsGroup_cc (noC_true))
theorem f_s_IsSequence_o : loopsOnce Try.f101 = true := by kernel_rfl
def f_s_IsSequence_h0 : List Sh := [.u, .p .sl, .p .el, .u, .u, .p (.int .i64), .u, .u, .u, .u, .u, .u, .u, .u, .u, .u, .u, .u, .u, .u, .u, .u, .u, .u, .u, .u, .u, .u, .u, .u, .u, .u, .u, .u, .u, .u, .u, .u, .u, .u, .u, .u]
def f_s_IsSequence_fr0 (l1 : List Sc) (g2 : List Sc) (s : Int) : List AV := enc f_s_IsSequence_h0 [.l l1, .l g2, .i s]
def f_s_IsSequence_g0_1 : List Sh := [.u, .p .sl, .p .el, .u, .u, .u, .u, .u, .u, .u, .u, .u, .u, .u, .u, .u, .u, .u, .u, .u, .u, .u, .u, .u, .u, .u, .u, .u, .u, .u, .u, .u, .u, .u, .u, .u, .u, .u, .u, .u, .u, .u]
def f_s_IsSequence_x0_1 (l1 : List Sc) (g2 : List Sc) (e : Unit) : X × List AV := (.out 0, enc f_s_IsSequence_g0_1 [.l l1, .l g2])
def f_s_IsSequence_g0_2 : List Sh := [.u, .u, .u, .u, .p .boo, .u, .u, .u, .u, .u, .u, .u, .u, .u, .u, .u, .u, .u, .u, .u, .u, .u, .u, .u, .u, .u, .u, .u, .u, .u, .u, .u, .u, .u, .u, .u, .u, .u, .u, .u, .u, .u]
def f_s_IsSequence_x0_2 (l1 : List Sc) (g2 : List Sc) (e : Unit) : X × List AV := (.ret, enc f_s_IsSequence_g0_2 [.b false])
theorem f_s_IsSequence_p0 {R : Type} (l1 : List Sc) (g2 : List Sc) (s : Int) (kN : Int → Option R) (kA : Unit → Option R) (kB : Unit → Option R) : f_s_IsSequence_k0 l1 g2 s kN kA kB = (f_s_IsSequence_r0 l1 g2 s).bind (Ro.el kN kA kB) := by
  simp only [f_s_IsSequence_k0, f_s_IsSequence_r0, brB, boB, someB, noneB, Ro.el]
theorem f_s_IsSequence_e0 (l1 : List Sc) (g2 : List Sc) (s : Int) : EC E0 f_s_IsSequence_M H0 f_s_IsSequence_F (asL (noL)) 0 (bodyOf Try.f101 0) (f_s_IsSequence_fr0 l1 g2 s) (done (klOf f_s_IsSequence_F 0)) = f_s_IsSequence_k0 l1 g2 s (fun s => some (.norm, f_s_IsSequence_fr0 l1 g2 s)) (fun e => some (f_s_IsSequence_x0_1 l1 g2 e)) (fun e => some (f_s_IsSequence_x0_2 l1 g2 e)) := by kernel_rfl
theorem f_s_IsSequence_l0 (l1 : List Sc) (g2 : List Sc) : ∀ s r, loopL (f_s_IsSequence_r0 l1 g2) s = some r → LS Try.prog f_s_IsSequence_F (bodyOf Try.f101 0) (f_s_IsSequence_fr0 l1 g2 s) (enX (f_s_IsSequence_x0_1 l1 g2) (f_s_IsSequence_x0_2 l1 g2) r) :=
  loop_true E0ok f_s_IsSequence_Mt (noL_true) f_s_IsSequence_o (fun _ h => by cases h) (fun _ h => by cases h) (fun s => (f_s_IsSequence_e0 l1 g2 s).trans (f_s_IsSequence_p0 l1 g2 s _ _ (fun e => some (f_s_IsSequence_x0_2 l1 g2 e))))
def f_s_IsSequence_t0 (σ : List AV) : Option (Bool × Bool × (X × List AV) × (X × List AV)) := match dec f_s_IsSequence_h0 σ with
  | some [.l l1, .l g2, .i i5] => some ((loopL (f_s_IsSequence_r0 l1 g2) i5).isSome, isOne (loopL (f_s_IsSequence_r0 l1 g2) i5), f_s_IsSequence_x0_1 l1 g2 (getOne () (loopL (f_s_IsSequence_r0 l1 g2) i5)), f_s_IsSequence_x0_2 l1 g2 (getTwo () (loopL (f_s_IsSequence_r0 l1 g2) i5)))
  | _ => none
theorem f_s_IsSequence_tt0 : TTrue Try.prog f_s_IsSequence_F Try.f101 0 (f_s_IsSequence_t0) := by
  intro σ p r r' h
  unfold f_s_IsSequence_t0 at h
  split at h
  · rename_i hd
    rw [← dec_enc hd]
    exact row2 (f_s_IsSequence_l0 _ _ _) h
  · cases h
theorem f_s_IsSequence_p {R : Type} (g0 : List Sc) (l1 : List Sc) (kR : Bool → Option R) : f_s_IsSequence_k g0 l1 kR = (f_s_IsSequence_k g0 l1 some).bind kR := by
  simp only [f_s_IsSequence_k, brB, boB, blB, someB]
theorem f_s_IsSequence_e (g0 : List Sc) (l1 : List Sc) : runFn E0 f_s_IsSequence_M H0 f_s_IsSequence_F (asL (addL 0 (f_s_IsSequence_t0) (noL))) Try.f101 (f_s_IsSequence_a g0 l1) (f_s_IsSequence_i g0 l1) = f_s_IsSequence_k g0 l1 (fun r => some (f_s_IsSequence_en r)) := by kernel_rfl
theorem f_s_IsSequence_ok (g0 : List Sc) (l1 : List Sc) (r : Bool) (h : f_s_IsSequence g0 l1 = some r) : CS Try.prog 101 (f_s_IsSequence_a g0 l1) (f_s_IsSequence_i g0 l1) (f_s_IsSequence_en r).1 (f_s_IsSequence_en r).2 :=
  fn_true (Gk := fun k => f_s_IsSequence_k g0 l1 k) (en := f_s_IsSequence_en) Try.func101 E0ok f_s_IsSequence_Mt (addL_true (f_s_IsSequence_tt0) (noL_true)) f_s_IsSequence_o (f_s_IsSequence_e g0 l1) (f_s_IsSequence_p g0 l1) h
def f_s_IsSequence_c : CRow := fun args inh => match dec2 [.p .gr, .p .sl] [] args inh with
  | some ([.l g0, .l l1], []) => some ((f_s_IsSequence g0 l1).isSome, (f_s_IsSequence_en ((f_s_IsSequence g0 l1).getD false)).1, (f_s_IsSequence_en ((f_s_IsSequence g0 l1).getD false)).2)
  | _ => none
theorem f_s_IsSequence_cc : CTrue Try.prog 101 f_s_IsSequence_c := by
  intro args inh rs out h
  unfold f_s_IsSequence_c at h
  split at h
  · rename_i hd
    obtain ⟨h1, h2⟩ := dec2_enc hd
    rw [← h1, ← h2]
    exact rowC (f_s_IsSequence_ok _ _) h
  · cases h

def f_s_l3List_F : Fi := { nv := 0, nc := 0, m := 0, vt := [], kl := [(0, ([0, 1, 2, 6, 7, 8, 9, 10, 11, 12, 13, 14, 15, 16, 17, 18, 19, 20, 21], [0, 1, 2, 4, 5, 6, 7, 8, 9, 10, 11, 12, 13, 14, 15, 16, 17, 18, 19, 20, 21], [0, 1, 3, 4, 5, 6, 7, 8, 9, 10, 11, 12, 13, 14, 15, 16, 17, 18, 19, 20, 21]))], sk := [], mvs := [], fz := [] }
def f_s_l3List_a (a0 : Int) : List AV := enc [.p (.int .i64)] [.i a0]
def f_s_l3List_i (a0 : Int) : List AV := enc [] []
def f_s_l3List_en (r : List Sc) : List AV × List AV := (enc [.p (.al 0)] [], enc [.own 3] [.l r])
def f_s_l3List_M : Calling := noC
theorem f_s_l3List_Mt : CallOk Try.prog (f_s_l3List_M) := noC_true
theorem f_s_l3List_o : loopsOnce Try.f136 = true := by kernel_rfl
def f_s_l3List_h0 : List Sh := [.u, .u, .u, .own 3, .p (.int .i64), .p (.int .i64), .u, .u, .u, .u, .u, .u, .u, .u, .u, .u, .u, .u, .u, .u, .u, .u]
def f_s_l3List_fr0 (s : List Sc × Int × Int) : List AV := enc f_s_l3List_h0 [.l s.1, .i s.2.1, .i s.2.2]
def f_s_l3List_g0_1 : List Sh := [.u, .u, .u, .own 3, .u, .u, .u, .u, .u, .u, .u, .u, .u, .u, .u, .u, .u, .u, .u, .u, .u, .u]
def f_s_l3List_x0_1 (e : List Sc) : X × List AV := (.out 0, enc f_s_l3List_g0_1 [.l e])
def f_s_l3List_x0_2 (_e : Unit) : X × List AV := (.ret, [])
theorem f_s_l3List_p0 {R : Type} (s : List Sc × Int × Int) (kN : List Sc × Int × Int → Option R) (kA : List Sc → Option R) (kB : Unit → Option R) : f_s_l3List_k0 s.1 s.2.1 s.2.2 kN kA = (f_s_l3List_r0 s).bind (Ro.el kN kA kB) := by
  simp only [f_s_l3List_k0, f_s_l3List_r0, brB, someB, noneB, Ro.el]
theorem f_s_l3List_e0 (s : List Sc × Int × Int) : EC E0 f_s_l3List_M H0 f_s_l3List_F (asL (noL)) 0 (bodyOf Try.f136 0) (f_s_l3List_fr0 s) (done (klOf f_s_l3List_F 0)) = f_s_l3List_k0 s.1 s.2.1 s.2.2 (fun s => some (.norm, f_s_l3List_fr0 s)) (fun e => some (f_s_l3List_x0_1 e)) := by kernel_rfl
theorem f_s_l3List_l0 : ∀ s r, loopL (f_s_l3List_r0) s = some r → LS Try.prog f_s_l3List_F (bodyOf Try.f136 0) (f_s_l3List_fr0 s) (enX (f_s_l3List_x0_1) (f_s_l3List_x0_2) r) :=
  loop_true E0ok f_s_l3List_Mt (noL_true) f_s_l3List_o (fun _ h => by cases h) (fun _ h => by cases h) (fun s => (f_s_l3List_e0 s).trans (f_s_l3List_p0 s _ _ (fun e => some (f_s_l3List_x0_2 e))))
def f_s_l3List_t0 (σ : List AV) : Option (Bool × Bool × (X × List AV) × (X × List AV)) := match dec f_s_l3List_h0 σ with
  | some [.l out3, .i i4, .i x5] => some (isOne (loopL (f_s_l3List_r0) (out3, i4, x5)), true, f_s_l3List_x0_1 (getOne [] (loopL (f_s_l3List_r0) (out3, i4, x5))), (.ret, []))
  | _ => none
theorem f_s_l3List_tt0 : TTrue Try.prog f_s_l3List_F Try.f136 0 (f_s_l3List_t0) := by
  intro σ p r r' h
  unfold f_s_l3List_t0 at h
  split at h
  · rename_i hd
    rw [← dec_enc hd]
    exact row1 (f_s_l3List_l0 _) h
  · cases h
theorem f_s_l3List_p {R : Type} (a0 : Int) (kR : List Sc → Option R) : f_s_l3List_k a0 kR = (f_s_l3List_k a0 some).bind kR := by
  simp only [f_s_l3List_k, bl1B, someB]
theorem f_s_l3List_e (a0 : Int) : runFn E0 f_s_l3List_M H0 f_s_l3List_F (asL (addL 0 (f_s_l3List_t0) (noL))) Try.f136 (f_s_l3List_a a0) (f_s_l3List_i a0) = f_s_l3List_k a0 (fun r => some (f_s_l3List_en r)) := by kernel_rfl
theorem f_s_l3List_ok (a0 : Int) (r : List Sc) (h : f_s_l3List a0 = some r) : CS Try.prog 136 (f_s_l3List_a a0) (f_s_l3List_i a0) (f_s_l3List_en r).1 (f_s_l3List_en r).2 :=
  fn_true (Gk := fun k => f_s_l3List_k a0 k) (en := f_s_l3List_en) Try.func136 E0ok f_s_l3List_Mt (addL_true (f_s_l3List_tt0) (noL_true)) f_s_l3List_o (f_s_l3List_e a0) (f_s_l3List_p a0) h
def f_s_l3List_c : CRow := fun args inh => match dec2 [.p (.int .i64)] [] args inh with
  | some ([.i a0], []) => some ((f_s_l3List a0).isSome, (f_s_l3List_en ((f_s_l3List a0).getD [])).1, (f_s_l3List_en ((f_s_l3List a0).getD [])).2)
  | _ => none
theorem f_s_l3List_cc : CTrue Try.prog 136 f_s_l3List_c := by
  intro args inh rs out h
  unfold f_s_l3List_c at h
  split at h
  · rename_i hd
    obtain ⟨h1, h2⟩ := dec2_enc hd
    rw [← h1, ← h2]
    exact rowC (f_s_l3List_ok _) h
  · cases h

def f_s_l2Add_F : Fi := { nv := 0, nc := 0, m := 0, vt := [], kl := [(0, ([0, 4, 5, 6, 10, 11, 12, 13, 14, 15, 16, 17, 18, 19, 20, 21, 22, 23, 24, 25, 26, 27, 28, 29, 30, 31, 32, 33, 34, 35, 36, 37, 38, 39, 40, 41, 42, 43, 44, 45], [0, 1, 2, 3, 4, 5, 6, 8, 9, 10, 11, 12, 13, 14, 15, 16, 17, 18, 19, 20, 21, 22, 23, 24, 25, 26, 27, 28, 29, 30, 31, 32, 33, 34, 35, 36, 37, 38, 39, 40, 41, 42, 43, 44, 45], [0, 1, 2, 3, 4, 5, 7, 8, 9, 10, 11, 12, 13, 14, 15, 16, 17, 18, 19, 20, 21, 22, 23, 24, 25, 26, 27, 28, 29, 30, 31, 32, 33, 34, 35, 36, 37, 38, 39, 40, 41, 42, 43, 44, 45]))], sk := [], mvs := [], fz := [] }
def f_s_l2Add_a (g0 : List Sc) (x1 : Int) (y2 : Int) : List AV := enc [.p .gr, .p (.int .i64), .p (.int .i64)] [.l g0, .i x1, .i y2]
def f_s_l2Add_i (g0 : List Sc) (x1 : Int) (y2 : Int) : List AV := enc [] []
def f_s_l2Add_en (r : Int) : List AV × List AV := (enc [.p (.int .i64)] [.i r], enc [] [])
def f_s_l2Add_M : Calling := noC
theorem f_s_l2Add_Mt : CallOk Try.prog (f_s_l2Add_M) := noC_true
theorem f_s_l2Add_o : loopsOnce Try.f156 = true := by kernel_rfl
def f_s_l2Add_h0 : List Sh := [.u, .p (.int .i64), .p (.int .i64), .p .el, .u, .u, .u, .p (.int .i64), .p (.int .i64), .p (.int .i64), .u, .u, .u, .u, .u, .u, .u, .u, .u, .u, .u, .u, .u, .u, .u, .u, .u, .u, .u, .u, .u, .u, .u, .u, .u, .u, .u, .u, .u, .u, .u, .u, .u, .u, .u, .u]
def f_s_l2Add_fr0 (g3 : List Sc) (s : Int × Int × Int × Int × Int) : List AV := enc f_s_l2Add_h0 [.i s.1, .i s.2.1, .l g3, .i s.2.2.1, .i s.2.2.2.1, .i s.2.2.2.2]
def f_s_l2Add_g0_1 : List Sh := [.u, .u, .u, .u, .u, .u, .u, .p (.int .i64), .u, .u, .u, .u, .u, .u, .u, .u, .u, .u, .u, .u, .u, .u, .u, .u, .u, .u, .u, .u, .u, .u, .u, .u, .u, .u, .u, .u, .u, .u, .u, .u, .u, .u, .u, .u, .u, .u]
def f_s_l2Add_x0_1 (g3 : List Sc) (e : Int) : X × List AV := (.out 0, enc f_s_l2Add_g0_1 [.i e])
def f_s_l2Add_x0_2 (g3 : List Sc) (_e : Unit) : X × List AV := (.ret, [])
theorem f_s_l2Add_p0 {R : Type} (g3 : List Sc) (s : Int × Int × Int × Int × Int) (kN : Int × Int × Int × Int × Int → Option R) (kA : Int → Option R) (kB : Unit → Option R) : f_s_l2Add_k0 g3 s.1 s.2.1 s.2.2.1 s.2.2.2.1 s.2.2.2.2 kN kA = (f_s_l2Add_r0 g3 s).bind (Ro.el kN kA kB) := by
  simp only [f_s_l2Add_k0, f_s_l2Add_r0, brB, someB, noneB, Ro.el]
theorem f_s_l2Add_e0 (g3 : List Sc) (s : Int × Int × Int × Int × Int) : EC E0 f_s_l2Add_M H0 f_s_l2Add_F (asL (noL)) 0 (bodyOf Try.f156 0) (f_s_l2Add_fr0 g3 s) (done (klOf f_s_l2Add_F 0)) = f_s_l2Add_k0 g3 s.1 s.2.1 s.2.2.1 s.2.2.2.1 s.2.2.2.2 (fun s => some (.norm, f_s_l2Add_fr0 g3 s)) (fun e => some (f_s_l2Add_x0_1 g3 e)) := by kernel_rfl
theorem f_s_l2Add_l0 (g3 : List Sc) : ∀ s r, loopL (f_s_l2Add_r0 g3) s = some r → LS Try.prog f_s_l2Add_F (bodyOf Try.f156 0) (f_s_l2Add_fr0 g3 s) (enX (f_s_l2Add_x0_1 g3) (f_s_l2Add_x0_2 g3) r) :=
  loop_true E0ok f_s_l2Add_Mt (noL_true) f_s_l2Add_o (fun _ h => by cases h) (fun _ h => by cases h) (fun s => (f_s_l2Add_e0 g3 s).trans (f_s_l2Add_p0 g3 s _ _ (fun e => some (f_s_l2Add_x0_2 g3 e))))
def f_s_l2Add_t0 (σ : List AV) : Option (Bool × Bool × (X × List AV) × (X × List AV)) := match dec f_s_l2Add_h0 σ with
  | some [.i x1, .i y2, .l g3, .i z7, .i step8, .i i9] => some (isOne (loopL (f_s_l2Add_r0 g3) (x1, y2, z7, step8, i9)), true, f_s_l2Add_x0_1 g3 (getOne 0 (loopL (f_s_l2Add_r0 g3) (x1, y2, z7, step8, i9))), (.ret, []))
  | _ => none
theorem f_s_l2Add_tt0 : TTrue Try.prog f_s_l2Add_F Try.f156 0 (f_s_l2Add_t0) := by
  intro σ p r r' h
  unfold f_s_l2Add_t0 at h
  split at h
  · rename_i hd
    rw [← dec_enc hd]
    exact row1 (f_s_l2Add_l0 _ _) h
  · cases h
theorem f_s_l2Add_p {R : Type} (g0 : List Sc) (x1 : Int) (y2 : Int) (kR : Int → Option R) : f_s_l2Add_k g0 x1 y2 kR = (f_s_l2Add_k g0 x1 y2 some).bind kR := by
  simp only [f_s_l2Add_k, bl1B, someB]
theorem f_s_l2Add_e (g0 : List Sc) (x1 : Int) (y2 : Int) : runFn E0 f_s_l2Add_M H0 f_s_l2Add_F (asL (addL 0 (f_s_l2Add_t0) (noL))) Try.f156 (f_s_l2Add_a g0 x1 y2) (f_s_l2Add_i g0 x1 y2) = f_s_l2Add_k g0 x1 y2 (fun r => some (f_s_l2Add_en r)) := by kernel_rfl
theorem f_s_l2Add_ok (g0 : List Sc) (x1 : Int) (y2 : Int) (r : Int) (h : f_s_l2Add g0 x1 y2 = some r) : CS Try.prog 156 (f_s_l2Add_a g0 x1 y2) (f_s_l2Add_i g0 x1 y2) (f_s_l2Add_en r).1 (f_s_l2Add_en r).2 :=
  fn_true (Gk := fun k => f_s_l2Add_k g0 x1 y2 k) (en := f_s_l2Add_en) Try.func156 E0ok f_s_l2Add_Mt (addL_true (f_s_l2Add_tt0) (noL_true)) f_s_l2Add_o (f_s_l2Add_e g0 x1 y2) (f_s_l2Add_p g0 x1 y2) h
def f_s_l2Add_c : CRow := fun args inh => match dec2 [.p .gr, .p (.int .i64), .p (.int .i64)] [] args inh with
  | some ([.l g0, .i x1, .i y2], []) => some ((f_s_l2Add g0 x1 y2).isSome, (f_s_l2Add_en ((f_s_l2Add g0 x1 y2).getD 0)).1, (f_s_l2Add_en ((f_s_l2Add g0 x1 y2).getD 0)).2)
  | _ => none
theorem f_s_l2Add_cc : CTrue Try.prog 156 f_s_l2Add_c := by
  intro args inh rs out h
  unfold f_s_l2Add_c at h
  split at h
  · rename_i hd
    obtain ⟨h1, h2⟩ := dec2_enc hd
    rw [← h1, ← h2]
    exact rowC (f_s_l2Add_ok _ _ _) h
  · cases h

def f_s_l3Shift_F : Fi := { nv := 0, nc := 0, m := 0, vt := [], kl := [(0, ([0, 1, 4, 5, 6, 10, 11, 12, 13, 14, 15, 16, 17, 18, 19, 20, 21, 22, 23, 24, 25, 26, 27, 28], [0, 1, 2, 3, 4, 5, 6, 8, 9, 10, 11, 12, 13, 14, 15, 16, 17, 18, 19, 20, 21, 22, 23, 24, 25, 26, 27, 28], [0, 1, 2, 3, 4, 5, 7, 8, 9, 10, 11, 12, 13, 14, 15, 16, 17, 18, 19, 20, 21, 22, 23, 24, 25, 26, 27, 28]))], sk := [], mvs := [], fz := [] }
def f_s_l3Shift_a (g0 : List Sc) (a1 : Int) (x2 : Int) : List AV := enc [.p .gr, .p (.int .i64), .p (.int .i64)] [.l g0, .i a1, .i x2]
def f_s_l3Shift_i (g0 : List Sc) (a1 : Int) (x2 : Int) : List AV := enc [] []
def f_s_l3Shift_en (r : Int) : List AV × List AV := (enc [.p (.int .i64)] [.i r], enc [] [])
def f_s_l3Shift_M : Calling := addC 136 f_s_l3List_c (addC 156 f_s_l2Add_c (noC))
theorem f_s_l3Shift_Mt : CallOk Try.prog (f_s_l3Shift_M) := addC_true f_s_l3List_cc (addC_true f_s_l2Add_cc (noC_true))
theorem f_s_l3Shift_o : loopsOnce Try.f141 = true := by kernel_rfl
def f_s_l3Shift_h0 : List Sh := [.u, .u, .p (.int .i64), .p .el, .u, .u, .u, .p (.int .i64), .own 3, .p (.int .i64), .u, .u, .u, .u, .u, .u, .u, .u, .u, .u, .u, .u, .u, .u, .u, .u, .u, .u, .u]
def f_s_l3Shift_fr0 (x2 : Int) (g3 : List Sc) (s : Int × List Sc × Int) : List AV := enc f_s_l3Shift_h0 [.i x2, .l g3, .i s.1, .l s.2.1, .i s.2.2]
def f_s_l3Shift_g0_1 : List Sh := [.u, .u, .u, .u, .u, .u, .u, .p (.int .i64), .u, .u, .u, .u, .u, .u, .u, .u, .u, .u, .u, .u, .u, .u, .u, .u, .u, .u, .u, .u, .u]
def f_s_l3Shift_x0_1 (x2 : Int) (g3 : List Sc) (e : Int) : X × List AV := (.out 0, enc f_s_l3Shift_g0_1 [.i e])
def f_s_l3Shift_x0_2 (x2 : Int) (g3 : List Sc) (_e : Unit) : X × List AV := (.ret, [])
theorem f_s_l3Shift_p0 {R : Type} (x2 : Int) (g3 : List Sc) (s : Int × List Sc × Int) (kN : Int × List Sc × Int → Option R) (kA : Int → Option R) (kB : Unit → Option R) : f_s_l3Shift_k0 x2 g3 s.1 s.2.1 s.2.2 kN kA = (f_s_l3Shift_r0 x2 g3 s).bind (Ro.el kN kA kB) := by
  simp only [f_s_l3Shift_k0, f_s_l3Shift_r0, brB, boB, someB, noneB, Ro.el]
theorem f_s_l3Shift_e0 (x2 : Int) (g3 : List Sc) (s : Int × List Sc × Int) : EC E0 f_s_l3Shift_M H0 f_s_l3Shift_F (asL (noL)) 0 (bodyOf Try.f141 0) (f_s_l3Shift_fr0 x2 g3 s) (done (klOf f_s_l3Shift_F 0)) = f_s_l3Shift_k0 x2 g3 s.1 s.2.1 s.2.2 (fun s => some (.norm, f_s_l3Shift_fr0 x2 g3 s)) (fun e => some (f_s_l3Shift_x0_1 x2 g3 e)) := by kernel_rfl
theorem f_s_l3Shift_l0 (x2 : Int) (g3 : List Sc) : ∀ s r, loopL (f_s_l3Shift_r0 x2 g3) s = some r → LS Try.prog f_s_l3Shift_F (bodyOf Try.f141 0) (f_s_l3Shift_fr0 x2 g3 s) (enX (f_s_l3Shift_x0_1 x2 g3) (f_s_l3Shift_x0_2 x2 g3) r) :=
  loop_true E0ok f_s_l3Shift_Mt (noL_true) f_s_l3Shift_o (fun _ h => by cases h) (fun _ h => by cases h) (fun s => (f_s_l3Shift_e0 x2 g3 s).trans (f_s_l3Shift_p0 x2 g3 s _ _ (fun e => some (f_s_l3Shift_x0_2 x2 g3 e))))
def f_s_l3Shift_t0 (σ : List AV) : Option (Bool × Bool × (X × List AV) × (X × List AV)) := match dec f_s_l3Shift_h0 σ with
  | some [.i x2, .l g3, .i out7, .l l8, .i i9] => some (isOne (loopL (f_s_l3Shift_r0 x2 g3) (out7, l8, i9)), true, f_s_l3Shift_x0_1 x2 g3 (getOne 0 (loopL (f_s_l3Shift_r0 x2 g3) (out7, l8, i9))), (.ret, []))
  | _ => none
theorem f_s_l3Shift_tt0 : TTrue Try.prog f_s_l3Shift_F Try.f141 0 (f_s_l3Shift_t0) := by
  intro σ p r r' h
  unfold f_s_l3Shift_t0 at h
  split at h
  · rename_i hd
    rw [← dec_enc hd]
    exact row1 (f_s_l3Shift_l0 _ _ _) h
  · cases h
theorem f_s_l3Shift_p {R : Type} (g0 : List Sc) (a1 : Int) (x2 : Int) (kR : Int → Option R) : f_s_l3Shift_k g0 a1 x2 kR = (f_s_l3Shift_k g0 a1 x2 some).bind kR := by
  simp only [f_s_l3Shift_k, boB, bl1B, someB]
theorem f_s_l3Shift_e (g0 : List Sc) (a1 : Int) (x2 : Int) : runFn E0 f_s_l3Shift_M H0 f_s_l3Shift_F (asL (addL 0 (f_s_l3Shift_t0) (noL))) Try.f141 (f_s_l3Shift_a g0 a1 x2) (f_s_l3Shift_i g0 a1 x2) = f_s_l3Shift_k g0 a1 x2 (fun r => some (f_s_l3Shift_en r)) := by kernel_rfl
theorem f_s_l3Shift_ok (g0 : List Sc) (a1 : Int) (x2 : Int) (r : Int) (h : f_s_l3Shift g0 a1 x2 = some r) : CS Try.prog 141 (f_s_l3Shift_a g0 a1 x2) (f_s_l3Shift_i g0 a1 x2) (f_s_l3Shift_en r).1 (f_s_l3Shift_en r).2 :=
  fn_true (Gk := fun k => f_s_l3Shift_k g0 a1 x2 k) (en := f_s_l3Shift_en) Try.func141 E0ok f_s_l3Shift_Mt (addL_true (f_s_l3Shift_tt0) (noL_true)) f_s_l3Shift_o (f_s_l3Shift_e g0 a1 x2) (f_s_l3Shift_p g0 a1 x2) h
def f_s_l3Shift_c : CRow := fun args inh => match dec2 [.p .gr, .p (.int .i64), .p (.int .i64)] [] args inh with
  | some ([.l g0, .i a1, .i x2], []) => some ((f_s_l3Shift g0 a1 x2).isSome, (f_s_l3Shift_en ((f_s_l3Shift g0 a1 x2).getD 0)).1, (f_s_l3Shift_en ((f_s_l3Shift g0 a1 x2).getD 0)).2)
  | _ => none
theorem f_s_l3Shift_cc : CTrue Try.prog 141 f_s_l3Shift_c := by
  intro args inh rs out h
  unfold f_s_l3Shift_c at h
  split at h
  · rename_i hd
    obtain ⟨h1, h2⟩ := dec2_enc hd
    rw [← h1, ← h2]
    exact rowC (f_s_l3Shift_ok _ _ _) h
  · cases h

def f_s_SubsumsOfLength_F : Fi := { nv := 0, nc := 0, m := 0, vt := [], kl := [(2, ([0, 4, 5, 6, 10, 11, 12, 13, 14, 15, 16, 17, 18, 19, 20, 21, 22, 23, 24, 25, 26, 27, 28, 29, 30, 31, 32, 33, 34, 35, 36, 37, 38, 39, 40, 41, 42, 43, 44, 45, 46, 47, 48, 49, 50, 51, 52, 53, 54, 55, 56, 57, 58, 59], [0, 4, 5, 6, 9, 10, 11, 12, 13, 14, 15, 16, 17, 18, 19, 20, 21, 22, 23, 24, 25, 26, 27, 28, 29, 30, 31, 32, 33, 34, 35, 36, 37, 38, 39, 40, 41, 42, 43, 44, 45, 46, 47, 48, 49, 50, 51, 52, 53, 54, 55, 56, 57, 58, 59], [0, 1, 2, 3, 4, 5, 7, 8, 9, 10, 11, 12, 13, 14, 15, 16, 17, 18, 19, 20, 21, 22, 23, 24, 25, 26, 27, 28, 29, 30, 31, 32, 33, 34, 35, 36, 37, 38, 39, 40, 41, 42, 43, 44, 45, 46, 47, 48, 49, 50, 51, 52, 53, 54, 55, 56, 57, 58, 59])), (0, ([0, 4, 5, 6, 9, 10, 11, 12, 13, 14, 15, 16, 17, 18, 19, 20, 21, 22, 23, 24, 25, 26, 27, 28, 29, 30, 31, 32, 33, 34, 35, 36, 37, 38, 39, 40, 41, 42, 43, 44, 45, 46, 47, 48, 49, 50, 51, 52, 53, 54, 55, 56, 57, 58, 59], [0, 4, 5, 6, 9, 10, 11, 12, 13, 14, 15, 16, 17, 18, 19, 20, 21, 22, 23, 24, 25, 26, 27, 28, 29, 30, 31, 32, 33, 34, 35, 36, 37, 38, 39, 40, 41, 42, 43, 44, 45, 46, 47, 48, 49, 50, 51, 52, 53, 54, 55, 56, 57, 58, 59], [0, 1, 2, 3, 4, 5, 7, 8, 9, 10, 11, 12, 13, 14, 15, 16, 17, 18, 19, 20, 21, 22, 23, 24, 25, 26, 27, 28, 29, 30, 31, 32, 33, 34, 35, 36, 37, 38, 39, 40, 41, 42, 43, 44, 45, 46, 47, 48, 49, 50, 51, 52, 53, 54, 55, 56, 57, 58, 59]))], sk := [], mvs := [], fz := [] }
def f_s_SubsumsOfLength_a (g0 : List Sc) (l1 : List Sc) (k2 : Int) : List AV := enc [.p .gr, .p .sl, .p (.int .i64)] [.l g0, .l l1, .i k2]
def f_s_SubsumsOfLength_i (g0 : List Sc) (l1 : List Sc) (k2 : Int) : List AV := enc [] []
def f_s_SubsumsOfLength_en (r : Int) : List AV × List AV := (enc [.p (.int .i64)] [.i r], enc [] [])
def f_s_SubsumsOfLength_M : Calling := addC 101 f_s_IsSequence_c (addC 150 f_s_l1In_c (addC 141 f_s_l3Shift_c (noC)))
theorem f_s_SubsumsOfLength_Mt : CallOk Try.prog (f_s_SubsumsOfLength_M) := addC_true f_s_IsSequence_cc (addC_true f_s_l1In_cc (addC_true f_s_l3Shift_cc (noC_true)))
theorem f_s_SubsumsOfLength_o : loopsOnce Try.f114 = true := by kernel_rfl
def f_s_SubsumsOfLength_h2 : List Sh := [.u, .p .sl, .p (.int .i64), .p .el, .u, .u, .u, .own 3, .p (.int .i64), .p (.int .i64), .u, .u, .u, .u, .u, .u, .u, .u, .u, .u, .u, .u, .u, .u, .u, .u, .u, .u, .u, .u, .u, .u, .u, .u, .u, .u, .u, .u, .u, .u, .u, .u, .u, .u, .u, .u, .u, .u, .u, .u, .u, .u, .u, .u, .u, .u, .u, .u, .u, .u]
def f_s_SubsumsOfLength_fr2 (l1 : List Sc) (k2 : Int) (g3 : List Sc) (i8 : Int) (s : List Sc × Int) : List AV := enc f_s_SubsumsOfLength_h2 [.l l1, .i k2, .l g3, .l s.1, .i i8, .i s.2]
def f_s_SubsumsOfLength_g2_1 : List Sh := [.u, .p .sl, .p (.int .i64), .p .el, .u, .u, .u, .own 3, .p (.int .i64), .u, .u, .u, .u, .u, .u, .u, .u, .u, .u, .u, .u, .u, .u, .u, .u, .u, .u, .u, .u, .u, .u, .u, .u, .u, .u, .u, .u, .u, .u, .u, .u, .u, .u, .u, .u, .u, .u, .u, .u, .u, .u, .u, .u, .u, .u, .u, .u, .u, .u, .u]
def f_s_SubsumsOfLength_x2_1 (l1 : List Sc) (k2 : Int) (g3 : List Sc) (i8 : Int) (e : List Sc) : X × List AV := (.out 2, enc f_s_SubsumsOfLength_g2_1 [.l l1, .i k2, .l g3, .l e, .i i8])
def f_s_SubsumsOfLength_x2_2 (l1 : List Sc) (k2 : Int) (g3 : List Sc) (i8 : Int) (_e : Unit) : X × List AV := (.ret, [])
theorem f_s_SubsumsOfLength_p2 {R : Type} (l1 : List Sc) (k2 : Int) (g3 : List Sc) (i8 : Int) (s : List Sc × Int) (kN : List Sc × Int → Option R) (kA : List Sc → Option R) (kB : Unit → Option R) : f_s_SubsumsOfLength_k2 l1 k2 g3 i8 s.1 s.2 kN kA = (f_s_SubsumsOfLength_r2 l1 k2 g3 i8 s).bind (Ro.el kN kA kB) := by
  simp only [f_s_SubsumsOfLength_k2, f_s_SubsumsOfLength_r2, brB, boB, someB, noneB, Ro.el]
theorem f_s_SubsumsOfLength_e2 (l1 : List Sc) (k2 : Int) (g3 : List Sc) (i8 : Int) (s : List Sc × Int) : EC E0 f_s_SubsumsOfLength_M H0 f_s_SubsumsOfLength_F (asL (noL)) 2 (bodyOf Try.f114 2) (f_s_SubsumsOfLength_fr2 l1 k2 g3 i8 s) (done (klOf f_s_SubsumsOfLength_F 2)) = f_s_SubsumsOfLength_k2 l1 k2 g3 i8 s.1 s.2 (fun s => some (.norm, f_s_SubsumsOfLength_fr2 l1 k2 g3 i8 s)) (fun e => some (f_s_SubsumsOfLength_x2_1 l1 k2 g3 i8 e)) := by kernel_rfl
theorem f_s_SubsumsOfLength_l2 (l1 : List Sc) (k2 : Int) (g3 : List Sc) (i8 : Int) : ∀ s r, loopL (f_s_SubsumsOfLength_r2 l1 k2 g3 i8) s = some r → LS Try.prog f_s_SubsumsOfLength_F (bodyOf Try.f114 2) (f_s_SubsumsOfLength_fr2 l1 k2 g3 i8 s) (enX (f_s_SubsumsOfLength_x2_1 l1 k2 g3 i8) (f_s_SubsumsOfLength_x2_2 l1 k2 g3 i8) r) :=
  loop_true E0ok f_s_SubsumsOfLength_Mt (noL_true) f_s_SubsumsOfLength_o (fun _ h => by cases h) (fun _ h => by cases h) (fun s => (f_s_SubsumsOfLength_e2 l1 k2 g3 i8 s).trans (f_s_SubsumsOfLength_p2 l1 k2 g3 i8 s _ _ (fun e => some (f_s_SubsumsOfLength_x2_2 l1 k2 g3 i8 e))))
def f_s_SubsumsOfLength_t2 (σ : List AV) : Option (Bool × Bool × (X × List AV) × (X × List AV)) := match dec f_s_SubsumsOfLength_h2 σ with
  | some [.l l1, .i k2, .l g3, .l t7, .i i8, .i n9] => some (isOne (loopL (f_s_SubsumsOfLength_r2 l1 k2 g3 i8) (t7, n9)), true, f_s_SubsumsOfLength_x2_1 l1 k2 g3 i8 (getOne [] (loopL (f_s_SubsumsOfLength_r2 l1 k2 g3 i8) (t7, n9))), (.ret, []))
  | _ => none
theorem f_s_SubsumsOfLength_tt2 : TTrue Try.prog f_s_SubsumsOfLength_F Try.f114 2 (f_s_SubsumsOfLength_t2) := by
  intro σ p r r' h
  unfold f_s_SubsumsOfLength_t2 at h
  split at h
  · rename_i hd
    rw [← dec_enc hd]
    exact row1 (f_s_SubsumsOfLength_l2 _ _ _ _ _) h
  · cases h
def f_s_SubsumsOfLength_h0 : List Sh := [.u, .p .sl, .p (.int .i64), .p .el, .u, .u, .u, .own 3, .p (.int .i64), .u, .u, .u, .u, .u, .u, .u, .u, .u, .u, .u, .u, .u, .u, .u, .u, .u, .u, .u, .u, .u, .u, .u, .u, .u, .u, .u, .u, .u, .u, .u, .u, .u, .u, .u, .u, .u, .u, .u, .u, .u, .u, .u, .u, .u, .u, .u, .u, .u, .u, .u]
def f_s_SubsumsOfLength_fr0 (l1 : List Sc) (k2 : Int) (g3 : List Sc) (s : List Sc × Int) : List AV := enc f_s_SubsumsOfLength_h0 [.l l1, .i k2, .l g3, .l s.1, .i s.2]
def f_s_SubsumsOfLength_g0_1 : List Sh := [.u, .p .sl, .p (.int .i64), .p .el, .u, .u, .u, .own 3, .p (.int .i64), .u, .u, .u, .u, .u, .u, .u, .u, .u, .u, .u, .u, .u, .u, .u, .u, .u, .u, .u, .u, .u, .u, .u, .u, .u, .u, .u, .u, .u, .u, .u, .u, .u, .u, .u, .u, .u, .u, .u, .u, .u, .u, .u, .u, .u, .u, .u, .u, .u, .u, .u]
def f_s_SubsumsOfLength_x0_1 (l1 : List Sc) (k2 : Int) (g3 : List Sc) (e : List Sc × Int) : X × List AV := (.out 0, enc f_s_SubsumsOfLength_g0_1 [.l l1, .i k2, .l g3, .l e.1, .i e.2])
def f_s_SubsumsOfLength_x0_2 (l1 : List Sc) (k2 : Int) (g3 : List Sc) (_e : Unit) : X × List AV := (.ret, [])
theorem f_s_SubsumsOfLength_p0 {R : Type} (l1 : List Sc) (k2 : Int) (g3 : List Sc) (s : List Sc × Int) (kN : List Sc × Int → Option R) (kA : List Sc × Int → Option R) (kB : Unit → Option R) : f_s_SubsumsOfLength_k0 l1 k2 g3 s.1 s.2 kN kA = (f_s_SubsumsOfLength_r0 l1 k2 g3 s).bind (Ro.el kN kA kB) := by
  simp only [f_s_SubsumsOfLength_k0, f_s_SubsumsOfLength_r0, brB, bl1B, someB, Ro.el]
theorem f_s_SubsumsOfLength_e0 (l1 : List Sc) (k2 : Int) (g3 : List Sc) (s : List Sc × Int) : EC E0 f_s_SubsumsOfLength_M H0 f_s_SubsumsOfLength_F (asL (addL 2 (f_s_SubsumsOfLength_t2) (noL))) 0 (bodyOf Try.f114 0) (f_s_SubsumsOfLength_fr0 l1 k2 g3 s) (done (klOf f_s_SubsumsOfLength_F 0)) = f_s_SubsumsOfLength_k0 l1 k2 g3 s.1 s.2 (fun s => some (.norm, f_s_SubsumsOfLength_fr0 l1 k2 g3 s)) (fun e => some (f_s_SubsumsOfLength_x0_1 l1 k2 g3 e)) := by kernel_rfl
theorem f_s_SubsumsOfLength_l0 (l1 : List Sc) (k2 : Int) (g3 : List Sc) : ∀ s r, loopL (f_s_SubsumsOfLength_r0 l1 k2 g3) s = some r → LS Try.prog f_s_SubsumsOfLength_F (bodyOf Try.f114 0) (f_s_SubsumsOfLength_fr0 l1 k2 g3 s) (enX (f_s_SubsumsOfLength_x0_1 l1 k2 g3) (f_s_SubsumsOfLength_x0_2 l1 k2 g3) r) :=
  loop_true E0ok f_s_SubsumsOfLength_Mt (addL_true (f_s_SubsumsOfLength_tt2) (noL_true)) f_s_SubsumsOfLength_o (fun _ h => by cases h) (fun _ h => by cases h) (fun s => (f_s_SubsumsOfLength_e0 l1 k2 g3 s).trans (f_s_SubsumsOfLength_p0 l1 k2 g3 s _ _ (fun e => some (f_s_SubsumsOfLength_x0_2 l1 k2 g3 e))))
def f_s_SubsumsOfLength_t0 (σ : List AV) : Option (Bool × Bool × (X × List AV) × (X × List AV)) := match dec f_s_SubsumsOfLength_h0 σ with
  | some [.l l1, .i k2, .l g3, .l t7, .i i8] => some (isOne (loopL (f_s_SubsumsOfLength_r0 l1 k2 g3) (t7, i8)), true, f_s_SubsumsOfLength_x0_1 l1 k2 g3 (getOne ([], 0) (loopL (f_s_SubsumsOfLength_r0 l1 k2 g3) (t7, i8))), (.ret, []))
  | _ => none
theorem f_s_SubsumsOfLength_tt0 : TTrue Try.prog f_s_SubsumsOfLength_F Try.f114 0 (f_s_SubsumsOfLength_t0) := by
  intro σ p r r' h
  unfold f_s_SubsumsOfLength_t0 at h
  split at h
  · rename_i hd
    rw [← dec_enc hd]
    exact row1 (f_s_SubsumsOfLength_l0 _ _ _ _) h
  · cases h
theorem f_s_SubsumsOfLength_p {R : Type} (g0 : List Sc) (l1 : List Sc) (k2 : Int) (kR : Int → Option R) : f_s_SubsumsOfLength_k g0 l1 k2 kR = (f_s_SubsumsOfLength_k g0 l1 k2 some).bind kR := by
  simp only [f_s_SubsumsOfLength_k, brB, boB, bl1B, someB, noneB]
theorem f_s_SubsumsOfLength_e (g0 : List Sc) (l1 : List Sc) (k2 : Int) : runFn E0 f_s_SubsumsOfLength_M H0 f_s_SubsumsOfLength_F (asL (addL 0 (f_s_SubsumsOfLength_t0) (addL 2 (f_s_SubsumsOfLength_t2) (noL)))) Try.f114 (f_s_SubsumsOfLength_a g0 l1 k2) (f_s_SubsumsOfLength_i g0 l1 k2) = f_s_SubsumsOfLength_k g0 l1 k2 (fun r => some (f_s_SubsumsOfLength_en r)) := by kernel_rfl
theorem f_s_SubsumsOfLength_ok (g0 : List Sc) (l1 : List Sc) (k2 : Int) (r : Int) (h : f_s_SubsumsOfLength g0 l1 k2 = some r) : CS Try.prog 114 (f_s_SubsumsOfLength_a g0 l1 k2) (f_s_SubsumsOfLength_i g0 l1 k2) (f_s_SubsumsOfLength_en r).1 (f_s_SubsumsOfLength_en r).2 :=
  fn_true (Gk := fun k => f_s_SubsumsOfLength_k g0 l1 k2 k) (en := f_s_SubsumsOfLength_en) Try.func114 E0ok f_s_SubsumsOfLength_Mt (addL_true (f_s_SubsumsOfLength_tt0) (addL_true (f_s_SubsumsOfLength_tt2) (noL_true))) f_s_SubsumsOfLength_o (f_s_SubsumsOfLength_e g0 l1 k2) (f_s_SubsumsOfLength_p g0 l1 k2) h
def f_s_SubsumsOfLength_c : CRow := fun args inh => match dec2 [.p .gr, .p .sl, .p (.int .i64)] [] args inh with
  | some ([.l g0, .l l1, .i k2], []) => some ((f_s_SubsumsOfLength g0 l1 k2).isSome, (f_s_SubsumsOfLength_en ((f_s_SubsumsOfLength g0 l1 k2).getD 0)).1, (f_s_SubsumsOfLength_en ((f_s_SubsumsOfLength g0 l1 k2).getD 0)).2)
  | _ => none
theorem f_s_SubsumsOfLength_cc : CTrue Try.prog 114 f_s_SubsumsOfLength_c := by
  intro args inh rs out h
  unfold f_s_SubsumsOfLength_c at h
  split at h
  · rename_i hd
    obtain ⟨h1, h2⟩ := dec2_enc hd
    rw [← h1, ← h2]
    exact rowC (f_s_SubsumsOfLength_ok _ _ _) h
  · cases h

def f_s_l18Has_F : Fi := { nv := 0, nc := 0, m := 0, vt := [], kl := [], sk := [], mvs := [], fz := [] }
def f_s_l18Has_a (g0 : List Sc) (l1 : List Sc) (e2 : Int) : List AV := enc [.p .gr, .p .sl, .p (.int .i64)] [.l g0, .l l1, .i e2]
def f_s_l18Has_i (g0 : List Sc) (l1 : List Sc) (e2 : Int) : List AV := enc [] []
def f_s_l18Has_en (r : Bool) : List AV × List AV := (enc [.p .boo] [.b r], enc [] [])
def f_s_l18Has_M : Calling := addC 114 f_s_SubsumsOfLength_c (noC)
theorem f_s_l18Has_Mt : CallOk Try.prog (f_s_l18Has_M) := addC_true f_s_SubsumsOfLength_cc (noC_true)
theorem f_s_l18Has_o : loopsOnce Try.f209 = true := by kernel_rfl
theorem f_s_l18Has_p {R : Type} (g0 : List Sc) (l1 : List Sc) (e2 : Int) (kR : Bool → Option R) : f_s_l18Has_k g0 l1 e2 kR = (f_s_l18Has_k g0 l1 e2 some).bind kR := by
  simp only [f_s_l18Has_k, brB, boB, someB]
theorem f_s_l18Has_e (g0 : List Sc) (l1 : List Sc) (e2 : Int) : runFn E0 f_s_l18Has_M H0 f_s_l18Has_F (asL (noL)) Try.f209 (f_s_l18Has_a g0 l1 e2) (f_s_l18Has_i g0 l1 e2) = f_s_l18Has_k g0 l1 e2 (fun r => some (f_s_l18Has_en r)) := by kernel_rfl
theorem f_s_l18Has_ok (g0 : List Sc) (l1 : List Sc) (e2 : Int) (r : Bool) (h : f_s_l18Has g0 l1 e2 = some r) : CS Try.prog 209 (f_s_l18Has_a g0 l1 e2) (f_s_l18Has_i g0 l1 e2) (f_s_l18Has_en r).1 (f_s_l18Has_en r).2 :=
  fn_true (Gk := fun k => f_s_l18Has_k g0 l1 e2 k) (en := f_s_l18Has_en) Try.func209 E0ok f_s_l18Has_Mt (noL_true) f_s_l18Has_o (f_s_l18Has_e g0 l1 e2) (f_s_l18Has_p g0 l1 e2) h
def f_s_l18Has_c : CRow := fun args inh => match dec2 [.p .gr, .p .sl, .p (.int .i64)] [] args inh with
  | some ([.l g0, .l l1, .i e2], []) => some ((f_s_l18Has g0 l1 e2).isSome, (f_s_l18Has_en ((f_s_l18Has g0 l1 e2).getD false)).1, (f_s_l18Has_en ((f_s_l18Has g0 l1 e2).getD false)).2)
  | _ => none
theorem f_s_l18Has_cc : CTrue Try.prog 209 f_s_l18Has_c := by
  intro args inh rs out h
  unfold f_s_l18Has_c at h
  split at h
  · rename_i hd
    obtain ⟨h1, h2⟩ := dec2_enc hd
    rw [← h1, ← h2]
    exact rowC (f_s_l18Has_ok _ _ _) h
  · cases h

def f_s_l18Longest_F : Fi := { nv := 0, nc := 0, m := 0, vt := [], kl := [(0, ([0, 3, 5, 6, 7, 8, 11, 12, 13, 14, 15, 16, 17, 18, 19, 20, 21, 22, 23, 24, 25, 26, 27, 28, 29, 30, 31, 32, 33, 34, 35, 36, 37, 38, 39, 40, 41, 42, 43, 44, 45, 46, 47], [0, 3, 5, 6, 7, 8, 11, 12, 13, 14, 15, 16, 17, 18, 19, 20, 21, 22, 23, 24, 25, 26, 27, 28, 29, 30, 31, 32, 33, 34, 35, 36, 37, 38, 39, 40, 41, 42, 43, 44, 45, 46, 47], [0, 1, 2, 3, 4, 5, 6, 7, 9, 10, 11, 12, 13, 14, 15, 16, 17, 18, 19, 20, 21, 22, 23, 24, 25, 26, 27, 28, 29, 30, 31, 32, 33, 34, 35, 36, 37, 38, 39, 40, 41, 42, 43, 44, 45, 46, 47]))], sk := [], mvs := [], fz := [] }
def f_s_l18Longest_a (g0 : List Sc) (l1 : List Sc) (e2 : Int) (least3 : Int) : List AV := enc [.p .gr, .p .sl, .p (.int .i64), .p (.int .i64)] [.l g0, .l l1, .i e2, .i least3]
def f_s_l18Longest_i (g0 : List Sc) (l1 : List Sc) (e2 : Int) (least3 : Int) : List AV := enc [] []
def f_s_l18Longest_en (r : List Sc) : List AV × List AV := (enc [.p .sl] [.l r], enc [] [])
def f_s_l18Longest_cs (self : (List Sc × List Sc × Int × Int) → Option (List Sc)) : CRow := fun args inh => match dec2 [.p .gr, .p .sl, .p (.int .i64), .p (.int .i64)] [] args inh with
  | some ([.l g0, .l l1, .i e2, .i least3], []) => some ((self (g0, l1, e2, least3)).isSome, (f_s_l18Longest_en ((self (g0, l1, e2, least3)).getD [])).1, (f_s_l18Longest_en ((self (g0, l1, e2, least3)).getD [])).2)
  | _ => none
theorem f_s_l18Longest_cst (self : (List Sc × List Sc × Int × Int) → Option (List Sc)) (hs : ∀ a r, self a = some r → CS Try.prog 180 (f_s_l18Longest_a a.1 a.2.1 a.2.2.1 a.2.2.2) (f_s_l18Longest_i a.1 a.2.1 a.2.2.1 a.2.2.2) (f_s_l18Longest_en r).1 (f_s_l18Longest_en r).2) : CTrue Try.prog 180 (f_s_l18Longest_cs self) := by
  intro args inh rs out h
  unfold f_s_l18Longest_cs at h
  split at h
  · rename_i hd
    obtain ⟨h1, h2⟩ := dec2_enc hd
    rw [← h1, ← h2]
    exact rowC (hs _) h
  · cases h
def f_s_l18Longest_M (self : (List Sc × List Sc × Int × Int) → Option (List Sc)) : Calling := addC 180 (f_s_l18Longest_cs self) (addC 139 f_s_l2Order_c (addC 209 f_s_l18Has_c (noC)))
theorem f_s_l18Longest_Mt (self : (List Sc × List Sc × Int × Int) → Option (List Sc)) (hs : ∀ a r, self a = some r → CS Try.prog 180 (f_s_l18Longest_a a.1 a.2.1 a.2.2.1 a.2.2.2) (f_s_l18Longest_i a.1 a.2.1 a.2.2.1 a.2.2.2) (f_s_l18Longest_en r).1 (f_s_l18Longest_en r).2) : CallOk Try.prog (f_s_l18Longest_M self) := addC_true (f_s_l18Longest_cst self hs) (addC_true f_s_l2Order_cc (addC_true f_s_l18Has_cc (noC_true)))
theorem f_s_l18Longest_o : loopsOnce Try.f180 = true := by kernel_rfl
def f_s_l18Longest_h0 : List Sh := [.u, .p .sl, .p (.int .i64), .u, .p .el, .u, .u, .u, .u, .p .sl, .p (.int .i64), .u, .u, .u, .u, .u, .u, .u, .u, .u, .u, .u, .u, .u, .u, .u, .u, .u, .u, .u, .u, .u, .u, .u, .u, .u, .u, .u, .u, .u, .u, .u, .u, .u, .u, .u, .u, .u]
def f_s_l18Longest_fr0 (self : (List Sc × List Sc × Int × Int) → Option (List Sc)) (l1 : List Sc) (e2 : Int) (g4 : List Sc) (s : List Sc × Int) : List AV := enc f_s_l18Longest_h0 [.l l1, .i e2, .l g4, .l s.1, .i s.2]
def f_s_l18Longest_g0_1 : List Sh := [.u, .p .sl, .p (.int .i64), .u, .p .el, .u, .u, .u, .u, .p .sl, .p (.int .i64), .u, .u, .u, .u, .u, .u, .u, .u, .u, .u, .u, .u, .u, .u, .u, .u, .u, .u, .u, .u, .u, .u, .u, .u, .u, .u, .u, .u, .u, .u, .u, .u, .u, .u, .u, .u, .u]
def f_s_l18Longest_x0_1 (self : (List Sc × List Sc × Int × Int) → Option (List Sc)) (l1 : List Sc) (e2 : Int) (g4 : List Sc) (e : List Sc × Int) : X × List AV := (.out 0, enc f_s_l18Longest_g0_1 [.l l1, .i e2, .l g4, .l e.1, .i e.2])
def f_s_l18Longest_x0_2 (self : (List Sc × List Sc × Int × Int) → Option (List Sc)) (l1 : List Sc) (e2 : Int) (g4 : List Sc) (_e : Unit) : X × List AV := (.ret, [])
theorem f_s_l18Longest_p0 {R : Type} (self : (List Sc × List Sc × Int × Int) → Option (List Sc)) (l1 : List Sc) (e2 : Int) (g4 : List Sc) (s : List Sc × Int) (kN : List Sc × Int → Option R) (kA : List Sc × Int → Option R) (kB : Unit → Option R) : f_s_l18Longest_k0 self l1 e2 g4 s.1 s.2 kN kA = (f_s_l18Longest_r0 self l1 e2 g4 s).bind (Ro.el kN kA kB) := by
  simp only [f_s_l18Longest_k0, f_s_l18Longest_r0, brB, boB, someB, noneB, Ro.el]
theorem f_s_l18Longest_e0 (self : (List Sc × List Sc × Int × Int) → Option (List Sc)) (l1 : List Sc) (e2 : Int) (g4 : List Sc) (s : List Sc × Int) : EC E0 (f_s_l18Longest_M self) H0 f_s_l18Longest_F (asL (noL)) 0 (bodyOf Try.f180 0) (f_s_l18Longest_fr0 self l1 e2 g4 s) (done (klOf f_s_l18Longest_F 0)) = f_s_l18Longest_k0 self l1 e2 g4 s.1 s.2 (fun s => some (.norm, f_s_l18Longest_fr0 self l1 e2 g4 s)) (fun e => some (f_s_l18Longest_x0_1 self l1 e2 g4 e)) := by kernel_rfl
theorem f_s_l18Longest_l0 (self : (List Sc × List Sc × Int × Int) → Option (List Sc)) (hs : ∀ a r, self a = some r → CS Try.prog 180 (f_s_l18Longest_a a.1 a.2.1 a.2.2.1 a.2.2.2) (f_s_l18Longest_i a.1 a.2.1 a.2.2.1 a.2.2.2) (f_s_l18Longest_en r).1 (f_s_l18Longest_en r).2) (l1 : List Sc) (e2 : Int) (g4 : List Sc) : ∀ s r, loopL (f_s_l18Longest_r0 self l1 e2 g4) s = some r → LS Try.prog f_s_l18Longest_F (bodyOf Try.f180 0) (f_s_l18Longest_fr0 self l1 e2 g4 s) (enX (f_s_l18Longest_x0_1 self l1 e2 g4) (f_s_l18Longest_x0_2 self l1 e2 g4) r) :=
  loop_true E0ok (f_s_l18Longest_Mt self hs) (noL_true) f_s_l18Longest_o (fun _ h => by cases h) (fun _ h => by cases h) (fun s => (f_s_l18Longest_e0 self l1 e2 g4 s).trans (f_s_l18Longest_p0 self l1 e2 g4 s _ _ (fun e => some (f_s_l18Longest_x0_2 self l1 e2 g4 e))))
def f_s_l18Longest_t0 (self : (List Sc × List Sc × Int × Int) → Option (List Sc)) (σ : List AV) : Option (Bool × Bool × (X × List AV) × (X × List AV)) := match dec f_s_l18Longest_h0 σ with
  | some [.l l1, .i e2, .l g4, .l best9, .i x10] => some (isOne (loopL (f_s_l18Longest_r0 self l1 e2 g4) (best9, x10)), true, f_s_l18Longest_x0_1 self l1 e2 g4 (getOne ([], 0) (loopL (f_s_l18Longest_r0 self l1 e2 g4) (best9, x10))), (.ret, []))
  | _ => none
theorem f_s_l18Longest_tt0 (self : (List Sc × List Sc × Int × Int) → Option (List Sc)) (hs : ∀ a r, self a = some r → CS Try.prog 180 (f_s_l18Longest_a a.1 a.2.1 a.2.2.1 a.2.2.2) (f_s_l18Longest_i a.1 a.2.1 a.2.2.1 a.2.2.2) (f_s_l18Longest_en r).1 (f_s_l18Longest_en r).2) : TTrue Try.prog f_s_l18Longest_F Try.f180 0 (f_s_l18Longest_t0 self) := by
  intro σ p r r' h
  unfold f_s_l18Longest_t0 at h
  split at h
  · rename_i hd
    rw [← dec_enc hd]
    exact row1 (f_s_l18Longest_l0 self hs _ _ _ _) h
  · cases h
theorem f_s_l18Longest_p {R : Type} (self : (List Sc × List Sc × Int × Int) → Option (List Sc)) (g0 : List Sc) (l1 : List Sc) (e2 : Int) (least3 : Int) (kR : List Sc → Option R) : f_s_l18Longest_k self g0 l1 e2 least3 kR = (f_s_l18Longest_k self g0 l1 e2 least3 some).bind kR := by
  simp only [f_s_l18Longest_k, bl1B, someB]
theorem f_s_l18Longest_e (self : (List Sc × List Sc × Int × Int) → Option (List Sc)) (g0 : List Sc) (l1 : List Sc) (e2 : Int) (least3 : Int) : runFn E0 (f_s_l18Longest_M self) H0 f_s_l18Longest_F (asL (addL 0 (f_s_l18Longest_t0 self) (noL))) Try.f180 (f_s_l18Longest_a g0 l1 e2 least3) (f_s_l18Longest_i g0 l1 e2 least3) = f_s_l18Longest_k self g0 l1 e2 least3 (fun r => some (f_s_l18Longest_en r)) := by kernel_rfl
theorem f_s_l18Longest_ks (self : (List Sc × List Sc × Int × Int) → Option (List Sc)) (hs : ∀ a r, self a = some r → CS Try.prog 180 (f_s_l18Longest_a a.1 a.2.1 a.2.2.1 a.2.2.2) (f_s_l18Longest_i a.1 a.2.1 a.2.2.1 a.2.2.2) (f_s_l18Longest_en r).1 (f_s_l18Longest_en r).2) (g0 : List Sc) (l1 : List Sc) (e2 : Int) (least3 : Int) (r : List Sc) (h : f_s_l18Longest_k self g0 l1 e2 least3 some = some r) : CS Try.prog 180 (f_s_l18Longest_a g0 l1 e2 least3) (f_s_l18Longest_i g0 l1 e2 least3) (f_s_l18Longest_en r).1 (f_s_l18Longest_en r).2 :=
  fn_true (Gk := fun k => f_s_l18Longest_k self g0 l1 e2 least3 k) (en := f_s_l18Longest_en) Try.func180 E0ok (f_s_l18Longest_Mt self hs) (addL_true (f_s_l18Longest_tt0 self hs) (noL_true)) f_s_l18Longest_o (f_s_l18Longest_e self g0 l1 e2 least3) (f_s_l18Longest_p self g0 l1 e2 least3) h
theorem f_s_l18Longest_ns : ∀ n a r, f_s_l18Longest_n n a = some r → CS Try.prog 180 (f_s_l18Longest_a a.1 a.2.1 a.2.2.1 a.2.2.2) (f_s_l18Longest_i a.1 a.2.1 a.2.2.1 a.2.2.2) (f_s_l18Longest_en r).1 (f_s_l18Longest_en r).2
  | 0, _, _, h => by cases h
  | n + 1, a, r, h => f_s_l18Longest_ks (f_s_l18Longest_n n) (f_s_l18Longest_ns n) a.1 a.2.1 a.2.2.1 a.2.2.2 r h
theorem f_s_l18Longest_ok (g0 : List Sc) (l1 : List Sc) (e2 : Int) (least3 : Int) (r : List Sc) (h : f_s_l18Longest g0 l1 e2 least3 = some r) : CS Try.prog 180 (f_s_l18Longest_a g0 l1 e2 least3) (f_s_l18Longest_i g0 l1 e2 least3) (f_s_l18Longest_en r).1 (f_s_l18Longest_en r).2 := by
  obtain ⟨n, hn⟩ := limF_some h
  exact f_s_l18Longest_ns n _ r hn
def f_s_l18Longest_c : CRow := fun args inh => match dec2 [.p .gr, .p .sl, .p (.int .i64), .p (.int .i64)] [] args inh with
  | some ([.l g0, .l l1, .i e2, .i least3], []) => some ((f_s_l18Longest g0 l1 e2 least3).isSome, (f_s_l18Longest_en ((f_s_l18Longest g0 l1 e2 least3).getD [])).1, (f_s_l18Longest_en ((f_s_l18Longest g0 l1 e2 least3).getD [])).2)
  | _ => none
theorem f_s_l18Longest_cc : CTrue Try.prog 180 f_s_l18Longest_c := by
  intro args inh rs out h
  unfold f_s_l18Longest_c at h
  split at h
  · rename_i hd
    obtain ⟨h1, h2⟩ := dec2_enc hd
    rw [← h1, ← h2]
    exact rowC (f_s_l18Longest_ok _ _ _ _) h
  · cases h
end
end Go.Proofs.Ytphbclogflflmaa
