/-
  That the program computes just that (printed by gen2.py).
-/
import Derived.Test.YtphbclogflflmaaShal
import Derived.Test.YtphbclogflflmaaRows
import Derived.WalkKit
set_option linter.unusedVariables false
set_option linter.unusedSimpArgs false
namespace Go.Proofs.Ytphbclogflflmaa
open Go Ev
noncomputable section
def E0 : Env := { sl := [(22, 5, .n .u8 0), (24, 3, .n .i64 0), (101, 9, .s ByteArray.empty)], gr := [(26, 24)], sc := [3, 4, 5, 9, 21, 121, 123], bl := [4], ik := [(3, .i64), (5, .u8), (21, .i32), (121, .u32), (123, .u64)], st := [9], one := [3, 4, 5, 9, 21, 121, 123, 22, 24, 101, 1, 23, 28, 29, 30, 31, 32, 34, 36, 37, 38, 40, 42, 43, 45, 47, 48, 49, 51, 52, 53, 54, 56, 57, 58, 59, 60, 61, 63, 64, 66, 67, 68, 69, 70, 71, 72, 73, 74, 75, 76, 77, 78, 79, 80, 81, 82, 83, 85, 86, 87, 88, 89, 90, 91, 92, 93, 94, 95, 96, 97, 98, 99, 100, 102, 103, 104, 109, 110, 111, 112, 113, 116, 117, 118, 119, 120, 122, 125, 126, 127, 129, 132, 133, 139, 142], al := [(3, [.sc (.n .i64 0)]), (4, [.sc (.b false)]), (5, [.sc (.n .u8 0)]), (9, [.sc (.s ByteArray.empty)]), (21, [.sc (.n .i32 0)]), (121, [.sc (.n .u32 0)]), (123, [.sc (.n .u64 0)]), (22, [.sl]), (24, [.sl]), (101, [.sl]), (1, [.fn]), (23, [.fn]), (26, [.sl]), (28, [.fn]), (29, [.fn]), (30, [.fn]), (31, [.fn]), (32, [.fn]), (34, [.fn]), (36, [.fn]), (37, [.fn]), (38, [.fn]), (40, [.fn]), (42, [.fn]), (43, [.fn]), (45, [.fn]), (47, [.fn]), (48, [.fn]), (49, [.fn]), (51, [.fn]), (52, [.fn]), (53, [.fn]), (54, [.fn]), (56, [.fn]), (57, [.fn]), (58, [.fn]), (59, [.fn]), (60, [.fn]), (61, [.fn]), (63, [.fn]), (64, [.fn]), (66, [.fn]), (67, [.fn]), (68, [.fn]), (69, [.fn]), (70, [.fn]), (71, [.fn]), (72, [.fn]), (73, [.fn]), (74, [.fn]), (75, [.fn]), (76, [.fn]), (77, [.fn]), (78, [.fn]), (79, [.fn]), (80, [.fn]), (81, [.fn]), (82, [.fn]), (83, [.fn]), (85, [.fn]), (86, [.fn]), (87, [.fn]), (88, [.fn]), (89, [.fn]), (90, [.fn]), (91, [.fn]), (92, [.fn]), (93, [.fn]), (94, [.fn]), (95, [.fn]), (96, [.fn]), (97, [.fn]), (98, [.fn]), (99, [.fn]), (100, [.fn]), (102, [.fn]), (103, [.fn]), (104, [.fn]), (109, [.fn]), (110, [.fn]), (111, [.fn]), (112, [.fn]), (113, [.fn]), (116, [.fn]), (117, [.fn]), (118, [.fn]), (119, [.fn]), (120, [.fn]), (122, [.fn]), (125, [.fn]), (126, [.fn]), (127, [.fn]), (129, [.fn]), (132, [.fn]), (133, [.fn]), (139, [.fn]), (142, [.fn]), (107, [.sl, .sc (.n .i64 0), .sc (.n .i64 0)])], fd := [(26, 1), (107, 3)], ll := [(108, 24)] }
def H0 : Hints := { md := [(177, [.fz]), (187, [.ro, .fz, .ro, .io]), (188, [.fz]), (198, [.io]), (163, [.io]), (164, [.io, .ro]), (165, [.io, .ro]), (166, [.io, .ro]), (167, [.io, .ro]), (168, [.io, .ro]), (186, [.io]), (195, [.io, .ro]), (200, [.io, .ro]), (204, [.io]), (205, [.io]), (208, [.io])], soft := [43, 47, 51, 56, 57, 152, 160, 162, 163, 164, 165, 166, 167, 168, 208] }
theorem E0ok : EnvOk Try.prog E0 := okEnv_spec (by kernel_rfl)

def f_l_big_F : Fi := { nv := 0, nc := 0, m := 0, vt := [], kl := [], sk := [], mvs := [], fz := [] }
def f_l_big_a (code0 : List Sc) : List AV := enc [.p .sl] [.l code0]
def f_l_big_i (code0 : List Sc) : List AV := enc [] []
def f_l_big_en (r : Bool) : List AV × List AV := (enc [.p .boo] [.b r], enc [] [])
def f_l_big_M : Calling := noC
theorem f_l_big_Mt : CallOk Try.prog (f_l_big_M) := noC_true
theorem f_l_big_o : loopsOnce Try.f9 = true := by kernel_rfl
theorem f_l_big_p {R : Type} (code0 : List Sc) (kR : Bool → Option R) : f_l_big_k code0 kR = (f_l_big_k code0 some).bind kR := by
  simp only [f_l_big_k, someB]
theorem f_l_big_e (code0 : List Sc) : runFn E0 f_l_big_M H0 f_l_big_F (asL (noL)) Try.f9 (f_l_big_a code0) (f_l_big_i code0) = f_l_big_k code0 (fun r => some (f_l_big_en r)) := by kernel_rfl
theorem f_l_big_ok (code0 : List Sc) (r : Bool) (h : f_l_big code0 = some r) : CS Try.prog 9 (f_l_big_a code0) (f_l_big_i code0) (f_l_big_en r).1 (f_l_big_en r).2 :=
  fn_true (Gk := fun k => f_l_big_k code0 k) (en := f_l_big_en) Try.func9 E0ok f_l_big_Mt (noL_true) f_l_big_o (f_l_big_e code0) (f_l_big_p code0) h
def f_l_big_c : CRow := fun args inh => match dec2 [.p .sl] [] args inh with
  | some ([.l code0], []) => some ((f_l_big code0).isSome, (f_l_big_en ((f_l_big code0).getD false)).1, (f_l_big_en ((f_l_big code0).getD false)).2)
  | _ => none
theorem f_l_big_cc : CTrue Try.prog 9 f_l_big_c := by
  intro args inh rs out h
  unfold f_l_big_c at h
  split at h
  · rename_i hd
    obtain ⟨h1, h2⟩ := dec2_enc hd
    rw [← h1, ← h2]
    exact rowC (f_l_big_ok _) h
  · cases h

def f_s_l1New_F : Fi := { nv := 3, nc := 3, m := 0, vt := [(31, 0)], kl := [(0, ([0, 1, 2, 4, 5, 8, 9, 10, 11, 12, 13, 14, 15, 16, 17, 18, 19, 20, 21, 22, 23, 24, 25, 26, 27, 28, 29, 30, 31, 32, 33, 34], [0, 1, 2, 4, 5, 7, 8, 9, 10, 11, 12, 13, 14, 15, 16, 17, 18, 19, 20, 21, 22, 23, 24, 25, 26, 27, 28, 29, 30, 31, 32, 33, 34], [3, 4, 6, 7, 8, 9, 10, 11, 12, 13, 14, 15, 16, 17, 18, 19, 20, 21, 22, 23, 24, 25, 26, 27, 28, 29, 30, 31, 32, 33, 34]))], sk := [], mvs := [], fz := [] }
def f_s_l1New_a (code0 : List Sc) : List AV := enc [.p .sl] [.l code0]
def f_s_l1New_i (code0 : List Sc) : List AV := enc [] []
def f_s_l1New_en (r : List Sc × Int × Int) : List AV × List AV := (enc [.p (.pt 0 3)] [], enc [.p .sl, .p (.int .i64), .p (.int .i64)] [.l r.1, .i r.2.1, .i r.2.2])
def f_s_l1New_M : Calling := noC
theorem f_s_l1New_Mt : CallOk Try.prog (f_s_l1New_M) := noC_true
theorem f_s_l1New_o : loopsOnce Try.f162 = true := by kernel_rfl
def f_s_l1New_h0 : List Sh := [.u, .u, .u, .p .sl, .u, .u, .p (.int .i64), .p (.int .i64), .u, .u, .u, .u, .u, .u, .u, .u, .u, .u, .u, .u, .u, .u, .u, .u, .u, .u, .u, .u, .u, .u, .u, .u, .u, .u, .u]
def f_s_l1New_fr0 (code0 : List Sc) (s : Int × Int) : List AV := enc f_s_l1New_h0 [.l code0, .i s.1, .i s.2]
def f_s_l1New_g0_1 : List Sh := [.u, .u, .u, .p .sl, .u, .u, .p (.int .i64), .u, .u, .u, .u, .u, .u, .u, .u, .u, .u, .u, .u, .u, .u, .u, .u, .u, .u, .u, .u, .u, .u, .u, .u, .u, .u, .u, .u]
def f_s_l1New_x0_1 (code0 : List Sc) (e : Int) : X × List AV := (.out 0, enc f_s_l1New_g0_1 [.l code0, .i e])
def f_s_l1New_x0_2 (code0 : List Sc) (_e : Unit) : X × List AV := (.ret, [])
theorem f_s_l1New_p0 {R : Type} (code0 : List Sc) (s : Int × Int) (kN : Int × Int → Option R) (kA : Int → Option R) (kB : Unit → Option R) : f_s_l1New_k0 code0 s.1 s.2 kN kA = (f_s_l1New_r0 code0 s).bind (Ro.el kN kA kB) := by
  simp only [f_s_l1New_k0, f_s_l1New_r0, brB, someB, noneB, Ro.el]
theorem f_s_l1New_e0 (code0 : List Sc) (s : Int × Int) : EC E0 f_s_l1New_M H0 f_s_l1New_F (asL (noL)) 0 (bodyOf Try.f162 0) (f_s_l1New_fr0 code0 s) (done (klOf f_s_l1New_F 0)) = f_s_l1New_k0 code0 s.1 s.2 (fun s => some (.norm, f_s_l1New_fr0 code0 s)) (fun e => some (f_s_l1New_x0_1 code0 e)) := by kernel_rfl
theorem f_s_l1New_l0 (code0 : List Sc) : ∀ s r, loopL (f_s_l1New_r0 code0) s = some r → LS Try.prog f_s_l1New_F (bodyOf Try.f162 0) (f_s_l1New_fr0 code0 s) (enX (f_s_l1New_x0_1 code0) (f_s_l1New_x0_2 code0) r) :=
  loop_true E0ok f_s_l1New_Mt (noL_true) f_s_l1New_o (fun _ h => by cases h) (fun _ h => by cases h) (fun s => (f_s_l1New_e0 code0 s).trans (f_s_l1New_p0 code0 s _ _ (fun e => some (f_s_l1New_x0_2 code0 e))))
def f_s_l1New_t0 (σ : List AV) : Option (Bool × Bool × (X × List AV) × (X × List AV)) := match dec f_s_l1New_h0 σ with
  | some [.l code0, .i h3, .i i4] => some (isOne (loopL (f_s_l1New_r0 code0) (h3, i4)), true, f_s_l1New_x0_1 code0 (getOne 0 (loopL (f_s_l1New_r0 code0) (h3, i4))), (.ret, []))
  | _ => none
theorem f_s_l1New_tt0 : TTrue Try.prog f_s_l1New_F Try.f162 0 (f_s_l1New_t0) := by
  intro σ p r r' h
  unfold f_s_l1New_t0 at h
  split at h
  · rename_i hd
    rw [← dec_enc hd]
    exact row1 (f_s_l1New_l0 _ _) h
  · cases h
theorem f_s_l1New_p {R : Type} (code0 : List Sc) (kR : List Sc × Int × Int → Option R) : f_s_l1New_k code0 kR = (f_s_l1New_k code0 some).bind kR := by
  simp only [f_s_l1New_k, bl1B, someB]
theorem f_s_l1New_e (code0 : List Sc) : runFn E0 f_s_l1New_M H0 f_s_l1New_F (asL (addL 0 (f_s_l1New_t0) (noL))) Try.f162 (f_s_l1New_a code0) (f_s_l1New_i code0) = f_s_l1New_k code0 (fun r => some (f_s_l1New_en r)) := by kernel_rfl
theorem f_s_l1New_ok (code0 : List Sc) (r : List Sc × Int × Int) (h : f_s_l1New code0 = some r) : CS Try.prog 162 (f_s_l1New_a code0) (f_s_l1New_i code0) (f_s_l1New_en r).1 (f_s_l1New_en r).2 :=
  fn_true (Gk := fun k => f_s_l1New_k code0 k) (en := f_s_l1New_en) Try.func162 E0ok f_s_l1New_Mt (addL_true (f_s_l1New_tt0) (noL_true)) f_s_l1New_o (f_s_l1New_e code0) (f_s_l1New_p code0) h
def f_s_l1New_c : CRow := fun args inh => match dec2 [.p .sl] [] args inh with
  | some ([.l code0], []) => some ((f_s_l1New code0).isSome, (f_s_l1New_en ((f_s_l1New code0).getD ([], 0, 0))).1, (f_s_l1New_en ((f_s_l1New code0).getD ([], 0, 0))).2)
  | _ => none
theorem f_s_l1New_cc : CTrue Try.prog 162 f_s_l1New_c := by
  intro args inh rs out h
  unfold f_s_l1New_c at h
  split at h
  · rename_i hd
    obtain ⟨h1, h2⟩ := dec2_enc hd
    rw [← h1, ← h2]
    exact rowC (f_s_l1New_ok _) h
  · cases h

def f_s_l1Byte_io_F : Fi := { nv := 3, nc := 3, m := 3, vt := [], kl := [], sk := [], mvs := [], fz := [] }
def f_s_l1Byte_io_a (h0 : List Sc) (h1 : Int) (h2 : Int) : List AV := enc [.p (.pt 0 3)] []
def f_s_l1Byte_io_i (h0 : List Sc) (h1 : Int) (h2 : Int) : List AV := enc [.p .sl, .p (.int .i64), .p (.int .i64)] [.l h0, .i h1, .i h2]
def f_s_l1Byte_io_en (r : Int × List Sc × Int × Int) : List AV × List AV := (enc [.p (.int .i64)] [.i r.1], enc [.p .sl, .p (.int .i64), .p (.int .i64)] [.l r.2.1, .i r.2.2.1, .i r.2.2.2])
def f_s_l1Byte_io_M : Calling := noC
theorem f_s_l1Byte_io_Mt : CallOk Try.prog (f_s_l1Byte_io_M) := noC_true
theorem f_s_l1Byte_io_o : loopsOnce Try.f208 = true := by kernel_rfl
theorem f_s_l1Byte_io_p {R : Type} (h0 : List Sc) (h1 : Int) (h2 : Int) (kR : Int × List Sc × Int × Int → Option R) : f_s_l1Byte_io_k h0 h1 h2 kR = (f_s_l1Byte_io_k h0 h1 h2 some).bind kR := by
  simp only [f_s_l1Byte_io_k, brB, someB, noneB]
theorem f_s_l1Byte_io_e (h0 : List Sc) (h1 : Int) (h2 : Int) : runFn E0 f_s_l1Byte_io_M H0 f_s_l1Byte_io_F (asL (noL)) Try.f208 (f_s_l1Byte_io_a h0 h1 h2) (f_s_l1Byte_io_i h0 h1 h2) = f_s_l1Byte_io_k h0 h1 h2 (fun r => some (f_s_l1Byte_io_en r)) := by kernel_rfl
theorem f_s_l1Byte_io_ok (h0 : List Sc) (h1 : Int) (h2 : Int) (r : Int × List Sc × Int × Int) (h : f_s_l1Byte_io h0 h1 h2 = some r) : CS Try.prog 208 (f_s_l1Byte_io_a h0 h1 h2) (f_s_l1Byte_io_i h0 h1 h2) (f_s_l1Byte_io_en r).1 (f_s_l1Byte_io_en r).2 :=
  fn_true (Gk := fun k => f_s_l1Byte_io_k h0 h1 h2 k) (en := f_s_l1Byte_io_en) Try.func208 E0ok f_s_l1Byte_io_Mt (noL_true) f_s_l1Byte_io_o (f_s_l1Byte_io_e h0 h1 h2) (f_s_l1Byte_io_p h0 h1 h2) h
def f_s_l1Byte_io_c : CRow := fun args inh => match dec2 [.p (.pt 0 3)] [.p .sl, .p (.int .i64), .p (.int .i64)] args inh with
  | some ([], [.l h0, .i h1, .i h2]) => some ((f_s_l1Byte_io h0 h1 h2).isSome, (f_s_l1Byte_io_en ((f_s_l1Byte_io h0 h1 h2).getD (0, [], 0, 0))).1, (f_s_l1Byte_io_en ((f_s_l1Byte_io h0 h1 h2).getD (0, [], 0, 0))).2)
  | _ => none
theorem f_s_l1Byte_io_cc : CTrue Try.prog 208 f_s_l1Byte_io_c := by
  intro args inh rs out h
  unfold f_s_l1Byte_io_c at h
  split at h
  · rename_i hd
    obtain ⟨h1, h2⟩ := dec2_enc hd
    rw [← h1, ← h2]
    exact rowC (f_s_l1Byte_io_ok _ _ _) h
  · cases h

def f_s_l1Below_io_F : Fi := { nv := 3, nc := 3, m := 3, vt := [], kl := [], sk := [], mvs := [], fz := [] }
def f_s_l1Below_io_a (n1 : Int) (h0 : List Sc) (h1 : Int) (h2 : Int) : List AV := enc [.p (.pt 0 3), .p (.int .i64)] [.i n1]
def f_s_l1Below_io_i (n1 : Int) (h0 : List Sc) (h1 : Int) (h2 : Int) : List AV := enc [.p .sl, .p (.int .i64), .p (.int .i64)] [.l h0, .i h1, .i h2]
def f_s_l1Below_io_en (r : Int × List Sc × Int × Int) : List AV × List AV := (enc [.p (.int .i64)] [.i r.1], enc [.p .sl, .p (.int .i64), .p (.int .i64)] [.l r.2.1, .i r.2.2.1, .i r.2.2.2])
def f_s_l1Below_io_M : Calling := addC 208 f_s_l1Byte_io_c (noC)
theorem f_s_l1Below_io_Mt : CallOk Try.prog (f_s_l1Below_io_M) := addC_true f_s_l1Byte_io_cc (noC_true)
theorem f_s_l1Below_io_o : loopsOnce Try.f166 = true := by kernel_rfl
theorem f_s_l1Below_io_p {R : Type} (n1 : Int) (h0 : List Sc) (h1 : Int) (h2 : Int) (kR : Int × List Sc × Int × Int → Option R) : f_s_l1Below_io_k n1 h0 h1 h2 kR = (f_s_l1Below_io_k n1 h0 h1 h2 some).bind kR := by
  simp only [f_s_l1Below_io_k, brB, boB, someB, noneB]
theorem f_s_l1Below_io_e (n1 : Int) (h0 : List Sc) (h1 : Int) (h2 : Int) : runFn E0 f_s_l1Below_io_M H0 f_s_l1Below_io_F (asL (noL)) Try.f166 (f_s_l1Below_io_a n1 h0 h1 h2) (f_s_l1Below_io_i n1 h0 h1 h2) = f_s_l1Below_io_k n1 h0 h1 h2 (fun r => some (f_s_l1Below_io_en r)) := by kernel_rfl
theorem f_s_l1Below_io_ok (n1 : Int) (h0 : List Sc) (h1 : Int) (h2 : Int) (r : Int × List Sc × Int × Int) (h : f_s_l1Below_io n1 h0 h1 h2 = some r) : CS Try.prog 166 (f_s_l1Below_io_a n1 h0 h1 h2) (f_s_l1Below_io_i n1 h0 h1 h2) (f_s_l1Below_io_en r).1 (f_s_l1Below_io_en r).2 :=
  fn_true (Gk := fun k => f_s_l1Below_io_k n1 h0 h1 h2 k) (en := f_s_l1Below_io_en) Try.func166 E0ok f_s_l1Below_io_Mt (noL_true) f_s_l1Below_io_o (f_s_l1Below_io_e n1 h0 h1 h2) (f_s_l1Below_io_p n1 h0 h1 h2) h
def f_s_l1Below_io_c : CRow := fun args inh => match dec2 [.p (.pt 0 3), .p (.int .i64)] [.p .sl, .p (.int .i64), .p (.int .i64)] args inh with
  | some ([.i n1], [.l h0, .i h1, .i h2]) => some ((f_s_l1Below_io n1 h0 h1 h2).isSome, (f_s_l1Below_io_en ((f_s_l1Below_io n1 h0 h1 h2).getD (0, [], 0, 0))).1, (f_s_l1Below_io_en ((f_s_l1Below_io n1 h0 h1 h2).getD (0, [], 0, 0))).2)
  | _ => none
theorem f_s_l1Below_io_cc : CTrue Try.prog 166 f_s_l1Below_io_c := by
  intro args inh rs out h
  unfold f_s_l1Below_io_c at h
  split at h
  · rename_i hd
    obtain ⟨h1, h2⟩ := dec2_enc hd
    rw [← h1, ← h2]
    exact rowC (f_s_l1Below_io_ok _ _ _ _) h
  · cases h

def f_s_l2Draw_io_F : Fi := { nv := 4, nc := 4, m := 3, vt := [(4, 3)], kl := [(0, ([4, 6, 7, 9, 13, 14, 15, 16, 17, 18, 19, 20, 21, 22, 23, 24, 25, 26, 27, 28, 29, 30, 31, 32, 33, 34, 35, 36, 37, 38, 39, 40, 41, 42, 43, 44, 45, 46, 47, 48, 49, 50, 51, 52, 53, 54, 55, 56, 57, 58, 59, 60, 61, 62, 63, 64], [4, 6, 7, 9, 12, 13, 14, 15, 16, 17, 18, 19, 20, 21, 22, 23, 24, 25, 26, 27, 28, 29, 30, 31, 32, 33, 34, 35, 36, 37, 38, 39, 40, 41, 42, 43, 44, 45, 46, 47, 48, 49, 50, 51, 52, 53, 54, 55, 56, 57, 58, 59, 60, 61, 62, 63, 64], [4, 5, 6, 7, 9, 10, 11, 12, 13, 14, 15, 16, 17, 18, 19, 20, 21, 22, 23, 24, 25, 26, 27, 28, 29, 30, 31, 32, 33, 34, 35, 36, 37, 38, 39, 40, 41, 42, 43, 44, 45, 46, 47, 48, 49, 50, 51, 52, 53, 54, 55, 56, 57, 58, 59, 60, 61, 62, 63, 64]))], sk := [], mvs := [], fz := [], fl := [9, 10, 11, 12, 13, 14, 15, 16, 17, 18, 19, 20, 21, 22, 23, 24, 25, 26, 27, 28, 29, 30, 31] }
def f_s_l2Draw_io_a (most1 : Int) (h0 : List Sc) (h1 : Int) (h2 : Int) : List AV := enc [.p (.pt 0 3), .p (.int .i64)] [.i most1]
def f_s_l2Draw_io_i (most1 : Int) (h0 : List Sc) (h1 : Int) (h2 : Int) : List AV := enc [.p .sl, .p (.int .i64), .p (.int .i64)] [.l h0, .i h1, .i h2]
def f_s_l2Draw_io_en (r : List Sc × List Sc × Int × Int) : List AV × List AV := (enc [.p (.go 3)] [], enc [.p .sl, .p (.int .i64), .p (.int .i64), .own 3] [.l r.2.1, .i r.2.2.1, .i r.2.2.2, .l r.1])
def f_s_l2Draw_io_M : Calling := addC 166 f_s_l1Below_io_c (noC)
theorem f_s_l2Draw_io_Mt : CallOk Try.prog (f_s_l2Draw_io_M) := addC_true f_s_l1Below_io_cc (noC_true)
theorem f_s_l2Draw_io_o : loopsOnce Try.f165 = true := by kernel_rfl
def f_s_l2Draw_io_h0 : List Sh := [.p .sl, .p (.int .i64), .p (.int .i64), .p .sl, .u, .p (.int .i64), .u, .u, .p (.pt 3 1), .u, .p .sl, .p (.int .i64), .p (.int .i64), .u, .u, .u, .u, .u, .u, .u, .u, .u, .u, .u, .u, .u, .u, .u, .u, .u, .u, .u, .u, .u, .u, .u, .u, .u, .u, .u, .u, .u, .u, .u, .u, .u, .u, .u, .u, .u, .u, .u, .u, .u, .u, .u, .u, .u, .u, .u, .u, .u, .u, .u, .u]
def f_s_l2Draw_io_fr0 (most1 : Int) (o6 : List Sc) (s : List Sc × Int × Int × List Sc × Int × Int) : List AV := enc f_s_l2Draw_io_h0 [.l s.1, .i s.2.1, .i s.2.2.1, .l s.2.2.2.1, .i most1, .l o6, .i s.2.2.2.2.1, .i s.2.2.2.2.2]
def f_s_l2Draw_io_g0_1 : List Sh := [.p .sl, .p (.int .i64), .p (.int .i64), .p .sl, .u, .p (.int .i64), .u, .u, .p (.pt 3 1), .u, .p .sl, .p (.int .i64), .u, .u, .u, .u, .u, .u, .u, .u, .u, .u, .u, .u, .u, .u, .u, .u, .u, .u, .u, .u, .u, .u, .u, .u, .u, .u, .u, .u, .u, .u, .u, .u, .u, .u, .u, .u, .u, .u, .u, .u, .u, .u, .u, .u, .u, .u, .u, .u, .u, .u, .u, .u, .u]
def f_s_l2Draw_io_x0_1 (most1 : Int) (o6 : List Sc) (e : List Sc × Int × Int × List Sc × Int) : X × List AV := (.out 0, enc f_s_l2Draw_io_g0_1 [.l e.1, .i e.2.1, .i e.2.2.1, .l e.2.2.2.1, .i most1, .l o6, .i e.2.2.2.2])
def f_s_l2Draw_io_x0_2 (most1 : Int) (o6 : List Sc) (_e : Unit) : X × List AV := (.ret, [])
theorem f_s_l2Draw_io_p0 {R : Type} (most1 : Int) (o6 : List Sc) (s : List Sc × Int × Int × List Sc × Int × Int) (kN : List Sc × Int × Int × List Sc × Int × Int → Option R) (kA : List Sc × Int × Int × List Sc × Int → Option R) (kB : Unit → Option R) : f_s_l2Draw_io_k0 most1 o6 s.1 s.2.1 s.2.2.1 s.2.2.2.1 s.2.2.2.2.1 s.2.2.2.2.2 kN kA = (f_s_l2Draw_io_r0 most1 o6 s).bind (Ro.el kN kA kB) := by
  simp only [f_s_l2Draw_io_k0, f_s_l2Draw_io_r0, brB, someB, noneB, Ro.el]
theorem f_s_l2Draw_io_e0 (most1 : Int) (o6 : List Sc) (s : List Sc × Int × Int × List Sc × Int × Int) : EC E0 f_s_l2Draw_io_M H0 f_s_l2Draw_io_F (asL (noL)) 0 (bodyOf Try.f165 0) (f_s_l2Draw_io_fr0 most1 o6 s) (done (klOf f_s_l2Draw_io_F 0)) = f_s_l2Draw_io_k0 most1 o6 s.1 s.2.1 s.2.2.1 s.2.2.2.1 s.2.2.2.2.1 s.2.2.2.2.2 (fun s => some (.norm, f_s_l2Draw_io_fr0 most1 o6 s)) (fun e => some (f_s_l2Draw_io_x0_1 most1 o6 e)) := by kernel_rfl
theorem f_s_l2Draw_io_l0 (most1 : Int) (o6 : List Sc) : ∀ s r, loopL (f_s_l2Draw_io_r0 most1 o6) s = some r → LS Try.prog f_s_l2Draw_io_F (bodyOf Try.f165 0) (f_s_l2Draw_io_fr0 most1 o6 s) (enX (f_s_l2Draw_io_x0_1 most1 o6) (f_s_l2Draw_io_x0_2 most1 o6) r) :=
  loop_true E0ok f_s_l2Draw_io_Mt (noL_true) f_s_l2Draw_io_o (fun _ h => by cases h) (fun _ h => by cases h) (fun s => (f_s_l2Draw_io_e0 most1 o6 s).trans (f_s_l2Draw_io_p0 most1 o6 s _ _ (fun e => some (f_s_l2Draw_io_x0_2 most1 o6 e))))
def f_s_l2Draw_io_t0 (σ : List AV) : Option (Bool × Bool × (X × List AV) × (X × List AV)) := match dec f_s_l2Draw_io_h0 σ with
  | some [.l v0, .i v1, .i v2, .l v3, .i most1, .l o6, .i n7, .i i8] => some (isOne (loopL (f_s_l2Draw_io_r0 most1 o6) (v0, v1, v2, v3, n7, i8)), true, f_s_l2Draw_io_x0_1 most1 o6 (getOne ([], 0, 0, [], 0) (loopL (f_s_l2Draw_io_r0 most1 o6) (v0, v1, v2, v3, n7, i8))), (.ret, []))
  | _ => none
theorem f_s_l2Draw_io_tt0 : TTrue Try.prog f_s_l2Draw_io_F Try.f165 0 (f_s_l2Draw_io_t0) := by
  intro σ p r r' h
  unfold f_s_l2Draw_io_t0 at h
  split at h
  · rename_i hd
    rw [← dec_enc hd]
    exact row1 (f_s_l2Draw_io_l0 _ _ _) h
  · cases h
theorem f_s_l2Draw_io_p {R : Type} (most1 : Int) (h0 : List Sc) (h1 : Int) (h2 : Int) (kR : List Sc × List Sc × Int × Int → Option R) : f_s_l2Draw_io_k most1 h0 h1 h2 kR = (f_s_l2Draw_io_k most1 h0 h1 h2 some).bind kR := by
  simp only [f_s_l2Draw_io_k, brB, boB, bl1B, someB, noneB]
theorem f_s_l2Draw_io_e (most1 : Int) (h0 : List Sc) (h1 : Int) (h2 : Int) : runFn E0 f_s_l2Draw_io_M H0 f_s_l2Draw_io_F (asL (addL 0 (f_s_l2Draw_io_t0) (noL))) Try.f165 (f_s_l2Draw_io_a most1 h0 h1 h2) (f_s_l2Draw_io_i most1 h0 h1 h2) = f_s_l2Draw_io_k most1 h0 h1 h2 (fun r => some (f_s_l2Draw_io_en r)) := by kernel_rfl
theorem f_s_l2Draw_io_ok (most1 : Int) (h0 : List Sc) (h1 : Int) (h2 : Int) (r : List Sc × List Sc × Int × Int) (h : f_s_l2Draw_io most1 h0 h1 h2 = some r) : CS Try.prog 165 (f_s_l2Draw_io_a most1 h0 h1 h2) (f_s_l2Draw_io_i most1 h0 h1 h2) (f_s_l2Draw_io_en r).1 (f_s_l2Draw_io_en r).2 :=
  fn_true (Gk := fun k => f_s_l2Draw_io_k most1 h0 h1 h2 k) (en := f_s_l2Draw_io_en) Try.func165 E0ok f_s_l2Draw_io_Mt (addL_true (f_s_l2Draw_io_tt0) (noL_true)) f_s_l2Draw_io_o (f_s_l2Draw_io_e most1 h0 h1 h2) (f_s_l2Draw_io_p most1 h0 h1 h2) h
def f_s_l2Draw_io_c : CRow := fun args inh => match dec2 [.p (.pt 0 3), .p (.int .i64)] [.p .sl, .p (.int .i64), .p (.int .i64)] args inh with
  | some ([.i most1], [.l h0, .i h1, .i h2]) => some ((f_s_l2Draw_io most1 h0 h1 h2).isSome, (f_s_l2Draw_io_en ((f_s_l2Draw_io most1 h0 h1 h2).getD ([], [], 0, 0))).1, (f_s_l2Draw_io_en ((f_s_l2Draw_io most1 h0 h1 h2).getD ([], [], 0, 0))).2)
  | _ => none
theorem f_s_l2Draw_io_cc : CTrue Try.prog 165 f_s_l2Draw_io_c := by
  intro args inh rs out h
  unfold f_s_l2Draw_io_c at h
  split at h
  · rename_i hd
    obtain ⟨h1, h2⟩ := dec2_enc hd
    rw [← h1, ← h2]
    exact rowC (f_s_l2Draw_io_ok _ _ _ _) h
  · cases h

def f_s_l1PickInt_io_F : Fi := { nv := 3, nc := 3, m := 3, vt := [], kl := [], sk := [], mvs := [], fz := [] }
def f_s_l1PickInt_io_a (list1 : List Sc) (h0 : List Sc) (h1 : Int) (h2 : Int) : List AV := enc [.p (.pt 0 3), .p .sl] [.l list1]
def f_s_l1PickInt_io_i (list1 : List Sc) (h0 : List Sc) (h1 : Int) (h2 : Int) : List AV := enc [.p .sl, .p (.int .i64), .p (.int .i64)] [.l h0, .i h1, .i h2]
def f_s_l1PickInt_io_en (r : Int × List Sc × Int × Int) : List AV × List AV := (enc [.p (.int .i64)] [.i r.1], enc [.p .sl, .p (.int .i64), .p (.int .i64)] [.l r.2.1, .i r.2.2.1, .i r.2.2.2])
def f_s_l1PickInt_io_M : Calling := addC 166 f_s_l1Below_io_c (noC)
theorem f_s_l1PickInt_io_Mt : CallOk Try.prog (f_s_l1PickInt_io_M) := addC_true f_s_l1Below_io_cc (noC_true)
theorem f_s_l1PickInt_io_o : loopsOnce Try.f168 = true := by kernel_rfl
theorem f_s_l1PickInt_io_p {R : Type} (list1 : List Sc) (h0 : List Sc) (h1 : Int) (h2 : Int) (kR : Int × List Sc × Int × Int → Option R) : f_s_l1PickInt_io_k list1 h0 h1 h2 kR = (f_s_l1PickInt_io_k list1 h0 h1 h2 some).bind kR := by
  simp only [f_s_l1PickInt_io_k, brB, boB, someB, noneB]
theorem f_s_l1PickInt_io_e (list1 : List Sc) (h0 : List Sc) (h1 : Int) (h2 : Int) : runFn E0 f_s_l1PickInt_io_M H0 f_s_l1PickInt_io_F (asL (noL)) Try.f168 (f_s_l1PickInt_io_a list1 h0 h1 h2) (f_s_l1PickInt_io_i list1 h0 h1 h2) = f_s_l1PickInt_io_k list1 h0 h1 h2 (fun r => some (f_s_l1PickInt_io_en r)) := by kernel_rfl
theorem f_s_l1PickInt_io_ok (list1 : List Sc) (h0 : List Sc) (h1 : Int) (h2 : Int) (r : Int × List Sc × Int × Int) (h : f_s_l1PickInt_io list1 h0 h1 h2 = some r) : CS Try.prog 168 (f_s_l1PickInt_io_a list1 h0 h1 h2) (f_s_l1PickInt_io_i list1 h0 h1 h2) (f_s_l1PickInt_io_en r).1 (f_s_l1PickInt_io_en r).2 :=
  fn_true (Gk := fun k => f_s_l1PickInt_io_k list1 h0 h1 h2 k) (en := f_s_l1PickInt_io_en) Try.func168 E0ok f_s_l1PickInt_io_Mt (noL_true) f_s_l1PickInt_io_o (f_s_l1PickInt_io_e list1 h0 h1 h2) (f_s_l1PickInt_io_p list1 h0 h1 h2) h
def f_s_l1PickInt_io_c : CRow := fun args inh => match dec2 [.p (.pt 0 3), .p .sl] [.p .sl, .p (.int .i64), .p (.int .i64)] args inh with
  | some ([.l list1], [.l h0, .i h1, .i h2]) => some ((f_s_l1PickInt_io list1 h0 h1 h2).isSome, (f_s_l1PickInt_io_en ((f_s_l1PickInt_io list1 h0 h1 h2).getD (0, [], 0, 0))).1, (f_s_l1PickInt_io_en ((f_s_l1PickInt_io list1 h0 h1 h2).getD (0, [], 0, 0))).2)
  | _ => none
theorem f_s_l1PickInt_io_cc : CTrue Try.prog 168 f_s_l1PickInt_io_c := by
  intro args inh rs out h
  unfold f_s_l1PickInt_io_c at h
  split at h
  · rename_i hd
    obtain ⟨h1, h2⟩ := dec2_enc hd
    rw [← h1, ← h2]
    exact rowC (f_s_l1PickInt_io_ok _ _ _ _) h
  · cases h

def f_s_l2Any_io_F : Fi := { nv := 6, nc := 5, m := 3, vt := [(2, 3), (3, 4), (5, 5)], kl := [], sk := [], mvs := [5], fz := [] }
def f_s_l2Any_io_a (h0 : List Sc) (h1 : Int) (h2 : Int) : List AV := enc [.p (.pt 0 3)] []
def f_s_l2Any_io_i (h0 : List Sc) (h1 : Int) (h2 : Int) : List AV := enc [.p .sl, .p (.int .i64), .p (.int .i64)] [.l h0, .i h1, .i h2]
def f_s_l2Any_io_en (r : List Sc × List Sc × Int × Int) : List AV × List AV := (enc [.p (.go 3)] [], enc [.p .sl, .p (.int .i64), .p (.int .i64), .own 3] [.l r.2.1, .i r.2.2.1, .i r.2.2.2, .l r.1])
def f_s_l2Any_io_M : Calling := addC 165 f_s_l2Draw_io_c (addC 166 f_s_l1Below_io_c (addC 168 f_s_l1PickInt_io_c (noC)))
theorem f_s_l2Any_io_Mt : CallOk Try.prog (f_s_l2Any_io_M) := addC_true f_s_l2Draw_io_cc (addC_true f_s_l1Below_io_cc (addC_true f_s_l1PickInt_io_cc (noC_true)))
theorem f_s_l2Any_io_o : loopsOnce Try.f163 = true := by kernel_rfl
theorem f_s_l2Any_io_p {R : Type} (h0 : List Sc) (h1 : Int) (h2 : Int) (kR : List Sc × List Sc × Int × Int → Option R) : f_s_l2Any_io_k h0 h1 h2 kR = (f_s_l2Any_io_k h0 h1 h2 some).bind kR := by
  simp only [f_s_l2Any_io_k, brB, boB, someB]
theorem f_s_l2Any_io_e (h0 : List Sc) (h1 : Int) (h2 : Int) : runFn E0 f_s_l2Any_io_M H0 f_s_l2Any_io_F (asL (noL)) Try.f163 (f_s_l2Any_io_a h0 h1 h2) (f_s_l2Any_io_i h0 h1 h2) = f_s_l2Any_io_k h0 h1 h2 (fun r => some (f_s_l2Any_io_en r)) := by kernel_rfl
theorem f_s_l2Any_io_ok (h0 : List Sc) (h1 : Int) (h2 : Int) (r : List Sc × List Sc × Int × Int) (h : f_s_l2Any_io h0 h1 h2 = some r) : CS Try.prog 163 (f_s_l2Any_io_a h0 h1 h2) (f_s_l2Any_io_i h0 h1 h2) (f_s_l2Any_io_en r).1 (f_s_l2Any_io_en r).2 :=
  fn_true (Gk := fun k => f_s_l2Any_io_k h0 h1 h2 k) (en := f_s_l2Any_io_en) Try.func163 E0ok f_s_l2Any_io_Mt (noL_true) f_s_l2Any_io_o (f_s_l2Any_io_e h0 h1 h2) (f_s_l2Any_io_p h0 h1 h2) h
def f_s_l2Any_io_c : CRow := fun args inh => match dec2 [.p (.pt 0 3)] [.p .sl, .p (.int .i64), .p (.int .i64)] args inh with
  | some ([], [.l h0, .i h1, .i h2]) => some ((f_s_l2Any_io h0 h1 h2).isSome, (f_s_l2Any_io_en ((f_s_l2Any_io h0 h1 h2).getD ([], [], 0, 0))).1, (f_s_l2Any_io_en ((f_s_l2Any_io h0 h1 h2).getD ([], [], 0, 0))).2)
  | _ => none
theorem f_s_l2Any_io_cc : CTrue Try.prog 163 f_s_l2Any_io_c := by
  intro args inh rs out h
  unfold f_s_l2Any_io_c at h
  split at h
  · rename_i hd
    obtain ⟨h1, h2⟩ := dec2_enc hd
    rw [← h1, ← h2]
    exact rowC (f_s_l2Any_io_ok _ _ _) h
  · cases h

def f_s_l1In_F : Fi := { nv := 0, nc := 0, m := 0, vt := [], kl := [], sk := [], mvs := [], fz := [] }
def f_s_l1In_a (x0 : Int) (low1 : Int) (high2 : Int) : List AV := enc [.p (.int .i64), .p (.int .i64), .p (.int .i64)] [.i x0, .i low1, .i high2]
def f_s_l1In_i (x0 : Int) (low1 : Int) (high2 : Int) : List AV := enc [] []
def f_s_l1In_en (r : Bool) : List AV × List AV := (enc [.p .boo] [.b r], enc [] [])
def f_s_l1In_M : Calling := noC
theorem f_s_l1In_Mt : CallOk Try.prog (f_s_l1In_M) := noC_true
theorem f_s_l1In_o : loopsOnce Try.f150 = true := by kernel_rfl
theorem f_s_l1In_p {R : Type} (x0 : Int) (low1 : Int) (high2 : Int) (kR : Bool → Option R) : f_s_l1In_k x0 low1 high2 kR = (f_s_l1In_k x0 low1 high2 some).bind kR := by
  simp only [f_s_l1In_k, brB, someB]
theorem f_s_l1In_e (x0 : Int) (low1 : Int) (high2 : Int) : runFn E0 f_s_l1In_M H0 f_s_l1In_F (asL (noL)) Try.f150 (f_s_l1In_a x0 low1 high2) (f_s_l1In_i x0 low1 high2) = f_s_l1In_k x0 low1 high2 (fun r => some (f_s_l1In_en r)) := by kernel_rfl
theorem f_s_l1In_ok (x0 : Int) (low1 : Int) (high2 : Int) (r : Bool) (h : f_s_l1In x0 low1 high2 = some r) : CS Try.prog 150 (f_s_l1In_a x0 low1 high2) (f_s_l1In_i x0 low1 high2) (f_s_l1In_en r).1 (f_s_l1In_en r).2 :=
  fn_true (Gk := fun k => f_s_l1In_k x0 low1 high2 k) (en := f_s_l1In_en) Try.func150 E0ok f_s_l1In_Mt (noL_true) f_s_l1In_o (f_s_l1In_e x0 low1 high2) (f_s_l1In_p x0 low1 high2) h
def f_s_l1In_c : CRow := fun args inh => match dec2 [.p (.int .i64), .p (.int .i64), .p (.int .i64)] [] args inh with
  | some ([.i x0, .i low1, .i high2], []) => some ((f_s_l1In x0 low1 high2).isSome, (f_s_l1In_en ((f_s_l1In x0 low1 high2).getD false)).1, (f_s_l1In_en ((f_s_l1In x0 low1 high2).getD false)).2)
  | _ => none
theorem f_s_l1In_cc : CTrue Try.prog 150 f_s_l1In_c := by
  intro args inh rs out h
  unfold f_s_l1In_c at h
  split at h
  · rename_i hd
    obtain ⟨h1, h2⟩ := dec2_enc hd
    rw [← h1, ← h2]
    exact rowC (f_s_l1In_ok _ _ _) h
  · cases h

def f_s_IsGroup_F : Fi := { nv := 0, nc := 0, m := 0, vt := [], kl := [(0, ([0, 2, 5, 6, 7, 8, 9, 10, 11, 12, 13, 14, 15, 16, 17, 18, 19, 20, 21, 22, 23, 24, 25, 26, 27, 28, 29, 30, 31], [0, 1, 2, 4, 5, 6, 7, 8, 9, 10, 11, 12, 13, 14, 15, 16, 17, 18, 19, 20, 21, 22, 23, 24, 25, 26, 27, 28, 29, 30, 31], [0, 1, 3, 4, 5, 6, 7, 8, 9, 10, 11, 12, 13, 14, 15, 16, 17, 18, 19, 20, 21, 22, 23, 24, 25, 26, 27, 28, 29, 30, 31]))], sk := [], mvs := [], fz := [] }
def f_s_IsGroup_a (g0 : List Sc) : List AV := enc [.p .gr] [.l g0]
def f_s_IsGroup_i (g0 : List Sc) : List AV := enc [] []
def f_s_IsGroup_en (r : Bool) : List AV × List AV := (enc [.p .boo] [.b r], enc [] [])
def f_s_IsGroup_M : Calling := addC 150 f_s_l1In_c (noC)
theorem f_s_IsGroup_Mt : CallOk Try.prog (f_s_IsGroup_M) := addC_true f_s_l1In_cc (noC_true)
theorem f_s_IsGroup_o : loopsOnce Try.f179 = true := by kernel_rfl
def f_s_IsGroup_h0 : List Sh := [.u, .p .el, .u, .p (.int .i64), .p (.int .i64), .u, .u, .u, .u, .u, .u, .u, .u, .u, .u, .u, .u, .u, .u, .u, .u, .u, .u, .u, .u, .u, .u, .u, .u, .u, .u, .u]
def f_s_IsGroup_fr0 (g1 : List Sc) (s : Int × Int) : List AV := enc f_s_IsGroup_h0 [.l g1, .i s.1, .i s.2]
def f_s_IsGroup_g0_1 : List Sh := [.u, .u, .u, .p (.int .i64), .u, .u, .u, .u, .u, .u, .u, .u, .u, .u, .u, .u, .u, .u, .u, .u, .u, .u, .u, .u, .u, .u, .u, .u, .u, .u, .u, .u]
def f_s_IsGroup_x0_1 (g1 : List Sc) (e : Int) : X × List AV := (.out 0, enc f_s_IsGroup_g0_1 [.i e])
def f_s_IsGroup_g0_2 : List Sh := [.u, .u, .p .boo, .u, .u, .u, .u, .u, .u, .u, .u, .u, .u, .u, .u, .u, .u, .u, .u, .u, .u, .u, .u, .u, .u, .u, .u, .u, .u, .u, .u, .u]
def f_s_IsGroup_x0_2 (g1 : List Sc) (e : Unit) : X × List AV := (.ret, enc f_s_IsGroup_g0_2 [.b false])
theorem f_s_IsGroup_p0 {R : Type} (g1 : List Sc) (s : Int × Int) (kN : Int × Int → Option R) (kA : Int → Option R) (kB : Unit → Option R) : f_s_IsGroup_k0 g1 s.1 s.2 kN kA kB = (f_s_IsGroup_r0 g1 s).bind (Ro.el kN kA kB) := by
  simp only [f_s_IsGroup_k0, f_s_IsGroup_r0, brB, boB, someB, noneB, Ro.el]
theorem f_s_IsGroup_e0 (g1 : List Sc) (s : Int × Int) : EC E0 f_s_IsGroup_M H0 f_s_IsGroup_F (asL (noL)) 0 (bodyOf Try.f179 0) (f_s_IsGroup_fr0 g1 s) (done (klOf f_s_IsGroup_F 0)) = f_s_IsGroup_k0 g1 s.1 s.2 (fun s => some (.norm, f_s_IsGroup_fr0 g1 s)) (fun e => some (f_s_IsGroup_x0_1 g1 e)) (fun e => some (f_s_IsGroup_x0_2 g1 e)) := by kernel_rfl
theorem f_s_IsGroup_l0 (g1 : List Sc) : ∀ s r, loopL (f_s_IsGroup_r0 g1) s = some r → LS Try.prog f_s_IsGroup_F (bodyOf Try.f179 0) (f_s_IsGroup_fr0 g1 s) (enX (f_s_IsGroup_x0_1 g1) (f_s_IsGroup_x0_2 g1) r) :=
  loop_true E0ok f_s_IsGroup_Mt (noL_true) f_s_IsGroup_o (fun _ h => by cases h) (fun _ h => by cases h) (fun s => (f_s_IsGroup_e0 g1 s).trans (f_s_IsGroup_p0 g1 s _ _ (fun e => some (f_s_IsGroup_x0_2 g1 e))))
def f_s_IsGroup_t0 (σ : List AV) : Option (Bool × Bool × (X × List AV) × (X × List AV)) := match dec f_s_IsGroup_h0 σ with
  | some [.l g1, .i n3, .i i4] => some ((loopL (f_s_IsGroup_r0 g1) (n3, i4)).isSome, isOne (loopL (f_s_IsGroup_r0 g1) (n3, i4)), f_s_IsGroup_x0_1 g1 (getOne 0 (loopL (f_s_IsGroup_r0 g1) (n3, i4))), f_s_IsGroup_x0_2 g1 (getTwo () (loopL (f_s_IsGroup_r0 g1) (n3, i4))))
  | _ => none
theorem f_s_IsGroup_tt0 : TTrue Try.prog f_s_IsGroup_F Try.f179 0 (f_s_IsGroup_t0) := by
  intro σ p r r' h
  unfold f_s_IsGroup_t0 at h
  split at h
  · rename_i hd
    rw [← dec_enc hd]
    exact row2 (f_s_IsGroup_l0 _ _) h
  · cases h
theorem f_s_IsGroup_p {R : Type} (g0 : List Sc) (kR : Bool → Option R) : f_s_IsGroup_k g0 kR = (f_s_IsGroup_k g0 some).bind kR := by
  simp only [f_s_IsGroup_k, blB, someB]
theorem f_s_IsGroup_e (g0 : List Sc) : runFn E0 f_s_IsGroup_M H0 f_s_IsGroup_F (asL (addL 0 (f_s_IsGroup_t0) (noL))) Try.f179 (f_s_IsGroup_a g0) (f_s_IsGroup_i g0) = f_s_IsGroup_k g0 (fun r => some (f_s_IsGroup_en r)) := by kernel_rfl
theorem f_s_IsGroup_ok (g0 : List Sc) (r : Bool) (h : f_s_IsGroup g0 = some r) : CS Try.prog 179 (f_s_IsGroup_a g0) (f_s_IsGroup_i g0) (f_s_IsGroup_en r).1 (f_s_IsGroup_en r).2 :=
  fn_true (Gk := fun k => f_s_IsGroup_k g0 k) (en := f_s_IsGroup_en) Try.func179 E0ok f_s_IsGroup_Mt (addL_true (f_s_IsGroup_tt0) (noL_true)) f_s_IsGroup_o (f_s_IsGroup_e g0) (f_s_IsGroup_p g0) h
def f_s_IsGroup_c : CRow := fun args inh => match dec2 [.p .gr] [] args inh with
  | some ([.l g0], []) => some ((f_s_IsGroup g0).isSome, (f_s_IsGroup_en ((f_s_IsGroup g0).getD false)).1, (f_s_IsGroup_en ((f_s_IsGroup g0).getD false)).2)
  | _ => none
theorem f_s_IsGroup_cc : CTrue Try.prog 179 f_s_IsGroup_c := by
  intro args inh rs out h
  unfold f_s_IsGroup_c at h
  split at h
  · rename_i hd
    obtain ⟨h1, h2⟩ := dec2_enc hd
    rw [← h1, ← h2]
    exact rowC (f_s_IsGroup_ok _) h
  · cases h

def f_s_l2Order_F : Fi := { nv := 0, nc := 0, m := 0, vt := [], kl := [(0, ([0, 2, 5, 6, 7, 8, 9, 10, 11, 12, 13, 14, 15, 16, 17, 18, 19], [0, 1, 2, 4, 5, 6, 7, 8, 9, 10, 11, 12, 13, 14, 15, 16, 17, 18, 19], [0, 1, 3, 4, 5, 6, 7, 8, 9, 10, 11, 12, 13, 14, 15, 16, 17, 18, 19]))], sk := [], mvs := [], fz := [] }
def f_s_l2Order_a (g0 : List Sc) : List AV := enc [.p .gr] [.l g0]
def f_s_l2Order_i (g0 : List Sc) : List AV := enc [] []
def f_s_l2Order_en (r : Int) : List AV × List AV := (enc [.p (.int .i64)] [.i r], enc [] [])
def f_s_l2Order_M : Calling := noC
theorem f_s_l2Order_Mt : CallOk Try.prog (f_s_l2Order_M) := noC_true
theorem f_s_l2Order_o : loopsOnce Try.f139 = true := by kernel_rfl
def f_s_l2Order_h0 : List Sh := [.u, .p .el, .u, .p (.int .i64), .p (.int .i64), .u, .u, .u, .u, .u, .u, .u, .u, .u, .u, .u, .u, .u, .u, .u]
def f_s_l2Order_fr0 (g1 : List Sc) (s : Int × Int) : List AV := enc f_s_l2Order_h0 [.l g1, .i s.1, .i s.2]
def f_s_l2Order_g0_1 : List Sh := [.u, .u, .u, .p (.int .i64), .u, .u, .u, .u, .u, .u, .u, .u, .u, .u, .u, .u, .u, .u, .u, .u]
def f_s_l2Order_x0_1 (g1 : List Sc) (e : Int) : X × List AV := (.out 0, enc f_s_l2Order_g0_1 [.i e])
def f_s_l2Order_x0_2 (g1 : List Sc) (_e : Unit) : X × List AV := (.ret, [])
theorem f_s_l2Order_p0 {R : Type} (g1 : List Sc) (s : Int × Int) (kN : Int × Int → Option R) (kA : Int → Option R) (kB : Unit → Option R) : f_s_l2Order_k0 g1 s.1 s.2 kN kA = (f_s_l2Order_r0 g1 s).bind (Ro.el kN kA kB) := by
  simp only [f_s_l2Order_k0, f_s_l2Order_r0, brB, someB, noneB, Ro.el]
theorem f_s_l2Order_e0 (g1 : List Sc) (s : Int × Int) : EC E0 f_s_l2Order_M H0 f_s_l2Order_F (asL (noL)) 0 (bodyOf Try.f139 0) (f_s_l2Order_fr0 g1 s) (done (klOf f_s_l2Order_F 0)) = f_s_l2Order_k0 g1 s.1 s.2 (fun s => some (.norm, f_s_l2Order_fr0 g1 s)) (fun e => some (f_s_l2Order_x0_1 g1 e)) := by kernel_rfl
theorem f_s_l2Order_l0 (g1 : List Sc) : ∀ s r, loopL (f_s_l2Order_r0 g1) s = some r → LS Try.prog f_s_l2Order_F (bodyOf Try.f139 0) (f_s_l2Order_fr0 g1 s) (enX (f_s_l2Order_x0_1 g1) (f_s_l2Order_x0_2 g1) r) :=
  loop_true E0ok f_s_l2Order_Mt (noL_true) f_s_l2Order_o (fun _ h => by cases h) (fun _ h => by cases h) (fun s => (f_s_l2Order_e0 g1 s).trans (f_s_l2Order_p0 g1 s _ _ (fun e => some (f_s_l2Order_x0_2 g1 e))))
def f_s_l2Order_t0 (σ : List AV) : Option (Bool × Bool × (X × List AV) × (X × List AV)) := match dec f_s_l2Order_h0 σ with
  | some [.l g1, .i n3, .i i4] => some (isOne (loopL (f_s_l2Order_r0 g1) (n3, i4)), true, f_s_l2Order_x0_1 g1 (getOne 0 (loopL (f_s_l2Order_r0 g1) (n3, i4))), (.ret, []))
  | _ => none
theorem f_s_l2Order_tt0 : TTrue Try.prog f_s_l2Order_F Try.f139 0 (f_s_l2Order_t0) := by
  intro σ p r r' h
  unfold f_s_l2Order_t0 at h
  split at h
  · rename_i hd
    rw [← dec_enc hd]
    exact row1 (f_s_l2Order_l0 _ _) h
  · cases h
theorem f_s_l2Order_p {R : Type} (g0 : List Sc) (kR : Int → Option R) : f_s_l2Order_k g0 kR = (f_s_l2Order_k g0 some).bind kR := by
  simp only [f_s_l2Order_k, bl1B, someB]
theorem f_s_l2Order_e (g0 : List Sc) : runFn E0 f_s_l2Order_M H0 f_s_l2Order_F (asL (addL 0 (f_s_l2Order_t0) (noL))) Try.f139 (f_s_l2Order_a g0) (f_s_l2Order_i g0) = f_s_l2Order_k g0 (fun r => some (f_s_l2Order_en r)) := by kernel_rfl
theorem f_s_l2Order_ok (g0 : List Sc) (r : Int) (h : f_s_l2Order g0 = some r) : CS Try.prog 139 (f_s_l2Order_a g0) (f_s_l2Order_i g0) (f_s_l2Order_en r).1 (f_s_l2Order_en r).2 :=
  fn_true (Gk := fun k => f_s_l2Order_k g0 k) (en := f_s_l2Order_en) Try.func139 E0ok f_s_l2Order_Mt (addL_true (f_s_l2Order_tt0) (noL_true)) f_s_l2Order_o (f_s_l2Order_e g0) (f_s_l2Order_p g0) h
def f_s_l2Order_c : CRow := fun args inh => match dec2 [.p .gr] [] args inh with
  | some ([.l g0], []) => some ((f_s_l2Order g0).isSome, (f_s_l2Order_en ((f_s_l2Order g0).getD 0)).1, (f_s_l2Order_en ((f_s_l2Order g0).getD 0)).2)
  | _ => none
theorem f_s_l2Order_cc : CTrue Try.prog 139 f_s_l2Order_c := by
  intro args inh rs out h
  unfold f_s_l2Order_c at h
  split at h
  · rename_i hd
    obtain ⟨h1, h2⟩ := dec2_enc hd
    rw [← h1, ← h2]
    exact rowC (f_s_l2Order_ok _) h
  · cases h

def f_s_OrderOf_F : Fi := { nv := 0, nc := 0, m := 0, vt := [], kl := [], sk := [], mvs := [], fz := [] }
def f_s_OrderOf_a (g0 : List Sc) : List AV := enc [.p .gr] [.l g0]
def f_s_OrderOf_i (g0 : List Sc) : List AV := enc [] []
def f_s_OrderOf_en (r : Int) : List AV × List AV := (enc [.p (.int .i64)] [.i r], enc [] [])
def f_s_OrderOf_M : Calling := addC 179 f_s_IsGroup_c (addC 139 f_s_l2Order_c (noC))
theorem f_s_OrderOf_Mt : CallOk Try.prog (f_s_OrderOf_M) := addC_true f_s_IsGroup_cc (addC_true f_s_l2Order_cc (noC_true))
theorem f_s_OrderOf_o : loopsOnce Try.f72 = true := by kernel_rfl
theorem f_s_OrderOf_p {R : Type} (g0 : List Sc) (kR : Int → Option R) : f_s_OrderOf_k g0 kR = (f_s_OrderOf_k g0 some).bind kR := by
  simp only [f_s_OrderOf_k, brB, boB, someB]
theorem f_s_OrderOf_e (g0 : List Sc) : runFn E0 f_s_OrderOf_M H0 f_s_OrderOf_F (asL (noL)) Try.f72 (f_s_OrderOf_a g0) (f_s_OrderOf_i g0) = f_s_OrderOf_k g0 (fun r => some (f_s_OrderOf_en r)) := by kernel_rfl
theorem f_s_OrderOf_ok (g0 : List Sc) (r : Int) (h : f_s_OrderOf g0 = some r) : CS Try.prog 72 (f_s_OrderOf_a g0) (f_s_OrderOf_i g0) (f_s_OrderOf_en r).1 (f_s_OrderOf_en r).2 :=
  fn_true (Gk := fun k => f_s_OrderOf_k g0 k) (en := f_s_OrderOf_en) Try.func72 E0ok f_s_OrderOf_Mt (noL_true) f_s_OrderOf_o (f_s_OrderOf_e g0) (f_s_OrderOf_p g0) h
def f_s_OrderOf_c : CRow := fun args inh => match dec2 [.p .gr] [] args inh with
  | some ([.l g0], []) => some ((f_s_OrderOf g0).isSome, (f_s_OrderOf_en ((f_s_OrderOf g0).getD 0)).1, (f_s_OrderOf_en ((f_s_OrderOf g0).getD 0)).2)
  | _ => none
theorem f_s_OrderOf_cc : CTrue Try.prog 72 f_s_OrderOf_c := by
  intro args inh rs out h
  unfold f_s_OrderOf_c at h
  split at h
  · rename_i hd
    obtain ⟨h1, h2⟩ := dec2_enc hd
    rw [← h1, ← h2]
    exact rowC (f_s_OrderOf_ok _) h
  · cases h

def f_s_l3Set_io_F : Fi := { nv := 3, nc := 3, m := 3, vt := [], kl := [(0, ([4, 5, 6, 7, 11, 12, 13, 14, 15, 16, 17, 18, 19, 20, 21, 22, 23, 24, 25, 26, 27, 28, 29, 30, 31, 32, 33, 34, 35, 36, 37, 38], [4, 5, 6, 7, 10, 11, 12, 13, 14, 15, 16, 17, 18, 19, 20, 21, 22, 23, 24, 25, 26, 27, 28, 29, 30, 31, 32, 33, 34, 35, 36, 37, 38], [3, 4, 5, 6, 8, 9, 10, 11, 12, 13, 14, 15, 16, 17, 18, 19, 20, 21, 22, 23, 24, 25, 26, 27, 28, 29, 30, 31, 32, 33, 34, 35, 36, 37, 38]))], sk := [], mvs := [], fz := [] }
def f_s_l3Set_io_a (g1 : List Sc) (h0 : List Sc) (h1 : Int) (h2 : Int) : List AV := enc [.p (.pt 0 3), .p .gr] [.l g1]
def f_s_l3Set_io_i (g1 : List Sc) (h0 : List Sc) (h1 : Int) (h2 : Int) : List AV := enc [.p .sl, .p (.int .i64), .p (.int .i64)] [.l h0, .i h1, .i h2]
def f_s_l3Set_io_en (r : Int × List Sc × Int × Int) : List AV × List AV := (enc [.p (.int .i64)] [.i r.1], enc [.p .sl, .p (.int .i64), .p (.int .i64)] [.l r.2.1, .i r.2.2.1, .i r.2.2.2])
def f_s_l3Set_io_M : Calling := addC 72 f_s_OrderOf_c (addC 166 f_s_l1Below_io_c (addC 168 f_s_l1PickInt_io_c (noC)))
theorem f_s_l3Set_io_Mt : CallOk Try.prog (f_s_l3Set_io_M) := addC_true f_s_OrderOf_cc (addC_true f_s_l1Below_io_cc (addC_true f_s_l1PickInt_io_cc (noC_true)))
theorem f_s_l3Set_io_o : loopsOnce Try.f164 = true := by kernel_rfl
def f_s_l3Set_io_h0 : List Sh := [.p .sl, .p (.int .i64), .p (.int .i64), .p (.pt 0 3), .u, .u, .u, .u, .p (.int .i64), .p (.int .i64), .p (.int .i64), .u, .u, .u, .u, .u, .u, .u, .u, .u, .u, .u, .u, .u, .u, .u, .u, .u, .u, .u, .u, .u, .u, .u, .u, .u, .u, .u, .u]
def f_s_l3Set_io_fr0 (n5 : Int) (s : List Sc × Int × Int × Int × Int) : List AV := enc f_s_l3Set_io_h0 [.l s.1, .i s.2.1, .i s.2.2.1, .i n5, .i s.2.2.2.1, .i s.2.2.2.2]
def f_s_l3Set_io_g0_1 : List Sh := [.p .sl, .p (.int .i64), .p (.int .i64), .p (.pt 0 3), .u, .u, .u, .u, .p (.int .i64), .p (.int .i64), .u, .u, .u, .u, .u, .u, .u, .u, .u, .u, .u, .u, .u, .u, .u, .u, .u, .u, .u, .u, .u, .u, .u, .u, .u, .u, .u, .u, .u]
def f_s_l3Set_io_x0_1 (n5 : Int) (e : List Sc × Int × Int × Int) : X × List AV := (.out 0, enc f_s_l3Set_io_g0_1 [.l e.1, .i e.2.1, .i e.2.2.1, .i n5, .i e.2.2.2])
def f_s_l3Set_io_x0_2 (n5 : Int) (_e : Unit) : X × List AV := (.ret, [])
theorem f_s_l3Set_io_p0 {R : Type} (n5 : Int) (s : List Sc × Int × Int × Int × Int) (kN : List Sc × Int × Int × Int × Int → Option R) (kA : List Sc × Int × Int × Int → Option R) (kB : Unit → Option R) : f_s_l3Set_io_k0 n5 s.1 s.2.1 s.2.2.1 s.2.2.2.1 s.2.2.2.2 kN kA = (f_s_l3Set_io_r0 n5 s).bind (Ro.el kN kA kB) := by
  simp only [f_s_l3Set_io_k0, f_s_l3Set_io_r0, brB, boB, someB, noneB, Ro.el]
theorem f_s_l3Set_io_e0 (n5 : Int) (s : List Sc × Int × Int × Int × Int) : EC E0 f_s_l3Set_io_M H0 f_s_l3Set_io_F (asL (noL)) 0 (bodyOf Try.f164 0) (f_s_l3Set_io_fr0 n5 s) (done (klOf f_s_l3Set_io_F 0)) = f_s_l3Set_io_k0 n5 s.1 s.2.1 s.2.2.1 s.2.2.2.1 s.2.2.2.2 (fun s => some (.norm, f_s_l3Set_io_fr0 n5 s)) (fun e => some (f_s_l3Set_io_x0_1 n5 e)) := by kernel_rfl
theorem f_s_l3Set_io_l0 (n5 : Int) : ∀ s r, loopL (f_s_l3Set_io_r0 n5) s = some r → LS Try.prog f_s_l3Set_io_F (bodyOf Try.f164 0) (f_s_l3Set_io_fr0 n5 s) (enX (f_s_l3Set_io_x0_1 n5) (f_s_l3Set_io_x0_2 n5) r) :=
  loop_true E0ok f_s_l3Set_io_Mt (noL_true) f_s_l3Set_io_o (fun _ h => by cases h) (fun _ h => by cases h) (fun s => (f_s_l3Set_io_e0 n5 s).trans (f_s_l3Set_io_p0 n5 s _ _ (fun e => some (f_s_l3Set_io_x0_2 n5 e))))
def f_s_l3Set_io_t0 (σ : List AV) : Option (Bool × Bool × (X × List AV) × (X × List AV)) := match dec f_s_l3Set_io_h0 σ with
  | some [.l v0, .i v1, .i v2, .i n5, .i a6, .i k7] => some (isOne (loopL (f_s_l3Set_io_r0 n5) (v0, v1, v2, a6, k7)), true, f_s_l3Set_io_x0_1 n5 (getOne ([], 0, 0, 0) (loopL (f_s_l3Set_io_r0 n5) (v0, v1, v2, a6, k7))), (.ret, []))
  | _ => none
theorem f_s_l3Set_io_tt0 : TTrue Try.prog f_s_l3Set_io_F Try.f164 0 (f_s_l3Set_io_t0) := by
  intro σ p r r' h
  unfold f_s_l3Set_io_t0 at h
  split at h
  · rename_i hd
    rw [← dec_enc hd]
    exact row1 (f_s_l3Set_io_l0 _ _) h
  · cases h
theorem f_s_l3Set_io_p {R : Type} (g1 : List Sc) (h0 : List Sc) (h1 : Int) (h2 : Int) (kR : Int × List Sc × Int × Int → Option R) : f_s_l3Set_io_k g1 h0 h1 h2 kR = (f_s_l3Set_io_k g1 h0 h1 h2 some).bind kR := by
  simp only [f_s_l3Set_io_k, brB, boB, bl1B, someB, noneB]
theorem f_s_l3Set_io_e (g1 : List Sc) (h0 : List Sc) (h1 : Int) (h2 : Int) : runFn E0 f_s_l3Set_io_M H0 f_s_l3Set_io_F (asL (addL 0 (f_s_l3Set_io_t0) (noL))) Try.f164 (f_s_l3Set_io_a g1 h0 h1 h2) (f_s_l3Set_io_i g1 h0 h1 h2) = f_s_l3Set_io_k g1 h0 h1 h2 (fun r => some (f_s_l3Set_io_en r)) := by kernel_rfl
theorem f_s_l3Set_io_ok (g1 : List Sc) (h0 : List Sc) (h1 : Int) (h2 : Int) (r : Int × List Sc × Int × Int) (h : f_s_l3Set_io g1 h0 h1 h2 = some r) : CS Try.prog 164 (f_s_l3Set_io_a g1 h0 h1 h2) (f_s_l3Set_io_i g1 h0 h1 h2) (f_s_l3Set_io_en r).1 (f_s_l3Set_io_en r).2 :=
  fn_true (Gk := fun k => f_s_l3Set_io_k g1 h0 h1 h2 k) (en := f_s_l3Set_io_en) Try.func164 E0ok f_s_l3Set_io_Mt (addL_true (f_s_l3Set_io_tt0) (noL_true)) f_s_l3Set_io_o (f_s_l3Set_io_e g1 h0 h1 h2) (f_s_l3Set_io_p g1 h0 h1 h2) h
def f_s_l3Set_io_c : CRow := fun args inh => match dec2 [.p (.pt 0 3), .p .gr] [.p .sl, .p (.int .i64), .p (.int .i64)] args inh with
  | some ([.l g1], [.l h0, .i h1, .i h2]) => some ((f_s_l3Set_io g1 h0 h1 h2).isSome, (f_s_l3Set_io_en ((f_s_l3Set_io g1 h0 h1 h2).getD (0, [], 0, 0))).1, (f_s_l3Set_io_en ((f_s_l3Set_io g1 h0 h1 h2).getD (0, [], 0, 0))).2)
  | _ => none
theorem f_s_l3Set_io_cc : CTrue Try.prog 164 f_s_l3Set_io_c := by
  intro args inh rs out h
  unfold f_s_l3Set_io_c at h
  split at h
  · rename_i hd
    obtain ⟨h1, h2⟩ := dec2_enc hd
    rw [← h1, ← h2]
    exact rowC (f_s_l3Set_io_ok _ _ _ _) h
  · cases h

def f_s_l3One_F : Fi := { nv := 6, nc := 5, m := 0, vt := [(2, 0), (5, 1), (7, 2), (9, 5)], kl := [(100003, ([5, 6, 7, 9, 12, 13, 14, 15, 16, 17, 18, 19], [1, 2, 3, 4, 5, 6, 7, 10, 11, 12, 13, 14, 15, 16, 17, 18, 19], []))], sk := [], mvs := [5], fz := [], tb := [3] }
def f_s_l3One_a (code0 : List Sc) : List AV := enc [.p .sl] [.l code0]
def f_s_l3One_i (code0 : List Sc) : List AV := enc [] []
def f_s_l3One_en (r : List Sc × Int) : List AV × List AV := (enc [.p .gr, .p (.int .i64)] [.l r.1, .i r.2], enc [] [])
def f_s_l3One_M : Calling := addC 162 f_s_l1New_c (addC 163 f_s_l2Any_io_c (addC 164 f_s_l3Set_io_c (noC)))
theorem f_s_l3One_Mt : CallOk Try.prog (f_s_l3One_M) := addC_true f_s_l1New_cc (addC_true f_s_l2Any_io_cc (addC_true f_s_l3Set_io_cc (noC_true)))
theorem f_s_l3One_o : loopsOnce Try.f152 = true := by kernel_rfl
def f_s_l3One_hg3 : List Sh := [.p .sl, .own 3, .p .sl, .p (.int .i64), .p (.int .i64), .u, .u, .u, .p (.pt 0 1), .u, .p (.pt 2 3), .p (.pt 1 1), .u, .u, .u, .u, .u, .u, .u, .u]
def f_s_l3One_frg3 (v0 : List Sc) (v1 : List Sc) (v2 : List Sc) (v3 : Int) (v4 : Int) : List AV := enc f_s_l3One_hg3 [.l v0, .l v1, .l v2, .i v3, .i v4]
def f_s_l3One_xg3 (v0 : List Sc) (v1 : List Sc) (v2 : List Sc) (v3 : Int) (v4 : Int) (e : Int) : X × List AV := (.norm, enc [.p .sl, .u, .u, .u, .u, .u, .u, .u, .p (.pt 0 1), .p (.int .i64), .u, .u, .u, .u, .u, .u, .u, .u, .u, .u] [.l v1, .i e])
theorem f_s_l3One_pg3 {R : Type} (v0 : List Sc) (v1 : List Sc) (v2 : List Sc) (v3 : Int) (v4 : Int) (kA : Int → Option R) : f_s_l3One_g3_k v0 v1 v2 v3 v4 kA = (f_s_l3One_g3 v0 v1 v2 v3 v4).bind kA := by
  simp only [f_s_l3One_g3_k, f_s_l3One_g3, boB, someB]
theorem f_s_l3One_bg3 : bodyOf Try.f152 100003 = .region 3 (opsAt (bodyOf Try.f152 100003)) true := by kernel_rfl
def f_s_l3One_Dg3 : List (Array Bool) := [#[false, false, false, false, false, false], #[true, false, false, false, false, false], #[false, true, false, false, false, false], #[false, false, true, false, false, false], #[true, true, false, false, false, false], #[true, false, true, false, false, false], #[false, true, true, false, false, false], #[true, true, true, false, false, false], #[false, true, true, true, false, false], #[true, true, true, true, false, false], #[true, true, true, true, true, false], #[true, true, true, true, true, true]]
theorem f_s_l3One_cg3 : closedB (opsAt (bodyOf Try.f152 100003)) f_s_l3One_Dg3 = true := by kernel_rfl
def f_s_l3One_sg3_0 (v0 : List Sc) (v1 : List Sc) (v2 : List Sc) (v3 : Int) (v4 : Int) (fr : List AV) : Option (List AV) :=
  some (setAll [] fr)
def f_s_l3One_sg3_1 (v0 : List Sc) (v1 : List Sc) (v2 : List Sc) (v3 : Int) (v4 : Int) (fr : List AV) : Option (List AV) :=
  some (setAll [(16, .p (.go 1))] fr)
def f_s_l3One_sg3_2 (v0 : List Sc) (v1 : List Sc) (v2 : List Sc) (v3 : Int) (v4 : Int) (fr : List AV) : Option (List AV) :=
  some (setAll [(17, .p (.pt 2 3))] fr)
def f_s_l3One_sg3_4 (v0 : List Sc) (v1 : List Sc) (v2 : List Sc) (v3 : Int) (v4 : Int) (fr : List AV) : Option (List AV) :=
  some (setAll [(18, .p (.go 1))] fr)
def f_s_l3One_sg3_3 (v0 : List Sc) (v1 : List Sc) (v2 : List Sc) (v3 : Int) (v4 : Int) (fr : List AV) : Option (List AV) :=
  some (setAll [(16, .p (.go 1)), (17, .p (.pt 2 3))] fr)
def f_s_l3One_sg3_5 (v0 : List Sc) (v1 : List Sc) (v2 : List Sc) (v3 : Int) (v4 : Int) (fr : List AV) : Option (List AV) :=
  some (setAll [(16, .p (.go 1)), (18, .p (.go 1))] fr)
def f_s_l3One_sg3_6 (v0 : List Sc) (v1 : List Sc) (v2 : List Sc) (v3 : Int) (v4 : Int) (fr : List AV) : Option (List AV) :=
  some (setAll [(17, .p (.pt 2 3)), (18, .p (.go 1))] fr)
def f_s_l3One_sg3_7 (v0 : List Sc) (v1 : List Sc) (v2 : List Sc) (v3 : Int) (v4 : Int) (fr : List AV) : Option (List AV) :=
  some (setAll [(16, .p (.go 1)), (17, .p (.pt 2 3)), (18, .p (.go 1))] fr)
def f_s_l3One_sg3_14 (v0 : List Sc) (v1 : List Sc) (v2 : List Sc) (v3 : Int) (v4 : Int) (fr : List AV) : Option (List AV) :=
  bo (f_s_l3Set_io v1 v2 v3 v4) (0, [], 0, 0) fun r4 =>
  some (setAll [(1, .fr 3 v1), (2, .p (.sl r4.2.1)), (3, .p (.sc (Sc.n .i64 r4.2.2.1))), (4, .p (.sc (Sc.n .i64 r4.2.2.2))), (17, .p (.pt 2 3)), (18, .p (.gr v1)), (19, .p (.sc (Sc.n .i64 r4.1)))] fr)
def f_s_l3One_sg3_15 (v0 : List Sc) (v1 : List Sc) (v2 : List Sc) (v3 : Int) (v4 : Int) (fr : List AV) : Option (List AV) :=
  bo (f_s_l3Set_io v1 v2 v3 v4) (0, [], 0, 0) fun r5 =>
  some (setAll [(1, .fr 3 v1), (2, .p (.sl r5.2.1)), (3, .p (.sc (Sc.n .i64 r5.2.2.1))), (4, .p (.sc (Sc.n .i64 r5.2.2.2))), (16, .p (.gr v1)), (17, .p (.pt 2 3)), (18, .p (.gr v1)), (19, .p (.sc (Sc.n .i64 r5.1)))] fr)
def f_s_l3One_sg3_31 (v0 : List Sc) (v1 : List Sc) (v2 : List Sc) (v3 : Int) (v4 : Int) (fr : List AV) : Option (List AV) :=
  bo (f_s_l3Set_io v1 v2 v3 v4) (0, [], 0, 0) fun r6 =>
  some (setAll [(0, .p (.sl v1)), (1, .fr 3 v1), (2, .p (.sl r6.2.1)), (3, .p (.sc (Sc.n .i64 r6.2.2.1))), (4, .p (.sc (Sc.n .i64 r6.2.2.2))), (16, .p (.gr v1)), (17, .p (.pt 2 3)), (18, .p (.gr v1)), (19, .p (.sc (Sc.n .i64 r6.1)))] fr)
def f_s_l3One_sg3_63 (v0 : List Sc) (v1 : List Sc) (v2 : List Sc) (v3 : Int) (v4 : Int) (fr : List AV) : Option (List AV) :=
  bo (f_s_l3Set_io v1 v2 v3 v4) (0, [], 0, 0) fun r7 =>
  some (setAll [(0, .p (.sl v1)), (1, .fr 3 v1), (2, .p (.sl r7.2.1)), (3, .p (.sc (Sc.n .i64 r7.2.2.1))), (4, .p (.sc (Sc.n .i64 r7.2.2.2))), (9, .p (.sc (Sc.n .i64 r7.1))), (16, .p (.gr v1)), (17, .p (.pt 2 3)), (18, .p (.gr v1)), (19, .p (.sc (Sc.n .i64 r7.1)))] fr)
def f_s_l3One_Eg3 (v0 : List Sc) (v1 : List Sc) (v2 : List Sc) (v3 : Int) (v4 : Int) (fr : List AV) : List (Option (List AV)) := [f_s_l3One_sg3_1 v0 v1 v2 v3 v4 fr, f_s_l3One_sg3_2 v0 v1 v2 v3 v4 fr, f_s_l3One_sg3_4 v0 v1 v2 v3 v4 fr, f_s_l3One_sg3_3 v0 v1 v2 v3 v4 fr, f_s_l3One_sg3_5 v0 v1 v2 v3 v4 fr, f_s_l3One_sg3_3 v0 v1 v2 v3 v4 fr, f_s_l3One_sg3_6 v0 v1 v2 v3 v4 fr, f_s_l3One_sg3_5 v0 v1 v2 v3 v4 fr, f_s_l3One_sg3_6 v0 v1 v2 v3 v4 fr, f_s_l3One_sg3_7 v0 v1 v2 v3 v4 fr, f_s_l3One_sg3_7 v0 v1 v2 v3 v4 fr, f_s_l3One_sg3_7 v0 v1 v2 v3 v4 fr, f_s_l3One_sg3_14 v0 v1 v2 v3 v4 fr, f_s_l3One_sg3_15 v0 v1 v2 v3 v4 fr, f_s_l3One_sg3_15 v0 v1 v2 v3 v4 fr, f_s_l3One_sg3_31 v0 v1 v2 v3 v4 fr, f_s_l3One_sg3_63 v0 v1 v2 v3 v4 fr]
theorem f_s_l3One_dLg3 (v0 : List Sc) (v1 : List Sc) (v2 : List Sc) (v3 : Int) (v4 : Int) : edgeL E0 f_s_l3One_M H0 f_s_l3One_F (opsAt (bodyOf Try.f152 100003)) f_s_l3One_Dg3 (f_s_l3One_frg3 v0 v1 v2 v3 v4) = f_s_l3One_Eg3 v0 v1 v2 v3 v4 (f_s_l3One_frg3 v0 v1 v2 v3 v4) := by kernel_rfl
theorem f_s_l3One_dRg3 (v0 : List Sc) (v1 : List Sc) (v2 : List Sc) (v3 : Int) (v4 : Int) : edgeR E0 f_s_l3One_M H0 f_s_l3One_F (opsAt (bodyOf Try.f152 100003)) f_s_l3One_Dg3 (f_s_l3One_frg3 v0 v1 v2 v3 v4) = f_s_l3One_Eg3 v0 v1 v2 v3 v4 (f_s_l3One_frg3 v0 v1 v2 v3 v4) := by kernel_rfl
theorem f_s_l3One_dg3 (v0 : List Sc) (v1 : List Sc) (v2 : List Sc) (v3 : Int) (v4 : Int) : edgeL E0 f_s_l3One_M H0 f_s_l3One_F (opsAt (bodyOf Try.f152 100003)) f_s_l3One_Dg3 (f_s_l3One_frg3 v0 v1 v2 v3 v4) = edgeR E0 f_s_l3One_M H0 f_s_l3One_F (opsAt (bodyOf Try.f152 100003)) f_s_l3One_Dg3 (f_s_l3One_frg3 v0 v1 v2 v3 v4) := (f_s_l3One_dLg3 v0 v1 v2 v3 v4).trans (f_s_l3One_dRg3 v0 v1 v2 v3 v4).symm
theorem f_s_l3One_eg3 (v0 : List Sc) (v1 : List Sc) (v2 : List Sc) (v3 : Int) (v4 : Int) : goL E0 f_s_l3One_M H0 f_s_l3One_F (opsAt (bodyOf Try.f152 100003)) (Array.replicate (opsAt (bodyOf Try.f152 100003)).size true) (opsAt (bodyOf Try.f152 100003)).toList 0 (f_s_l3One_frg3 v0 v1 v2 v3 v4) (fun s => some (X.norm, clear (klOf f_s_l3One_F 100003).2.1 s)) = f_s_l3One_g3_k v0 v1 v2 v3 v4 (fun e => some (f_s_l3One_xg3 v0 v1 v2 v3 v4 e)) := by kernel_rfl
theorem f_s_l3One_lg3 (v0 : List Sc) (v1 : List Sc) (v2 : List Sc) (v3 : Int) (v4 : Int) (r : Int) (h : f_s_l3One_g3 v0 v1 v2 v3 v4 = some r) : LS Try.prog f_s_l3One_F (bodyOf Try.f152 100003) (f_s_l3One_frg3 v0 v1 v2 v3 v4) (f_s_l3One_xg3 v0 v1 v2 v3 v4 r) :=
  region_true (S := Unit) (id := 3) (G := fun _ => f_s_l3One_g3 v0 v1 v2 v3 v4) (Gk := fun _ k => f_s_l3One_g3_k v0 v1 v2 v3 v4 k) (fr := fun _ => f_s_l3One_frg3 v0 v1 v2 v3 v4) (f1 := fun e => f_s_l3One_xg3 v0 v1 v2 v3 v4 e) E0ok f_s_l3One_Mt f_s_l3One_bg3 f_s_l3One_cg3 (fun _ => f_s_l3One_dg3 v0 v1 v2 v3 v4) (fun _ => rfl) (fun _ => f_s_l3One_eg3 v0 v1 v2 v3 v4) (fun _ k => f_s_l3One_pg3 v0 v1 v2 v3 v4 k) () r h
def f_s_l3One_tg3 (σ : List AV) : Option (Bool × Bool × (X × List AV) × (X × List AV)) := match dec f_s_l3One_hg3 σ with
  | some [.l v0, .l v1, .l v2, .i v3, .i v4] => some ((f_s_l3One_g3 v0 v1 v2 v3 v4).isSome, true, f_s_l3One_xg3 v0 v1 v2 v3 v4 ((f_s_l3One_g3 v0 v1 v2 v3 v4).getD 0), (.ret, []))
  | _ => none
theorem f_s_l3One_ttg3 : TTrue Try.prog f_s_l3One_F Try.f152 100003 f_s_l3One_tg3 := by
  intro σ p r r' h
  unfold f_s_l3One_tg3 at h
  split at h
  · rename_i hd
    rw [← dec_enc hd]
    exact rowR (f_s_l3One_lg3 _ _ _ _ _) h
  · cases h
theorem f_s_l3One_p {R : Type} (code0 : List Sc) (kR : List Sc × Int → Option R) : f_s_l3One_k code0 kR = (f_s_l3One_k code0 some).bind kR := by
  simp only [f_s_l3One_k, boB, someB]
theorem f_s_l3One_e (code0 : List Sc) : runFn E0 f_s_l3One_M H0 f_s_l3One_F (asL (addL 100003 f_s_l3One_tg3 (noL))) Try.f152 (f_s_l3One_a code0) (f_s_l3One_i code0) = f_s_l3One_k code0 (fun r => some (f_s_l3One_en r)) := by kernel_rfl
theorem f_s_l3One_ok (code0 : List Sc) (r : List Sc × Int) (h : f_s_l3One code0 = some r) : CS Try.prog 152 (f_s_l3One_a code0) (f_s_l3One_i code0) (f_s_l3One_en r).1 (f_s_l3One_en r).2 :=
  fn_true (Gk := fun k => f_s_l3One_k code0 k) (en := f_s_l3One_en) Try.func152 E0ok f_s_l3One_Mt (addL_true f_s_l3One_ttg3 (noL_true)) f_s_l3One_o (f_s_l3One_e code0) (f_s_l3One_p code0) h
def f_s_l3One_c : CRow := fun args inh => match dec2 [.p .sl] [] args inh with
  | some ([.l code0], []) => some ((f_s_l3One code0).isSome, (f_s_l3One_en ((f_s_l3One code0).getD ([], 0))).1, (f_s_l3One_en ((f_s_l3One code0).getD ([], 0))).2)
  | _ => none
theorem f_s_l3One_cc : CTrue Try.prog 152 f_s_l3One_c := by
  intro args inh rs out h
  unfold f_s_l3One_c at h
  split at h
  · rename_i hd
    obtain ⟨h1, h2⟩ := dec2_enc hd
    rw [← h1, ← h2]
    exact rowC (f_s_l3One_ok _) h
  · cases h

def f_s_DrawQuadruplesOf_F : Fi := { nv := 2, nc := 2, m := 0, vt := [(2, 0), (4, 1)], kl := [], sk := [], mvs := [], fz := [] }
def f_s_DrawQuadruplesOf_a (code0 : List Sc) : List AV := enc [.p .sl] [.l code0]
def f_s_DrawQuadruplesOf_i (code0 : List Sc) : List AV := enc [] []
def f_s_DrawQuadruplesOf_en (r : List Sc × Int) : List AV × List AV := (enc [.p .gr, .p (.int .i64)] [.l r.1, .i r.2], enc [] [])
def f_s_DrawQuadruplesOf_M : Calling := addC 152 f_s_l3One_c (noC)
theorem f_s_DrawQuadruplesOf_Mt : CallOk Try.prog (f_s_DrawQuadruplesOf_M) := addC_true f_s_l3One_cc (noC_true)
theorem f_s_DrawQuadruplesOf_o : loopsOnce Try.f43 = true := by kernel_rfl
theorem f_s_DrawQuadruplesOf_p {R : Type} (code0 : List Sc) (kR : List Sc × Int → Option R) : f_s_DrawQuadruplesOf_k code0 kR = (f_s_DrawQuadruplesOf_k code0 some).bind kR := by
  simp only [f_s_DrawQuadruplesOf_k, boB, someB]
theorem f_s_DrawQuadruplesOf_e (code0 : List Sc) : runFn E0 f_s_DrawQuadruplesOf_M H0 f_s_DrawQuadruplesOf_F (asL (noL)) Try.f43 (f_s_DrawQuadruplesOf_a code0) (f_s_DrawQuadruplesOf_i code0) = f_s_DrawQuadruplesOf_k code0 (fun r => some (f_s_DrawQuadruplesOf_en r)) := by kernel_rfl
theorem f_s_DrawQuadruplesOf_ok (code0 : List Sc) (r : List Sc × Int) (h : f_s_DrawQuadruplesOf code0 = some r) : CS Try.prog 43 (f_s_DrawQuadruplesOf_a code0) (f_s_DrawQuadruplesOf_i code0) (f_s_DrawQuadruplesOf_en r).1 (f_s_DrawQuadruplesOf_en r).2 :=
  fn_true (Gk := fun k => f_s_DrawQuadruplesOf_k code0 k) (en := f_s_DrawQuadruplesOf_en) Try.func43 E0ok f_s_DrawQuadruplesOf_Mt (noL_true) f_s_DrawQuadruplesOf_o (f_s_DrawQuadruplesOf_e code0) (f_s_DrawQuadruplesOf_p code0) h
def f_s_DrawQuadruplesOf_c : CRow := fun args inh => match dec2 [.p .sl] [] args inh with
  | some ([.l code0], []) => some ((f_s_DrawQuadruplesOf code0).isSome, (f_s_DrawQuadruplesOf_en ((f_s_DrawQuadruplesOf code0).getD ([], 0))).1, (f_s_DrawQuadruplesOf_en ((f_s_DrawQuadruplesOf code0).getD ([], 0))).2)
  | _ => none
theorem f_s_DrawQuadruplesOf_cc : CTrue Try.prog 43 f_s_DrawQuadruplesOf_c := by
  intro args inh rs out h
  unfold f_s_DrawQuadruplesOf_c at h
  split at h
  · rename_i hd
    obtain ⟨h1, h2⟩ := dec2_enc hd
    rw [← h1, ← h2]
    exact rowC (f_s_DrawQuadruplesOf_ok _) h
  · cases h

def f_i_within_F : Fi := { nv := 0, nc := 0, m := 0, vt := [], kl := [], sk := [], mvs := [], fz := [] }
def f_i_within_a (x0 : Int) (lo1 : Int) (hi2 : Int) : List AV := enc [.p (.int .i64), .p (.int .i64), .p (.int .i64)] [.i x0, .i lo1, .i hi2]
def f_i_within_i (x0 : Int) (lo1 : Int) (hi2 : Int) : List AV := enc [] []
def f_i_within_en (r : Bool) : List AV × List AV := (enc [.p .boo] [.b r], enc [] [])
def f_i_within_M : Calling := noC
theorem f_i_within_Mt : CallOk Try.prog (f_i_within_M) := noC_true
theorem f_i_within_o : loopsOnce Try.f144 = true := by kernel_rfl
theorem f_i_within_p {R : Type} (x0 : Int) (lo1 : Int) (hi2 : Int) (kR : Bool → Option R) : f_i_within_k x0 lo1 hi2 kR = (f_i_within_k x0 lo1 hi2 some).bind kR := by
  simp only [f_i_within_k, brB, someB]
theorem f_i_within_e (x0 : Int) (lo1 : Int) (hi2 : Int) : runFn E0 f_i_within_M H0 f_i_within_F (asL (noL)) Try.f144 (f_i_within_a x0 lo1 hi2) (f_i_within_i x0 lo1 hi2) = f_i_within_k x0 lo1 hi2 (fun r => some (f_i_within_en r)) := by kernel_rfl
theorem f_i_within_ok (x0 : Int) (lo1 : Int) (hi2 : Int) (r : Bool) (h : f_i_within x0 lo1 hi2 = some r) : CS Try.prog 144 (f_i_within_a x0 lo1 hi2) (f_i_within_i x0 lo1 hi2) (f_i_within_en r).1 (f_i_within_en r).2 :=
  fn_true (Gk := fun k => f_i_within_k x0 lo1 hi2 k) (en := f_i_within_en) Try.func144 E0ok f_i_within_Mt (noL_true) f_i_within_o (f_i_within_e x0 lo1 hi2) (f_i_within_p x0 lo1 hi2) h
def f_i_within_c : CRow := fun args inh => match dec2 [.p (.int .i64), .p (.int .i64), .p (.int .i64)] [] args inh with
  | some ([.i x0, .i lo1, .i hi2], []) => some ((f_i_within x0 lo1 hi2).isSome, (f_i_within_en ((f_i_within x0 lo1 hi2).getD false)).1, (f_i_within_en ((f_i_within x0 lo1 hi2).getD false)).2)
  | _ => none
theorem f_i_within_cc : CTrue Try.prog 144 f_i_within_c := by
  intro args inh rs out h
  unfold f_i_within_c at h
  split at h
  · rename_i hd
    obtain ⟨h1, h2⟩ := dec2_enc hd
    rw [← h1, ← h2]
    exact rowC (f_i_within_ok _ _ _) h
  · cases h

def f_i_IsGroup_F : Fi := { nv := 0, nc := 0, m := 0, vt := [], kl := [(0, ([0, 1, 2, 4, 5, 6, 7, 8, 9, 10, 14, 15, 16, 17, 18, 19, 20, 21, 22, 23, 24, 25], [0, 1, 2, 4, 5, 6, 7, 8, 9, 10, 11, 12, 13, 14, 15, 16, 17, 18, 19, 20, 21, 22, 23, 24, 25], [0, 1, 3, 4, 5, 6, 7, 8, 9, 10, 11, 12, 13, 14, 15, 16, 17, 18, 19, 20, 21, 22, 23, 24, 25]))], sk := [], mvs := [], fz := [] }
def f_i_IsGroup_a (g0 : List Sc) : List AV := enc [.p .gr] [.l g0]
def f_i_IsGroup_i (g0 : List Sc) : List AV := enc [] []
def f_i_IsGroup_en (r : Bool) : List AV × List AV := (enc [.p .boo] [.b r], enc [] [])
def f_i_IsGroup_M : Calling := addC 144 f_i_within_c (noC)
theorem f_i_IsGroup_Mt : CallOk Try.prog (f_i_IsGroup_M) := addC_true f_i_within_cc (noC_true)
theorem f_i_IsGroup_o : loopsOnce Try.f142 = true := by kernel_rfl
def f_i_IsGroup_h0 : List Sh := [.u, .u, .u, .p (.int .i64), .u, .u, .u, .u, .u, .u, .u, .p .sl, .p (.int .i64), .p (.int .i64), .u, .u, .u, .u, .u, .u, .u, .u, .u, .u, .u, .u]
def f_i_IsGroup_fr0 (t11 : List Sc) (t12 : Int) (s : Int × Int) : List AV := enc f_i_IsGroup_h0 [.i s.1, .l t11, .i t12, .i s.2]
def f_i_IsGroup_g0_1 : List Sh := [.u, .u, .u, .p (.int .i64), .u, .u, .u, .u, .u, .u, .u, .u, .u, .u, .u, .u, .u, .u, .u, .u, .u, .u, .u, .u, .u, .u]
def f_i_IsGroup_x0_1 (t11 : List Sc) (t12 : Int) (e : Int) : X × List AV := (.out 0, enc f_i_IsGroup_g0_1 [.i e])
def f_i_IsGroup_g0_2 : List Sh := [.u, .u, .p .boo, .u, .u, .u, .u, .u, .u, .u, .u, .u, .u, .u, .u, .u, .u, .u, .u, .u, .u, .u, .u, .u, .u, .u]
def f_i_IsGroup_x0_2 (t11 : List Sc) (t12 : Int) (e : Unit) : X × List AV := (.ret, enc f_i_IsGroup_g0_2 [.b false])
theorem f_i_IsGroup_p0 {R : Type} (t11 : List Sc) (t12 : Int) (s : Int × Int) (kN : Int × Int → Option R) (kA : Int → Option R) (kB : Unit → Option R) : f_i_IsGroup_k0 t11 t12 s.1 s.2 kN kA kB = (f_i_IsGroup_r0 t11 t12 s).bind (Ro.el kN kA kB) := by
  simp only [f_i_IsGroup_k0, f_i_IsGroup_r0, brB, boB, someB, noneB, Ro.el]
theorem f_i_IsGroup_e0 (t11 : List Sc) (t12 : Int) (s : Int × Int) : EC E0 f_i_IsGroup_M H0 f_i_IsGroup_F (asL (noL)) 0 (bodyOf Try.f142 0) (f_i_IsGroup_fr0 t11 t12 s) (done (klOf f_i_IsGroup_F 0)) = f_i_IsGroup_k0 t11 t12 s.1 s.2 (fun s => some (.norm, f_i_IsGroup_fr0 t11 t12 s)) (fun e => some (f_i_IsGroup_x0_1 t11 t12 e)) (fun e => some (f_i_IsGroup_x0_2 t11 t12 e)) := by kernel_rfl
theorem f_i_IsGroup_l0 (t11 : List Sc) (t12 : Int) : ∀ s r, loopL (f_i_IsGroup_r0 t11 t12) s = some r → LS Try.prog f_i_IsGroup_F (bodyOf Try.f142 0) (f_i_IsGroup_fr0 t11 t12 s) (enX (f_i_IsGroup_x0_1 t11 t12) (f_i_IsGroup_x0_2 t11 t12) r) :=
  loop_true E0ok f_i_IsGroup_Mt (noL_true) f_i_IsGroup_o (fun _ h => by cases h) (fun _ h => by cases h) (fun s => (f_i_IsGroup_e0 t11 t12 s).trans (f_i_IsGroup_p0 t11 t12 s _ _ (fun e => some (f_i_IsGroup_x0_2 t11 t12 e))))
def f_i_IsGroup_t0 (σ : List AV) : Option (Bool × Bool × (X × List AV) × (X × List AV)) := match dec f_i_IsGroup_h0 σ with
  | some [.i n3, .l t11, .i t12, .i t13] => some ((loopL (f_i_IsGroup_r0 t11 t12) (n3, t13)).isSome, isOne (loopL (f_i_IsGroup_r0 t11 t12) (n3, t13)), f_i_IsGroup_x0_1 t11 t12 (getOne 0 (loopL (f_i_IsGroup_r0 t11 t12) (n3, t13))), f_i_IsGroup_x0_2 t11 t12 (getTwo () (loopL (f_i_IsGroup_r0 t11 t12) (n3, t13))))
  | _ => none
theorem f_i_IsGroup_tt0 : TTrue Try.prog f_i_IsGroup_F Try.f142 0 (f_i_IsGroup_t0) := by
  intro σ p r r' h
  unfold f_i_IsGroup_t0 at h
  split at h
  · rename_i hd
    rw [← dec_enc hd]
    exact row2 (f_i_IsGroup_l0 _ _ _) h
  · cases h
theorem f_i_IsGroup_p {R : Type} (g0 : List Sc) (kR : Bool → Option R) : f_i_IsGroup_k g0 kR = (f_i_IsGroup_k g0 some).bind kR := by
  simp only [f_i_IsGroup_k, brB, blB, someB]
theorem f_i_IsGroup_e (g0 : List Sc) : runFn E0 f_i_IsGroup_M H0 f_i_IsGroup_F (asL (addL 0 (f_i_IsGroup_t0) (noL))) Try.f142 (f_i_IsGroup_a g0) (f_i_IsGroup_i g0) = f_i_IsGroup_k g0 (fun r => some (f_i_IsGroup_en r)) := by kernel_rfl
theorem f_i_IsGroup_ok (g0 : List Sc) (r : Bool) (h : f_i_IsGroup g0 = some r) : CS Try.prog 142 (f_i_IsGroup_a g0) (f_i_IsGroup_i g0) (f_i_IsGroup_en r).1 (f_i_IsGroup_en r).2 :=
  fn_true (Gk := fun k => f_i_IsGroup_k g0 k) (en := f_i_IsGroup_en) Try.func142 E0ok f_i_IsGroup_Mt (addL_true (f_i_IsGroup_tt0) (noL_true)) f_i_IsGroup_o (f_i_IsGroup_e g0) (f_i_IsGroup_p g0) h
def f_i_IsGroup_c : CRow := fun args inh => match dec2 [.p .gr] [] args inh with
  | some ([.l g0], []) => some ((f_i_IsGroup g0).isSome, (f_i_IsGroup_en ((f_i_IsGroup g0).getD false)).1, (f_i_IsGroup_en ((f_i_IsGroup g0).getD false)).2)
  | _ => none
theorem f_i_IsGroup_cc : CTrue Try.prog 142 f_i_IsGroup_c := by
  intro args inh rs out h
  unfold f_i_IsGroup_c at h
  split at h
  · rename_i hd
    obtain ⟨h1, h2⟩ := dec2_enc hd
    rw [← h1, ← h2]
    exact rowC (f_i_IsGroup_ok _) h
  · cases h

def f_i_OrderOf_F : Fi := { nv := 0, nc := 0, m := 0, vt := [], kl := [(0, ([0, 1, 2, 4, 5, 6, 7, 8, 9, 13, 14, 15, 16, 17, 18, 19, 20], [0, 1, 2, 4, 5, 6, 7, 8, 9, 10, 11, 12, 13, 14, 15, 16, 17, 18, 19, 20], [0, 1, 3, 4, 5, 6, 7, 8, 9, 10, 11, 12, 13, 14, 15, 16, 17, 18, 19, 20]))], sk := [], mvs := [], fz := [] }
def f_i_OrderOf_a (g0 : List Sc) : List AV := enc [.p .gr] [.l g0]
def f_i_OrderOf_i (g0 : List Sc) : List AV := enc [] []
def f_i_OrderOf_en (r : Int) : List AV × List AV := (enc [.p (.int .i64)] [.i r], enc [] [])
def f_i_OrderOf_M : Calling := addC 142 f_i_IsGroup_c (noC)
theorem f_i_OrderOf_Mt : CallOk Try.prog (f_i_OrderOf_M) := addC_true f_i_IsGroup_cc (noC_true)
theorem f_i_OrderOf_o : loopsOnce Try.f122 = true := by kernel_rfl
def f_i_OrderOf_h0 : List Sh := [.u, .u, .u, .p (.int .i64), .u, .u, .u, .u, .u, .u, .p .sl, .p (.int .i64), .p (.int .i64), .u, .u, .u, .u, .u, .u, .u, .u]
def f_i_OrderOf_fr0 (t10 : List Sc) (t11 : Int) (s : Int × Int) : List AV := enc f_i_OrderOf_h0 [.i s.1, .l t10, .i t11, .i s.2]
def f_i_OrderOf_g0_1 : List Sh := [.u, .u, .u, .p (.int .i64), .u, .u, .u, .u, .u, .u, .u, .u, .u, .u, .u, .u, .u, .u, .u, .u, .u]
def f_i_OrderOf_x0_1 (t10 : List Sc) (t11 : Int) (e : Int) : X × List AV := (.out 0, enc f_i_OrderOf_g0_1 [.i e])
def f_i_OrderOf_x0_2 (t10 : List Sc) (t11 : Int) (_e : Unit) : X × List AV := (.ret, [])
theorem f_i_OrderOf_p0 {R : Type} (t10 : List Sc) (t11 : Int) (s : Int × Int) (kN : Int × Int → Option R) (kA : Int → Option R) (kB : Unit → Option R) : f_i_OrderOf_k0 t10 t11 s.1 s.2 kN kA = (f_i_OrderOf_r0 t10 t11 s).bind (Ro.el kN kA kB) := by
  simp only [f_i_OrderOf_k0, f_i_OrderOf_r0, brB, someB, noneB, Ro.el]
theorem f_i_OrderOf_e0 (t10 : List Sc) (t11 : Int) (s : Int × Int) : EC E0 f_i_OrderOf_M H0 f_i_OrderOf_F (asL (noL)) 0 (bodyOf Try.f122 0) (f_i_OrderOf_fr0 t10 t11 s) (done (klOf f_i_OrderOf_F 0)) = f_i_OrderOf_k0 t10 t11 s.1 s.2 (fun s => some (.norm, f_i_OrderOf_fr0 t10 t11 s)) (fun e => some (f_i_OrderOf_x0_1 t10 t11 e)) := by kernel_rfl
theorem f_i_OrderOf_l0 (t10 : List Sc) (t11 : Int) : ∀ s r, loopL (f_i_OrderOf_r0 t10 t11) s = some r → LS Try.prog f_i_OrderOf_F (bodyOf Try.f122 0) (f_i_OrderOf_fr0 t10 t11 s) (enX (f_i_OrderOf_x0_1 t10 t11) (f_i_OrderOf_x0_2 t10 t11) r) :=
  loop_true E0ok f_i_OrderOf_Mt (noL_true) f_i_OrderOf_o (fun _ h => by cases h) (fun _ h => by cases h) (fun s => (f_i_OrderOf_e0 t10 t11 s).trans (f_i_OrderOf_p0 t10 t11 s _ _ (fun e => some (f_i_OrderOf_x0_2 t10 t11 e))))
def f_i_OrderOf_t0 (σ : List AV) : Option (Bool × Bool × (X × List AV) × (X × List AV)) := match dec f_i_OrderOf_h0 σ with
  | some [.i n3, .l t10, .i t11, .i t12] => some (isOne (loopL (f_i_OrderOf_r0 t10 t11) (n3, t12)), true, f_i_OrderOf_x0_1 t10 t11 (getOne 0 (loopL (f_i_OrderOf_r0 t10 t11) (n3, t12))), (.ret, []))
  | _ => none
theorem f_i_OrderOf_tt0 : TTrue Try.prog f_i_OrderOf_F Try.f122 0 (f_i_OrderOf_t0) := by
  intro σ p r r' h
  unfold f_i_OrderOf_t0 at h
  split at h
  · rename_i hd
    rw [← dec_enc hd]
    exact row1 (f_i_OrderOf_l0 _ _ _) h
  · cases h
theorem f_i_OrderOf_p {R : Type} (g0 : List Sc) (kR : Int → Option R) : f_i_OrderOf_k g0 kR = (f_i_OrderOf_k g0 some).bind kR := by
  simp only [f_i_OrderOf_k, brB, boB, bl1B, someB]
theorem f_i_OrderOf_e (g0 : List Sc) : runFn E0 f_i_OrderOf_M H0 f_i_OrderOf_F (asL (addL 0 (f_i_OrderOf_t0) (noL))) Try.f122 (f_i_OrderOf_a g0) (f_i_OrderOf_i g0) = f_i_OrderOf_k g0 (fun r => some (f_i_OrderOf_en r)) := by kernel_rfl
theorem f_i_OrderOf_ok (g0 : List Sc) (r : Int) (h : f_i_OrderOf g0 = some r) : CS Try.prog 122 (f_i_OrderOf_a g0) (f_i_OrderOf_i g0) (f_i_OrderOf_en r).1 (f_i_OrderOf_en r).2 :=
  fn_true (Gk := fun k => f_i_OrderOf_k g0 k) (en := f_i_OrderOf_en) Try.func122 E0ok f_i_OrderOf_Mt (addL_true (f_i_OrderOf_tt0) (noL_true)) f_i_OrderOf_o (f_i_OrderOf_e g0) (f_i_OrderOf_p g0) h
def f_i_OrderOf_c : CRow := fun args inh => match dec2 [.p .gr] [] args inh with
  | some ([.l g0], []) => some ((f_i_OrderOf g0).isSome, (f_i_OrderOf_en ((f_i_OrderOf g0).getD 0)).1, (f_i_OrderOf_en ((f_i_OrderOf g0).getD 0)).2)
  | _ => none
theorem f_i_OrderOf_cc : CTrue Try.prog 122 f_i_OrderOf_c := by
  intro args inh rs out h
  unfold f_i_OrderOf_c at h
  split at h
  · rename_i hd
    obtain ⟨h1, h2⟩ := dec2_enc hd
    rw [← h1, ← h2]
    exact rowC (f_i_OrderOf_ok _) h
  · cases h

def f_i_IsSet_F : Fi := { nv := 0, nc := 0, m := 0, vt := [], kl := [], sk := [], mvs := [], fz := [] }
def f_i_IsSet_a (g0 : List Sc) (a1 : Int) : List AV := enc [.p .gr, .p (.int .i64)] [.l g0, .i a1]
def f_i_IsSet_i (g0 : List Sc) (a1 : Int) : List AV := enc [] []
def f_i_IsSet_en (r : Bool) : List AV × List AV := (enc [.p .boo] [.b r], enc [] [])
def f_i_IsSet_M : Calling := addC 142 f_i_IsGroup_c (addC 122 f_i_OrderOf_c (noC))
theorem f_i_IsSet_Mt : CallOk Try.prog (f_i_IsSet_M) := addC_true f_i_IsGroup_cc (addC_true f_i_OrderOf_cc (noC_true))
theorem f_i_IsSet_o : loopsOnce Try.f121 = true := by kernel_rfl
theorem f_i_IsSet_p {R : Type} (g0 : List Sc) (a1 : Int) (kR : Bool → Option R) : f_i_IsSet_k g0 a1 kR = (f_i_IsSet_k g0 a1 some).bind kR := by
  simp only [f_i_IsSet_k, brB, boB, someB, noneB]
theorem f_i_IsSet_e (g0 : List Sc) (a1 : Int) : runFn E0 f_i_IsSet_M H0 f_i_IsSet_F (asL (noL)) Try.f121 (f_i_IsSet_a g0 a1) (f_i_IsSet_i g0 a1) = f_i_IsSet_k g0 a1 (fun r => some (f_i_IsSet_en r)) := by kernel_rfl
theorem f_i_IsSet_ok (g0 : List Sc) (a1 : Int) (r : Bool) (h : f_i_IsSet g0 a1 = some r) : CS Try.prog 121 (f_i_IsSet_a g0 a1) (f_i_IsSet_i g0 a1) (f_i_IsSet_en r).1 (f_i_IsSet_en r).2 :=
  fn_true (Gk := fun k => f_i_IsSet_k g0 a1 k) (en := f_i_IsSet_en) Try.func121 E0ok f_i_IsSet_Mt (noL_true) f_i_IsSet_o (f_i_IsSet_e g0 a1) (f_i_IsSet_p g0 a1) h
def f_i_IsSet_c : CRow := fun args inh => match dec2 [.p .gr, .p (.int .i64)] [] args inh with
  | some ([.l g0, .i a1], []) => some ((f_i_IsSet g0 a1).isSome, (f_i_IsSet_en ((f_i_IsSet g0 a1).getD false)).1, (f_i_IsSet_en ((f_i_IsSet g0 a1).getD false)).2)
  | _ => none
theorem f_i_IsSet_cc : CTrue Try.prog 121 f_i_IsSet_c := by
  intro args inh rs out h
  unfold f_i_IsSet_c at h
  split at h
  · rename_i hd
    obtain ⟨h1, h2⟩ := dec2_enc hd
    rw [← h1, ← h2]
    exact rowC (f_i_IsSet_ok _ _) h
  · cases h

def f_i_members_F : Fi := { nv := 0, nc := 0, m := 0, vt := [], kl := [(0, ([1, 2, 5, 6, 7, 8, 9, 10, 11, 12, 13, 14, 15, 16, 17, 18, 19, 20, 21], [0, 1, 2, 4, 5, 6, 7, 8, 9, 10, 11, 12, 13, 14, 15, 16, 17, 18, 19, 20, 21], [0, 1, 3, 4, 5, 6, 7, 8, 9, 10, 11, 12, 13, 14, 15, 16, 17, 18, 19, 20, 21]))], sk := [], mvs := [], fz := [] }
def f_i_members_a (a0 : Int) : List AV := enc [.p (.int .i64)] [.i a0]
def f_i_members_i (a0 : Int) : List AV := enc [] []
def f_i_members_en (r : List Sc) : List AV × List AV := (enc [.p (.al 0)] [], enc [.own 3] [.l r])
def f_i_members_M : Calling := noC
theorem f_i_members_Mt : CallOk Try.prog (f_i_members_M) := noC_true
theorem f_i_members_o : loopsOnce Try.f130 = true := by kernel_rfl
def f_i_members_h0 : List Sh := [.p (.int .i64), .u, .u, .own 3, .p (.int .i64), .u, .u, .u, .u, .u, .u, .u, .u, .u, .u, .u, .u, .u, .u, .u, .u, .u]
def f_i_members_fr0 (a0 : Int) (s : List Sc × Int) : List AV := enc f_i_members_h0 [.i a0, .l s.1, .i s.2]
def f_i_members_g0_1 : List Sh := [.u, .u, .u, .own 3, .u, .u, .u, .u, .u, .u, .u, .u, .u, .u, .u, .u, .u, .u, .u, .u, .u, .u]
def f_i_members_x0_1 (a0 : Int) (e : List Sc) : X × List AV := (.out 0, enc f_i_members_g0_1 [.l e])
def f_i_members_x0_2 (a0 : Int) (_e : Unit) : X × List AV := (.ret, [])
theorem f_i_members_p0 {R : Type} (a0 : Int) (s : List Sc × Int) (kN : List Sc × Int → Option R) (kA : List Sc → Option R) (kB : Unit → Option R) : f_i_members_k0 a0 s.1 s.2 kN kA = (f_i_members_r0 a0 s).bind (Ro.el kN kA kB) := by
  simp only [f_i_members_k0, f_i_members_r0, brB, someB, noneB, Ro.el]
theorem f_i_members_e0 (a0 : Int) (s : List Sc × Int) : EC E0 f_i_members_M H0 f_i_members_F (asL (noL)) 0 (bodyOf Try.f130 0) (f_i_members_fr0 a0 s) (done (klOf f_i_members_F 0)) = f_i_members_k0 a0 s.1 s.2 (fun s => some (.norm, f_i_members_fr0 a0 s)) (fun e => some (f_i_members_x0_1 a0 e)) := by kernel_rfl
theorem f_i_members_l0 (a0 : Int) : ∀ s r, loopL (f_i_members_r0 a0) s = some r → LS Try.prog f_i_members_F (bodyOf Try.f130 0) (f_i_members_fr0 a0 s) (enX (f_i_members_x0_1 a0) (f_i_members_x0_2 a0) r) :=
  loop_true E0ok f_i_members_Mt (noL_true) f_i_members_o (fun _ h => by cases h) (fun _ h => by cases h) (fun s => (f_i_members_e0 a0 s).trans (f_i_members_p0 a0 s _ _ (fun e => some (f_i_members_x0_2 a0 e))))
def f_i_members_t0 (σ : List AV) : Option (Bool × Bool × (X × List AV) × (X × List AV)) := match dec f_i_members_h0 σ with
  | some [.i a0, .l out3, .i x4] => some (isOne (loopL (f_i_members_r0 a0) (out3, x4)), true, f_i_members_x0_1 a0 (getOne [] (loopL (f_i_members_r0 a0) (out3, x4))), (.ret, []))
  | _ => none
theorem f_i_members_tt0 : TTrue Try.prog f_i_members_F Try.f130 0 (f_i_members_t0) := by
  intro σ p r r' h
  unfold f_i_members_t0 at h
  split at h
  · rename_i hd
    rw [← dec_enc hd]
    exact row1 (f_i_members_l0 _ _) h
  · cases h
theorem f_i_members_p {R : Type} (a0 : Int) (kR : List Sc → Option R) : f_i_members_k a0 kR = (f_i_members_k a0 some).bind kR := by
  simp only [f_i_members_k, bl1B, someB]
theorem f_i_members_e (a0 : Int) : runFn E0 f_i_members_M H0 f_i_members_F (asL (addL 0 (f_i_members_t0) (noL))) Try.f130 (f_i_members_a a0) (f_i_members_i a0) = f_i_members_k a0 (fun r => some (f_i_members_en r)) := by kernel_rfl
theorem f_i_members_ok (a0 : Int) (r : List Sc) (h : f_i_members a0 = some r) : CS Try.prog 130 (f_i_members_a a0) (f_i_members_i a0) (f_i_members_en r).1 (f_i_members_en r).2 :=
  fn_true (Gk := fun k => f_i_members_k a0 k) (en := f_i_members_en) Try.func130 E0ok f_i_members_Mt (addL_true (f_i_members_tt0) (noL_true)) f_i_members_o (f_i_members_e a0) (f_i_members_p a0) h
def f_i_members_c : CRow := fun args inh => match dec2 [.p (.int .i64)] [] args inh with
  | some ([.i a0], []) => some ((f_i_members a0).isSome, (f_i_members_en ((f_i_members a0).getD [])).1, (f_i_members_en ((f_i_members a0).getD [])).2)
  | _ => none
theorem f_i_members_cc : CTrue Try.prog 130 f_i_members_c := by
  intro args inh rs out h
  unfold f_i_members_c at h
  split at h
  · rename_i hd
    obtain ⟨h1, h2⟩ := dec2_enc hd
    rw [← h1, ← h2]
    exact rowC (f_i_members_ok _) h
  · cases h

def f_i_Group_add_F : Fi := { nv := 0, nc := 0, m := 0, vt := [], kl := [(0, ([0, 3, 4, 5, 6, 9, 10, 11, 15, 16, 17, 18, 19, 20, 21, 22, 23, 24, 25, 26, 27, 28, 29, 30, 31, 32, 33, 34, 35, 36, 37, 38, 39, 40, 41], [0, 1, 2, 3, 4, 5, 6, 8, 9, 10, 11, 12, 13, 14, 15, 16, 17, 18, 19, 20, 21, 22, 23, 24, 25, 26, 27, 28, 29, 30, 31, 32, 33, 34, 35, 36, 37, 38, 39, 40, 41], [0, 1, 2, 3, 4, 5, 7, 8, 9, 10, 11, 12, 13, 14, 15, 16, 17, 18, 19, 20, 21, 22, 23, 24, 25, 26, 27, 28, 29, 30, 31, 32, 33, 34, 35, 36, 37, 38, 39, 40, 41]))], sk := [], mvs := [], fz := [] }
def f_i_Group_add_a (g0 : List Sc) (x1 : Int) (y2 : Int) : List AV := enc [.p .gr, .p (.int .i64), .p (.int .i64)] [.l g0, .i x1, .i y2]
def f_i_Group_add_i (g0 : List Sc) (x1 : Int) (y2 : Int) : List AV := enc [] []
def f_i_Group_add_en (r : Int) : List AV × List AV := (enc [.p (.int .i64)] [.i r], enc [] [])
def f_i_Group_add_M : Calling := noC
theorem f_i_Group_add_Mt : CallOk Try.prog (f_i_Group_add_M) := noC_true
theorem f_i_Group_add_o : loopsOnce Try.f155 = true := by kernel_rfl
def f_i_Group_add_h0 : List Sh := [.u, .p (.int .i64), .p (.int .i64), .u, .u, .u, .u, .p (.int .i64), .p (.int .i64), .u, .u, .u, .p .sl, .p (.int .i64), .p (.int .i64), .u, .u, .u, .u, .u, .u, .u, .u, .u, .u, .u, .u, .u, .u, .u, .u, .u, .u, .u, .u, .u, .u, .u, .u, .u, .u, .u]
def f_i_Group_add_fr0 (t12 : List Sc) (t13 : Int) (s : Int × Int × Int × Int × Int) : List AV := enc f_i_Group_add_h0 [.i s.1, .i s.2.1, .i s.2.2.1, .i s.2.2.2.1, .l t12, .i t13, .i s.2.2.2.2]
def f_i_Group_add_g0_1 : List Sh := [.u, .u, .u, .u, .u, .u, .u, .p (.int .i64), .u, .u, .u, .u, .u, .u, .u, .u, .u, .u, .u, .u, .u, .u, .u, .u, .u, .u, .u, .u, .u, .u, .u, .u, .u, .u, .u, .u, .u, .u, .u, .u, .u, .u]
def f_i_Group_add_x0_1 (t12 : List Sc) (t13 : Int) (e : Int) : X × List AV := (.out 0, enc f_i_Group_add_g0_1 [.i e])
def f_i_Group_add_x0_2 (t12 : List Sc) (t13 : Int) (_e : Unit) : X × List AV := (.ret, [])
theorem f_i_Group_add_p0 {R : Type} (t12 : List Sc) (t13 : Int) (s : Int × Int × Int × Int × Int) (kN : Int × Int × Int × Int × Int → Option R) (kA : Int → Option R) (kB : Unit → Option R) : f_i_Group_add_k0 t12 t13 s.1 s.2.1 s.2.2.1 s.2.2.2.1 s.2.2.2.2 kN kA = (f_i_Group_add_r0 t12 t13 s).bind (Ro.el kN kA kB) := by
  simp only [f_i_Group_add_k0, f_i_Group_add_r0, brB, someB, noneB, Ro.el]
theorem f_i_Group_add_e0 (t12 : List Sc) (t13 : Int) (s : Int × Int × Int × Int × Int) : EC E0 f_i_Group_add_M H0 f_i_Group_add_F (asL (noL)) 0 (bodyOf Try.f155 0) (f_i_Group_add_fr0 t12 t13 s) (done (klOf f_i_Group_add_F 0)) = f_i_Group_add_k0 t12 t13 s.1 s.2.1 s.2.2.1 s.2.2.2.1 s.2.2.2.2 (fun s => some (.norm, f_i_Group_add_fr0 t12 t13 s)) (fun e => some (f_i_Group_add_x0_1 t12 t13 e)) := by kernel_rfl
theorem f_i_Group_add_l0 (t12 : List Sc) (t13 : Int) : ∀ s r, loopL (f_i_Group_add_r0 t12 t13) s = some r → LS Try.prog f_i_Group_add_F (bodyOf Try.f155 0) (f_i_Group_add_fr0 t12 t13 s) (enX (f_i_Group_add_x0_1 t12 t13) (f_i_Group_add_x0_2 t12 t13) r) :=
  loop_true E0ok f_i_Group_add_Mt (noL_true) f_i_Group_add_o (fun _ h => by cases h) (fun _ h => by cases h) (fun s => (f_i_Group_add_e0 t12 t13 s).trans (f_i_Group_add_p0 t12 t13 s _ _ (fun e => some (f_i_Group_add_x0_2 t12 t13 e))))
def f_i_Group_add_t0 (σ : List AV) : Option (Bool × Bool × (X × List AV) × (X × List AV)) := match dec f_i_Group_add_h0 σ with
  | some [.i x1, .i y2, .i sum7, .i unit8, .l t12, .i t13, .i t14] => some (isOne (loopL (f_i_Group_add_r0 t12 t13) (x1, y2, sum7, unit8, t14)), true, f_i_Group_add_x0_1 t12 t13 (getOne 0 (loopL (f_i_Group_add_r0 t12 t13) (x1, y2, sum7, unit8, t14))), (.ret, []))
  | _ => none
theorem f_i_Group_add_tt0 : TTrue Try.prog f_i_Group_add_F Try.f155 0 (f_i_Group_add_t0) := by
  intro σ p r r' h
  unfold f_i_Group_add_t0 at h
  split at h
  · rename_i hd
    rw [← dec_enc hd]
    exact row1 (f_i_Group_add_l0 _ _ _) h
  · cases h
theorem f_i_Group_add_p {R : Type} (g0 : List Sc) (x1 : Int) (y2 : Int) (kR : Int → Option R) : f_i_Group_add_k g0 x1 y2 kR = (f_i_Group_add_k g0 x1 y2 some).bind kR := by
  simp only [f_i_Group_add_k, bl1B, someB]
theorem f_i_Group_add_e (g0 : List Sc) (x1 : Int) (y2 : Int) : runFn E0 f_i_Group_add_M H0 f_i_Group_add_F (asL (addL 0 (f_i_Group_add_t0) (noL))) Try.f155 (f_i_Group_add_a g0 x1 y2) (f_i_Group_add_i g0 x1 y2) = f_i_Group_add_k g0 x1 y2 (fun r => some (f_i_Group_add_en r)) := by kernel_rfl
theorem f_i_Group_add_ok (g0 : List Sc) (x1 : Int) (y2 : Int) (r : Int) (h : f_i_Group_add g0 x1 y2 = some r) : CS Try.prog 155 (f_i_Group_add_a g0 x1 y2) (f_i_Group_add_i g0 x1 y2) (f_i_Group_add_en r).1 (f_i_Group_add_en r).2 :=
  fn_true (Gk := fun k => f_i_Group_add_k g0 x1 y2 k) (en := f_i_Group_add_en) Try.func155 E0ok f_i_Group_add_Mt (addL_true (f_i_Group_add_tt0) (noL_true)) f_i_Group_add_o (f_i_Group_add_e g0 x1 y2) (f_i_Group_add_p g0 x1 y2) h
def f_i_Group_add_c : CRow := fun args inh => match dec2 [.p .gr, .p (.int .i64), .p (.int .i64)] [] args inh with
  | some ([.l g0, .i x1, .i y2], []) => some ((f_i_Group_add g0 x1 y2).isSome, (f_i_Group_add_en ((f_i_Group_add g0 x1 y2).getD 0)).1, (f_i_Group_add_en ((f_i_Group_add g0 x1 y2).getD 0)).2)
  | _ => none
theorem f_i_Group_add_cc : CTrue Try.prog 155 f_i_Group_add_c := by
  intro args inh rs out h
  unfold f_i_Group_add_c at h
  split at h
  · rename_i hd
    obtain ⟨h1, h2⟩ := dec2_enc hd
    rw [← h1, ← h2]
    exact rowC (f_i_Group_add_ok _ _ _) h
  · cases h

def f_i_Group_negate_F : Fi := { nv := 0, nc := 0, m := 0, vt := [], kl := [(0, ([0, 2, 3, 4, 7, 8, 9, 13, 14, 15, 16, 17, 18, 19, 20, 21, 22, 23, 24, 25, 26, 27, 28, 29, 30, 31, 32, 33, 34], [0, 1, 2, 3, 4, 6, 7, 8, 9, 10, 11, 12, 13, 14, 15, 16, 17, 18, 19, 20, 21, 22, 23, 24, 25, 26, 27, 28, 29, 30, 31, 32, 33, 34], [0, 1, 2, 3, 5, 6, 7, 8, 9, 10, 11, 12, 13, 14, 15, 16, 17, 18, 19, 20, 21, 22, 23, 24, 25, 26, 27, 28, 29, 30, 31, 32, 33, 34]))], sk := [], mvs := [], fz := [] }
def f_i_Group_negate_a (g0 : List Sc) (x1 : Int) : List AV := enc [.p .gr, .p (.int .i64)] [.l g0, .i x1]
def f_i_Group_negate_i (g0 : List Sc) (x1 : Int) : List AV := enc [] []
def f_i_Group_negate_en (r : Int) : List AV × List AV := (enc [.p (.int .i64)] [.i r], enc [] [])
def f_i_Group_negate_M : Calling := noC
theorem f_i_Group_negate_Mt : CallOk Try.prog (f_i_Group_negate_M) := noC_true
theorem f_i_Group_negate_o : loopsOnce Try.f149 = true := by kernel_rfl
def f_i_Group_negate_h0 : List Sh := [.u, .p (.int .i64), .u, .u, .u, .p (.int .i64), .p (.int .i64), .u, .u, .u, .p .sl, .p (.int .i64), .p (.int .i64), .u, .u, .u, .u, .u, .u, .u, .u, .u, .u, .u, .u, .u, .u, .u, .u, .u, .u, .u, .u, .u, .u]
def f_i_Group_negate_fr0 (t10 : List Sc) (t11 : Int) (s : Int × Int × Int × Int) : List AV := enc f_i_Group_negate_h0 [.i s.1, .i s.2.1, .i s.2.2.1, .l t10, .i t11, .i s.2.2.2]
def f_i_Group_negate_g0_1 : List Sh := [.u, .u, .u, .u, .u, .p (.int .i64), .u, .u, .u, .u, .u, .u, .u, .u, .u, .u, .u, .u, .u, .u, .u, .u, .u, .u, .u, .u, .u, .u, .u, .u, .u, .u, .u, .u, .u]
def f_i_Group_negate_x0_1 (t10 : List Sc) (t11 : Int) (e : Int) : X × List AV := (.out 0, enc f_i_Group_negate_g0_1 [.i e])
def f_i_Group_negate_x0_2 (t10 : List Sc) (t11 : Int) (_e : Unit) : X × List AV := (.ret, [])
theorem f_i_Group_negate_p0 {R : Type} (t10 : List Sc) (t11 : Int) (s : Int × Int × Int × Int) (kN : Int × Int × Int × Int → Option R) (kA : Int → Option R) (kB : Unit → Option R) : f_i_Group_negate_k0 t10 t11 s.1 s.2.1 s.2.2.1 s.2.2.2 kN kA = (f_i_Group_negate_r0 t10 t11 s).bind (Ro.el kN kA kB) := by
  simp only [f_i_Group_negate_k0, f_i_Group_negate_r0, brB, someB, noneB, Ro.el]
theorem f_i_Group_negate_e0 (t10 : List Sc) (t11 : Int) (s : Int × Int × Int × Int) : EC E0 f_i_Group_negate_M H0 f_i_Group_negate_F (asL (noL)) 0 (bodyOf Try.f149 0) (f_i_Group_negate_fr0 t10 t11 s) (done (klOf f_i_Group_negate_F 0)) = f_i_Group_negate_k0 t10 t11 s.1 s.2.1 s.2.2.1 s.2.2.2 (fun s => some (.norm, f_i_Group_negate_fr0 t10 t11 s)) (fun e => some (f_i_Group_negate_x0_1 t10 t11 e)) := by kernel_rfl
theorem f_i_Group_negate_l0 (t10 : List Sc) (t11 : Int) : ∀ s r, loopL (f_i_Group_negate_r0 t10 t11) s = some r → LS Try.prog f_i_Group_negate_F (bodyOf Try.f149 0) (f_i_Group_negate_fr0 t10 t11 s) (enX (f_i_Group_negate_x0_1 t10 t11) (f_i_Group_negate_x0_2 t10 t11) r) :=
  loop_true E0ok f_i_Group_negate_Mt (noL_true) f_i_Group_negate_o (fun _ h => by cases h) (fun _ h => by cases h) (fun s => (f_i_Group_negate_e0 t10 t11 s).trans (f_i_Group_negate_p0 t10 t11 s _ _ (fun e => some (f_i_Group_negate_x0_2 t10 t11 e))))
def f_i_Group_negate_t0 (σ : List AV) : Option (Bool × Bool × (X × List AV) × (X × List AV)) := match dec f_i_Group_negate_h0 σ with
  | some [.i x1, .i sum5, .i unit6, .l t10, .i t11, .i t12] => some (isOne (loopL (f_i_Group_negate_r0 t10 t11) (x1, sum5, unit6, t12)), true, f_i_Group_negate_x0_1 t10 t11 (getOne 0 (loopL (f_i_Group_negate_r0 t10 t11) (x1, sum5, unit6, t12))), (.ret, []))
  | _ => none
theorem f_i_Group_negate_tt0 : TTrue Try.prog f_i_Group_negate_F Try.f149 0 (f_i_Group_negate_t0) := by
  intro σ p r r' h
  unfold f_i_Group_negate_t0 at h
  split at h
  · rename_i hd
    rw [← dec_enc hd]
    exact row1 (f_i_Group_negate_l0 _ _ _) h
  · cases h
theorem f_i_Group_negate_p {R : Type} (g0 : List Sc) (x1 : Int) (kR : Int → Option R) : f_i_Group_negate_k g0 x1 kR = (f_i_Group_negate_k g0 x1 some).bind kR := by
  simp only [f_i_Group_negate_k, bl1B, someB]
theorem f_i_Group_negate_e (g0 : List Sc) (x1 : Int) : runFn E0 f_i_Group_negate_M H0 f_i_Group_negate_F (asL (addL 0 (f_i_Group_negate_t0) (noL))) Try.f149 (f_i_Group_negate_a g0 x1) (f_i_Group_negate_i g0 x1) = f_i_Group_negate_k g0 x1 (fun r => some (f_i_Group_negate_en r)) := by kernel_rfl
theorem f_i_Group_negate_ok (g0 : List Sc) (x1 : Int) (r : Int) (h : f_i_Group_negate g0 x1 = some r) : CS Try.prog 149 (f_i_Group_negate_a g0 x1) (f_i_Group_negate_i g0 x1) (f_i_Group_negate_en r).1 (f_i_Group_negate_en r).2 :=
  fn_true (Gk := fun k => f_i_Group_negate_k g0 x1 k) (en := f_i_Group_negate_en) Try.func149 E0ok f_i_Group_negate_Mt (addL_true (f_i_Group_negate_tt0) (noL_true)) f_i_Group_negate_o (f_i_Group_negate_e g0 x1) (f_i_Group_negate_p g0 x1) h
def f_i_Group_negate_c : CRow := fun args inh => match dec2 [.p .gr, .p (.int .i64)] [] args inh with
  | some ([.l g0, .i x1], []) => some ((f_i_Group_negate g0 x1).isSome, (f_i_Group_negate_en ((f_i_Group_negate g0 x1).getD 0)).1, (f_i_Group_negate_en ((f_i_Group_negate g0 x1).getD 0)).2)
  | _ => none
theorem f_i_Group_negate_cc : CTrue Try.prog 149 f_i_Group_negate_c := by
  intro args inh rs out h
  unfold f_i_Group_negate_c at h
  split at h
  · rename_i hd
    obtain ⟨h1, h2⟩ := dec2_enc hd
    rw [← h1, ← h2]
    exact rowC (f_i_Group_negate_ok _ _) h
  · cases h

def f_i_Group_minus_F : Fi := { nv := 0, nc := 0, m := 0, vt := [], kl := [], sk := [], mvs := [], fz := [] }
def f_i_Group_minus_a (g0 : List Sc) (x1 : Int) (y2 : Int) : List AV := enc [.p .gr, .p (.int .i64), .p (.int .i64)] [.l g0, .i x1, .i y2]
def f_i_Group_minus_i (g0 : List Sc) (x1 : Int) (y2 : Int) : List AV := enc [] []
def f_i_Group_minus_en (r : Int) : List AV × List AV := (enc [.p (.int .i64)] [.i r], enc [] [])
def f_i_Group_minus_M : Calling := addC 149 f_i_Group_negate_c (addC 155 f_i_Group_add_c (noC))
theorem f_i_Group_minus_Mt : CallOk Try.prog (f_i_Group_minus_M) := addC_true f_i_Group_negate_cc (addC_true f_i_Group_add_cc (noC_true))
theorem f_i_Group_minus_o : loopsOnce Try.f154 = true := by kernel_rfl
theorem f_i_Group_minus_p {R : Type} (g0 : List Sc) (x1 : Int) (y2 : Int) (kR : Int → Option R) : f_i_Group_minus_k g0 x1 y2 kR = (f_i_Group_minus_k g0 x1 y2 some).bind kR := by
  simp only [f_i_Group_minus_k, boB, someB]
theorem f_i_Group_minus_e (g0 : List Sc) (x1 : Int) (y2 : Int) : runFn E0 f_i_Group_minus_M H0 f_i_Group_minus_F (asL (noL)) Try.f154 (f_i_Group_minus_a g0 x1 y2) (f_i_Group_minus_i g0 x1 y2) = f_i_Group_minus_k g0 x1 y2 (fun r => some (f_i_Group_minus_en r)) := by kernel_rfl
theorem f_i_Group_minus_ok (g0 : List Sc) (x1 : Int) (y2 : Int) (r : Int) (h : f_i_Group_minus g0 x1 y2 = some r) : CS Try.prog 154 (f_i_Group_minus_a g0 x1 y2) (f_i_Group_minus_i g0 x1 y2) (f_i_Group_minus_en r).1 (f_i_Group_minus_en r).2 :=
  fn_true (Gk := fun k => f_i_Group_minus_k g0 x1 y2 k) (en := f_i_Group_minus_en) Try.func154 E0ok f_i_Group_minus_Mt (noL_true) f_i_Group_minus_o (f_i_Group_minus_e g0 x1 y2) (f_i_Group_minus_p g0 x1 y2) h
def f_i_Group_minus_c : CRow := fun args inh => match dec2 [.p .gr, .p (.int .i64), .p (.int .i64)] [] args inh with
  | some ([.l g0, .i x1, .i y2], []) => some ((f_i_Group_minus g0 x1 y2).isSome, (f_i_Group_minus_en ((f_i_Group_minus g0 x1 y2).getD 0)).1, (f_i_Group_minus_en ((f_i_Group_minus g0 x1 y2).getD 0)).2)
  | _ => none
theorem f_i_Group_minus_cc : CTrue Try.prog 154 f_i_Group_minus_c := by
  intro args inh rs out h
  unfold f_i_Group_minus_c at h
  split at h
  · rename_i hd
    obtain ⟨h1, h2⟩ := dec2_enc hd
    rw [← h1, ← h2]
    exact rowC (f_i_Group_minus_ok _ _ _) h
  · cases h

def f_i_in_F : Fi := { nv := 0, nc := 0, m := 0, vt := [], kl := [], sk := [], mvs := [], fz := [] }
def f_i_in_a (a0 : Int) (x1 : Int) : List AV := enc [.p (.int .i64), .p (.int .i64)] [.i a0, .i x1]
def f_i_in_i (a0 : Int) (x1 : Int) : List AV := enc [] []
def f_i_in_en (r : Bool) : List AV × List AV := (enc [.p .boo] [.b r], enc [] [])
def f_i_in_M : Calling := noC
theorem f_i_in_Mt : CallOk Try.prog (f_i_in_M) := noC_true
theorem f_i_in_o : loopsOnce Try.f153 = true := by kernel_rfl
theorem f_i_in_p {R : Type} (a0 : Int) (x1 : Int) (kR : Bool → Option R) : f_i_in_k a0 x1 kR = (f_i_in_k a0 x1 some).bind kR := by
  simp only [f_i_in_k, brB, someB, noneB]
theorem f_i_in_e (a0 : Int) (x1 : Int) : runFn E0 f_i_in_M H0 f_i_in_F (asL (noL)) Try.f153 (f_i_in_a a0 x1) (f_i_in_i a0 x1) = f_i_in_k a0 x1 (fun r => some (f_i_in_en r)) := by kernel_rfl
theorem f_i_in_ok (a0 : Int) (x1 : Int) (r : Bool) (h : f_i_in a0 x1 = some r) : CS Try.prog 153 (f_i_in_a a0 x1) (f_i_in_i a0 x1) (f_i_in_en r).1 (f_i_in_en r).2 :=
  fn_true (Gk := fun k => f_i_in_k a0 x1 k) (en := f_i_in_en) Try.func153 E0ok f_i_in_Mt (noL_true) f_i_in_o (f_i_in_e a0 x1) (f_i_in_p a0 x1) h
def f_i_in_c : CRow := fun args inh => match dec2 [.p (.int .i64), .p (.int .i64)] [] args inh with
  | some ([.i a0, .i x1], []) => some ((f_i_in a0 x1).isSome, (f_i_in_en ((f_i_in a0 x1).getD false)).1, (f_i_in_en ((f_i_in a0 x1).getD false)).2)
  | _ => none
theorem f_i_in_cc : CTrue Try.prog 153 f_i_in_c := by
  intro args inh rs out h
  unfold f_i_in_c at h
  split at h
  · rename_i hd
    obtain ⟨h1, h2⟩ := dec2_enc hd
    rw [← h1, ← h2]
    exact rowC (f_i_in_ok _ _) h
  · cases h

def f_i_QuadruplesOf_F : Fi := { nv := 0, nc := 0, m := 0, vt := [], kl := [(4, ([0, 3, 4, 6, 8, 10, 11, 12, 13, 14, 15, 16, 20, 21, 22, 23, 27, 28, 29, 30, 34, 35, 36, 37, 38, 39, 40, 41, 42, 43, 44, 45, 46, 47, 48, 49, 50, 51], [0, 3, 4, 6, 8, 9, 10, 11, 12, 13, 14, 15, 16, 20, 21, 22, 23, 27, 28, 29, 30, 31, 32, 33, 34, 35, 36, 37, 38, 39, 40, 41, 42, 43, 44, 45, 46, 47, 48, 49, 50, 51], [0, 1, 2, 3, 5, 6, 7, 8, 9, 10, 11, 12, 13, 14, 15, 16, 17, 18, 19, 20, 21, 22, 23, 24, 25, 26, 27, 28, 29, 30, 31, 32, 33, 34, 35, 36, 37, 38, 39, 40, 41, 42, 43, 44, 45, 46, 47, 48, 49, 50, 51])), (2, ([0, 3, 4, 6, 8, 9, 10, 11, 12, 13, 14, 15, 16, 20, 21, 22, 23, 27, 28, 29, 30, 31, 32, 33, 34, 35, 36, 37, 38, 39, 40, 41, 42, 43, 44, 45, 46, 47, 48, 49, 50, 51], [0, 3, 4, 6, 8, 9, 10, 11, 12, 13, 14, 15, 16, 20, 21, 22, 23, 27, 28, 29, 30, 31, 32, 33, 34, 35, 36, 37, 38, 39, 40, 41, 42, 43, 44, 45, 46, 47, 48, 49, 50, 51], [0, 1, 2, 3, 5, 6, 7, 8, 9, 10, 11, 12, 13, 14, 15, 16, 17, 18, 19, 20, 21, 22, 23, 24, 25, 26, 27, 28, 29, 30, 31, 32, 33, 34, 35, 36, 37, 38, 39, 40, 41, 42, 43, 44, 45, 46, 47, 48, 49, 50, 51])), (0, ([0, 3, 4, 6, 7, 8, 9, 10, 11, 12, 13, 14, 15, 16, 20, 21, 22, 23, 24, 25, 26, 27, 28, 29, 30, 31, 32, 33, 34, 35, 36, 37, 38, 39, 40, 41, 42, 43, 44, 45, 46, 47, 48, 49, 50, 51], [0, 3, 4, 6, 8, 9, 10, 11, 12, 13, 14, 15, 16, 20, 21, 22, 23, 27, 28, 29, 30, 31, 32, 33, 34, 35, 36, 37, 38, 39, 40, 41, 42, 43, 44, 45, 46, 47, 48, 49, 50, 51], [0, 1, 2, 3, 5, 6, 7, 8, 9, 10, 11, 12, 13, 14, 15, 16, 17, 18, 19, 20, 21, 22, 23, 24, 25, 26, 27, 28, 29, 30, 31, 32, 33, 34, 35, 36, 37, 38, 39, 40, 41, 42, 43, 44, 45, 46, 47, 48, 49, 50, 51]))], sk := [], mvs := [], fz := [] }
def f_i_QuadruplesOf_a (g0 : List Sc) (a1 : Int) : List AV := enc [.p .gr, .p (.int .i64)] [.l g0, .i a1]
def f_i_QuadruplesOf_i (g0 : List Sc) (a1 : Int) : List AV := enc [] []
def f_i_QuadruplesOf_en (r : Int) : List AV × List AV := (enc [.p (.int .i64)] [.i r], enc [] [])
def f_i_QuadruplesOf_M : Calling := addC 121 f_i_IsSet_c (addC 130 f_i_members_c (addC 155 f_i_Group_add_c (addC 154 f_i_Group_minus_c (addC 153 f_i_in_c (noC)))))
theorem f_i_QuadruplesOf_Mt : CallOk Try.prog (f_i_QuadruplesOf_M) := addC_true f_i_IsSet_cc (addC_true f_i_members_cc (addC_true f_i_Group_add_cc (addC_true f_i_Group_minus_cc (addC_true f_i_in_cc (noC_true)))))
theorem f_i_QuadruplesOf_o : loopsOnce Try.f44 = true := by kernel_rfl
def f_i_QuadruplesOf_h4 : List Sh := [.u, .p (.int .i64), .p .el, .u, .u, .p (.int .i64), .u, .p (.int .i64), .u, .p (.int .i64), .u, .u, .u, .u, .u, .u, .u, .own 3, .p (.int .i64), .p (.int .i64), .u, .u, .u, .u, .own 3, .p (.int .i64), .p (.int .i64), .u, .u, .u, .u, .own 3, .p (.int .i64), .p (.int .i64), .u, .u, .u, .u, .u, .u, .u, .u, .u, .u, .u, .u, .u, .u, .u, .u, .u, .u]
def f_i_QuadruplesOf_fr4 (a1 : Int) (g2 : List Sc) (x7 : Int) (y9 : Int) (t18 : Int) (t19 : Int) (t25 : Int) (t26 : Int) (t32 : Int) (s : Int × List Sc × List Sc × List Sc × Int) : List AV := enc f_i_QuadruplesOf_h4 [.i a1, .l g2, .i s.1, .i x7, .i y9, .l s.2.1, .i t18, .i t19, .l s.2.2.1, .i t25, .i t26, .l s.2.2.2.1, .i t32, .i s.2.2.2.2]
def f_i_QuadruplesOf_g4_1 : List Sh := [.u, .p (.int .i64), .p .el, .u, .u, .p (.int .i64), .u, .p (.int .i64), .u, .u, .u, .u, .u, .u, .u, .u, .u, .own 3, .p (.int .i64), .p (.int .i64), .u, .u, .u, .u, .own 3, .p (.int .i64), .p (.int .i64), .u, .u, .u, .u, .u, .u, .u, .u, .u, .u, .u, .u, .u, .u, .u, .u, .u, .u, .u, .u, .u, .u, .u, .u, .u]
def f_i_QuadruplesOf_x4_1 (a1 : Int) (g2 : List Sc) (x7 : Int) (y9 : Int) (t18 : Int) (t19 : Int) (t25 : Int) (t26 : Int) (t32 : Int) (e : Int × List Sc × List Sc) : X × List AV := (.out 4, enc f_i_QuadruplesOf_g4_1 [.i a1, .l g2, .i e.1, .i x7, .l e.2.1, .i t18, .i t19, .l e.2.2, .i t25, .i t26])
def f_i_QuadruplesOf_x4_2 (a1 : Int) (g2 : List Sc) (x7 : Int) (y9 : Int) (t18 : Int) (t19 : Int) (t25 : Int) (t26 : Int) (t32 : Int) (_e : Unit) : X × List AV := (.ret, [])
theorem f_i_QuadruplesOf_p4 {R : Type} (a1 : Int) (g2 : List Sc) (x7 : Int) (y9 : Int) (t18 : Int) (t19 : Int) (t25 : Int) (t26 : Int) (t32 : Int) (s : Int × List Sc × List Sc × List Sc × Int) (kN : Int × List Sc × List Sc × List Sc × Int → Option R) (kA : Int × List Sc × List Sc → Option R) (kB : Unit → Option R) : f_i_QuadruplesOf_k4 a1 g2 x7 y9 t18 t19 t25 t26 t32 s.1 s.2.1 s.2.2.1 s.2.2.2.1 s.2.2.2.2 kN kA = (f_i_QuadruplesOf_r4 a1 g2 x7 y9 t18 t19 t25 t26 t32 s).bind (Ro.el kN kA kB) := by
  simp only [f_i_QuadruplesOf_k4, f_i_QuadruplesOf_r4, brB, boB, someB, noneB, Ro.el]
theorem f_i_QuadruplesOf_e4 (a1 : Int) (g2 : List Sc) (x7 : Int) (y9 : Int) (t18 : Int) (t19 : Int) (t25 : Int) (t26 : Int) (t32 : Int) (s : Int × List Sc × List Sc × List Sc × Int) : EC E0 f_i_QuadruplesOf_M H0 f_i_QuadruplesOf_F (asL (noL)) 4 (bodyOf Try.f44 4) (f_i_QuadruplesOf_fr4 a1 g2 x7 y9 t18 t19 t25 t26 t32 s) (done (klOf f_i_QuadruplesOf_F 4)) = f_i_QuadruplesOf_k4 a1 g2 x7 y9 t18 t19 t25 t26 t32 s.1 s.2.1 s.2.2.1 s.2.2.2.1 s.2.2.2.2 (fun s => some (.norm, f_i_QuadruplesOf_fr4 a1 g2 x7 y9 t18 t19 t25 t26 t32 s)) (fun e => some (f_i_QuadruplesOf_x4_1 a1 g2 x7 y9 t18 t19 t25 t26 t32 e)) := by kernel_rfl
theorem f_i_QuadruplesOf_l4 (a1 : Int) (g2 : List Sc) (x7 : Int) (y9 : Int) (t18 : Int) (t19 : Int) (t25 : Int) (t26 : Int) (t32 : Int) : ∀ s r, loopL (f_i_QuadruplesOf_r4 a1 g2 x7 y9 t18 t19 t25 t26 t32) s = some r → LS Try.prog f_i_QuadruplesOf_F (bodyOf Try.f44 4) (f_i_QuadruplesOf_fr4 a1 g2 x7 y9 t18 t19 t25 t26 t32 s) (enX (f_i_QuadruplesOf_x4_1 a1 g2 x7 y9 t18 t19 t25 t26 t32) (f_i_QuadruplesOf_x4_2 a1 g2 x7 y9 t18 t19 t25 t26 t32) r) :=
  loop_true E0ok f_i_QuadruplesOf_Mt (noL_true) f_i_QuadruplesOf_o (fun _ h => by cases h) (fun _ h => by cases h) (fun s => (f_i_QuadruplesOf_e4 a1 g2 x7 y9 t18 t19 t25 t26 t32 s).trans (f_i_QuadruplesOf_p4 a1 g2 x7 y9 t18 t19 t25 t26 t32 s _ _ (fun e => some (f_i_QuadruplesOf_x4_2 a1 g2 x7 y9 t18 t19 t25 t26 t32 e))))
def f_i_QuadruplesOf_t4 (σ : List AV) : Option (Bool × Bool × (X × List AV) × (X × List AV)) := match dec f_i_QuadruplesOf_h4 σ with
  | some [.i a1, .l g2, .i n5, .i x7, .i y9, .l t17, .i t18, .i t19, .l t24, .i t25, .i t26, .l t31, .i t32, .i t33] => some (isOne (loopL (f_i_QuadruplesOf_r4 a1 g2 x7 y9 t18 t19 t25 t26 t32) (n5, t17, t24, t31, t33)), true, f_i_QuadruplesOf_x4_1 a1 g2 x7 y9 t18 t19 t25 t26 t32 (getOne (0, [], []) (loopL (f_i_QuadruplesOf_r4 a1 g2 x7 y9 t18 t19 t25 t26 t32) (n5, t17, t24, t31, t33))), (.ret, []))
  | _ => none
theorem f_i_QuadruplesOf_tt4 : TTrue Try.prog f_i_QuadruplesOf_F Try.f44 4 (f_i_QuadruplesOf_t4) := by
  intro σ p r r' h
  unfold f_i_QuadruplesOf_t4 at h
  split at h
  · rename_i hd
    rw [← dec_enc hd]
    exact row1 (f_i_QuadruplesOf_l4 _ _ _ _ _ _ _ _ _ _) h
  · cases h
def f_i_QuadruplesOf_h2 : List Sh := [.u, .p (.int .i64), .p .el, .u, .u, .p (.int .i64), .u, .p (.int .i64), .u, .u, .u, .u, .u, .u, .u, .u, .u, .own 3, .p (.int .i64), .p (.int .i64), .u, .u, .u, .u, .own 3, .p (.int .i64), .p (.int .i64), .u, .u, .u, .u, .u, .u, .u, .u, .u, .u, .u, .u, .u, .u, .u, .u, .u, .u, .u, .u, .u, .u, .u, .u, .u]
def f_i_QuadruplesOf_fr2 (a1 : Int) (g2 : List Sc) (x7 : Int) (t18 : Int) (t19 : Int) (t25 : Int) (s : Int × List Sc × List Sc × Int) : List AV := enc f_i_QuadruplesOf_h2 [.i a1, .l g2, .i s.1, .i x7, .l s.2.1, .i t18, .i t19, .l s.2.2.1, .i t25, .i s.2.2.2]
def f_i_QuadruplesOf_g2_1 : List Sh := [.u, .p (.int .i64), .p .el, .u, .u, .p (.int .i64), .u, .p (.int .i64), .u, .u, .u, .u, .u, .u, .u, .u, .u, .own 3, .p (.int .i64), .p (.int .i64), .u, .u, .u, .u, .own 3, .p (.int .i64), .p (.int .i64), .u, .u, .u, .u, .u, .u, .u, .u, .u, .u, .u, .u, .u, .u, .u, .u, .u, .u, .u, .u, .u, .u, .u, .u, .u]
def f_i_QuadruplesOf_x2_1 (a1 : Int) (g2 : List Sc) (x7 : Int) (t18 : Int) (t19 : Int) (t25 : Int) (e : Int × List Sc × List Sc × Int) : X × List AV := (.out 2, enc f_i_QuadruplesOf_g2_1 [.i a1, .l g2, .i e.1, .i x7, .l e.2.1, .i t18, .i t19, .l e.2.2.1, .i t25, .i e.2.2.2])
def f_i_QuadruplesOf_x2_2 (a1 : Int) (g2 : List Sc) (x7 : Int) (t18 : Int) (t19 : Int) (t25 : Int) (_e : Unit) : X × List AV := (.ret, [])
theorem f_i_QuadruplesOf_p2 {R : Type} (a1 : Int) (g2 : List Sc) (x7 : Int) (t18 : Int) (t19 : Int) (t25 : Int) (s : Int × List Sc × List Sc × Int) (kN : Int × List Sc × List Sc × Int → Option R) (kA : Int × List Sc × List Sc × Int → Option R) (kB : Unit → Option R) : f_i_QuadruplesOf_k2 a1 g2 x7 t18 t19 t25 s.1 s.2.1 s.2.2.1 s.2.2.2 kN kA = (f_i_QuadruplesOf_r2 a1 g2 x7 t18 t19 t25 s).bind (Ro.el kN kA kB) := by
  simp only [f_i_QuadruplesOf_k2, f_i_QuadruplesOf_r2, brB, boB, bl1B, someB, noneB, Ro.el]
theorem f_i_QuadruplesOf_e2 (a1 : Int) (g2 : List Sc) (x7 : Int) (t18 : Int) (t19 : Int) (t25 : Int) (s : Int × List Sc × List Sc × Int) : EC E0 f_i_QuadruplesOf_M H0 f_i_QuadruplesOf_F (asL (addL 4 (f_i_QuadruplesOf_t4) (noL))) 2 (bodyOf Try.f44 2) (f_i_QuadruplesOf_fr2 a1 g2 x7 t18 t19 t25 s) (done (klOf f_i_QuadruplesOf_F 2)) = f_i_QuadruplesOf_k2 a1 g2 x7 t18 t19 t25 s.1 s.2.1 s.2.2.1 s.2.2.2 (fun s => some (.norm, f_i_QuadruplesOf_fr2 a1 g2 x7 t18 t19 t25 s)) (fun e => some (f_i_QuadruplesOf_x2_1 a1 g2 x7 t18 t19 t25 e)) := by kernel_rfl
theorem f_i_QuadruplesOf_l2 (a1 : Int) (g2 : List Sc) (x7 : Int) (t18 : Int) (t19 : Int) (t25 : Int) : ∀ s r, loopL (f_i_QuadruplesOf_r2 a1 g2 x7 t18 t19 t25) s = some r → LS Try.prog f_i_QuadruplesOf_F (bodyOf Try.f44 2) (f_i_QuadruplesOf_fr2 a1 g2 x7 t18 t19 t25 s) (enX (f_i_QuadruplesOf_x2_1 a1 g2 x7 t18 t19 t25) (f_i_QuadruplesOf_x2_2 a1 g2 x7 t18 t19 t25) r) :=
  loop_true E0ok f_i_QuadruplesOf_Mt (addL_true (f_i_QuadruplesOf_tt4) (noL_true)) f_i_QuadruplesOf_o (fun _ h => by cases h) (fun _ h => by cases h) (fun s => (f_i_QuadruplesOf_e2 a1 g2 x7 t18 t19 t25 s).trans (f_i_QuadruplesOf_p2 a1 g2 x7 t18 t19 t25 s _ _ (fun e => some (f_i_QuadruplesOf_x2_2 a1 g2 x7 t18 t19 t25 e))))
def f_i_QuadruplesOf_t2 (σ : List AV) : Option (Bool × Bool × (X × List AV) × (X × List AV)) := match dec f_i_QuadruplesOf_h2 σ with
  | some [.i a1, .l g2, .i n5, .i x7, .l t17, .i t18, .i t19, .l t24, .i t25, .i t26] => some (isOne (loopL (f_i_QuadruplesOf_r2 a1 g2 x7 t18 t19 t25) (n5, t17, t24, t26)), true, f_i_QuadruplesOf_x2_1 a1 g2 x7 t18 t19 t25 (getOne (0, [], [], 0) (loopL (f_i_QuadruplesOf_r2 a1 g2 x7 t18 t19 t25) (n5, t17, t24, t26))), (.ret, []))
  | _ => none
theorem f_i_QuadruplesOf_tt2 : TTrue Try.prog f_i_QuadruplesOf_F Try.f44 2 (f_i_QuadruplesOf_t2) := by
  intro σ p r r' h
  unfold f_i_QuadruplesOf_t2 at h
  split at h
  · rename_i hd
    rw [← dec_enc hd]
    exact row1 (f_i_QuadruplesOf_l2 _ _ _ _ _ _ _) h
  · cases h
def f_i_QuadruplesOf_h0 : List Sh := [.u, .p (.int .i64), .p .el, .u, .u, .p (.int .i64), .u, .u, .u, .u, .u, .u, .u, .u, .u, .u, .u, .own 3, .p (.int .i64), .p (.int .i64), .u, .u, .u, .u, .u, .u, .u, .u, .u, .u, .u, .u, .u, .u, .u, .u, .u, .u, .u, .u, .u, .u, .u, .u, .u, .u, .u, .u, .u, .u, .u, .u]
def f_i_QuadruplesOf_fr0 (a1 : Int) (g2 : List Sc) (t18 : Int) (s : Int × List Sc × Int) : List AV := enc f_i_QuadruplesOf_h0 [.i a1, .l g2, .i s.1, .l s.2.1, .i t18, .i s.2.2]
def f_i_QuadruplesOf_g0_1 : List Sh := [.u, .p (.int .i64), .p .el, .u, .u, .p (.int .i64), .u, .u, .u, .u, .u, .u, .u, .u, .u, .u, .u, .own 3, .p (.int .i64), .p (.int .i64), .u, .u, .u, .u, .u, .u, .u, .u, .u, .u, .u, .u, .u, .u, .u, .u, .u, .u, .u, .u, .u, .u, .u, .u, .u, .u, .u, .u, .u, .u, .u, .u]
def f_i_QuadruplesOf_x0_1 (a1 : Int) (g2 : List Sc) (t18 : Int) (e : Int × List Sc × Int) : X × List AV := (.out 0, enc f_i_QuadruplesOf_g0_1 [.i a1, .l g2, .i e.1, .l e.2.1, .i t18, .i e.2.2])
def f_i_QuadruplesOf_x0_2 (a1 : Int) (g2 : List Sc) (t18 : Int) (_e : Unit) : X × List AV := (.ret, [])
theorem f_i_QuadruplesOf_p0 {R : Type} (a1 : Int) (g2 : List Sc) (t18 : Int) (s : Int × List Sc × Int) (kN : Int × List Sc × Int → Option R) (kA : Int × List Sc × Int → Option R) (kB : Unit → Option R) : f_i_QuadruplesOf_k0 a1 g2 t18 s.1 s.2.1 s.2.2 kN kA = (f_i_QuadruplesOf_r0 a1 g2 t18 s).bind (Ro.el kN kA kB) := by
  simp only [f_i_QuadruplesOf_k0, f_i_QuadruplesOf_r0, brB, boB, bl1B, someB, noneB, Ro.el]
theorem f_i_QuadruplesOf_e0 (a1 : Int) (g2 : List Sc) (t18 : Int) (s : Int × List Sc × Int) : EC E0 f_i_QuadruplesOf_M H0 f_i_QuadruplesOf_F (asL (addL 2 (f_i_QuadruplesOf_t2) (addL 4 (f_i_QuadruplesOf_t4) (noL)))) 0 (bodyOf Try.f44 0) (f_i_QuadruplesOf_fr0 a1 g2 t18 s) (done (klOf f_i_QuadruplesOf_F 0)) = f_i_QuadruplesOf_k0 a1 g2 t18 s.1 s.2.1 s.2.2 (fun s => some (.norm, f_i_QuadruplesOf_fr0 a1 g2 t18 s)) (fun e => some (f_i_QuadruplesOf_x0_1 a1 g2 t18 e)) := by kernel_rfl
theorem f_i_QuadruplesOf_l0 (a1 : Int) (g2 : List Sc) (t18 : Int) : ∀ s r, loopL (f_i_QuadruplesOf_r0 a1 g2 t18) s = some r → LS Try.prog f_i_QuadruplesOf_F (bodyOf Try.f44 0) (f_i_QuadruplesOf_fr0 a1 g2 t18 s) (enX (f_i_QuadruplesOf_x0_1 a1 g2 t18) (f_i_QuadruplesOf_x0_2 a1 g2 t18) r) :=
  loop_true E0ok f_i_QuadruplesOf_Mt (addL_true (f_i_QuadruplesOf_tt2) (addL_true (f_i_QuadruplesOf_tt4) (noL_true))) f_i_QuadruplesOf_o (fun _ h => by cases h) (fun _ h => by cases h) (fun s => (f_i_QuadruplesOf_e0 a1 g2 t18 s).trans (f_i_QuadruplesOf_p0 a1 g2 t18 s _ _ (fun e => some (f_i_QuadruplesOf_x0_2 a1 g2 t18 e))))
def f_i_QuadruplesOf_t0 (σ : List AV) : Option (Bool × Bool × (X × List AV) × (X × List AV)) := match dec f_i_QuadruplesOf_h0 σ with
  | some [.i a1, .l g2, .i n5, .l t17, .i t18, .i t19] => some (isOne (loopL (f_i_QuadruplesOf_r0 a1 g2 t18) (n5, t17, t19)), true, f_i_QuadruplesOf_x0_1 a1 g2 t18 (getOne (0, [], 0) (loopL (f_i_QuadruplesOf_r0 a1 g2 t18) (n5, t17, t19))), (.ret, []))
  | _ => none
theorem f_i_QuadruplesOf_tt0 : TTrue Try.prog f_i_QuadruplesOf_F Try.f44 0 (f_i_QuadruplesOf_t0) := by
  intro σ p r r' h
  unfold f_i_QuadruplesOf_t0 at h
  split at h
  · rename_i hd
    rw [← dec_enc hd]
    exact row1 (f_i_QuadruplesOf_l0 _ _ _ _) h
  · cases h
theorem f_i_QuadruplesOf_p {R : Type} (g0 : List Sc) (a1 : Int) (kR : Int → Option R) : f_i_QuadruplesOf_k g0 a1 kR = (f_i_QuadruplesOf_k g0 a1 some).bind kR := by
  simp only [f_i_QuadruplesOf_k, brB, boB, bl1B, someB]
theorem f_i_QuadruplesOf_e (g0 : List Sc) (a1 : Int) : runFn E0 f_i_QuadruplesOf_M H0 f_i_QuadruplesOf_F (asL (addL 0 (f_i_QuadruplesOf_t0) (addL 2 (f_i_QuadruplesOf_t2) (addL 4 (f_i_QuadruplesOf_t4) (noL))))) Try.f44 (f_i_QuadruplesOf_a g0 a1) (f_i_QuadruplesOf_i g0 a1) = f_i_QuadruplesOf_k g0 a1 (fun r => some (f_i_QuadruplesOf_en r)) := by kernel_rfl
theorem f_i_QuadruplesOf_ok (g0 : List Sc) (a1 : Int) (r : Int) (h : f_i_QuadruplesOf g0 a1 = some r) : CS Try.prog 44 (f_i_QuadruplesOf_a g0 a1) (f_i_QuadruplesOf_i g0 a1) (f_i_QuadruplesOf_en r).1 (f_i_QuadruplesOf_en r).2 :=
  fn_true (Gk := fun k => f_i_QuadruplesOf_k g0 a1 k) (en := f_i_QuadruplesOf_en) Try.func44 E0ok f_i_QuadruplesOf_Mt (addL_true (f_i_QuadruplesOf_tt0) (addL_true (f_i_QuadruplesOf_tt2) (addL_true (f_i_QuadruplesOf_tt4) (noL_true)))) f_i_QuadruplesOf_o (f_i_QuadruplesOf_e g0 a1) (f_i_QuadruplesOf_p g0 a1) h
def f_i_QuadruplesOf_c : CRow := fun args inh => match dec2 [.p .gr, .p (.int .i64)] [] args inh with
  | some ([.l g0, .i a1], []) => some ((f_i_QuadruplesOf g0 a1).isSome, (f_i_QuadruplesOf_en ((f_i_QuadruplesOf g0 a1).getD 0)).1, (f_i_QuadruplesOf_en ((f_i_QuadruplesOf g0 a1).getD 0)).2)
  | _ => none
theorem f_i_QuadruplesOf_cc : CTrue Try.prog 44 f_i_QuadruplesOf_c := by
  intro args inh rs out h
  unfold f_i_QuadruplesOf_c at h
  split at h
  · rename_i hd
    obtain ⟨h1, h2⟩ := dec2_enc hd
    rw [← h1, ← h2]
    exact rowC (f_i_QuadruplesOf_ok _ _) h
  · cases h

def f_s_IsSet_F : Fi := { nv := 0, nc := 0, m := 0, vt := [], kl := [], sk := [], mvs := [], fz := [] }
def f_s_IsSet_a (g0 : List Sc) (a1 : Int) : List AV := enc [.p .gr, .p (.int .i64)] [.l g0, .i a1]
def f_s_IsSet_i (g0 : List Sc) (a1 : Int) : List AV := enc [] []
def f_s_IsSet_en (r : Bool) : List AV × List AV := (enc [.p .boo] [.b r], enc [] [])
def f_s_IsSet_M : Calling := addC 179 f_s_IsGroup_c (addC 139 f_s_l2Order_c (addC 150 f_s_l1In_c (noC)))
theorem f_s_IsSet_Mt : CallOk Try.prog (f_s_IsSet_M) := addC_true f_s_IsGroup_cc (addC_true f_s_l2Order_cc (addC_true f_s_l1In_cc (noC_true)))
theorem f_s_IsSet_o : loopsOnce Try.f124 = true := by kernel_rfl
theorem f_s_IsSet_p {R : Type} (g0 : List Sc) (a1 : Int) (kR : Bool → Option R) : f_s_IsSet_k g0 a1 kR = (f_s_IsSet_k g0 a1 some).bind kR := by
  simp only [f_s_IsSet_k, brB, boB, someB, noneB]
theorem f_s_IsSet_e (g0 : List Sc) (a1 : Int) : runFn E0 f_s_IsSet_M H0 f_s_IsSet_F (asL (noL)) Try.f124 (f_s_IsSet_a g0 a1) (f_s_IsSet_i g0 a1) = f_s_IsSet_k g0 a1 (fun r => some (f_s_IsSet_en r)) := by kernel_rfl
theorem f_s_IsSet_ok (g0 : List Sc) (a1 : Int) (r : Bool) (h : f_s_IsSet g0 a1 = some r) : CS Try.prog 124 (f_s_IsSet_a g0 a1) (f_s_IsSet_i g0 a1) (f_s_IsSet_en r).1 (f_s_IsSet_en r).2 :=
  fn_true (Gk := fun k => f_s_IsSet_k g0 a1 k) (en := f_s_IsSet_en) Try.func124 E0ok f_s_IsSet_Mt (noL_true) f_s_IsSet_o (f_s_IsSet_e g0 a1) (f_s_IsSet_p g0 a1) h
def f_s_IsSet_c : CRow := fun args inh => match dec2 [.p .gr, .p (.int .i64)] [] args inh with
  | some ([.l g0, .i a1], []) => some ((f_s_IsSet g0 a1).isSome, (f_s_IsSet_en ((f_s_IsSet g0 a1).getD false)).1, (f_s_IsSet_en ((f_s_IsSet g0 a1).getD false)).2)
  | _ => none
theorem f_s_IsSet_cc : CTrue Try.prog 124 f_s_IsSet_c := by
  intro args inh rs out h
  unfold f_s_IsSet_c at h
  split at h
  · rename_i hd
    obtain ⟨h1, h2⟩ := dec2_enc hd
    rw [← h1, ← h2]
    exact rowC (f_s_IsSet_ok _ _) h
  · cases h

def f_s_l3List_F : Fi := { nv := 0, nc := 0, m := 0, vt := [], kl := [(0, ([0, 1, 2, 6, 7, 8, 9, 10, 11, 12, 13, 14, 15, 16, 17, 18, 19, 20, 21], [0, 1, 2, 4, 5, 6, 7, 8, 9, 10, 11, 12, 13, 14, 15, 16, 17, 18, 19, 20, 21], [0, 1, 3, 4, 5, 6, 7, 8, 9, 10, 11, 12, 13, 14, 15, 16, 17, 18, 19, 20, 21]))], sk := [], mvs := [], fz := [] }
def f_s_l3List_a (a0 : Int) : List AV := enc [.p (.int .i64)] [.i a0]
def f_s_l3List_i (a0 : Int) : List AV := enc [] []
def f_s_l3List_en (r : List Sc) : List AV × List AV := (enc [.p (.al 0)] [], enc [.own 3] [.l r])
def f_s_l3List_M : Calling := noC
theorem f_s_l3List_Mt : CallOk Try.prog (f_s_l3List_M) := noC_true
theorem f_s_l3List_o : loopsOnce Try.f136 = true := by kernel_rfl
def f_s_l3List_h0 : List Sh := [.u, .u, .u, .own 3, .p (.int .i64), .p (.int .i64), .u, .u, .u, .u, .u, .u, .u, .u, .u, .u, .u, .u, .u, .u, .u, .u]
def f_s_l3List_fr0 (s : List Sc × Int × Int) : List AV := enc f_s_l3List_h0 [.l s.1, .i s.2.1, .i s.2.2]
def f_s_l3List_g0_1 : List Sh := [.u, .u, .u, .own 3, .u, .u, .u, .u, .u, .u, .u, .u, .u, .u, .u, .u, .u, .u, .u, .u, .u, .u]
def f_s_l3List_x0_1 (e : List Sc) : X × List AV := (.out 0, enc f_s_l3List_g0_1 [.l e])
def f_s_l3List_x0_2 (_e : Unit) : X × List AV := (.ret, [])
theorem f_s_l3List_p0 {R : Type} (s : List Sc × Int × Int) (kN : List Sc × Int × Int → Option R) (kA : List Sc → Option R) (kB : Unit → Option R) : f_s_l3List_k0 s.1 s.2.1 s.2.2 kN kA = (f_s_l3List_r0 s).bind (Ro.el kN kA kB) := by
  simp only [f_s_l3List_k0, f_s_l3List_r0, brB, someB, noneB, Ro.el]
theorem f_s_l3List_e0 (s : List Sc × Int × Int) : EC E0 f_s_l3List_M H0 f_s_l3List_F (asL (noL)) 0 (bodyOf Try.f136 0) (f_s_l3List_fr0 s) (done (klOf f_s_l3List_F 0)) = f_s_l3List_k0 s.1 s.2.1 s.2.2 (fun s => some (.norm, f_s_l3List_fr0 s)) (fun e => some (f_s_l3List_x0_1 e)) := by kernel_rfl
theorem f_s_l3List_l0 : ∀ s r, loopL (f_s_l3List_r0) s = some r → LS Try.prog f_s_l3List_F (bodyOf Try.f136 0) (f_s_l3List_fr0 s) (enX (f_s_l3List_x0_1) (f_s_l3List_x0_2) r) :=
  loop_true E0ok f_s_l3List_Mt (noL_true) f_s_l3List_o (fun _ h => by cases h) (fun _ h => by cases h) (fun s => (f_s_l3List_e0 s).trans (f_s_l3List_p0 s _ _ (fun e => some (f_s_l3List_x0_2 e))))
def f_s_l3List_t0 (σ : List AV) : Option (Bool × Bool × (X × List AV) × (X × List AV)) := match dec f_s_l3List_h0 σ with
  | some [.l out3, .i i4, .i x5] => some (isOne (loopL (f_s_l3List_r0) (out3, i4, x5)), true, f_s_l3List_x0_1 (getOne [] (loopL (f_s_l3List_r0) (out3, i4, x5))), (.ret, []))
  | _ => none
theorem f_s_l3List_tt0 : TTrue Try.prog f_s_l3List_F Try.f136 0 (f_s_l3List_t0) := by
  intro σ p r r' h
  unfold f_s_l3List_t0 at h
  split at h
  · rename_i hd
    rw [← dec_enc hd]
    exact row1 (f_s_l3List_l0 _) h
  · cases h
theorem f_s_l3List_p {R : Type} (a0 : Int) (kR : List Sc → Option R) : f_s_l3List_k a0 kR = (f_s_l3List_k a0 some).bind kR := by
  simp only [f_s_l3List_k, bl1B, someB]
theorem f_s_l3List_e (a0 : Int) : runFn E0 f_s_l3List_M H0 f_s_l3List_F (asL (addL 0 (f_s_l3List_t0) (noL))) Try.f136 (f_s_l3List_a a0) (f_s_l3List_i a0) = f_s_l3List_k a0 (fun r => some (f_s_l3List_en r)) := by kernel_rfl
theorem f_s_l3List_ok (a0 : Int) (r : List Sc) (h : f_s_l3List a0 = some r) : CS Try.prog 136 (f_s_l3List_a a0) (f_s_l3List_i a0) (f_s_l3List_en r).1 (f_s_l3List_en r).2 :=
  fn_true (Gk := fun k => f_s_l3List_k a0 k) (en := f_s_l3List_en) Try.func136 E0ok f_s_l3List_Mt (addL_true (f_s_l3List_tt0) (noL_true)) f_s_l3List_o (f_s_l3List_e a0) (f_s_l3List_p a0) h
def f_s_l3List_c : CRow := fun args inh => match dec2 [.p (.int .i64)] [] args inh with
  | some ([.i a0], []) => some ((f_s_l3List a0).isSome, (f_s_l3List_en ((f_s_l3List a0).getD [])).1, (f_s_l3List_en ((f_s_l3List a0).getD [])).2)
  | _ => none
theorem f_s_l3List_cc : CTrue Try.prog 136 f_s_l3List_c := by
  intro args inh rs out h
  unfold f_s_l3List_c at h
  split at h
  · rename_i hd
    obtain ⟨h1, h2⟩ := dec2_enc hd
    rw [← h1, ← h2]
    exact rowC (f_s_l3List_ok _) h
  · cases h

def f_s_l2Add_F : Fi := { nv := 0, nc := 0, m := 0, vt := [], kl := [(0, ([0, 4, 5, 6, 10, 11, 12, 13, 14, 15, 16, 17, 18, 19, 20, 21, 22, 23, 24, 25, 26, 27, 28, 29, 30, 31, 32, 33, 34, 35, 36, 37, 38, 39, 40, 41, 42, 43, 44, 45], [0, 1, 2, 3, 4, 5, 6, 8, 9, 10, 11, 12, 13, 14, 15, 16, 17, 18, 19, 20, 21, 22, 23, 24, 25, 26, 27, 28, 29, 30, 31, 32, 33, 34, 35, 36, 37, 38, 39, 40, 41, 42, 43, 44, 45], [0, 1, 2, 3, 4, 5, 7, 8, 9, 10, 11, 12, 13, 14, 15, 16, 17, 18, 19, 20, 21, 22, 23, 24, 25, 26, 27, 28, 29, 30, 31, 32, 33, 34, 35, 36, 37, 38, 39, 40, 41, 42, 43, 44, 45]))], sk := [], mvs := [], fz := [] }
def f_s_l2Add_a (g0 : List Sc) (x1 : Int) (y2 : Int) : List AV := enc [.p .gr, .p (.int .i64), .p (.int .i64)] [.l g0, .i x1, .i y2]
def f_s_l2Add_i (g0 : List Sc) (x1 : Int) (y2 : Int) : List AV := enc [] []
def f_s_l2Add_en (r : Int) : List AV × List AV := (enc [.p (.int .i64)] [.i r], enc [] [])
def f_s_l2Add_M : Calling := noC
theorem f_s_l2Add_Mt : CallOk Try.prog (f_s_l2Add_M) := noC_true
theorem f_s_l2Add_o : loopsOnce Try.f156 = true := by kernel_rfl
def f_s_l2Add_h0 : List Sh := [.u, .p (.int .i64), .p (.int .i64), .p .el, .u, .u, .u, .p (.int .i64), .p (.int .i64), .p (.int .i64), .u, .u, .u, .u, .u, .u, .u, .u, .u, .u, .u, .u, .u, .u, .u, .u, .u, .u, .u, .u, .u, .u, .u, .u, .u, .u, .u, .u, .u, .u, .u, .u, .u, .u, .u, .u]
def f_s_l2Add_fr0 (g3 : List Sc) (s : Int × Int × Int × Int × Int) : List AV := enc f_s_l2Add_h0 [.i s.1, .i s.2.1, .l g3, .i s.2.2.1, .i s.2.2.2.1, .i s.2.2.2.2]
def f_s_l2Add_g0_1 : List Sh := [.u, .u, .u, .u, .u, .u, .u, .p (.int .i64), .u, .u, .u, .u, .u, .u, .u, .u, .u, .u, .u, .u, .u, .u, .u, .u, .u, .u, .u, .u, .u, .u, .u, .u, .u, .u, .u, .u, .u, .u, .u, .u, .u, .u, .u, .u, .u, .u]
def f_s_l2Add_x0_1 (g3 : List Sc) (e : Int) : X × List AV := (.out 0, enc f_s_l2Add_g0_1 [.i e])
def f_s_l2Add_x0_2 (g3 : List Sc) (_e : Unit) : X × List AV := (.ret, [])
theorem f_s_l2Add_p0 {R : Type} (g3 : List Sc) (s : Int × Int × Int × Int × Int) (kN : Int × Int × Int × Int × Int → Option R) (kA : Int → Option R) (kB : Unit → Option R) : f_s_l2Add_k0 g3 s.1 s.2.1 s.2.2.1 s.2.2.2.1 s.2.2.2.2 kN kA = (f_s_l2Add_r0 g3 s).bind (Ro.el kN kA kB) := by
  simp only [f_s_l2Add_k0, f_s_l2Add_r0, brB, someB, noneB, Ro.el]
theorem f_s_l2Add_e0 (g3 : List Sc) (s : Int × Int × Int × Int × Int) : EC E0 f_s_l2Add_M H0 f_s_l2Add_F (asL (noL)) 0 (bodyOf Try.f156 0) (f_s_l2Add_fr0 g3 s) (done (klOf f_s_l2Add_F 0)) = f_s_l2Add_k0 g3 s.1 s.2.1 s.2.2.1 s.2.2.2.1 s.2.2.2.2 (fun s => some (.norm, f_s_l2Add_fr0 g3 s)) (fun e => some (f_s_l2Add_x0_1 g3 e)) := by kernel_rfl
theorem f_s_l2Add_l0 (g3 : List Sc) : ∀ s r, loopL (f_s_l2Add_r0 g3) s = some r → LS Try.prog f_s_l2Add_F (bodyOf Try.f156 0) (f_s_l2Add_fr0 g3 s) (enX (f_s_l2Add_x0_1 g3) (f_s_l2Add_x0_2 g3) r) :=
  loop_true E0ok f_s_l2Add_Mt (noL_true) f_s_l2Add_o (fun _ h => by cases h) (fun _ h => by cases h) (fun s => (f_s_l2Add_e0 g3 s).trans (f_s_l2Add_p0 g3 s _ _ (fun e => some (f_s_l2Add_x0_2 g3 e))))
def f_s_l2Add_t0 (σ : List AV) : Option (Bool × Bool × (X × List AV) × (X × List AV)) := match dec f_s_l2Add_h0 σ with
  | some [.i x1, .i y2, .l g3, .i z7, .i step8, .i i9] => some (isOne (loopL (f_s_l2Add_r0 g3) (x1, y2, z7, step8, i9)), true, f_s_l2Add_x0_1 g3 (getOne 0 (loopL (f_s_l2Add_r0 g3) (x1, y2, z7, step8, i9))), (.ret, []))
  | _ => none
theorem f_s_l2Add_tt0 : TTrue Try.prog f_s_l2Add_F Try.f156 0 (f_s_l2Add_t0) := by
  intro σ p r r' h
  unfold f_s_l2Add_t0 at h
  split at h
  · rename_i hd
    rw [← dec_enc hd]
    exact row1 (f_s_l2Add_l0 _ _) h
  · cases h
theorem f_s_l2Add_p {R : Type} (g0 : List Sc) (x1 : Int) (y2 : Int) (kR : Int → Option R) : f_s_l2Add_k g0 x1 y2 kR = (f_s_l2Add_k g0 x1 y2 some).bind kR := by
  simp only [f_s_l2Add_k, bl1B, someB]
theorem f_s_l2Add_e (g0 : List Sc) (x1 : Int) (y2 : Int) : runFn E0 f_s_l2Add_M H0 f_s_l2Add_F (asL (addL 0 (f_s_l2Add_t0) (noL))) Try.f156 (f_s_l2Add_a g0 x1 y2) (f_s_l2Add_i g0 x1 y2) = f_s_l2Add_k g0 x1 y2 (fun r => some (f_s_l2Add_en r)) := by kernel_rfl
theorem f_s_l2Add_ok (g0 : List Sc) (x1 : Int) (y2 : Int) (r : Int) (h : f_s_l2Add g0 x1 y2 = some r) : CS Try.prog 156 (f_s_l2Add_a g0 x1 y2) (f_s_l2Add_i g0 x1 y2) (f_s_l2Add_en r).1 (f_s_l2Add_en r).2 :=
  fn_true (Gk := fun k => f_s_l2Add_k g0 x1 y2 k) (en := f_s_l2Add_en) Try.func156 E0ok f_s_l2Add_Mt (addL_true (f_s_l2Add_tt0) (noL_true)) f_s_l2Add_o (f_s_l2Add_e g0 x1 y2) (f_s_l2Add_p g0 x1 y2) h
def f_s_l2Add_c : CRow := fun args inh => match dec2 [.p .gr, .p (.int .i64), .p (.int .i64)] [] args inh with
  | some ([.l g0, .i x1, .i y2], []) => some ((f_s_l2Add g0 x1 y2).isSome, (f_s_l2Add_en ((f_s_l2Add g0 x1 y2).getD 0)).1, (f_s_l2Add_en ((f_s_l2Add g0 x1 y2).getD 0)).2)
  | _ => none
theorem f_s_l2Add_cc : CTrue Try.prog 156 f_s_l2Add_c := by
  intro args inh rs out h
  unfold f_s_l2Add_c at h
  split at h
  · rename_i hd
    obtain ⟨h1, h2⟩ := dec2_enc hd
    rw [← h1, ← h2]
    exact rowC (f_s_l2Add_ok _ _ _) h
  · cases h

def f_s_l2Negate_F : Fi := { nv := 0, nc := 0, m := 0, vt := [], kl := [(0, ([0, 3, 4, 8, 9, 10, 11, 12, 13, 14, 15, 16, 17, 18, 19, 20, 21, 22, 23, 24, 25, 26, 27, 28, 29, 30, 31, 32, 33, 34, 35, 36, 37, 38], [0, 1, 2, 3, 4, 6, 7, 8, 9, 10, 11, 12, 13, 14, 15, 16, 17, 18, 19, 20, 21, 22, 23, 24, 25, 26, 27, 28, 29, 30, 31, 32, 33, 34, 35, 36, 37, 38], [0, 1, 2, 3, 5, 6, 7, 8, 9, 10, 11, 12, 13, 14, 15, 16, 17, 18, 19, 20, 21, 22, 23, 24, 25, 26, 27, 28, 29, 30, 31, 32, 33, 34, 35, 36, 37, 38]))], sk := [], mvs := [], fz := [] }
def f_s_l2Negate_a (g0 : List Sc) (x1 : Int) : List AV := enc [.p .gr, .p (.int .i64)] [.l g0, .i x1]
def f_s_l2Negate_i (g0 : List Sc) (x1 : Int) : List AV := enc [] []
def f_s_l2Negate_en (r : Int) : List AV × List AV := (enc [.p (.int .i64)] [.i r], enc [] [])
def f_s_l2Negate_M : Calling := noC
theorem f_s_l2Negate_Mt : CallOk Try.prog (f_s_l2Negate_M) := noC_true
theorem f_s_l2Negate_o : loopsOnce Try.f157 = true := by kernel_rfl
def f_s_l2Negate_h0 : List Sh := [.u, .p (.int .i64), .p .el, .u, .u, .p (.int .i64), .p (.int .i64), .p (.int .i64), .u, .u, .u, .u, .u, .u, .u, .u, .u, .u, .u, .u, .u, .u, .u, .u, .u, .u, .u, .u, .u, .u, .u, .u, .u, .u, .u, .u, .u, .u, .u]
def f_s_l2Negate_fr0 (g2 : List Sc) (s : Int × Int × Int × Int) : List AV := enc f_s_l2Negate_h0 [.i s.1, .l g2, .i s.2.1, .i s.2.2.1, .i s.2.2.2]
def f_s_l2Negate_g0_1 : List Sh := [.u, .u, .u, .u, .u, .p (.int .i64), .u, .u, .u, .u, .u, .u, .u, .u, .u, .u, .u, .u, .u, .u, .u, .u, .u, .u, .u, .u, .u, .u, .u, .u, .u, .u, .u, .u, .u, .u, .u, .u, .u]
def f_s_l2Negate_x0_1 (g2 : List Sc) (e : Int) : X × List AV := (.out 0, enc f_s_l2Negate_g0_1 [.i e])
def f_s_l2Negate_x0_2 (g2 : List Sc) (_e : Unit) : X × List AV := (.ret, [])
theorem f_s_l2Negate_p0 {R : Type} (g2 : List Sc) (s : Int × Int × Int × Int) (kN : Int × Int × Int × Int → Option R) (kA : Int → Option R) (kB : Unit → Option R) : f_s_l2Negate_k0 g2 s.1 s.2.1 s.2.2.1 s.2.2.2 kN kA = (f_s_l2Negate_r0 g2 s).bind (Ro.el kN kA kB) := by
  simp only [f_s_l2Negate_k0, f_s_l2Negate_r0, brB, someB, noneB, Ro.el]
theorem f_s_l2Negate_e0 (g2 : List Sc) (s : Int × Int × Int × Int) : EC E0 f_s_l2Negate_M H0 f_s_l2Negate_F (asL (noL)) 0 (bodyOf Try.f157 0) (f_s_l2Negate_fr0 g2 s) (done (klOf f_s_l2Negate_F 0)) = f_s_l2Negate_k0 g2 s.1 s.2.1 s.2.2.1 s.2.2.2 (fun s => some (.norm, f_s_l2Negate_fr0 g2 s)) (fun e => some (f_s_l2Negate_x0_1 g2 e)) := by kernel_rfl
theorem f_s_l2Negate_l0 (g2 : List Sc) : ∀ s r, loopL (f_s_l2Negate_r0 g2) s = some r → LS Try.prog f_s_l2Negate_F (bodyOf Try.f157 0) (f_s_l2Negate_fr0 g2 s) (enX (f_s_l2Negate_x0_1 g2) (f_s_l2Negate_x0_2 g2) r) :=
  loop_true E0ok f_s_l2Negate_Mt (noL_true) f_s_l2Negate_o (fun _ h => by cases h) (fun _ h => by cases h) (fun s => (f_s_l2Negate_e0 g2 s).trans (f_s_l2Negate_p0 g2 s _ _ (fun e => some (f_s_l2Negate_x0_2 g2 e))))
def f_s_l2Negate_t0 (σ : List AV) : Option (Bool × Bool × (X × List AV) × (X × List AV)) := match dec f_s_l2Negate_h0 σ with
  | some [.i x1, .l g2, .i z5, .i step6, .i i7] => some (isOne (loopL (f_s_l2Negate_r0 g2) (x1, z5, step6, i7)), true, f_s_l2Negate_x0_1 g2 (getOne 0 (loopL (f_s_l2Negate_r0 g2) (x1, z5, step6, i7))), (.ret, []))
  | _ => none
theorem f_s_l2Negate_tt0 : TTrue Try.prog f_s_l2Negate_F Try.f157 0 (f_s_l2Negate_t0) := by
  intro σ p r r' h
  unfold f_s_l2Negate_t0 at h
  split at h
  · rename_i hd
    rw [← dec_enc hd]
    exact row1 (f_s_l2Negate_l0 _ _) h
  · cases h
theorem f_s_l2Negate_p {R : Type} (g0 : List Sc) (x1 : Int) (kR : Int → Option R) : f_s_l2Negate_k g0 x1 kR = (f_s_l2Negate_k g0 x1 some).bind kR := by
  simp only [f_s_l2Negate_k, bl1B, someB]
theorem f_s_l2Negate_e (g0 : List Sc) (x1 : Int) : runFn E0 f_s_l2Negate_M H0 f_s_l2Negate_F (asL (addL 0 (f_s_l2Negate_t0) (noL))) Try.f157 (f_s_l2Negate_a g0 x1) (f_s_l2Negate_i g0 x1) = f_s_l2Negate_k g0 x1 (fun r => some (f_s_l2Negate_en r)) := by kernel_rfl
theorem f_s_l2Negate_ok (g0 : List Sc) (x1 : Int) (r : Int) (h : f_s_l2Negate g0 x1 = some r) : CS Try.prog 157 (f_s_l2Negate_a g0 x1) (f_s_l2Negate_i g0 x1) (f_s_l2Negate_en r).1 (f_s_l2Negate_en r).2 :=
  fn_true (Gk := fun k => f_s_l2Negate_k g0 x1 k) (en := f_s_l2Negate_en) Try.func157 E0ok f_s_l2Negate_Mt (addL_true (f_s_l2Negate_tt0) (noL_true)) f_s_l2Negate_o (f_s_l2Negate_e g0 x1) (f_s_l2Negate_p g0 x1) h
def f_s_l2Negate_c : CRow := fun args inh => match dec2 [.p .gr, .p (.int .i64)] [] args inh with
  | some ([.l g0, .i x1], []) => some ((f_s_l2Negate g0 x1).isSome, (f_s_l2Negate_en ((f_s_l2Negate g0 x1).getD 0)).1, (f_s_l2Negate_en ((f_s_l2Negate g0 x1).getD 0)).2)
  | _ => none
theorem f_s_l2Negate_cc : CTrue Try.prog 157 f_s_l2Negate_c := by
  intro args inh rs out h
  unfold f_s_l2Negate_c at h
  split at h
  · rename_i hd
    obtain ⟨h1, h2⟩ := dec2_enc hd
    rw [← h1, ← h2]
    exact rowC (f_s_l2Negate_ok _ _) h
  · cases h

def f_s_QuadruplesOf_F : Fi := { nv := 0, nc := 0, m := 0, vt := [], kl := [(4, ([0, 3, 4, 10, 11, 12, 13, 14, 15, 16, 17, 18, 19, 20, 21, 22, 23, 24, 25, 26, 27, 28, 29, 30, 31, 32, 33, 34, 35, 36, 37, 38, 39, 40, 41, 42, 43, 44, 45, 46, 47, 48, 49, 50, 51, 52, 53, 54, 55, 56, 57, 58, 59], [0, 3, 4, 9, 10, 11, 12, 13, 14, 15, 16, 17, 18, 19, 20, 21, 22, 23, 24, 25, 26, 27, 28, 29, 30, 31, 32, 33, 34, 35, 36, 37, 38, 39, 40, 41, 42, 43, 44, 45, 46, 47, 48, 49, 50, 51, 52, 53, 54, 55, 56, 57, 58, 59], [0, 1, 2, 3, 5, 6, 7, 8, 9, 10, 11, 12, 13, 14, 15, 16, 17, 18, 19, 20, 21, 22, 23, 24, 25, 26, 27, 28, 29, 30, 31, 32, 33, 34, 35, 36, 37, 38, 39, 40, 41, 42, 43, 44, 45, 46, 47, 48, 49, 50, 51, 52, 53, 54, 55, 56, 57, 58, 59])), (2, ([0, 3, 4, 9, 10, 11, 12, 13, 14, 15, 16, 17, 18, 19, 20, 21, 22, 23, 24, 25, 26, 27, 28, 29, 30, 31, 32, 33, 34, 35, 36, 37, 38, 39, 40, 41, 42, 43, 44, 45, 46, 47, 48, 49, 50, 51, 52, 53, 54, 55, 56, 57, 58, 59], [0, 3, 4, 9, 10, 11, 12, 13, 14, 15, 16, 17, 18, 19, 20, 21, 22, 23, 24, 25, 26, 27, 28, 29, 30, 31, 32, 33, 34, 35, 36, 37, 38, 39, 40, 41, 42, 43, 44, 45, 46, 47, 48, 49, 50, 51, 52, 53, 54, 55, 56, 57, 58, 59], [0, 1, 2, 3, 5, 6, 7, 8, 9, 10, 11, 12, 13, 14, 15, 16, 17, 18, 19, 20, 21, 22, 23, 24, 25, 26, 27, 28, 29, 30, 31, 32, 33, 34, 35, 36, 37, 38, 39, 40, 41, 42, 43, 44, 45, 46, 47, 48, 49, 50, 51, 52, 53, 54, 55, 56, 57, 58, 59])), (0, ([0, 3, 4, 8, 9, 10, 11, 12, 13, 14, 15, 16, 17, 18, 19, 20, 21, 22, 23, 24, 25, 26, 27, 28, 29, 30, 31, 32, 33, 34, 35, 36, 37, 38, 39, 40, 41, 42, 43, 44, 45, 46, 47, 48, 49, 50, 51, 52, 53, 54, 55, 56, 57, 58, 59], [0, 3, 4, 9, 10, 11, 12, 13, 14, 15, 16, 17, 18, 19, 20, 21, 22, 23, 24, 25, 26, 27, 28, 29, 30, 31, 32, 33, 34, 35, 36, 37, 38, 39, 40, 41, 42, 43, 44, 45, 46, 47, 48, 49, 50, 51, 52, 53, 54, 55, 56, 57, 58, 59], [0, 1, 2, 3, 5, 6, 7, 8, 9, 10, 11, 12, 13, 14, 15, 16, 17, 18, 19, 20, 21, 22, 23, 24, 25, 26, 27, 28, 29, 30, 31, 32, 33, 34, 35, 36, 37, 38, 39, 40, 41, 42, 43, 44, 45, 46, 47, 48, 49, 50, 51, 52, 53, 54, 55, 56, 57, 58, 59]))], sk := [], mvs := [], fz := [] }
def f_s_QuadruplesOf_a (g0 : List Sc) (a1 : Int) : List AV := enc [.p .gr, .p (.int .i64)] [.l g0, .i a1]
def f_s_QuadruplesOf_i (g0 : List Sc) (a1 : Int) : List AV := enc [] []
def f_s_QuadruplesOf_en (r : Int) : List AV × List AV := (enc [.p (.int .i64)] [.i r], enc [] [])
def f_s_QuadruplesOf_M : Calling := addC 124 f_s_IsSet_c (addC 136 f_s_l3List_c (addC 156 f_s_l2Add_c (addC 157 f_s_l2Negate_c (noC))))
theorem f_s_QuadruplesOf_Mt : CallOk Try.prog (f_s_QuadruplesOf_M) := addC_true f_s_IsSet_cc (addC_true f_s_l3List_cc (addC_true f_s_l2Add_cc (addC_true f_s_l2Negate_cc (noC_true))))
theorem f_s_QuadruplesOf_o : loopsOnce Try.f45 = true := by kernel_rfl
def f_s_QuadruplesOf_h4 : List Sh := [.u, .p (.int .i64), .p .el, .u, .u, .own 3, .p (.int .i64), .p (.int .i64), .p (.int .i64), .p (.int .i64), .u, .u, .u, .u, .u, .u, .u, .u, .u, .u, .u, .u, .u, .u, .u, .u, .u, .u, .u, .u, .u, .u, .u, .u, .u, .u, .u, .u, .u, .u, .u, .u, .u, .u, .u, .u, .u, .u, .u, .u, .u, .u, .u, .u, .u, .u, .u, .u, .u, .u]
def f_s_QuadruplesOf_fr4 (a1 : Int) (g2 : List Sc) (i7 : Int) (j8 : Int) (s : List Sc × Int × Int) : List AV := enc f_s_QuadruplesOf_h4 [.i a1, .l g2, .l s.1, .i s.2.1, .i i7, .i j8, .i s.2.2]
def f_s_QuadruplesOf_g4_1 : List Sh := [.u, .p (.int .i64), .p .el, .u, .u, .own 3, .p (.int .i64), .p (.int .i64), .p (.int .i64), .u, .u, .u, .u, .u, .u, .u, .u, .u, .u, .u, .u, .u, .u, .u, .u, .u, .u, .u, .u, .u, .u, .u, .u, .u, .u, .u, .u, .u, .u, .u, .u, .u, .u, .u, .u, .u, .u, .u, .u, .u, .u, .u, .u, .u, .u, .u, .u, .u, .u, .u]
def f_s_QuadruplesOf_x4_1 (a1 : Int) (g2 : List Sc) (i7 : Int) (j8 : Int) (e : List Sc × Int) : X × List AV := (.out 4, enc f_s_QuadruplesOf_g4_1 [.i a1, .l g2, .l e.1, .i e.2, .i i7, .i j8])
def f_s_QuadruplesOf_x4_2 (a1 : Int) (g2 : List Sc) (i7 : Int) (j8 : Int) (_e : Unit) : X × List AV := (.ret, [])
theorem f_s_QuadruplesOf_p4 {R : Type} (a1 : Int) (g2 : List Sc) (i7 : Int) (j8 : Int) (s : List Sc × Int × Int) (kN : List Sc × Int × Int → Option R) (kA : List Sc × Int → Option R) (kB : Unit → Option R) : f_s_QuadruplesOf_k4 a1 g2 i7 j8 s.1 s.2.1 s.2.2 kN kA = (f_s_QuadruplesOf_r4 a1 g2 i7 j8 s).bind (Ro.el kN kA kB) := by
  simp only [f_s_QuadruplesOf_k4, f_s_QuadruplesOf_r4, brB, boB, someB, noneB, Ro.el]
theorem f_s_QuadruplesOf_e4 (a1 : Int) (g2 : List Sc) (i7 : Int) (j8 : Int) (s : List Sc × Int × Int) : EC E0 f_s_QuadruplesOf_M H0 f_s_QuadruplesOf_F (asL (noL)) 4 (bodyOf Try.f45 4) (f_s_QuadruplesOf_fr4 a1 g2 i7 j8 s) (done (klOf f_s_QuadruplesOf_F 4)) = f_s_QuadruplesOf_k4 a1 g2 i7 j8 s.1 s.2.1 s.2.2 (fun s => some (.norm, f_s_QuadruplesOf_fr4 a1 g2 i7 j8 s)) (fun e => some (f_s_QuadruplesOf_x4_1 a1 g2 i7 j8 e)) := by kernel_rfl
theorem f_s_QuadruplesOf_l4 (a1 : Int) (g2 : List Sc) (i7 : Int) (j8 : Int) : ∀ s r, loopL (f_s_QuadruplesOf_r4 a1 g2 i7 j8) s = some r → LS Try.prog f_s_QuadruplesOf_F (bodyOf Try.f45 4) (f_s_QuadruplesOf_fr4 a1 g2 i7 j8 s) (enX (f_s_QuadruplesOf_x4_1 a1 g2 i7 j8) (f_s_QuadruplesOf_x4_2 a1 g2 i7 j8) r) :=
  loop_true E0ok f_s_QuadruplesOf_Mt (noL_true) f_s_QuadruplesOf_o (fun _ h => by cases h) (fun _ h => by cases h) (fun s => (f_s_QuadruplesOf_e4 a1 g2 i7 j8 s).trans (f_s_QuadruplesOf_p4 a1 g2 i7 j8 s _ _ (fun e => some (f_s_QuadruplesOf_x4_2 a1 g2 i7 j8 e))))
def f_s_QuadruplesOf_t4 (σ : List AV) : Option (Bool × Bool × (X × List AV) × (X × List AV)) := match dec f_s_QuadruplesOf_h4 σ with
  | some [.i a1, .l g2, .l l5, .i n6, .i i7, .i j8, .i k9] => some (isOne (loopL (f_s_QuadruplesOf_r4 a1 g2 i7 j8) (l5, n6, k9)), true, f_s_QuadruplesOf_x4_1 a1 g2 i7 j8 (getOne ([], 0) (loopL (f_s_QuadruplesOf_r4 a1 g2 i7 j8) (l5, n6, k9))), (.ret, []))
  | _ => none
theorem f_s_QuadruplesOf_tt4 : TTrue Try.prog f_s_QuadruplesOf_F Try.f45 4 (f_s_QuadruplesOf_t4) := by
  intro σ p r r' h
  unfold f_s_QuadruplesOf_t4 at h
  split at h
  · rename_i hd
    rw [← dec_enc hd]
    exact row1 (f_s_QuadruplesOf_l4 _ _ _ _ _) h
  · cases h
def f_s_QuadruplesOf_h2 : List Sh := [.u, .p (.int .i64), .p .el, .u, .u, .own 3, .p (.int .i64), .p (.int .i64), .p (.int .i64), .u, .u, .u, .u, .u, .u, .u, .u, .u, .u, .u, .u, .u, .u, .u, .u, .u, .u, .u, .u, .u, .u, .u, .u, .u, .u, .u, .u, .u, .u, .u, .u, .u, .u, .u, .u, .u, .u, .u, .u, .u, .u, .u, .u, .u, .u, .u, .u, .u, .u, .u]
def f_s_QuadruplesOf_fr2 (a1 : Int) (g2 : List Sc) (i7 : Int) (s : List Sc × Int × Int) : List AV := enc f_s_QuadruplesOf_h2 [.i a1, .l g2, .l s.1, .i s.2.1, .i i7, .i s.2.2]
def f_s_QuadruplesOf_g2_1 : List Sh := [.u, .p (.int .i64), .p .el, .u, .u, .own 3, .p (.int .i64), .p (.int .i64), .p (.int .i64), .u, .u, .u, .u, .u, .u, .u, .u, .u, .u, .u, .u, .u, .u, .u, .u, .u, .u, .u, .u, .u, .u, .u, .u, .u, .u, .u, .u, .u, .u, .u, .u, .u, .u, .u, .u, .u, .u, .u, .u, .u, .u, .u, .u, .u, .u, .u, .u, .u, .u, .u]
def f_s_QuadruplesOf_x2_1 (a1 : Int) (g2 : List Sc) (i7 : Int) (e : List Sc × Int × Int) : X × List AV := (.out 2, enc f_s_QuadruplesOf_g2_1 [.i a1, .l g2, .l e.1, .i e.2.1, .i i7, .i e.2.2])
def f_s_QuadruplesOf_x2_2 (a1 : Int) (g2 : List Sc) (i7 : Int) (_e : Unit) : X × List AV := (.ret, [])
theorem f_s_QuadruplesOf_p2 {R : Type} (a1 : Int) (g2 : List Sc) (i7 : Int) (s : List Sc × Int × Int) (kN : List Sc × Int × Int → Option R) (kA : List Sc × Int × Int → Option R) (kB : Unit → Option R) : f_s_QuadruplesOf_k2 a1 g2 i7 s.1 s.2.1 s.2.2 kN kA = (f_s_QuadruplesOf_r2 a1 g2 i7 s).bind (Ro.el kN kA kB) := by
  simp only [f_s_QuadruplesOf_k2, f_s_QuadruplesOf_r2, brB, bl1B, someB, Ro.el]
theorem f_s_QuadruplesOf_e2 (a1 : Int) (g2 : List Sc) (i7 : Int) (s : List Sc × Int × Int) : EC E0 f_s_QuadruplesOf_M H0 f_s_QuadruplesOf_F (asL (addL 4 (f_s_QuadruplesOf_t4) (noL))) 2 (bodyOf Try.f45 2) (f_s_QuadruplesOf_fr2 a1 g2 i7 s) (done (klOf f_s_QuadruplesOf_F 2)) = f_s_QuadruplesOf_k2 a1 g2 i7 s.1 s.2.1 s.2.2 (fun s => some (.norm, f_s_QuadruplesOf_fr2 a1 g2 i7 s)) (fun e => some (f_s_QuadruplesOf_x2_1 a1 g2 i7 e)) := by kernel_rfl
theorem f_s_QuadruplesOf_l2 (a1 : Int) (g2 : List Sc) (i7 : Int) : ∀ s r, loopL (f_s_QuadruplesOf_r2 a1 g2 i7) s = some r → LS Try.prog f_s_QuadruplesOf_F (bodyOf Try.f45 2) (f_s_QuadruplesOf_fr2 a1 g2 i7 s) (enX (f_s_QuadruplesOf_x2_1 a1 g2 i7) (f_s_QuadruplesOf_x2_2 a1 g2 i7) r) :=
  loop_true E0ok f_s_QuadruplesOf_Mt (addL_true (f_s_QuadruplesOf_tt4) (noL_true)) f_s_QuadruplesOf_o (fun _ h => by cases h) (fun _ h => by cases h) (fun s => (f_s_QuadruplesOf_e2 a1 g2 i7 s).trans (f_s_QuadruplesOf_p2 a1 g2 i7 s _ _ (fun e => some (f_s_QuadruplesOf_x2_2 a1 g2 i7 e))))
def f_s_QuadruplesOf_t2 (σ : List AV) : Option (Bool × Bool × (X × List AV) × (X × List AV)) := match dec f_s_QuadruplesOf_h2 σ with
  | some [.i a1, .l g2, .l l5, .i n6, .i i7, .i j8] => some (isOne (loopL (f_s_QuadruplesOf_r2 a1 g2 i7) (l5, n6, j8)), true, f_s_QuadruplesOf_x2_1 a1 g2 i7 (getOne ([], 0, 0) (loopL (f_s_QuadruplesOf_r2 a1 g2 i7) (l5, n6, j8))), (.ret, []))
  | _ => none
theorem f_s_QuadruplesOf_tt2 : TTrue Try.prog f_s_QuadruplesOf_F Try.f45 2 (f_s_QuadruplesOf_t2) := by
  intro σ p r r' h
  unfold f_s_QuadruplesOf_t2 at h
  split at h
  · rename_i hd
    rw [← dec_enc hd]
    exact row1 (f_s_QuadruplesOf_l2 _ _ _ _) h
  · cases h
def f_s_QuadruplesOf_h0 : List Sh := [.u, .p (.int .i64), .p .el, .u, .u, .own 3, .p (.int .i64), .p (.int .i64), .u, .u, .u, .u, .u, .u, .u, .u, .u, .u, .u, .u, .u, .u, .u, .u, .u, .u, .u, .u, .u, .u, .u, .u, .u, .u, .u, .u, .u, .u, .u, .u, .u, .u, .u, .u, .u, .u, .u, .u, .u, .u, .u, .u, .u, .u, .u, .u, .u, .u, .u, .u]
def f_s_QuadruplesOf_fr0 (a1 : Int) (g2 : List Sc) (s : List Sc × Int × Int) : List AV := enc f_s_QuadruplesOf_h0 [.i a1, .l g2, .l s.1, .i s.2.1, .i s.2.2]
def f_s_QuadruplesOf_g0_1 : List Sh := [.u, .p (.int .i64), .p .el, .u, .u, .own 3, .p (.int .i64), .p (.int .i64), .u, .u, .u, .u, .u, .u, .u, .u, .u, .u, .u, .u, .u, .u, .u, .u, .u, .u, .u, .u, .u, .u, .u, .u, .u, .u, .u, .u, .u, .u, .u, .u, .u, .u, .u, .u, .u, .u, .u, .u, .u, .u, .u, .u, .u, .u, .u, .u, .u, .u, .u, .u]
def f_s_QuadruplesOf_x0_1 (a1 : Int) (g2 : List Sc) (e : List Sc × Int × Int) : X × List AV := (.out 0, enc f_s_QuadruplesOf_g0_1 [.i a1, .l g2, .l e.1, .i e.2.1, .i e.2.2])
def f_s_QuadruplesOf_x0_2 (a1 : Int) (g2 : List Sc) (_e : Unit) : X × List AV := (.ret, [])
theorem f_s_QuadruplesOf_p0 {R : Type} (a1 : Int) (g2 : List Sc) (s : List Sc × Int × Int) (kN : List Sc × Int × Int → Option R) (kA : List Sc × Int × Int → Option R) (kB : Unit → Option R) : f_s_QuadruplesOf_k0 a1 g2 s.1 s.2.1 s.2.2 kN kA = (f_s_QuadruplesOf_r0 a1 g2 s).bind (Ro.el kN kA kB) := by
  simp only [f_s_QuadruplesOf_k0, f_s_QuadruplesOf_r0, brB, bl1B, someB, Ro.el]
theorem f_s_QuadruplesOf_e0 (a1 : Int) (g2 : List Sc) (s : List Sc × Int × Int) : EC E0 f_s_QuadruplesOf_M H0 f_s_QuadruplesOf_F (asL (addL 2 (f_s_QuadruplesOf_t2) (addL 4 (f_s_QuadruplesOf_t4) (noL)))) 0 (bodyOf Try.f45 0) (f_s_QuadruplesOf_fr0 a1 g2 s) (done (klOf f_s_QuadruplesOf_F 0)) = f_s_QuadruplesOf_k0 a1 g2 s.1 s.2.1 s.2.2 (fun s => some (.norm, f_s_QuadruplesOf_fr0 a1 g2 s)) (fun e => some (f_s_QuadruplesOf_x0_1 a1 g2 e)) := by kernel_rfl
theorem f_s_QuadruplesOf_l0 (a1 : Int) (g2 : List Sc) : ∀ s r, loopL (f_s_QuadruplesOf_r0 a1 g2) s = some r → LS Try.prog f_s_QuadruplesOf_F (bodyOf Try.f45 0) (f_s_QuadruplesOf_fr0 a1 g2 s) (enX (f_s_QuadruplesOf_x0_1 a1 g2) (f_s_QuadruplesOf_x0_2 a1 g2) r) :=
  loop_true E0ok f_s_QuadruplesOf_Mt (addL_true (f_s_QuadruplesOf_tt2) (addL_true (f_s_QuadruplesOf_tt4) (noL_true))) f_s_QuadruplesOf_o (fun _ h => by cases h) (fun _ h => by cases h) (fun s => (f_s_QuadruplesOf_e0 a1 g2 s).trans (f_s_QuadruplesOf_p0 a1 g2 s _ _ (fun e => some (f_s_QuadruplesOf_x0_2 a1 g2 e))))
def f_s_QuadruplesOf_t0 (σ : List AV) : Option (Bool × Bool × (X × List AV) × (X × List AV)) := match dec f_s_QuadruplesOf_h0 σ with
  | some [.i a1, .l g2, .l l5, .i n6, .i i7] => some (isOne (loopL (f_s_QuadruplesOf_r0 a1 g2) (l5, n6, i7)), true, f_s_QuadruplesOf_x0_1 a1 g2 (getOne ([], 0, 0) (loopL (f_s_QuadruplesOf_r0 a1 g2) (l5, n6, i7))), (.ret, []))
  | _ => none
theorem f_s_QuadruplesOf_tt0 : TTrue Try.prog f_s_QuadruplesOf_F Try.f45 0 (f_s_QuadruplesOf_t0) := by
  intro σ p r r' h
  unfold f_s_QuadruplesOf_t0 at h
  split at h
  · rename_i hd
    rw [← dec_enc hd]
    exact row1 (f_s_QuadruplesOf_l0 _ _ _) h
  · cases h
theorem f_s_QuadruplesOf_p {R : Type} (g0 : List Sc) (a1 : Int) (kR : Int → Option R) : f_s_QuadruplesOf_k g0 a1 kR = (f_s_QuadruplesOf_k g0 a1 some).bind kR := by
  simp only [f_s_QuadruplesOf_k, brB, boB, bl1B, someB]
theorem f_s_QuadruplesOf_e (g0 : List Sc) (a1 : Int) : runFn E0 f_s_QuadruplesOf_M H0 f_s_QuadruplesOf_F (asL (addL 0 (f_s_QuadruplesOf_t0) (addL 2 (f_s_QuadruplesOf_t2) (addL 4 (f_s_QuadruplesOf_t4) (noL))))) Try.f45 (f_s_QuadruplesOf_a g0 a1) (f_s_QuadruplesOf_i g0 a1) = f_s_QuadruplesOf_k g0 a1 (fun r => some (f_s_QuadruplesOf_en r)) := by kernel_rfl
theorem f_s_QuadruplesOf_ok (g0 : List Sc) (a1 : Int) (r : Int) (h : f_s_QuadruplesOf g0 a1 = some r) : CS Try.prog 45 (f_s_QuadruplesOf_a g0 a1) (f_s_QuadruplesOf_i g0 a1) (f_s_QuadruplesOf_en r).1 (f_s_QuadruplesOf_en r).2 :=
  fn_true (Gk := fun k => f_s_QuadruplesOf_k g0 a1 k) (en := f_s_QuadruplesOf_en) Try.func45 E0ok f_s_QuadruplesOf_Mt (addL_true (f_s_QuadruplesOf_tt0) (addL_true (f_s_QuadruplesOf_tt2) (addL_true (f_s_QuadruplesOf_tt4) (noL_true)))) f_s_QuadruplesOf_o (f_s_QuadruplesOf_e g0 a1) (f_s_QuadruplesOf_p g0 a1) h
def f_s_QuadruplesOf_c : CRow := fun args inh => match dec2 [.p .gr, .p (.int .i64)] [] args inh with
  | some ([.l g0, .i a1], []) => some ((f_s_QuadruplesOf g0 a1).isSome, (f_s_QuadruplesOf_en ((f_s_QuadruplesOf g0 a1).getD 0)).1, (f_s_QuadruplesOf_en ((f_s_QuadruplesOf g0 a1).getD 0)).2)
  | _ => none
theorem f_s_QuadruplesOf_cc : CTrue Try.prog 45 f_s_QuadruplesOf_c := by
  intro args inh rs out h
  unfold f_s_QuadruplesOf_c at h
  split at h
  · rename_i hd
    obtain ⟨h1, h2⟩ := dec2_enc hd
    rw [← h1, ← h2]
    exact rowC (f_s_QuadruplesOf_ok _ _) h
  · cases h

def f_i_areSets_F : Fi := { nv := 0, nc := 0, m := 0, vt := [], kl := [(0, ([0, 1, 3, 4, 5, 6, 10, 11, 12, 13, 14, 15, 16, 17, 18, 19], [0, 1, 3, 4, 5, 6, 7, 8, 9, 10, 11, 12, 13, 14, 15, 16, 17, 18, 19], [0, 1, 2, 3, 5, 6, 7, 8, 9, 10, 11, 12, 13, 14, 15, 16, 17, 18, 19]))], sk := [], mvs := [], fz := [] }
def f_i_areSets_a (g0 : List Sc) (l1 : List Sc) : List AV := enc [.p .gr, .p .sl] [.l g0, .l l1]
def f_i_areSets_i (g0 : List Sc) (l1 : List Sc) : List AV := enc [] []
def f_i_areSets_en (r : Bool) : List AV × List AV := (enc [.p .boo] [.b r], enc [] [])
def f_i_areSets_M : Calling := addC 121 f_i_IsSet_c (addC 142 f_i_IsGroup_c (noC))
theorem f_i_areSets_Mt : CallOk Try.prog (f_i_areSets_M) := addC_true f_i_IsSet_cc (addC_true f_i_IsGroup_cc (noC_true))
theorem f_i_areSets_o : loopsOnce Try.f158 = true := by kernel_rfl
def f_i_areSets_h0 : List Sh := [.u, .u, .p .el, .u, .u, .u, .u, .p .sl, .p (.int .i64), .p (.int .i64), .u, .u, .u, .u, .u, .u, .u, .u, .u, .u]
def f_i_areSets_fr0 (g2 : List Sc) (t7 : List Sc) (t8 : Int) (s : Int) : List AV := enc f_i_areSets_h0 [.l g2, .l t7, .i t8, .i s]
def f_i_areSets_g0_1 : List Sh := [.u, .u, .p .el, .u, .u, .u, .u, .u, .u, .u, .u, .u, .u, .u, .u, .u, .u, .u, .u, .u]
def f_i_areSets_x0_1 (g2 : List Sc) (t7 : List Sc) (t8 : Int) (e : Unit) : X × List AV := (.out 0, enc f_i_areSets_g0_1 [.l g2])
def f_i_areSets_g0_2 : List Sh := [.u, .u, .u, .u, .p .boo, .u, .u, .u, .u, .u, .u, .u, .u, .u, .u, .u, .u, .u, .u, .u]
def f_i_areSets_x0_2 (g2 : List Sc) (t7 : List Sc) (t8 : Int) (e : Unit) : X × List AV := (.ret, enc f_i_areSets_g0_2 [.b false])
theorem f_i_areSets_p0 {R : Type} (g2 : List Sc) (t7 : List Sc) (t8 : Int) (s : Int) (kN : Int → Option R) (kA : Unit → Option R) (kB : Unit → Option R) : f_i_areSets_k0 g2 t7 t8 s kN kA kB = (f_i_areSets_r0 g2 t7 t8 s).bind (Ro.el kN kA kB) := by
  simp only [f_i_areSets_k0, f_i_areSets_r0, brB, boB, someB, noneB, Ro.el]
theorem f_i_areSets_e0 (g2 : List Sc) (t7 : List Sc) (t8 : Int) (s : Int) : EC E0 f_i_areSets_M H0 f_i_areSets_F (asL (noL)) 0 (bodyOf Try.f158 0) (f_i_areSets_fr0 g2 t7 t8 s) (done (klOf f_i_areSets_F 0)) = f_i_areSets_k0 g2 t7 t8 s (fun s => some (.norm, f_i_areSets_fr0 g2 t7 t8 s)) (fun e => some (f_i_areSets_x0_1 g2 t7 t8 e)) (fun e => some (f_i_areSets_x0_2 g2 t7 t8 e)) := by kernel_rfl
theorem f_i_areSets_l0 (g2 : List Sc) (t7 : List Sc) (t8 : Int) : ∀ s r, loopL (f_i_areSets_r0 g2 t7 t8) s = some r → LS Try.prog f_i_areSets_F (bodyOf Try.f158 0) (f_i_areSets_fr0 g2 t7 t8 s) (enX (f_i_areSets_x0_1 g2 t7 t8) (f_i_areSets_x0_2 g2 t7 t8) r) :=
  loop_true E0ok f_i_areSets_Mt (noL_true) f_i_areSets_o (fun _ h => by cases h) (fun _ h => by cases h) (fun s => (f_i_areSets_e0 g2 t7 t8 s).trans (f_i_areSets_p0 g2 t7 t8 s _ _ (fun e => some (f_i_areSets_x0_2 g2 t7 t8 e))))
def f_i_areSets_t0 (σ : List AV) : Option (Bool × Bool × (X × List AV) × (X × List AV)) := match dec f_i_areSets_h0 σ with
  | some [.l g2, .l t7, .i t8, .i t9] => some ((loopL (f_i_areSets_r0 g2 t7 t8) t9).isSome, isOne (loopL (f_i_areSets_r0 g2 t7 t8) t9), f_i_areSets_x0_1 g2 t7 t8 (getOne () (loopL (f_i_areSets_r0 g2 t7 t8) t9)), f_i_areSets_x0_2 g2 t7 t8 (getTwo () (loopL (f_i_areSets_r0 g2 t7 t8) t9)))
  | _ => none
theorem f_i_areSets_tt0 : TTrue Try.prog f_i_areSets_F Try.f158 0 (f_i_areSets_t0) := by
  intro σ p r r' h
  unfold f_i_areSets_t0 at h
  split at h
  · rename_i hd
    rw [← dec_enc hd]
    exact row2 (f_i_areSets_l0 _ _ _ _) h
  · cases h
theorem f_i_areSets_p {R : Type} (g0 : List Sc) (l1 : List Sc) (kR : Bool → Option R) : f_i_areSets_k g0 l1 kR = (f_i_areSets_k g0 l1 some).bind kR := by
  simp only [f_i_areSets_k, boB, blB, someB]
theorem f_i_areSets_e (g0 : List Sc) (l1 : List Sc) : runFn E0 f_i_areSets_M H0 f_i_areSets_F (asL (addL 0 (f_i_areSets_t0) (noL))) Try.f158 (f_i_areSets_a g0 l1) (f_i_areSets_i g0 l1) = f_i_areSets_k g0 l1 (fun r => some (f_i_areSets_en r)) := by kernel_rfl
theorem f_i_areSets_ok (g0 : List Sc) (l1 : List Sc) (r : Bool) (h : f_i_areSets g0 l1 = some r) : CS Try.prog 158 (f_i_areSets_a g0 l1) (f_i_areSets_i g0 l1) (f_i_areSets_en r).1 (f_i_areSets_en r).2 :=
  fn_true (Gk := fun k => f_i_areSets_k g0 l1 k) (en := f_i_areSets_en) Try.func158 E0ok f_i_areSets_Mt (addL_true (f_i_areSets_tt0) (noL_true)) f_i_areSets_o (f_i_areSets_e g0 l1) (f_i_areSets_p g0 l1) h
def f_i_areSets_c : CRow := fun args inh => match dec2 [.p .gr, .p .sl] [] args inh with
  | some ([.l g0, .l l1], []) => some ((f_i_areSets g0 l1).isSome, (f_i_areSets_en ((f_i_areSets g0 l1).getD false)).1, (f_i_areSets_en ((f_i_areSets g0 l1).getD false)).2)
  | _ => none
theorem f_i_areSets_cc : CTrue Try.prog 158 f_i_areSets_c := by
  intro args inh rs out h
  unfold f_i_areSets_c at h
  split at h
  · rename_i hd
    obtain ⟨h1, h2⟩ := dec2_enc hd
    rw [← h1, ← h2]
    exact rowC (f_i_areSets_ok _ _) h
  · cases h

def f_i_SumTable_F : Fi := { nv := 0, nc := 0, m := 0, vt := [], kl := [(2, ([0, 1, 4, 5, 6, 8, 10, 11, 12, 13, 14, 15, 16, 17, 18, 19, 20, 21, 22, 26, 27, 28, 29, 33, 34, 35, 36, 37, 38, 39, 40, 41, 42, 43, 44, 45, 46, 47], [0, 1, 4, 5, 6, 8, 9, 10, 11, 12, 13, 14, 15, 16, 17, 18, 19, 20, 21, 22, 26, 27, 28, 29, 30, 31, 32, 33, 34, 35, 36, 37, 38, 39, 40, 41, 42, 43, 44, 45, 46, 47], [0, 1, 2, 3, 4, 5, 7, 8, 9, 10, 11, 12, 13, 14, 15, 16, 17, 18, 19, 20, 21, 22, 23, 24, 25, 26, 27, 28, 29, 30, 31, 32, 33, 34, 35, 36, 37, 38, 39, 40, 41, 42, 43, 44, 45, 46, 47])), (0, ([0, 1, 4, 5, 6, 8, 9, 10, 11, 12, 13, 14, 15, 16, 17, 18, 19, 20, 21, 22, 26, 27, 28, 29, 30, 31, 32, 33, 34, 35, 36, 37, 38, 39, 40, 41, 42, 43, 44, 45, 46, 47], [0, 1, 4, 5, 6, 8, 9, 10, 11, 12, 13, 14, 15, 16, 17, 18, 19, 20, 21, 22, 26, 27, 28, 29, 30, 31, 32, 33, 34, 35, 36, 37, 38, 39, 40, 41, 42, 43, 44, 45, 46, 47], [0, 1, 2, 3, 4, 5, 7, 8, 9, 10, 11, 12, 13, 14, 15, 16, 17, 18, 19, 20, 21, 22, 23, 24, 25, 26, 27, 28, 29, 30, 31, 32, 33, 34, 35, 36, 37, 38, 39, 40, 41, 42, 43, 44, 45, 46, 47]))], sk := [], mvs := [], fz := [] }
def f_i_SumTable_a (g0 : List Sc) (a1 : Int) (b2 : Int) : List AV := enc [.p .gr, .p (.int .i64), .p (.int .i64)] [.l g0, .i a1, .i b2]
def f_i_SumTable_i (g0 : List Sc) (a1 : Int) (b2 : Int) : List AV := enc [] []
def f_i_SumTable_en (r : List Sc) : List AV × List AV := (enc [.p (.al 0)] [], enc [.own 3] [.l r])
def f_i_SumTable_M : Calling := addC 158 f_i_areSets_c (addC 122 f_i_OrderOf_c (addC 130 f_i_members_c (addC 155 f_i_Group_add_c (noC))))
theorem f_i_SumTable_Mt : CallOk Try.prog (f_i_SumTable_M) := addC_true f_i_areSets_cc (addC_true f_i_OrderOf_cc (addC_true f_i_members_cc (addC_true f_i_Group_add_cc (noC_true))))
theorem f_i_SumTable_o : loopsOnce Try.f159 = true := by kernel_rfl
def f_i_SumTable_h2 : List Sh := [.u, .u, .p (.int .i64), .p .el, .u, .u, .u, .own 3, .u, .p (.int .i64), .u, .u, .u, .u, .u, .u, .u, .u, .u, .u, .u, .u, .u, .own 3, .p (.int .i64), .p (.int .i64), .u, .u, .u, .u, .own 3, .p (.int .i64), .p (.int .i64), .u, .u, .u, .u, .u, .u, .u, .u, .u, .u, .u, .u, .u, .u, .u]
def f_i_SumTable_fr2 (b2 : Int) (g3 : List Sc) (x9 : Int) (t24 : Int) (t25 : Int) (t31 : Int) (s : List Sc × List Sc × List Sc × Int) : List AV := enc f_i_SumTable_h2 [.i b2, .l g3, .l s.1, .i x9, .l s.2.1, .i t24, .i t25, .l s.2.2.1, .i t31, .i s.2.2.2]
def f_i_SumTable_g2_1 : List Sh := [.u, .u, .p (.int .i64), .p .el, .u, .u, .u, .own 3, .u, .u, .u, .u, .u, .u, .u, .u, .u, .u, .u, .u, .u, .u, .u, .own 3, .p (.int .i64), .p (.int .i64), .u, .u, .u, .u, .u, .u, .u, .u, .u, .u, .u, .u, .u, .u, .u, .u, .u, .u, .u, .u, .u, .u]
def f_i_SumTable_x2_1 (b2 : Int) (g3 : List Sc) (x9 : Int) (t24 : Int) (t25 : Int) (t31 : Int) (e : List Sc × List Sc) : X × List AV := (.out 2, enc f_i_SumTable_g2_1 [.i b2, .l g3, .l e.1, .l e.2, .i t24, .i t25])
def f_i_SumTable_x2_2 (b2 : Int) (g3 : List Sc) (x9 : Int) (t24 : Int) (t25 : Int) (t31 : Int) (_e : Unit) : X × List AV := (.ret, [])
theorem f_i_SumTable_p2 {R : Type} (b2 : Int) (g3 : List Sc) (x9 : Int) (t24 : Int) (t25 : Int) (t31 : Int) (s : List Sc × List Sc × List Sc × Int) (kN : List Sc × List Sc × List Sc × Int → Option R) (kA : List Sc × List Sc → Option R) (kB : Unit → Option R) : f_i_SumTable_k2 b2 g3 x9 t24 t25 t31 s.1 s.2.1 s.2.2.1 s.2.2.2 kN kA = (f_i_SumTable_r2 b2 g3 x9 t24 t25 t31 s).bind (Ro.el kN kA kB) := by
  simp only [f_i_SumTable_k2, f_i_SumTable_r2, brB, boB, someB, noneB, Ro.el]
theorem f_i_SumTable_e2 (b2 : Int) (g3 : List Sc) (x9 : Int) (t24 : Int) (t25 : Int) (t31 : Int) (s : List Sc × List Sc × List Sc × Int) : EC E0 f_i_SumTable_M H0 f_i_SumTable_F (asL (noL)) 2 (bodyOf Try.f159 2) (f_i_SumTable_fr2 b2 g3 x9 t24 t25 t31 s) (done (klOf f_i_SumTable_F 2)) = f_i_SumTable_k2 b2 g3 x9 t24 t25 t31 s.1 s.2.1 s.2.2.1 s.2.2.2 (fun s => some (.norm, f_i_SumTable_fr2 b2 g3 x9 t24 t25 t31 s)) (fun e => some (f_i_SumTable_x2_1 b2 g3 x9 t24 t25 t31 e)) := by kernel_rfl
theorem f_i_SumTable_l2 (b2 : Int) (g3 : List Sc) (x9 : Int) (t24 : Int) (t25 : Int) (t31 : Int) : ∀ s r, loopL (f_i_SumTable_r2 b2 g3 x9 t24 t25 t31) s = some r → LS Try.prog f_i_SumTable_F (bodyOf Try.f159 2) (f_i_SumTable_fr2 b2 g3 x9 t24 t25 t31 s) (enX (f_i_SumTable_x2_1 b2 g3 x9 t24 t25 t31) (f_i_SumTable_x2_2 b2 g3 x9 t24 t25 t31) r) :=
  loop_true E0ok f_i_SumTable_Mt (noL_true) f_i_SumTable_o (fun _ h => by cases h) (fun _ h => by cases h) (fun s => (f_i_SumTable_e2 b2 g3 x9 t24 t25 t31 s).trans (f_i_SumTable_p2 b2 g3 x9 t24 t25 t31 s _ _ (fun e => some (f_i_SumTable_x2_2 b2 g3 x9 t24 t25 t31 e))))
def f_i_SumTable_t2 (σ : List AV) : Option (Bool × Bool × (X × List AV) × (X × List AV)) := match dec f_i_SumTable_h2 σ with
  | some [.i b2, .l g3, .l out7, .i x9, .l t23, .i t24, .i t25, .l t30, .i t31, .i t32] => some (isOne (loopL (f_i_SumTable_r2 b2 g3 x9 t24 t25 t31) (out7, t23, t30, t32)), true, f_i_SumTable_x2_1 b2 g3 x9 t24 t25 t31 (getOne ([], []) (loopL (f_i_SumTable_r2 b2 g3 x9 t24 t25 t31) (out7, t23, t30, t32))), (.ret, []))
  | _ => none
theorem f_i_SumTable_tt2 : TTrue Try.prog f_i_SumTable_F Try.f159 2 (f_i_SumTable_t2) := by
  intro σ p r r' h
  unfold f_i_SumTable_t2 at h
  split at h
  · rename_i hd
    rw [← dec_enc hd]
    exact row1 (f_i_SumTable_l2 _ _ _ _ _ _ _) h
  · cases h
def f_i_SumTable_h0 : List Sh := [.u, .u, .p (.int .i64), .p .el, .u, .u, .u, .own 3, .u, .u, .u, .u, .u, .u, .u, .u, .u, .u, .u, .u, .u, .u, .u, .own 3, .p (.int .i64), .p (.int .i64), .u, .u, .u, .u, .u, .u, .u, .u, .u, .u, .u, .u, .u, .u, .u, .u, .u, .u, .u, .u, .u, .u]
def f_i_SumTable_fr0 (b2 : Int) (g3 : List Sc) (t24 : Int) (s : List Sc × List Sc × Int) : List AV := enc f_i_SumTable_h0 [.i b2, .l g3, .l s.1, .l s.2.1, .i t24, .i s.2.2]
def f_i_SumTable_g0_1 : List Sh := [.u, .u, .p (.int .i64), .p .el, .u, .u, .u, .own 3, .u, .u, .u, .u, .u, .u, .u, .u, .u, .u, .u, .u, .u, .u, .u, .own 3, .p (.int .i64), .p (.int .i64), .u, .u, .u, .u, .u, .u, .u, .u, .u, .u, .u, .u, .u, .u, .u, .u, .u, .u, .u, .u, .u, .u]
def f_i_SumTable_x0_1 (b2 : Int) (g3 : List Sc) (t24 : Int) (e : List Sc × List Sc × Int) : X × List AV := (.out 0, enc f_i_SumTable_g0_1 [.i b2, .l g3, .l e.1, .l e.2.1, .i t24, .i e.2.2])
def f_i_SumTable_x0_2 (b2 : Int) (g3 : List Sc) (t24 : Int) (_e : Unit) : X × List AV := (.ret, [])
theorem f_i_SumTable_p0 {R : Type} (b2 : Int) (g3 : List Sc) (t24 : Int) (s : List Sc × List Sc × Int) (kN : List Sc × List Sc × Int → Option R) (kA : List Sc × List Sc × Int → Option R) (kB : Unit → Option R) : f_i_SumTable_k0 b2 g3 t24 s.1 s.2.1 s.2.2 kN kA = (f_i_SumTable_r0 b2 g3 t24 s).bind (Ro.el kN kA kB) := by
  simp only [f_i_SumTable_k0, f_i_SumTable_r0, brB, boB, bl1B, someB, noneB, Ro.el]
theorem f_i_SumTable_e0 (b2 : Int) (g3 : List Sc) (t24 : Int) (s : List Sc × List Sc × Int) : EC E0 f_i_SumTable_M H0 f_i_SumTable_F (asL (addL 2 (f_i_SumTable_t2) (noL))) 0 (bodyOf Try.f159 0) (f_i_SumTable_fr0 b2 g3 t24 s) (done (klOf f_i_SumTable_F 0)) = f_i_SumTable_k0 b2 g3 t24 s.1 s.2.1 s.2.2 (fun s => some (.norm, f_i_SumTable_fr0 b2 g3 t24 s)) (fun e => some (f_i_SumTable_x0_1 b2 g3 t24 e)) := by kernel_rfl
theorem f_i_SumTable_l0 (b2 : Int) (g3 : List Sc) (t24 : Int) : ∀ s r, loopL (f_i_SumTable_r0 b2 g3 t24) s = some r → LS Try.prog f_i_SumTable_F (bodyOf Try.f159 0) (f_i_SumTable_fr0 b2 g3 t24 s) (enX (f_i_SumTable_x0_1 b2 g3 t24) (f_i_SumTable_x0_2 b2 g3 t24) r) :=
  loop_true E0ok f_i_SumTable_Mt (addL_true (f_i_SumTable_tt2) (noL_true)) f_i_SumTable_o (fun _ h => by cases h) (fun _ h => by cases h) (fun s => (f_i_SumTable_e0 b2 g3 t24 s).trans (f_i_SumTable_p0 b2 g3 t24 s _ _ (fun e => some (f_i_SumTable_x0_2 b2 g3 t24 e))))
def f_i_SumTable_t0 (σ : List AV) : Option (Bool × Bool × (X × List AV) × (X × List AV)) := match dec f_i_SumTable_h0 σ with
  | some [.i b2, .l g3, .l out7, .l t23, .i t24, .i t25] => some (isOne (loopL (f_i_SumTable_r0 b2 g3 t24) (out7, t23, t25)), true, f_i_SumTable_x0_1 b2 g3 t24 (getOne ([], [], 0) (loopL (f_i_SumTable_r0 b2 g3 t24) (out7, t23, t25))), (.ret, []))
  | _ => none
theorem f_i_SumTable_tt0 : TTrue Try.prog f_i_SumTable_F Try.f159 0 (f_i_SumTable_t0) := by
  intro σ p r r' h
  unfold f_i_SumTable_t0 at h
  split at h
  · rename_i hd
    rw [← dec_enc hd]
    exact row1 (f_i_SumTable_l0 _ _ _ _) h
  · cases h
theorem f_i_SumTable_p {R : Type} (g0 : List Sc) (a1 : Int) (b2 : Int) (kR : List Sc → Option R) : f_i_SumTable_k g0 a1 b2 kR = (f_i_SumTable_k g0 a1 b2 some).bind kR := by
  simp only [f_i_SumTable_k, brB, boB, bl1B, someB, noneB]
theorem f_i_SumTable_e (g0 : List Sc) (a1 : Int) (b2 : Int) : runFn E0 f_i_SumTable_M H0 f_i_SumTable_F (asL (addL 0 (f_i_SumTable_t0) (addL 2 (f_i_SumTable_t2) (noL)))) Try.f159 (f_i_SumTable_a g0 a1 b2) (f_i_SumTable_i g0 a1 b2) = f_i_SumTable_k g0 a1 b2 (fun r => some (f_i_SumTable_en r)) := by kernel_rfl
theorem f_i_SumTable_ok (g0 : List Sc) (a1 : Int) (b2 : Int) (r : List Sc) (h : f_i_SumTable g0 a1 b2 = some r) : CS Try.prog 159 (f_i_SumTable_a g0 a1 b2) (f_i_SumTable_i g0 a1 b2) (f_i_SumTable_en r).1 (f_i_SumTable_en r).2 :=
  fn_true (Gk := fun k => f_i_SumTable_k g0 a1 b2 k) (en := f_i_SumTable_en) Try.func159 E0ok f_i_SumTable_Mt (addL_true (f_i_SumTable_tt0) (addL_true (f_i_SumTable_tt2) (noL_true))) f_i_SumTable_o (f_i_SumTable_e g0 a1 b2) (f_i_SumTable_p g0 a1 b2) h
def f_i_SumTable_c : CRow := fun args inh => match dec2 [.p .gr, .p (.int .i64), .p (.int .i64)] [] args inh with
  | some ([.l g0, .i a1, .i b2], []) => some ((f_i_SumTable g0 a1 b2).isSome, (f_i_SumTable_en ((f_i_SumTable g0 a1 b2).getD [])).1, (f_i_SumTable_en ((f_i_SumTable g0 a1 b2).getD [])).2)
  | _ => none
theorem f_i_SumTable_cc : CTrue Try.prog 159 f_i_SumTable_c := by
  intro args inh rs out h
  unfold f_i_SumTable_c at h
  split at h
  · rename_i hd
    obtain ⟨h1, h2⟩ := dec2_enc hd
    rw [← h1, ← h2]
    exact rowC (f_i_SumTable_ok _ _ _) h
  · cases h

def f_i_EnergyOf_F : Fi := { nv := 0, nc := 0, m := 0, vt := [], kl := [(0, ([0, 1, 2, 3, 4, 5, 6, 8, 9, 10, 11, 12, 13, 14, 15, 16, 17, 18, 22, 23, 24, 25, 26, 27, 28, 29, 30, 31], [0, 1, 2, 3, 4, 5, 6, 8, 9, 10, 11, 12, 13, 14, 15, 16, 17, 18, 19, 20, 21, 22, 23, 24, 25, 26, 27, 28, 29, 30, 31], [0, 1, 2, 3, 4, 5, 7, 8, 9, 10, 11, 12, 13, 14, 15, 16, 17, 18, 19, 20, 21, 22, 23, 24, 25, 26, 27, 28, 29, 30, 31]))], sk := [], mvs := [], fz := [] }
def f_i_EnergyOf_a (g0 : List Sc) (a1 : Int) (b2 : Int) : List AV := enc [.p .gr, .p (.int .i64), .p (.int .i64)] [.l g0, .i a1, .i b2]
def f_i_EnergyOf_i (g0 : List Sc) (a1 : Int) (b2 : Int) : List AV := enc [] []
def f_i_EnergyOf_en (r : Int) : List AV × List AV := (enc [.p (.int .i64)] [.i r], enc [] [])
def f_i_EnergyOf_M : Calling := addC 158 f_i_areSets_c (addC 159 f_i_SumTable_c (noC))
theorem f_i_EnergyOf_Mt : CallOk Try.prog (f_i_EnergyOf_M) := addC_true f_i_areSets_cc (addC_true f_i_SumTable_cc (noC_true))
theorem f_i_EnergyOf_o : loopsOnce Try.f46 = true := by kernel_rfl
def f_i_EnergyOf_h0 : List Sh := [.u, .u, .u, .u, .u, .u, .u, .p (.int .i64), .u, .u, .u, .u, .u, .u, .u, .u, .u, .u, .u, .own 3, .p (.int .i64), .p (.int .i64), .u, .u, .u, .u, .u, .u, .u, .u, .u, .u]
def f_i_EnergyOf_fr0 (t20 : Int) (s : Int × List Sc × Int) : List AV := enc f_i_EnergyOf_h0 [.i s.1, .l s.2.1, .i t20, .i s.2.2]
def f_i_EnergyOf_g0_1 : List Sh := [.u, .u, .u, .u, .u, .u, .u, .p (.int .i64), .u, .u, .u, .u, .u, .u, .u, .u, .u, .u, .u, .u, .u, .u, .u, .u, .u, .u, .u, .u, .u, .u, .u, .u]
def f_i_EnergyOf_x0_1 (t20 : Int) (e : Int) : X × List AV := (.out 0, enc f_i_EnergyOf_g0_1 [.i e])
def f_i_EnergyOf_x0_2 (t20 : Int) (_e : Unit) : X × List AV := (.ret, [])
theorem f_i_EnergyOf_p0 {R : Type} (t20 : Int) (s : Int × List Sc × Int) (kN : Int × List Sc × Int → Option R) (kA : Int → Option R) (kB : Unit → Option R) : f_i_EnergyOf_k0 t20 s.1 s.2.1 s.2.2 kN kA = (f_i_EnergyOf_r0 t20 s).bind (Ro.el kN kA kB) := by
  simp only [f_i_EnergyOf_k0, f_i_EnergyOf_r0, brB, someB, noneB, Ro.el]
theorem f_i_EnergyOf_e0 (t20 : Int) (s : Int × List Sc × Int) : EC E0 f_i_EnergyOf_M H0 f_i_EnergyOf_F (asL (noL)) 0 (bodyOf Try.f46 0) (f_i_EnergyOf_fr0 t20 s) (done (klOf f_i_EnergyOf_F 0)) = f_i_EnergyOf_k0 t20 s.1 s.2.1 s.2.2 (fun s => some (.norm, f_i_EnergyOf_fr0 t20 s)) (fun e => some (f_i_EnergyOf_x0_1 t20 e)) := by kernel_rfl
theorem f_i_EnergyOf_l0 (t20 : Int) : ∀ s r, loopL (f_i_EnergyOf_r0 t20) s = some r → LS Try.prog f_i_EnergyOf_F (bodyOf Try.f46 0) (f_i_EnergyOf_fr0 t20 s) (enX (f_i_EnergyOf_x0_1 t20) (f_i_EnergyOf_x0_2 t20) r) :=
  loop_true E0ok f_i_EnergyOf_Mt (noL_true) f_i_EnergyOf_o (fun _ h => by cases h) (fun _ h => by cases h) (fun s => (f_i_EnergyOf_e0 t20 s).trans (f_i_EnergyOf_p0 t20 s _ _ (fun e => some (f_i_EnergyOf_x0_2 t20 e))))
def f_i_EnergyOf_t0 (σ : List AV) : Option (Bool × Bool × (X × List AV) × (X × List AV)) := match dec f_i_EnergyOf_h0 σ with
  | some [.i n7, .l t19, .i t20, .i t21] => some (isOne (loopL (f_i_EnergyOf_r0 t20) (n7, t19, t21)), true, f_i_EnergyOf_x0_1 t20 (getOne 0 (loopL (f_i_EnergyOf_r0 t20) (n7, t19, t21))), (.ret, []))
  | _ => none
theorem f_i_EnergyOf_tt0 : TTrue Try.prog f_i_EnergyOf_F Try.f46 0 (f_i_EnergyOf_t0) := by
  intro σ p r r' h
  unfold f_i_EnergyOf_t0 at h
  split at h
  · rename_i hd
    rw [← dec_enc hd]
    exact row1 (f_i_EnergyOf_l0 _ _) h
  · cases h
theorem f_i_EnergyOf_p {R : Type} (g0 : List Sc) (a1 : Int) (b2 : Int) (kR : Int → Option R) : f_i_EnergyOf_k g0 a1 b2 kR = (f_i_EnergyOf_k g0 a1 b2 some).bind kR := by
  simp only [f_i_EnergyOf_k, brB, boB, bl1B, someB]
theorem f_i_EnergyOf_e (g0 : List Sc) (a1 : Int) (b2 : Int) : runFn E0 f_i_EnergyOf_M H0 f_i_EnergyOf_F (asL (addL 0 (f_i_EnergyOf_t0) (noL))) Try.f46 (f_i_EnergyOf_a g0 a1 b2) (f_i_EnergyOf_i g0 a1 b2) = f_i_EnergyOf_k g0 a1 b2 (fun r => some (f_i_EnergyOf_en r)) := by kernel_rfl
theorem f_i_EnergyOf_ok (g0 : List Sc) (a1 : Int) (b2 : Int) (r : Int) (h : f_i_EnergyOf g0 a1 b2 = some r) : CS Try.prog 46 (f_i_EnergyOf_a g0 a1 b2) (f_i_EnergyOf_i g0 a1 b2) (f_i_EnergyOf_en r).1 (f_i_EnergyOf_en r).2 :=
  fn_true (Gk := fun k => f_i_EnergyOf_k g0 a1 b2 k) (en := f_i_EnergyOf_en) Try.func46 E0ok f_i_EnergyOf_Mt (addL_true (f_i_EnergyOf_tt0) (noL_true)) f_i_EnergyOf_o (f_i_EnergyOf_e g0 a1 b2) (f_i_EnergyOf_p g0 a1 b2) h
def f_i_EnergyOf_c : CRow := fun args inh => match dec2 [.p .gr, .p (.int .i64), .p (.int .i64)] [] args inh with
  | some ([.l g0, .i a1, .i b2], []) => some ((f_i_EnergyOf g0 a1 b2).isSome, (f_i_EnergyOf_en ((f_i_EnergyOf g0 a1 b2).getD 0)).1, (f_i_EnergyOf_en ((f_i_EnergyOf g0 a1 b2).getD 0)).2)
  | _ => none
theorem f_i_EnergyOf_cc : CTrue Try.prog 46 f_i_EnergyOf_c := by
  intro args inh rs out h
  unfold f_i_EnergyOf_c at h
  split at h
  · rename_i hd
    obtain ⟨h1, h2⟩ := dec2_enc hd
    rw [← h1, ← h2]
    exact rowC (f_i_EnergyOf_ok _ _ _) h
  · cases h

def f_s_l3Bits_F : Fi := { nv := 0, nc := 0, m := 0, vt := [], kl := [(0, ([0, 1, 2, 5, 6, 7, 8, 9, 10, 11, 12, 13, 14], [0, 1, 2, 4, 5, 6, 7, 8, 9, 10, 11, 12, 13, 14], [0, 1, 3, 4, 5, 6, 7, 8, 9, 10, 11, 12, 13, 14]))], sk := [], mvs := [], fz := [] }
def f_s_l3Bits_a (a0 : Int) : List AV := enc [.p (.int .i64)] [.i a0]
def f_s_l3Bits_i (a0 : Int) : List AV := enc [] []
def f_s_l3Bits_en (r : Int) : List AV × List AV := (enc [.p (.int .i64)] [.i r], enc [] [])
def f_s_l3Bits_M : Calling := noC
theorem f_s_l3Bits_Mt : CallOk Try.prog (f_s_l3Bits_M) := noC_true
theorem f_s_l3Bits_o : loopsOnce Try.f131 = true := by kernel_rfl
def f_s_l3Bits_h0 : List Sh := [.u, .u, .u, .p (.int .i64), .p (.int .i64), .u, .u, .u, .u, .u, .u, .u, .u, .u, .u]
def f_s_l3Bits_fr0 (s : Int × Int) : List AV := enc f_s_l3Bits_h0 [.i s.1, .i s.2]
def f_s_l3Bits_g0_1 : List Sh := [.u, .u, .u, .p (.int .i64), .u, .u, .u, .u, .u, .u, .u, .u, .u, .u, .u]
def f_s_l3Bits_x0_1 (e : Int) : X × List AV := (.out 0, enc f_s_l3Bits_g0_1 [.i e])
def f_s_l3Bits_x0_2 (_e : Unit) : X × List AV := (.ret, [])
theorem f_s_l3Bits_p0 {R : Type} (s : Int × Int) (kN : Int × Int → Option R) (kA : Int → Option R) (kB : Unit → Option R) : f_s_l3Bits_k0 s.1 s.2 kN kA = (f_s_l3Bits_r0 s).bind (Ro.el kN kA kB) := by
  simp only [f_s_l3Bits_k0, f_s_l3Bits_r0, brB, someB, Ro.el]
theorem f_s_l3Bits_e0 (s : Int × Int) : EC E0 f_s_l3Bits_M H0 f_s_l3Bits_F (asL (noL)) 0 (bodyOf Try.f131 0) (f_s_l3Bits_fr0 s) (done (klOf f_s_l3Bits_F 0)) = f_s_l3Bits_k0 s.1 s.2 (fun s => some (.norm, f_s_l3Bits_fr0 s)) (fun e => some (f_s_l3Bits_x0_1 e)) := by kernel_rfl
theorem f_s_l3Bits_l0 : ∀ s r, loopL (f_s_l3Bits_r0) s = some r → LS Try.prog f_s_l3Bits_F (bodyOf Try.f131 0) (f_s_l3Bits_fr0 s) (enX (f_s_l3Bits_x0_1) (f_s_l3Bits_x0_2) r) :=
  loop_true E0ok f_s_l3Bits_Mt (noL_true) f_s_l3Bits_o (fun _ h => by cases h) (fun _ h => by cases h) (fun s => (f_s_l3Bits_e0 s).trans (f_s_l3Bits_p0 s _ _ (fun e => some (f_s_l3Bits_x0_2 e))))
def f_s_l3Bits_t0 (σ : List AV) : Option (Bool × Bool × (X × List AV) × (X × List AV)) := match dec f_s_l3Bits_h0 σ with
  | some [.i n3, .i x4] => some (isOne (loopL (f_s_l3Bits_r0) (n3, x4)), true, f_s_l3Bits_x0_1 (getOne 0 (loopL (f_s_l3Bits_r0) (n3, x4))), (.ret, []))
  | _ => none
theorem f_s_l3Bits_tt0 : TTrue Try.prog f_s_l3Bits_F Try.f131 0 (f_s_l3Bits_t0) := by
  intro σ p r r' h
  unfold f_s_l3Bits_t0 at h
  split at h
  · rename_i hd
    rw [← dec_enc hd]
    exact row1 (f_s_l3Bits_l0 _) h
  · cases h
theorem f_s_l3Bits_p {R : Type} (a0 : Int) (kR : Int → Option R) : f_s_l3Bits_k a0 kR = (f_s_l3Bits_k a0 some).bind kR := by
  simp only [f_s_l3Bits_k, bl1B, someB]
theorem f_s_l3Bits_e (a0 : Int) : runFn E0 f_s_l3Bits_M H0 f_s_l3Bits_F (asL (addL 0 (f_s_l3Bits_t0) (noL))) Try.f131 (f_s_l3Bits_a a0) (f_s_l3Bits_i a0) = f_s_l3Bits_k a0 (fun r => some (f_s_l3Bits_en r)) := by kernel_rfl
theorem f_s_l3Bits_ok (a0 : Int) (r : Int) (h : f_s_l3Bits a0 = some r) : CS Try.prog 131 (f_s_l3Bits_a a0) (f_s_l3Bits_i a0) (f_s_l3Bits_en r).1 (f_s_l3Bits_en r).2 :=
  fn_true (Gk := fun k => f_s_l3Bits_k a0 k) (en := f_s_l3Bits_en) Try.func131 E0ok f_s_l3Bits_Mt (addL_true (f_s_l3Bits_tt0) (noL_true)) f_s_l3Bits_o (f_s_l3Bits_e a0) (f_s_l3Bits_p a0) h
def f_s_l3Bits_c : CRow := fun args inh => match dec2 [.p (.int .i64)] [] args inh with
  | some ([.i a0], []) => some ((f_s_l3Bits a0).isSome, (f_s_l3Bits_en ((f_s_l3Bits a0).getD 0)).1, (f_s_l3Bits_en ((f_s_l3Bits a0).getD 0)).2)
  | _ => none
theorem f_s_l3Bits_cc : CTrue Try.prog 131 f_s_l3Bits_c := by
  intro args inh rs out h
  unfold f_s_l3Bits_c at h
  split at h
  · rename_i hd
    obtain ⟨h1, h2⟩ := dec2_enc hd
    rw [← h1, ← h2]
    exact rowC (f_s_l3Bits_ok _) h
  · cases h

def f_s_CountSet_F : Fi := { nv := 0, nc := 0, m := 0, vt := [], kl := [], sk := [], mvs := [], fz := [] }
def f_s_CountSet_a (g0 : List Sc) (a1 : Int) : List AV := enc [.p .gr, .p (.int .i64)] [.l g0, .i a1]
def f_s_CountSet_i (g0 : List Sc) (a1 : Int) : List AV := enc [] []
def f_s_CountSet_en (r : Int) : List AV × List AV := (enc [.p (.int .i64)] [.i r], enc [] [])
def f_s_CountSet_M : Calling := addC 124 f_s_IsSet_c (addC 131 f_s_l3Bits_c (noC))
theorem f_s_CountSet_Mt : CallOk Try.prog (f_s_CountSet_M) := addC_true f_s_IsSet_cc (addC_true f_s_l3Bits_cc (noC_true))
theorem f_s_CountSet_o : loopsOnce Try.f18 = true := by kernel_rfl
theorem f_s_CountSet_p {R : Type} (g0 : List Sc) (a1 : Int) (kR : Int → Option R) : f_s_CountSet_k g0 a1 kR = (f_s_CountSet_k g0 a1 some).bind kR := by
  simp only [f_s_CountSet_k, brB, boB, someB]
theorem f_s_CountSet_e (g0 : List Sc) (a1 : Int) : runFn E0 f_s_CountSet_M H0 f_s_CountSet_F (asL (noL)) Try.f18 (f_s_CountSet_a g0 a1) (f_s_CountSet_i g0 a1) = f_s_CountSet_k g0 a1 (fun r => some (f_s_CountSet_en r)) := by kernel_rfl
theorem f_s_CountSet_ok (g0 : List Sc) (a1 : Int) (r : Int) (h : f_s_CountSet g0 a1 = some r) : CS Try.prog 18 (f_s_CountSet_a g0 a1) (f_s_CountSet_i g0 a1) (f_s_CountSet_en r).1 (f_s_CountSet_en r).2 :=
  fn_true (Gk := fun k => f_s_CountSet_k g0 a1 k) (en := f_s_CountSet_en) Try.func18 E0ok f_s_CountSet_Mt (noL_true) f_s_CountSet_o (f_s_CountSet_e g0 a1) (f_s_CountSet_p g0 a1) h
def f_s_CountSet_c : CRow := fun args inh => match dec2 [.p .gr, .p (.int .i64)] [] args inh with
  | some ([.l g0, .i a1], []) => some ((f_s_CountSet g0 a1).isSome, (f_s_CountSet_en ((f_s_CountSet g0 a1).getD 0)).1, (f_s_CountSet_en ((f_s_CountSet g0 a1).getD 0)).2)
  | _ => none
theorem f_s_CountSet_cc : CTrue Try.prog 18 f_s_CountSet_c := by
  intro args inh rs out h
  unfold f_s_CountSet_c at h
  split at h
  · rename_i hd
    obtain ⟨h1, h2⟩ := dec2_enc hd
    rw [← h1, ← h2]
    exact rowC (f_s_CountSet_ok _ _) h
  · cases h

def f_s_l3Two_F : Fi := { nv := 6, nc := 5, m := 0, vt := [(2, 0), (6, 1), (9, 2), (11, 5)], kl := [(100004, ([5, 6, 7, 9, 10, 14, 15, 16, 17, 18, 19, 20, 21, 22, 23, 24, 25], [1, 2, 3, 4, 5, 6, 7, 11, 12, 13, 14, 15, 16, 17, 18, 19, 20, 21, 22, 23, 24, 25], []))], sk := [], mvs := [5], fz := [], tb := [4] }
def f_s_l3Two_a (code0 : List Sc) : List AV := enc [.p .sl] [.l code0]
def f_s_l3Two_i (code0 : List Sc) : List AV := enc [] []
def f_s_l3Two_en (r : List Sc × Int × Int) : List AV × List AV := (enc [.p .gr, .p (.int .i64), .p (.int .i64)] [.l r.1, .i r.2.1, .i r.2.2], enc [] [])
def f_s_l3Two_M : Calling := addC 162 f_s_l1New_c (addC 163 f_s_l2Any_io_c (addC 164 f_s_l3Set_io_c (noC)))
theorem f_s_l3Two_Mt : CallOk Try.prog (f_s_l3Two_M) := addC_true f_s_l1New_cc (addC_true f_s_l2Any_io_cc (addC_true f_s_l3Set_io_cc (noC_true)))
theorem f_s_l3Two_o : loopsOnce Try.f160 = true := by kernel_rfl
def f_s_l3Two_hg4 : List Sh := [.p .sl, .fr 3, .p .sl, .p (.int .i64), .p (.int .i64), .u, .u, .u, .p (.pt 0 1), .u, .u, .p (.pt 2 3), .p (.pt 1 1), .p (.int .i64), .u, .u, .u, .u, .u, .u, .u, .u, .u, .u, .u, .u]
def f_s_l3Two_frg4 (v0 : List Sc) (v1 : List Sc) (v2 : List Sc) (v3 : Int) (v4 : Int) (t7 : Int) : List AV := enc f_s_l3Two_hg4 [.l v0, .l v1, .l v2, .i v3, .i v4, .i t7]
def f_s_l3Two_xg4 (v0 : List Sc) (v1 : List Sc) (v2 : List Sc) (v3 : Int) (v4 : Int) (t7 : Int) (e : Int) : X × List AV := (.norm, enc [.p .sl, .u, .u, .u, .u, .u, .u, .u, .p (.pt 0 1), .p (.int .i64), .p (.int .i64), .u, .u, .u, .u, .u, .u, .u, .u, .u, .u, .u, .u, .u, .u, .u] [.l v1, .i t7, .i e])
theorem f_s_l3Two_pg4 {R : Type} (v0 : List Sc) (v1 : List Sc) (v2 : List Sc) (v3 : Int) (v4 : Int) (t7 : Int) (kA : Int → Option R) : f_s_l3Two_g4_k v0 v1 v2 v3 v4 t7 kA = (f_s_l3Two_g4 v0 v1 v2 v3 v4 t7).bind kA := by
  simp only [f_s_l3Two_g4_k, f_s_l3Two_g4, boB, someB]
theorem f_s_l3Two_bg4 : bodyOf Try.f160 100004 = .region 4 (opsAt (bodyOf Try.f160 100004)) true := by kernel_rfl
def f_s_l3Two_Dg4 : List (Array Bool) := [#[false, false, false, false, false, false, false, false], #[true, false, false, false, false, false, false, false], #[false, true, false, false, false, false, false, false], #[false, false, true, false, false, false, false, false], #[false, false, false, true, false, false, false, false], #[true, true, false, false, false, false, false, false], #[true, false, true, false, false, false, false, false], #[true, false, false, true, false, false, false, false], #[false, true, true, false, false, false, false, false], #[false, true, false, true, false, false, false, false], #[false, false, true, true, false, false, false, false], #[true, true, true, false, false, false, false, false], #[true, true, false, true, false, false, false, false], #[true, false, true, true, false, false, false, false], #[false, true, true, true, false, false, false, false], #[false, false, true, true, true, false, false, false], #[true, true, true, true, false, false, false, false], #[true, false, true, true, true, false, false, false], #[false, true, true, true, true, false, false, false], #[true, true, true, true, true, false, false, false], #[true, false, true, true, true, true, false, false], #[true, true, true, true, true, true, false, false], #[true, true, true, true, true, true, true, false], #[true, true, true, true, true, true, true, true]]
theorem f_s_l3Two_cg4 : closedB (opsAt (bodyOf Try.f160 100004)) f_s_l3Two_Dg4 = true := by kernel_rfl
def f_s_l3Two_sg4_0 (v0 : List Sc) (v1 : List Sc) (v2 : List Sc) (v3 : Int) (v4 : Int) (t7 : Int) (fr : List AV) : Option (List AV) :=
  some (setAll [] fr)
def f_s_l3Two_sg4_1 (v0 : List Sc) (v1 : List Sc) (v2 : List Sc) (v3 : Int) (v4 : Int) (t7 : Int) (fr : List AV) : Option (List AV) :=
  some (setAll [(21, .p (.gr v1))] fr)
def f_s_l3Two_sg4_2 (v0 : List Sc) (v1 : List Sc) (v2 : List Sc) (v3 : Int) (v4 : Int) (t7 : Int) (fr : List AV) : Option (List AV) :=
  some (setAll [(22, .p (.sc (Sc.n .i64 t7)))] fr)
def f_s_l3Two_sg4_4 (v0 : List Sc) (v1 : List Sc) (v2 : List Sc) (v3 : Int) (v4 : Int) (t7 : Int) (fr : List AV) : Option (List AV) :=
  some (setAll [(23, .p (.pt 2 3))] fr)
def f_s_l3Two_sg4_8 (v0 : List Sc) (v1 : List Sc) (v2 : List Sc) (v3 : Int) (v4 : Int) (t7 : Int) (fr : List AV) : Option (List AV) :=
  some (setAll [(24, .p (.gr v1))] fr)
def f_s_l3Two_sg4_3 (v0 : List Sc) (v1 : List Sc) (v2 : List Sc) (v3 : Int) (v4 : Int) (t7 : Int) (fr : List AV) : Option (List AV) :=
  some (setAll [(21, .p (.gr v1)), (22, .p (.sc (Sc.n .i64 t7)))] fr)
def f_s_l3Two_sg4_5 (v0 : List Sc) (v1 : List Sc) (v2 : List Sc) (v3 : Int) (v4 : Int) (t7 : Int) (fr : List AV) : Option (List AV) :=
  some (setAll [(21, .p (.gr v1)), (23, .p (.pt 2 3))] fr)
def f_s_l3Two_sg4_9 (v0 : List Sc) (v1 : List Sc) (v2 : List Sc) (v3 : Int) (v4 : Int) (t7 : Int) (fr : List AV) : Option (List AV) :=
  some (setAll [(21, .p (.gr v1)), (24, .p (.gr v1))] fr)
def f_s_l3Two_sg4_6 (v0 : List Sc) (v1 : List Sc) (v2 : List Sc) (v3 : Int) (v4 : Int) (t7 : Int) (fr : List AV) : Option (List AV) :=
  some (setAll [(22, .p (.sc (Sc.n .i64 t7))), (23, .p (.pt 2 3))] fr)
def f_s_l3Two_sg4_10 (v0 : List Sc) (v1 : List Sc) (v2 : List Sc) (v3 : Int) (v4 : Int) (t7 : Int) (fr : List AV) : Option (List AV) :=
  some (setAll [(22, .p (.sc (Sc.n .i64 t7))), (24, .p (.gr v1))] fr)
def f_s_l3Two_sg4_12 (v0 : List Sc) (v1 : List Sc) (v2 : List Sc) (v3 : Int) (v4 : Int) (t7 : Int) (fr : List AV) : Option (List AV) :=
  some (setAll [(23, .p (.pt 2 3)), (24, .p (.gr v1))] fr)
def f_s_l3Two_sg4_7 (v0 : List Sc) (v1 : List Sc) (v2 : List Sc) (v3 : Int) (v4 : Int) (t7 : Int) (fr : List AV) : Option (List AV) :=
  some (setAll [(21, .p (.gr v1)), (22, .p (.sc (Sc.n .i64 t7))), (23, .p (.pt 2 3))] fr)
def f_s_l3Two_sg4_11 (v0 : List Sc) (v1 : List Sc) (v2 : List Sc) (v3 : Int) (v4 : Int) (t7 : Int) (fr : List AV) : Option (List AV) :=
  some (setAll [(21, .p (.gr v1)), (22, .p (.sc (Sc.n .i64 t7))), (24, .p (.gr v1))] fr)
def f_s_l3Two_sg4_13 (v0 : List Sc) (v1 : List Sc) (v2 : List Sc) (v3 : Int) (v4 : Int) (t7 : Int) (fr : List AV) : Option (List AV) :=
  some (setAll [(21, .p (.gr v1)), (23, .p (.pt 2 3)), (24, .p (.gr v1))] fr)
def f_s_l3Two_sg4_14 (v0 : List Sc) (v1 : List Sc) (v2 : List Sc) (v3 : Int) (v4 : Int) (t7 : Int) (fr : List AV) : Option (List AV) :=
  some (setAll [(22, .p (.sc (Sc.n .i64 t7))), (23, .p (.pt 2 3)), (24, .p (.gr v1))] fr)
def f_s_l3Two_sg4_28 (v0 : List Sc) (v1 : List Sc) (v2 : List Sc) (v3 : Int) (v4 : Int) (t7 : Int) (fr : List AV) : Option (List AV) :=
  bo (f_s_l3Set_io v1 v2 v3 v4) (0, [], 0, 0) fun r5 =>
  some (setAll [(2, .p (.sl r5.2.1)), (3, .p (.sc (Sc.n .i64 r5.2.2.1))), (4, .p (.sc (Sc.n .i64 r5.2.2.2))), (23, .p (.pt 2 3)), (24, .p (.gr v1)), (25, .p (.sc (Sc.n .i64 r5.1)))] fr)
def f_s_l3Two_sg4_15 (v0 : List Sc) (v1 : List Sc) (v2 : List Sc) (v3 : Int) (v4 : Int) (t7 : Int) (fr : List AV) : Option (List AV) :=
  some (setAll [(21, .p (.gr v1)), (22, .p (.sc (Sc.n .i64 t7))), (23, .p (.pt 2 3)), (24, .p (.gr v1))] fr)
def f_s_l3Two_sg4_29 (v0 : List Sc) (v1 : List Sc) (v2 : List Sc) (v3 : Int) (v4 : Int) (t7 : Int) (fr : List AV) : Option (List AV) :=
  bo (f_s_l3Set_io v1 v2 v3 v4) (0, [], 0, 0) fun r6 =>
  some (setAll [(2, .p (.sl r6.2.1)), (3, .p (.sc (Sc.n .i64 r6.2.2.1))), (4, .p (.sc (Sc.n .i64 r6.2.2.2))), (21, .p (.gr v1)), (23, .p (.pt 2 3)), (24, .p (.gr v1)), (25, .p (.sc (Sc.n .i64 r6.1)))] fr)
def f_s_l3Two_sg4_30 (v0 : List Sc) (v1 : List Sc) (v2 : List Sc) (v3 : Int) (v4 : Int) (t7 : Int) (fr : List AV) : Option (List AV) :=
  bo (f_s_l3Set_io v1 v2 v3 v4) (0, [], 0, 0) fun r7 =>
  some (setAll [(2, .p (.sl r7.2.1)), (3, .p (.sc (Sc.n .i64 r7.2.2.1))), (4, .p (.sc (Sc.n .i64 r7.2.2.2))), (22, .p (.sc (Sc.n .i64 t7))), (23, .p (.pt 2 3)), (24, .p (.gr v1)), (25, .p (.sc (Sc.n .i64 r7.1)))] fr)
def f_s_l3Two_sg4_31 (v0 : List Sc) (v1 : List Sc) (v2 : List Sc) (v3 : Int) (v4 : Int) (t7 : Int) (fr : List AV) : Option (List AV) :=
  bo (f_s_l3Set_io v1 v2 v3 v4) (0, [], 0, 0) fun r8 =>
  some (setAll [(2, .p (.sl r8.2.1)), (3, .p (.sc (Sc.n .i64 r8.2.2.1))), (4, .p (.sc (Sc.n .i64 r8.2.2.2))), (21, .p (.gr v1)), (22, .p (.sc (Sc.n .i64 t7))), (23, .p (.pt 2 3)), (24, .p (.gr v1)), (25, .p (.sc (Sc.n .i64 r8.1)))] fr)
def f_s_l3Two_sg4_61 (v0 : List Sc) (v1 : List Sc) (v2 : List Sc) (v3 : Int) (v4 : Int) (t7 : Int) (fr : List AV) : Option (List AV) :=
  bo (f_s_l3Set_io v1 v2 v3 v4) (0, [], 0, 0) fun r9 =>
  some (setAll [(0, .p (.sl v1)), (2, .p (.sl r9.2.1)), (3, .p (.sc (Sc.n .i64 r9.2.2.1))), (4, .p (.sc (Sc.n .i64 r9.2.2.2))), (21, .p (.gr v1)), (23, .p (.pt 2 3)), (24, .p (.gr v1)), (25, .p (.sc (Sc.n .i64 r9.1)))] fr)
def f_s_l3Two_sg4_63 (v0 : List Sc) (v1 : List Sc) (v2 : List Sc) (v3 : Int) (v4 : Int) (t7 : Int) (fr : List AV) : Option (List AV) :=
  bo (f_s_l3Set_io v1 v2 v3 v4) (0, [], 0, 0) fun r10 =>
  some (setAll [(0, .p (.sl v1)), (2, .p (.sl r10.2.1)), (3, .p (.sc (Sc.n .i64 r10.2.2.1))), (4, .p (.sc (Sc.n .i64 r10.2.2.2))), (21, .p (.gr v1)), (22, .p (.sc (Sc.n .i64 t7))), (23, .p (.pt 2 3)), (24, .p (.gr v1)), (25, .p (.sc (Sc.n .i64 r10.1)))] fr)
def f_s_l3Two_sg4_127 (v0 : List Sc) (v1 : List Sc) (v2 : List Sc) (v3 : Int) (v4 : Int) (t7 : Int) (fr : List AV) : Option (List AV) :=
  bo (f_s_l3Set_io v1 v2 v3 v4) (0, [], 0, 0) fun r11 =>
  some (setAll [(0, .p (.sl v1)), (2, .p (.sl r11.2.1)), (3, .p (.sc (Sc.n .i64 r11.2.2.1))), (4, .p (.sc (Sc.n .i64 r11.2.2.2))), (9, .p (.sc (Sc.n .i64 t7))), (21, .p (.gr v1)), (22, .p (.sc (Sc.n .i64 t7))), (23, .p (.pt 2 3)), (24, .p (.gr v1)), (25, .p (.sc (Sc.n .i64 r11.1)))] fr)
def f_s_l3Two_sg4_255 (v0 : List Sc) (v1 : List Sc) (v2 : List Sc) (v3 : Int) (v4 : Int) (t7 : Int) (fr : List AV) : Option (List AV) :=
  bo (f_s_l3Set_io v1 v2 v3 v4) (0, [], 0, 0) fun r12 =>
  some (setAll [(0, .p (.sl v1)), (2, .p (.sl r12.2.1)), (3, .p (.sc (Sc.n .i64 r12.2.2.1))), (4, .p (.sc (Sc.n .i64 r12.2.2.2))), (9, .p (.sc (Sc.n .i64 t7))), (10, .p (.sc (Sc.n .i64 r12.1))), (21, .p (.gr v1)), (22, .p (.sc (Sc.n .i64 t7))), (23, .p (.pt 2 3)), (24, .p (.gr v1)), (25, .p (.sc (Sc.n .i64 r12.1)))] fr)
def f_s_l3Two_Eg4 (v0 : List Sc) (v1 : List Sc) (v2 : List Sc) (v3 : Int) (v4 : Int) (t7 : Int) (fr : List AV) : List (Option (List AV)) := [f_s_l3Two_sg4_1 v0 v1 v2 v3 v4 t7 fr, f_s_l3Two_sg4_2 v0 v1 v2 v3 v4 t7 fr, f_s_l3Two_sg4_4 v0 v1 v2 v3 v4 t7 fr, f_s_l3Two_sg4_8 v0 v1 v2 v3 v4 t7 fr, f_s_l3Two_sg4_3 v0 v1 v2 v3 v4 t7 fr, f_s_l3Two_sg4_5 v0 v1 v2 v3 v4 t7 fr, f_s_l3Two_sg4_9 v0 v1 v2 v3 v4 t7 fr, f_s_l3Two_sg4_3 v0 v1 v2 v3 v4 t7 fr, f_s_l3Two_sg4_6 v0 v1 v2 v3 v4 t7 fr, f_s_l3Two_sg4_10 v0 v1 v2 v3 v4 t7 fr, f_s_l3Two_sg4_5 v0 v1 v2 v3 v4 t7 fr, f_s_l3Two_sg4_6 v0 v1 v2 v3 v4 t7 fr, f_s_l3Two_sg4_12 v0 v1 v2 v3 v4 t7 fr, f_s_l3Two_sg4_9 v0 v1 v2 v3 v4 t7 fr, f_s_l3Two_sg4_10 v0 v1 v2 v3 v4 t7 fr, f_s_l3Two_sg4_12 v0 v1 v2 v3 v4 t7 fr, f_s_l3Two_sg4_7 v0 v1 v2 v3 v4 t7 fr, f_s_l3Two_sg4_11 v0 v1 v2 v3 v4 t7 fr, f_s_l3Two_sg4_7 v0 v1 v2 v3 v4 t7 fr, f_s_l3Two_sg4_13 v0 v1 v2 v3 v4 t7 fr, f_s_l3Two_sg4_11 v0 v1 v2 v3 v4 t7 fr, f_s_l3Two_sg4_13 v0 v1 v2 v3 v4 t7 fr, f_s_l3Two_sg4_7 v0 v1 v2 v3 v4 t7 fr, f_s_l3Two_sg4_14 v0 v1 v2 v3 v4 t7 fr, f_s_l3Two_sg4_11 v0 v1 v2 v3 v4 t7 fr, f_s_l3Two_sg4_14 v0 v1 v2 v3 v4 t7 fr, f_s_l3Two_sg4_13 v0 v1 v2 v3 v4 t7 fr, f_s_l3Two_sg4_14 v0 v1 v2 v3 v4 t7 fr, f_s_l3Two_sg4_28 v0 v1 v2 v3 v4 t7 fr, f_s_l3Two_sg4_15 v0 v1 v2 v3 v4 t7 fr, f_s_l3Two_sg4_15 v0 v1 v2 v3 v4 t7 fr, f_s_l3Two_sg4_15 v0 v1 v2 v3 v4 t7 fr, f_s_l3Two_sg4_29 v0 v1 v2 v3 v4 t7 fr, f_s_l3Two_sg4_15 v0 v1 v2 v3 v4 t7 fr, f_s_l3Two_sg4_30 v0 v1 v2 v3 v4 t7 fr, f_s_l3Two_sg4_29 v0 v1 v2 v3 v4 t7 fr, f_s_l3Two_sg4_30 v0 v1 v2 v3 v4 t7 fr, f_s_l3Two_sg4_31 v0 v1 v2 v3 v4 t7 fr, f_s_l3Two_sg4_31 v0 v1 v2 v3 v4 t7 fr, f_s_l3Two_sg4_61 v0 v1 v2 v3 v4 t7 fr, f_s_l3Two_sg4_31 v0 v1 v2 v3 v4 t7 fr, f_s_l3Two_sg4_63 v0 v1 v2 v3 v4 t7 fr, f_s_l3Two_sg4_63 v0 v1 v2 v3 v4 t7 fr, f_s_l3Two_sg4_127 v0 v1 v2 v3 v4 t7 fr, f_s_l3Two_sg4_255 v0 v1 v2 v3 v4 t7 fr]
theorem f_s_l3Two_dLg4 (v0 : List Sc) (v1 : List Sc) (v2 : List Sc) (v3 : Int) (v4 : Int) (t7 : Int) : edgeL E0 f_s_l3Two_M H0 f_s_l3Two_F (opsAt (bodyOf Try.f160 100004)) f_s_l3Two_Dg4 (f_s_l3Two_frg4 v0 v1 v2 v3 v4 t7) = f_s_l3Two_Eg4 v0 v1 v2 v3 v4 t7 (f_s_l3Two_frg4 v0 v1 v2 v3 v4 t7) := by kernel_rfl
theorem f_s_l3Two_dRg4 (v0 : List Sc) (v1 : List Sc) (v2 : List Sc) (v3 : Int) (v4 : Int) (t7 : Int) : edgeR E0 f_s_l3Two_M H0 f_s_l3Two_F (opsAt (bodyOf Try.f160 100004)) f_s_l3Two_Dg4 (f_s_l3Two_frg4 v0 v1 v2 v3 v4 t7) = f_s_l3Two_Eg4 v0 v1 v2 v3 v4 t7 (f_s_l3Two_frg4 v0 v1 v2 v3 v4 t7) := by kernel_rfl
theorem f_s_l3Two_dg4 (v0 : List Sc) (v1 : List Sc) (v2 : List Sc) (v3 : Int) (v4 : Int) (t7 : Int) : edgeL E0 f_s_l3Two_M H0 f_s_l3Two_F (opsAt (bodyOf Try.f160 100004)) f_s_l3Two_Dg4 (f_s_l3Two_frg4 v0 v1 v2 v3 v4 t7) = edgeR E0 f_s_l3Two_M H0 f_s_l3Two_F (opsAt (bodyOf Try.f160 100004)) f_s_l3Two_Dg4 (f_s_l3Two_frg4 v0 v1 v2 v3 v4 t7) := (f_s_l3Two_dLg4 v0 v1 v2 v3 v4 t7).trans (f_s_l3Two_dRg4 v0 v1 v2 v3 v4 t7).symm
theorem f_s_l3Two_eg4 (v0 : List Sc) (v1 : List Sc) (v2 : List Sc) (v3 : Int) (v4 : Int) (t7 : Int) : goL E0 f_s_l3Two_M H0 f_s_l3Two_F (opsAt (bodyOf Try.f160 100004)) (Array.replicate (opsAt (bodyOf Try.f160 100004)).size true) (opsAt (bodyOf Try.f160 100004)).toList 0 (f_s_l3Two_frg4 v0 v1 v2 v3 v4 t7) (fun s => some (X.norm, clear (klOf f_s_l3Two_F 100004).2.1 s)) = f_s_l3Two_g4_k v0 v1 v2 v3 v4 t7 (fun e => some (f_s_l3Two_xg4 v0 v1 v2 v3 v4 t7 e)) := by kernel_rfl
theorem f_s_l3Two_lg4 (v0 : List Sc) (v1 : List Sc) (v2 : List Sc) (v3 : Int) (v4 : Int) (t7 : Int) (r : Int) (h : f_s_l3Two_g4 v0 v1 v2 v3 v4 t7 = some r) : LS Try.prog f_s_l3Two_F (bodyOf Try.f160 100004) (f_s_l3Two_frg4 v0 v1 v2 v3 v4 t7) (f_s_l3Two_xg4 v0 v1 v2 v3 v4 t7 r) :=
  region_true (S := Unit) (id := 4) (G := fun _ => f_s_l3Two_g4 v0 v1 v2 v3 v4 t7) (Gk := fun _ k => f_s_l3Two_g4_k v0 v1 v2 v3 v4 t7 k) (fr := fun _ => f_s_l3Two_frg4 v0 v1 v2 v3 v4 t7) (f1 := fun e => f_s_l3Two_xg4 v0 v1 v2 v3 v4 t7 e) E0ok f_s_l3Two_Mt f_s_l3Two_bg4 f_s_l3Two_cg4 (fun _ => f_s_l3Two_dg4 v0 v1 v2 v3 v4 t7) (fun _ => rfl) (fun _ => f_s_l3Two_eg4 v0 v1 v2 v3 v4 t7) (fun _ k => f_s_l3Two_pg4 v0 v1 v2 v3 v4 t7 k) () r h
def f_s_l3Two_tg4 (σ : List AV) : Option (Bool × Bool × (X × List AV) × (X × List AV)) := match dec f_s_l3Two_hg4 σ with
  | some [.l v0, .l v1, .l v2, .i v3, .i v4, .i t7] => some ((f_s_l3Two_g4 v0 v1 v2 v3 v4 t7).isSome, true, f_s_l3Two_xg4 v0 v1 v2 v3 v4 t7 ((f_s_l3Two_g4 v0 v1 v2 v3 v4 t7).getD 0), (.ret, []))
  | _ => none
theorem f_s_l3Two_ttg4 : TTrue Try.prog f_s_l3Two_F Try.f160 100004 f_s_l3Two_tg4 := by
  intro σ p r r' h
  unfold f_s_l3Two_tg4 at h
  split at h
  · rename_i hd
    rw [← dec_enc hd]
    exact rowR (f_s_l3Two_lg4 _ _ _ _ _ _) h
  · cases h
theorem f_s_l3Two_p {R : Type} (code0 : List Sc) (kR : List Sc × Int × Int → Option R) : f_s_l3Two_k code0 kR = (f_s_l3Two_k code0 some).bind kR := by
  simp only [f_s_l3Two_k, boB, someB]
theorem f_s_l3Two_e (code0 : List Sc) : runFn E0 f_s_l3Two_M H0 f_s_l3Two_F (asL (addL 100004 f_s_l3Two_tg4 (noL))) Try.f160 (f_s_l3Two_a code0) (f_s_l3Two_i code0) = f_s_l3Two_k code0 (fun r => some (f_s_l3Two_en r)) := by kernel_rfl
theorem f_s_l3Two_ok (code0 : List Sc) (r : List Sc × Int × Int) (h : f_s_l3Two code0 = some r) : CS Try.prog 160 (f_s_l3Two_a code0) (f_s_l3Two_i code0) (f_s_l3Two_en r).1 (f_s_l3Two_en r).2 :=
  fn_true (Gk := fun k => f_s_l3Two_k code0 k) (en := f_s_l3Two_en) Try.func160 E0ok f_s_l3Two_Mt (addL_true f_s_l3Two_ttg4 (noL_true)) f_s_l3Two_o (f_s_l3Two_e code0) (f_s_l3Two_p code0) h
def f_s_l3Two_c : CRow := fun args inh => match dec2 [.p .sl] [] args inh with
  | some ([.l code0], []) => some ((f_s_l3Two code0).isSome, (f_s_l3Two_en ((f_s_l3Two code0).getD ([], 0, 0))).1, (f_s_l3Two_en ((f_s_l3Two code0).getD ([], 0, 0))).2)
  | _ => none
theorem f_s_l3Two_cc : CTrue Try.prog 160 f_s_l3Two_c := by
  intro args inh rs out h
  unfold f_s_l3Two_c at h
  split at h
  · rename_i hd
    obtain ⟨h1, h2⟩ := dec2_enc hd
    rw [← h1, ← h2]
    exact rowC (f_s_l3Two_ok _) h
  · cases h
end
end Go.Proofs.Ytphbclogflflmaa
