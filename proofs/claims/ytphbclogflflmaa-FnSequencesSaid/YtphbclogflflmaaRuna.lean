/-
  That the program computes just that (printed by gen2.py).
-/
import Derived.Test.YtphbclogflflmaaShal
import Derived.Test.YtphbclogflflmaaRows
import Derived.WalkKit
import Derived.Test.YtphbclogflflmaaShelf
set_option linter.unusedVariables false
set_option linter.unusedSimpArgs false
namespace Go.Proofs.Ytphbclogflflmaa
open Go Ev
noncomputable section
def E0 : Env := { sl := [(22, 5, .n .u8 0), (24, 3, .n .i64 0), (101, 9, .s ByteArray.empty)], gr := [(26, 24)], sc := [3, 4, 5, 9, 21, 121, 123], bl := [4], ik := [(3, .i64), (5, .u8), (21, .i32), (121, .u32), (123, .u64)], st := [9], one := [3, 4, 5, 9, 21, 121, 123, 22, 24, 101, 1, 23, 28, 29, 30, 31, 32, 34, 36, 37, 38, 40, 42, 43, 45, 47, 48, 49, 51, 52, 53, 54, 56, 57, 58, 59, 60, 61, 63, 64, 66, 67, 68, 69, 70, 71, 72, 73, 74, 75, 76, 77, 78, 79, 80, 81, 82, 83, 85, 86, 87, 88, 89, 90, 91, 92, 93, 94, 95, 96, 97, 98, 99, 100, 102, 103, 104, 109, 110, 111, 112, 113, 116, 117, 118, 119, 120, 122, 125, 126, 127, 129, 132, 133, 139, 142], al := [(3, [.sc (.n .i64 0)]), (4, [.sc (.b false)]), (5, [.sc (.n .u8 0)]), (9, [.sc (.s ByteArray.empty)]), (21, [.sc (.n .i32 0)]), (121, [.sc (.n .u32 0)]), (123, [.sc (.n .u64 0)]), (22, [.sl]), (24, [.sl]), (101, [.sl]), (1, [.fn]), (23, [.fn]), (26, [.sl]), (28, [.fn]), (29, [.fn]), (30, [.fn]), (31, [.fn]), (32, [.fn]), (34, [.fn]), (36, [.fn]), (37, [.fn]), (38, [.fn]), (40, [.fn]), (42, [.fn]), (43, [.fn]), (45, [.fn]), (47, [.fn]), (48, [.fn]), (49, [.fn]), (51, [.fn]), (52, [.fn]), (53, [.fn]), (54, [.fn]), (56, [.fn]), (57, [.fn]), (58, [.fn]), (59, [.fn]), (60, [.fn]), (61, [.fn]), (63, [.fn]), (64, [.fn]), (66, [.fn]), (67, [.fn]), (68, [.fn]), (69, [.fn]), (70, [.fn]), (71, [.fn]), (72, [.fn]), (73, [.fn]), (74, [.fn]), (75, [.fn]), (76, [.fn]), (77, [.fn]), (78, [.fn]), (79, [.fn]), (80, [.fn]), (81, [.fn]), (82, [.fn]), (83, [.fn]), (85, [.fn]), (86, [.fn]), (87, [.fn]), (88, [.fn]), (89, [.fn]), (90, [.fn]), (91, [.fn]), (92, [.fn]), (93, [.fn]), (94, [.fn]), (95, [.fn]), (96, [.fn]), (97, [.fn]), (98, [.fn]), (99, [.fn]), (100, [.fn]), (102, [.fn]), (103, [.fn]), (104, [.fn]), (109, [.fn]), (110, [.fn]), (111, [.fn]), (112, [.fn]), (113, [.fn]), (116, [.fn]), (117, [.fn]), (118, [.fn]), (119, [.fn]), (120, [.fn]), (122, [.fn]), (125, [.fn]), (126, [.fn]), (127, [.fn]), (129, [.fn]), (132, [.fn]), (133, [.fn]), (139, [.fn]), (142, [.fn]), (107, [.sl, .sc (.n .i64 0), .sc (.n .i64 0)])], fd := [(26, 1), (107, 3)], ll := [(108, 24)] }
def H0 : Hints := { md := [(177, [.fz]), (187, [.ro, .fz, .ro, .io]), (188, [.fz]), (198, [.io]), (163, [.io]), (164, [.io, .ro]), (165, [.io, .ro]), (166, [.io, .ro]), (167, [.io, .ro]), (168, [.io, .ro]), (186, [.io]), (195, [.io, .ro]), (200, [.io, .ro]), (204, [.io]), (205, [.io]), (208, [.io])], soft := [162, 163, 165, 166, 167, 168, 195, 200, 208] }
theorem E0ok : EnvOk Try.prog E0 := okEnv_spec (by kernel_rfl)

def f_l_big_F : Fi := { nv := 0, nc := 0, m := 0, vt := [], kl := [], sk := [], mvs := [], fz := [] }
def f_l_big_a (code0 : List Sc) : List AV := enc [.p .sl] [.l code0]
def f_l_big_i (code0 : List Sc) : List AV := enc [] []
def f_l_big_en (r : Bool) : List AV × List AV := (enc [.p .boo] [.b r], enc [] [])
def f_l_big_M : Calling := noC
theorem f_l_big_Mt : CallOk Try.prog (f_l_big_M) := noC_true
theorem f_l_big_o : loopsOnce Try.f9 = true := by kernel_rfl
theorem f_l_big_p {R : Type} (code0 : List Sc) (kR : Bool → Option R) : f_l_big_k code0 kR = (f_l_big_k code0 some).bind kR := by
  simp only [f_l_big_k, someB]
theorem f_l_big_e (code0 : List Sc) : runFn E0 f_l_big_M H0 f_l_big_F (asL (noL)) Try.f9 (f_l_big_a code0) (f_l_big_i code0) = f_l_big_k code0 (fun r => some (f_l_big_en r)) := by kernel_rfl
theorem f_l_big_ok (code0 : List Sc) (r : Bool) (h : f_l_big code0 = some r) : CS Try.prog 9 (f_l_big_a code0) (f_l_big_i code0) (f_l_big_en r).1 (f_l_big_en r).2 :=
  fn_true (Gk := fun k => f_l_big_k code0 k) (en := f_l_big_en) Try.func9 E0ok f_l_big_Mt (noL_true) f_l_big_o (f_l_big_e code0) (f_l_big_p code0) h
def f_l_big_c : CRow := fun args inh => match dec2 [.p .sl] [] args inh with
  | some ([.l code0], []) => some ((f_l_big code0).isSome, (f_l_big_en ((f_l_big code0).getD false)).1, (f_l_big_en ((f_l_big code0).getD false)).2)
  | _ => none
theorem f_l_big_cc : CTrue Try.prog 9 f_l_big_c := by
  intro args inh rs out h
  unfold f_l_big_c at h
  split at h
  · rename_i hd
    obtain ⟨h1, h2⟩ := dec2_enc hd
    rw [← h1, ← h2]
    exact rowC (f_l_big_ok _) h
  · cases h

def f_s_l1New_F : Fi := { nv := 3, nc := 3, m := 0, vt := [(31, 0)], kl := [(0, ([0, 1, 2, 4, 5, 8, 9, 10, 11, 12, 13, 14, 15, 16, 17, 18, 19, 20, 21, 22, 23, 24, 25, 26, 27, 28, 29, 30, 31, 32, 33, 34], [0, 1, 2, 4, 5, 7, 8, 9, 10, 11, 12, 13, 14, 15, 16, 17, 18, 19, 20, 21, 22, 23, 24, 25, 26, 27, 28, 29, 30, 31, 32, 33, 34], [3, 4, 6, 7, 8, 9, 10, 11, 12, 13, 14, 15, 16, 17, 18, 19, 20, 21, 22, 23, 24, 25, 26, 27, 28, 29, 30, 31, 32, 33, 34]))], sk := [], mvs := [], fz := [] }
def f_s_l1New_a (code0 : List Sc) : List AV := enc [.p .sl] [.l code0]
def f_s_l1New_i (code0 : List Sc) : List AV := enc [] []
def f_s_l1New_en (r : List Sc × Int × Int) : List AV × List AV := (enc [.p (.pt 0 3)] [], enc [.p .sl, .p (.int .i64), .p (.int .i64)] [.l r.1, .i r.2.1, .i r.2.2])
def f_s_l1New_M : Calling := noC
theorem f_s_l1New_Mt : CallOk Try.prog (f_s_l1New_M) := noC_true
theorem f_s_l1New_o : loopsOnce Try.f162 = true := by kernel_rfl
def f_s_l1New_h0 : List Sh := [.u, .u, .u, .p .sl, .u, .u, .p (.int .i64), .p (.int .i64), .u, .u, .u, .u, .u, .u, .u, .u, .u, .u, .u, .u, .u, .u, .u, .u, .u, .u, .u, .u, .u, .u, .u, .u, .u, .u, .u]
def f_s_l1New_fr0 (code0 : List Sc) (s : Int × Int) : List AV := enc f_s_l1New_h0 [.l code0, .i s.1, .i s.2]
def f_s_l1New_g0_1 : List Sh := [.u, .u, .u, .p .sl, .u, .u, .p (.int .i64), .u, .u, .u, .u, .u, .u, .u, .u, .u, .u, .u, .u, .u, .u, .u, .u, .u, .u, .u, .u, .u, .u, .u, .u, .u, .u, .u, .u]
def f_s_l1New_x0_1 (code0 : List Sc) (e : Int) : X × List AV := (.out 0, enc f_s_l1New_g0_1 [.l code0, .i e])
def f_s_l1New_x0_2 (code0 : List Sc) (_e : Unit) : X × List AV := (.ret, [])
theorem f_s_l1New_p0 {R : Type} (code0 : List Sc) (s : Int × Int) (kN : Int × Int → Option R) (kA : Int → Option R) (kB : Unit → Option R) : f_s_l1New_k0 code0 s.1 s.2 kN kA = (f_s_l1New_r0 code0 s).bind (Ro.el kN kA kB) := by
  simp only [f_s_l1New_k0, f_s_l1New_r0, brB, someB, noneB, Ro.el]
theorem f_s_l1New_e0 (code0 : List Sc) (s : Int × Int) : EC E0 f_s_l1New_M H0 f_s_l1New_F (asL (noL)) 0 (bodyOf Try.f162 0) (f_s_l1New_fr0 code0 s) (done (klOf f_s_l1New_F 0)) = f_s_l1New_k0 code0 s.1 s.2 (fun s => some (.norm, f_s_l1New_fr0 code0 s)) (fun e => some (f_s_l1New_x0_1 code0 e)) := by kernel_rfl
theorem f_s_l1New_l0 (code0 : List Sc) : ∀ s r, loopL (f_s_l1New_r0 code0) s = some r → LS Try.prog f_s_l1New_F (bodyOf Try.f162 0) (f_s_l1New_fr0 code0 s) (enX (f_s_l1New_x0_1 code0) (f_s_l1New_x0_2 code0) r) :=
  loop_true E0ok f_s_l1New_Mt (noL_true) f_s_l1New_o (fun _ h => by cases h) (fun _ h => by cases h) (fun s => (f_s_l1New_e0 code0 s).trans (f_s_l1New_p0 code0 s _ _ (fun e => some (f_s_l1New_x0_2 code0 e))))
def f_s_l1New_t0 (σ : List AV) : Option (Bool × Bool × (X × List AV) × (X × List AV)) := match dec f_s_l1New_h0 σ with
  | some [.l code0, .i h3, .i i4] => some (isOne (loopL (f_s_l1New_r0 code0) (h3, i4)), true, f_s_l1New_x0_1 code0 (getOne 0 (loopL (f_s_l1New_r0 code0) (h3, i4))), (.ret, []))
  | _ => none
theorem f_s_l1New_tt0 : TTrue Try.prog f_s_l1New_F Try.f162 0 (f_s_l1New_t0) := by
  intro σ p r r' h
  unfold f_s_l1New_t0 at h
  split at h
  · rename_i hd
    rw [← dec_enc hd]
    exact row1 (f_s_l1New_l0 _ _) h
  · cases h
theorem f_s_l1New_p {R : Type} (code0 : List Sc) (kR : List Sc × Int × Int → Option R) : f_s_l1New_k code0 kR = (f_s_l1New_k code0 some).bind kR := by
  simp only [f_s_l1New_k, bl1B, someB]
theorem f_s_l1New_e (code0 : List Sc) : runFn E0 f_s_l1New_M H0 f_s_l1New_F (asL (addL 0 (f_s_l1New_t0) (noL))) Try.f162 (f_s_l1New_a code0) (f_s_l1New_i code0) = f_s_l1New_k code0 (fun r => some (f_s_l1New_en r)) := by kernel_rfl
theorem f_s_l1New_ok (code0 : List Sc) (r : List Sc × Int × Int) (h : f_s_l1New code0 = some r) : CS Try.prog 162 (f_s_l1New_a code0) (f_s_l1New_i code0) (f_s_l1New_en r).1 (f_s_l1New_en r).2 :=
  fn_true (Gk := fun k => f_s_l1New_k code0 k) (en := f_s_l1New_en) Try.func162 E0ok f_s_l1New_Mt (addL_true (f_s_l1New_tt0) (noL_true)) f_s_l1New_o (f_s_l1New_e code0) (f_s_l1New_p code0) h
def f_s_l1New_c : CRow := fun args inh => match dec2 [.p .sl] [] args inh with
  | some ([.l code0], []) => some ((f_s_l1New code0).isSome, (f_s_l1New_en ((f_s_l1New code0).getD ([], 0, 0))).1, (f_s_l1New_en ((f_s_l1New code0).getD ([], 0, 0))).2)
  | _ => none
theorem f_s_l1New_cc : CTrue Try.prog 162 f_s_l1New_c := by
  intro args inh rs out h
  unfold f_s_l1New_c at h
  split at h
  · rename_i hd
    obtain ⟨h1, h2⟩ := dec2_enc hd
    rw [← h1, ← h2]
    exact rowC (f_s_l1New_ok _) h
  · cases h

def f_s_l1Byte_io_F : Fi := { nv := 3, nc := 3, m := 3, vt := [], kl := [], sk := [], mvs := [], fz := [] }
def f_s_l1Byte_io_a (h0 : List Sc) (h1 : Int) (h2 : Int) : List AV := enc [.p (.pt 0 3)] []
def f_s_l1Byte_io_i (h0 : List Sc) (h1 : Int) (h2 : Int) : List AV := enc [.p .sl, .p (.int .i64), .p (.int .i64)] [.l h0, .i h1, .i h2]
def f_s_l1Byte_io_en (r : Int × List Sc × Int × Int) : List AV × List AV := (enc [.p (.int .i64)] [.i r.1], enc [.p .sl, .p (.int .i64), .p (.int .i64)] [.l r.2.1, .i r.2.2.1, .i r.2.2.2])
def f_s_l1Byte_io_M : Calling := noC
theorem f_s_l1Byte_io_Mt : CallOk Try.prog (f_s_l1Byte_io_M) := noC_true
theorem f_s_l1Byte_io_o : loopsOnce Try.f208 = true := by kernel_rfl
theorem f_s_l1Byte_io_p {R : Type} (h0 : List Sc) (h1 : Int) (h2 : Int) (kR : Int × List Sc × Int × Int → Option R) : f_s_l1Byte_io_k h0 h1 h2 kR = (f_s_l1Byte_io_k h0 h1 h2 some).bind kR := by
  simp only [f_s_l1Byte_io_k, brB, someB, noneB]
theorem f_s_l1Byte_io_e (h0 : List Sc) (h1 : Int) (h2 : Int) : runFn E0 f_s_l1Byte_io_M H0 f_s_l1Byte_io_F (asL (noL)) Try.f208 (f_s_l1Byte_io_a h0 h1 h2) (f_s_l1Byte_io_i h0 h1 h2) = f_s_l1Byte_io_k h0 h1 h2 (fun r => some (f_s_l1Byte_io_en r)) := by kernel_rfl
theorem f_s_l1Byte_io_ok (h0 : List Sc) (h1 : Int) (h2 : Int) (r : Int × List Sc × Int × Int) (h : f_s_l1Byte_io h0 h1 h2 = some r) : CS Try.prog 208 (f_s_l1Byte_io_a h0 h1 h2) (f_s_l1Byte_io_i h0 h1 h2) (f_s_l1Byte_io_en r).1 (f_s_l1Byte_io_en r).2 :=
  fn_true (Gk := fun k => f_s_l1Byte_io_k h0 h1 h2 k) (en := f_s_l1Byte_io_en) Try.func208 E0ok f_s_l1Byte_io_Mt (noL_true) f_s_l1Byte_io_o (f_s_l1Byte_io_e h0 h1 h2) (f_s_l1Byte_io_p h0 h1 h2) h
def f_s_l1Byte_io_c : CRow := fun args inh => match dec2 [.p (.pt 0 3)] [.p .sl, .p (.int .i64), .p (.int .i64)] args inh with
  | some ([], [.l h0, .i h1, .i h2]) => some ((f_s_l1Byte_io h0 h1 h2).isSome, (f_s_l1Byte_io_en ((f_s_l1Byte_io h0 h1 h2).getD (0, [], 0, 0))).1, (f_s_l1Byte_io_en ((f_s_l1Byte_io h0 h1 h2).getD (0, [], 0, 0))).2)
  | _ => none
theorem f_s_l1Byte_io_cc : CTrue Try.prog 208 f_s_l1Byte_io_c := by
  intro args inh rs out h
  unfold f_s_l1Byte_io_c at h
  split at h
  · rename_i hd
    obtain ⟨h1, h2⟩ := dec2_enc hd
    rw [← h1, ← h2]
    exact rowC (f_s_l1Byte_io_ok _ _ _) h
  · cases h

def f_s_l1Below_io_F : Fi := { nv := 3, nc := 3, m := 3, vt := [], kl := [], sk := [], mvs := [], fz := [] }
def f_s_l1Below_io_a (n1 : Int) (h0 : List Sc) (h1 : Int) (h2 : Int) : List AV := enc [.p (.pt 0 3), .p (.int .i64)] [.i n1]
def f_s_l1Below_io_i (n1 : Int) (h0 : List Sc) (h1 : Int) (h2 : Int) : List AV := enc [.p .sl, .p (.int .i64), .p (.int .i64)] [.l h0, .i h1, .i h2]
def f_s_l1Below_io_en (r : Int × List Sc × Int × Int) : List AV × List AV := (enc [.p (.int .i64)] [.i r.1], enc [.p .sl, .p (.int .i64), .p (.int .i64)] [.l r.2.1, .i r.2.2.1, .i r.2.2.2])
def f_s_l1Below_io_M : Calling := addC 208 f_s_l1Byte_io_c (noC)
theorem f_s_l1Below_io_Mt : CallOk Try.prog (f_s_l1Below_io_M) := addC_true f_s_l1Byte_io_cc (noC_true)
theorem f_s_l1Below_io_o : loopsOnce Try.f166 = true := by kernel_rfl
theorem f_s_l1Below_io_p {R : Type} (n1 : Int) (h0 : List Sc) (h1 : Int) (h2 : Int) (kR : Int × List Sc × Int × Int → Option R) : f_s_l1Below_io_k n1 h0 h1 h2 kR = (f_s_l1Below_io_k n1 h0 h1 h2 some).bind kR := by
  simp only [f_s_l1Below_io_k, brB, boB, someB, noneB]
theorem f_s_l1Below_io_e (n1 : Int) (h0 : List Sc) (h1 : Int) (h2 : Int) : runFn E0 f_s_l1Below_io_M H0 f_s_l1Below_io_F (asL (noL)) Try.f166 (f_s_l1Below_io_a n1 h0 h1 h2) (f_s_l1Below_io_i n1 h0 h1 h2) = f_s_l1Below_io_k n1 h0 h1 h2 (fun r => some (f_s_l1Below_io_en r)) := by kernel_rfl
theorem f_s_l1Below_io_ok (n1 : Int) (h0 : List Sc) (h1 : Int) (h2 : Int) (r : Int × List Sc × Int × Int) (h : f_s_l1Below_io n1 h0 h1 h2 = some r) : CS Try.prog 166 (f_s_l1Below_io_a n1 h0 h1 h2) (f_s_l1Below_io_i n1 h0 h1 h2) (f_s_l1Below_io_en r).1 (f_s_l1Below_io_en r).2 :=
  fn_true (Gk := fun k => f_s_l1Below_io_k n1 h0 h1 h2 k) (en := f_s_l1Below_io_en) Try.func166 E0ok f_s_l1Below_io_Mt (noL_true) f_s_l1Below_io_o (f_s_l1Below_io_e n1 h0 h1 h2) (f_s_l1Below_io_p n1 h0 h1 h2) h
def f_s_l1Below_io_c : CRow := fun args inh => match dec2 [.p (.pt 0 3), .p (.int .i64)] [.p .sl, .p (.int .i64), .p (.int .i64)] args inh with
  | some ([.i n1], [.l h0, .i h1, .i h2]) => some ((f_s_l1Below_io n1 h0 h1 h2).isSome, (f_s_l1Below_io_en ((f_s_l1Below_io n1 h0 h1 h2).getD (0, [], 0, 0))).1, (f_s_l1Below_io_en ((f_s_l1Below_io n1 h0 h1 h2).getD (0, [], 0, 0))).2)
  | _ => none
theorem f_s_l1Below_io_cc : CTrue Try.prog 166 f_s_l1Below_io_c := by
  intro args inh rs out h
  unfold f_s_l1Below_io_c at h
  split at h
  · rename_i hd
    obtain ⟨h1, h2⟩ := dec2_enc hd
    rw [← h1, ← h2]
    exact rowC (f_s_l1Below_io_ok _ _ _ _) h
  · cases h

def f_s_l2Draw_io_F : Fi := { nv := 4, nc := 4, m := 3, vt := [(4, 3)], kl := [(0, ([4, 6, 7, 9, 13, 14, 15, 16, 17, 18, 19, 20, 21, 22, 23, 24, 25, 26, 27, 28, 29, 30, 31, 32, 33, 34, 35, 36, 37, 38, 39, 40, 41, 42, 43, 44, 45, 46, 47, 48, 49, 50, 51, 52, 53, 54, 55, 56, 57, 58, 59, 60, 61, 62, 63, 64], [4, 6, 7, 9, 12, 13, 14, 15, 16, 17, 18, 19, 20, 21, 22, 23, 24, 25, 26, 27, 28, 29, 30, 31, 32, 33, 34, 35, 36, 37, 38, 39, 40, 41, 42, 43, 44, 45, 46, 47, 48, 49, 50, 51, 52, 53, 54, 55, 56, 57, 58, 59, 60, 61, 62, 63, 64], [4, 5, 6, 7, 9, 10, 11, 12, 13, 14, 15, 16, 17, 18, 19, 20, 21, 22, 23, 24, 25, 26, 27, 28, 29, 30, 31, 32, 33, 34, 35, 36, 37, 38, 39, 40, 41, 42, 43, 44, 45, 46, 47, 48, 49, 50, 51, 52, 53, 54, 55, 56, 57, 58, 59, 60, 61, 62, 63, 64]))], sk := [], mvs := [], fz := [], fl := [9, 10, 11, 12, 13, 14, 15, 16, 17, 18, 19, 20, 21, 22, 23, 24, 25, 26, 27, 28, 29, 30, 31] }
def f_s_l2Draw_io_a (most1 : Int) (h0 : List Sc) (h1 : Int) (h2 : Int) : List AV := enc [.p (.pt 0 3), .p (.int .i64)] [.i most1]
def f_s_l2Draw_io_i (most1 : Int) (h0 : List Sc) (h1 : Int) (h2 : Int) : List AV := enc [.p .sl, .p (.int .i64), .p (.int .i64)] [.l h0, .i h1, .i h2]
def f_s_l2Draw_io_en (r : List Sc × List Sc × Int × Int) : List AV × List AV := (enc [.p (.go 3)] [], enc [.p .sl, .p (.int .i64), .p (.int .i64), .own 3] [.l r.2.1, .i r.2.2.1, .i r.2.2.2, .l r.1])
def f_s_l2Draw_io_M : Calling := addC 166 f_s_l1Below_io_c (noC)
theorem f_s_l2Draw_io_Mt : CallOk Try.prog (f_s_l2Draw_io_M) := addC_true f_s_l1Below_io_cc (noC_true)
theorem f_s_l2Draw_io_o : loopsOnce Try.f165 = true := by kernel_rfl
def f_s_l2Draw_io_h0 : List Sh := [.p .sl, .p (.int .i64), .p (.int .i64), .p .sl, .u, .p (.int .i64), .u, .u, .p (.pt 3 1), .u, .p .sl, .p (.int .i64), .p (.int .i64), .u, .u, .u, .u, .u, .u, .u, .u, .u, .u, .u, .u, .u, .u, .u, .u, .u, .u, .u, .u, .u, .u, .u, .u, .u, .u, .u, .u, .u, .u, .u, .u, .u, .u, .u, .u, .u, .u, .u, .u, .u, .u, .u, .u, .u, .u, .u, .u, .u, .u, .u, .u]
def f_s_l2Draw_io_fr0 (most1 : Int) (o6 : List Sc) (s : List Sc × Int × Int × List Sc × Int × Int) : List AV := enc f_s_l2Draw_io_h0 [.l s.1, .i s.2.1, .i s.2.2.1, .l s.2.2.2.1, .i most1, .l o6, .i s.2.2.2.2.1, .i s.2.2.2.2.2]
def f_s_l2Draw_io_g0_1 : List Sh := [.p .sl, .p (.int .i64), .p (.int .i64), .p .sl, .u, .p (.int .i64), .u, .u, .p (.pt 3 1), .u, .p .sl, .p (.int .i64), .u, .u, .u, .u, .u, .u, .u, .u, .u, .u, .u, .u, .u, .u, .u, .u, .u, .u, .u, .u, .u, .u, .u, .u, .u, .u, .u, .u, .u, .u, .u, .u, .u, .u, .u, .u, .u, .u, .u, .u, .u, .u, .u, .u, .u, .u, .u, .u, .u, .u, .u, .u, .u]
def f_s_l2Draw_io_x0_1 (most1 : Int) (o6 : List Sc) (e : List Sc × Int × Int × List Sc × Int) : X × List AV := (.out 0, enc f_s_l2Draw_io_g0_1 [.l e.1, .i e.2.1, .i e.2.2.1, .l e.2.2.2.1, .i most1, .l o6, .i e.2.2.2.2])
def f_s_l2Draw_io_x0_2 (most1 : Int) (o6 : List Sc) (_e : Unit) : X × List AV := (.ret, [])
theorem f_s_l2Draw_io_p0 {R : Type} (most1 : Int) (o6 : List Sc) (s : List Sc × Int × Int × List Sc × Int × Int) (kN : List Sc × Int × Int × List Sc × Int × Int → Option R) (kA : List Sc × Int × Int × List Sc × Int → Option R) (kB : Unit → Option R) : f_s_l2Draw_io_k0 most1 o6 s.1 s.2.1 s.2.2.1 s.2.2.2.1 s.2.2.2.2.1 s.2.2.2.2.2 kN kA = (f_s_l2Draw_io_r0 most1 o6 s).bind (Ro.el kN kA kB) := by
  simp only [f_s_l2Draw_io_k0, f_s_l2Draw_io_r0, brB, someB, noneB, Ro.el]
theorem f_s_l2Draw_io_e0 (most1 : Int) (o6 : List Sc) (s : List Sc × Int × Int × List Sc × Int × Int) : EC E0 f_s_l2Draw_io_M H0 f_s_l2Draw_io_F (asL (noL)) 0 (bodyOf Try.f165 0) (f_s_l2Draw_io_fr0 most1 o6 s) (done (klOf f_s_l2Draw_io_F 0)) = f_s_l2Draw_io_k0 most1 o6 s.1 s.2.1 s.2.2.1 s.2.2.2.1 s.2.2.2.2.1 s.2.2.2.2.2 (fun s => some (.norm, f_s_l2Draw_io_fr0 most1 o6 s)) (fun e => some (f_s_l2Draw_io_x0_1 most1 o6 e)) := by kernel_rfl
theorem f_s_l2Draw_io_l0 (most1 : Int) (o6 : List Sc) : ∀ s r, loopL (f_s_l2Draw_io_r0 most1 o6) s = some r → LS Try.prog f_s_l2Draw_io_F (bodyOf Try.f165 0) (f_s_l2Draw_io_fr0 most1 o6 s) (enX (f_s_l2Draw_io_x0_1 most1 o6) (f_s_l2Draw_io_x0_2 most1 o6) r) :=
  loop_true E0ok f_s_l2Draw_io_Mt (noL_true) f_s_l2Draw_io_o (fun _ h => by cases h) (fun _ h => by cases h) (fun s => (f_s_l2Draw_io_e0 most1 o6 s).trans (f_s_l2Draw_io_p0 most1 o6 s _ _ (fun e => some (f_s_l2Draw_io_x0_2 most1 o6 e))))
def f_s_l2Draw_io_t0 (σ : List AV) : Option (Bool × Bool × (X × List AV) × (X × List AV)) := match dec f_s_l2Draw_io_h0 σ with
  | some [.l v0, .i v1, .i v2, .l v3, .i most1, .l o6, .i n7, .i i8] => some (isOne (loopL (f_s_l2Draw_io_r0 most1 o6) (v0, v1, v2, v3, n7, i8)), true, f_s_l2Draw_io_x0_1 most1 o6 (getOne ([], 0, 0, [], 0) (loopL (f_s_l2Draw_io_r0 most1 o6) (v0, v1, v2, v3, n7, i8))), (.ret, []))
  | _ => none
theorem f_s_l2Draw_io_tt0 : TTrue Try.prog f_s_l2Draw_io_F Try.f165 0 (f_s_l2Draw_io_t0) := by
  intro σ p r r' h
  unfold f_s_l2Draw_io_t0 at h
  split at h
  · rename_i hd
    rw [← dec_enc hd]
    exact row1 (f_s_l2Draw_io_l0 _ _ _) h
  · cases h
theorem f_s_l2Draw_io_p {R : Type} (most1 : Int) (h0 : List Sc) (h1 : Int) (h2 : Int) (kR : List Sc × List Sc × Int × Int → Option R) : f_s_l2Draw_io_k most1 h0 h1 h2 kR = (f_s_l2Draw_io_k most1 h0 h1 h2 some).bind kR := by
  simp only [f_s_l2Draw_io_k, brB, boB, bl1B, someB, noneB]
theorem f_s_l2Draw_io_e (most1 : Int) (h0 : List Sc) (h1 : Int) (h2 : Int) : runFn E0 f_s_l2Draw_io_M H0 f_s_l2Draw_io_F (asL (addL 0 (f_s_l2Draw_io_t0) (noL))) Try.f165 (f_s_l2Draw_io_a most1 h0 h1 h2) (f_s_l2Draw_io_i most1 h0 h1 h2) = f_s_l2Draw_io_k most1 h0 h1 h2 (fun r => some (f_s_l2Draw_io_en r)) := by kernel_rfl
theorem f_s_l2Draw_io_ok (most1 : Int) (h0 : List Sc) (h1 : Int) (h2 : Int) (r : List Sc × List Sc × Int × Int) (h : f_s_l2Draw_io most1 h0 h1 h2 = some r) : CS Try.prog 165 (f_s_l2Draw_io_a most1 h0 h1 h2) (f_s_l2Draw_io_i most1 h0 h1 h2) (f_s_l2Draw_io_en r).1 (f_s_l2Draw_io_en r).2 :=
  fn_true (Gk := fun k => f_s_l2Draw_io_k most1 h0 h1 h2 k) (en := f_s_l2Draw_io_en) Try.func165 E0ok f_s_l2Draw_io_Mt (addL_true (f_s_l2Draw_io_tt0) (noL_true)) f_s_l2Draw_io_o (f_s_l2Draw_io_e most1 h0 h1 h2) (f_s_l2Draw_io_p most1 h0 h1 h2) h
def f_s_l2Draw_io_c : CRow := fun args inh => match dec2 [.p (.pt 0 3), .p (.int .i64)] [.p .sl, .p (.int .i64), .p (.int .i64)] args inh with
  | some ([.i most1], [.l h0, .i h1, .i h2]) => some ((f_s_l2Draw_io most1 h0 h1 h2).isSome, (f_s_l2Draw_io_en ((f_s_l2Draw_io most1 h0 h1 h2).getD ([], [], 0, 0))).1, (f_s_l2Draw_io_en ((f_s_l2Draw_io most1 h0 h1 h2).getD ([], [], 0, 0))).2)
  | _ => none
theorem f_s_l2Draw_io_cc : CTrue Try.prog 165 f_s_l2Draw_io_c := by
  intro args inh rs out h
  unfold f_s_l2Draw_io_c at h
  split at h
  · rename_i hd
    obtain ⟨h1, h2⟩ := dec2_enc hd
    rw [← h1, ← h2]
    exact rowC (f_s_l2Draw_io_ok _ _ _ _) h
  · cases h

def f_s_l1PickInt_io_F : Fi := { nv := 3, nc := 3, m := 3, vt := [], kl := [], sk := [], mvs := [], fz := [] }
def f_s_l1PickInt_io_a (list1 : List Sc) (h0 : List Sc) (h1 : Int) (h2 : Int) : List AV := enc [.p (.pt 0 3), .p .sl] [.l list1]
def f_s_l1PickInt_io_i (list1 : List Sc) (h0 : List Sc) (h1 : Int) (h2 : Int) : List AV := enc [.p .sl, .p (.int .i64), .p (.int .i64)] [.l h0, .i h1, .i h2]
def f_s_l1PickInt_io_en (r : Int × List Sc × Int × Int) : List AV × List AV := (enc [.p (.int .i64)] [.i r.1], enc [.p .sl, .p (.int .i64), .p (.int .i64)] [.l r.2.1, .i r.2.2.1, .i r.2.2.2])
def f_s_l1PickInt_io_M : Calling := addC 166 f_s_l1Below_io_c (noC)
theorem f_s_l1PickInt_io_Mt : CallOk Try.prog (f_s_l1PickInt_io_M) := addC_true f_s_l1Below_io_cc (noC_true)
theorem f_s_l1PickInt_io_o : loopsOnce Try.f168 = true := by kernel_rfl
theorem f_s_l1PickInt_io_p {R : Type} (list1 : List Sc) (h0 : List Sc) (h1 : Int) (h2 : Int) (kR : Int × List Sc × Int × Int → Option R) : f_s_l1PickInt_io_k list1 h0 h1 h2 kR = (f_s_l1PickInt_io_k list1 h0 h1 h2 some).bind kR := by
  simp only [f_s_l1PickInt_io_k, brB, boB, someB, noneB]
theorem f_s_l1PickInt_io_e (list1 : List Sc) (h0 : List Sc) (h1 : Int) (h2 : Int) : runFn E0 f_s_l1PickInt_io_M H0 f_s_l1PickInt_io_F (asL (noL)) Try.f168 (f_s_l1PickInt_io_a list1 h0 h1 h2) (f_s_l1PickInt_io_i list1 h0 h1 h2) = f_s_l1PickInt_io_k list1 h0 h1 h2 (fun r => some (f_s_l1PickInt_io_en r)) := by kernel_rfl
theorem f_s_l1PickInt_io_ok (list1 : List Sc) (h0 : List Sc) (h1 : Int) (h2 : Int) (r : Int × List Sc × Int × Int) (h : f_s_l1PickInt_io list1 h0 h1 h2 = some r) : CS Try.prog 168 (f_s_l1PickInt_io_a list1 h0 h1 h2) (f_s_l1PickInt_io_i list1 h0 h1 h2) (f_s_l1PickInt_io_en r).1 (f_s_l1PickInt_io_en r).2 :=
  fn_true (Gk := fun k => f_s_l1PickInt_io_k list1 h0 h1 h2 k) (en := f_s_l1PickInt_io_en) Try.func168 E0ok f_s_l1PickInt_io_Mt (noL_true) f_s_l1PickInt_io_o (f_s_l1PickInt_io_e list1 h0 h1 h2) (f_s_l1PickInt_io_p list1 h0 h1 h2) h
def f_s_l1PickInt_io_c : CRow := fun args inh => match dec2 [.p (.pt 0 3), .p .sl] [.p .sl, .p (.int .i64), .p (.int .i64)] args inh with
  | some ([.l list1], [.l h0, .i h1, .i h2]) => some ((f_s_l1PickInt_io list1 h0 h1 h2).isSome, (f_s_l1PickInt_io_en ((f_s_l1PickInt_io list1 h0 h1 h2).getD (0, [], 0, 0))).1, (f_s_l1PickInt_io_en ((f_s_l1PickInt_io list1 h0 h1 h2).getD (0, [], 0, 0))).2)
  | _ => none
theorem f_s_l1PickInt_io_cc : CTrue Try.prog 168 f_s_l1PickInt_io_c := by
  intro args inh rs out h
  unfold f_s_l1PickInt_io_c at h
  split at h
  · rename_i hd
    obtain ⟨h1, h2⟩ := dec2_enc hd
    rw [← h1, ← h2]
    exact rowC (f_s_l1PickInt_io_ok _ _ _ _) h
  · cases h

def f_s_l2Any_io_F : Fi := { nv := 6, nc := 5, m := 3, vt := [(2, 3), (3, 4), (5, 5)], kl := [], sk := [], mvs := [5], fz := [] }
def f_s_l2Any_io_a (h0 : List Sc) (h1 : Int) (h2 : Int) : List AV := enc [.p (.pt 0 3)] []
def f_s_l2Any_io_i (h0 : List Sc) (h1 : Int) (h2 : Int) : List AV := enc [.p .sl, .p (.int .i64), .p (.int .i64)] [.l h0, .i h1, .i h2]
def f_s_l2Any_io_en (r : List Sc × List Sc × Int × Int) : List AV × List AV := (enc [.p (.go 3)] [], enc [.p .sl, .p (.int .i64), .p (.int .i64), .own 3] [.l r.2.1, .i r.2.2.1, .i r.2.2.2, .l r.1])
def f_s_l2Any_io_M : Calling := addC 165 f_s_l2Draw_io_c (addC 166 f_s_l1Below_io_c (addC 168 f_s_l1PickInt_io_c (noC)))
theorem f_s_l2Any_io_Mt : CallOk Try.prog (f_s_l2Any_io_M) := addC_true f_s_l2Draw_io_cc (addC_true f_s_l1Below_io_cc (addC_true f_s_l1PickInt_io_cc (noC_true)))
theorem f_s_l2Any_io_o : loopsOnce Try.f163 = true := by kernel_rfl
theorem f_s_l2Any_io_p {R : Type} (h0 : List Sc) (h1 : Int) (h2 : Int) (kR : List Sc × List Sc × Int × Int → Option R) : f_s_l2Any_io_k h0 h1 h2 kR = (f_s_l2Any_io_k h0 h1 h2 some).bind kR := by
  simp only [f_s_l2Any_io_k, brB, boB, someB]
theorem f_s_l2Any_io_e (h0 : List Sc) (h1 : Int) (h2 : Int) : runFn E0 f_s_l2Any_io_M H0 f_s_l2Any_io_F (asL (noL)) Try.f163 (f_s_l2Any_io_a h0 h1 h2) (f_s_l2Any_io_i h0 h1 h2) = f_s_l2Any_io_k h0 h1 h2 (fun r => some (f_s_l2Any_io_en r)) := by kernel_rfl
theorem f_s_l2Any_io_ok (h0 : List Sc) (h1 : Int) (h2 : Int) (r : List Sc × List Sc × Int × Int) (h : f_s_l2Any_io h0 h1 h2 = some r) : CS Try.prog 163 (f_s_l2Any_io_a h0 h1 h2) (f_s_l2Any_io_i h0 h1 h2) (f_s_l2Any_io_en r).1 (f_s_l2Any_io_en r).2 :=
  fn_true (Gk := fun k => f_s_l2Any_io_k h0 h1 h2 k) (en := f_s_l2Any_io_en) Try.func163 E0ok f_s_l2Any_io_Mt (noL_true) f_s_l2Any_io_o (f_s_l2Any_io_e h0 h1 h2) (f_s_l2Any_io_p h0 h1 h2) h
def f_s_l2Any_io_c : CRow := fun args inh => match dec2 [.p (.pt 0 3)] [.p .sl, .p (.int .i64), .p (.int .i64)] args inh with
  | some ([], [.l h0, .i h1, .i h2]) => some ((f_s_l2Any_io h0 h1 h2).isSome, (f_s_l2Any_io_en ((f_s_l2Any_io h0 h1 h2).getD ([], [], 0, 0))).1, (f_s_l2Any_io_en ((f_s_l2Any_io h0 h1 h2).getD ([], [], 0, 0))).2)
  | _ => none
theorem f_s_l2Any_io_cc : CTrue Try.prog 163 f_s_l2Any_io_c := by
  intro args inh rs out h
  unfold f_s_l2Any_io_c at h
  split at h
  · rename_i hd
    obtain ⟨h1, h2⟩ := dec2_enc hd
    rw [← h1, ← h2]
    exact rowC (f_s_l2Any_io_ok _ _ _) h
  · cases h

def f_s_l1In_F : Fi := { nv := 0, nc := 0, m := 0, vt := [], kl := [], sk := [], mvs := [], fz := [] }
def f_s_l1In_a (x0 : Int) (low1 : Int) (high2 : Int) : List AV := enc [.p (.int .i64), .p (.int .i64), .p (.int .i64)] [.i x0, .i low1, .i high2]
def f_s_l1In_i (x0 : Int) (low1 : Int) (high2 : Int) : List AV := enc [] []
def f_s_l1In_en (r : Bool) : List AV × List AV := (enc [.p .boo] [.b r], enc [] [])
def f_s_l1In_M : Calling := noC
theorem f_s_l1In_Mt : CallOk Try.prog (f_s_l1In_M) := noC_true
theorem f_s_l1In_o : loopsOnce Try.f150 = true := by kernel_rfl
theorem f_s_l1In_p {R : Type} (x0 : Int) (low1 : Int) (high2 : Int) (kR : Bool → Option R) : f_s_l1In_k x0 low1 high2 kR = (f_s_l1In_k x0 low1 high2 some).bind kR := by
  simp only [f_s_l1In_k, brB, someB]
theorem f_s_l1In_e (x0 : Int) (low1 : Int) (high2 : Int) : runFn E0 f_s_l1In_M H0 f_s_l1In_F (asL (noL)) Try.f150 (f_s_l1In_a x0 low1 high2) (f_s_l1In_i x0 low1 high2) = f_s_l1In_k x0 low1 high2 (fun r => some (f_s_l1In_en r)) := by kernel_rfl
theorem f_s_l1In_ok (x0 : Int) (low1 : Int) (high2 : Int) (r : Bool) (h : f_s_l1In x0 low1 high2 = some r) : CS Try.prog 150 (f_s_l1In_a x0 low1 high2) (f_s_l1In_i x0 low1 high2) (f_s_l1In_en r).1 (f_s_l1In_en r).2 :=
  fn_true (Gk := fun k => f_s_l1In_k x0 low1 high2 k) (en := f_s_l1In_en) Try.func150 E0ok f_s_l1In_Mt (noL_true) f_s_l1In_o (f_s_l1In_e x0 low1 high2) (f_s_l1In_p x0 low1 high2) h
def f_s_l1In_c : CRow := fun args inh => match dec2 [.p (.int .i64), .p (.int .i64), .p (.int .i64)] [] args inh with
  | some ([.i x0, .i low1, .i high2], []) => some ((f_s_l1In x0 low1 high2).isSome, (f_s_l1In_en ((f_s_l1In x0 low1 high2).getD false)).1, (f_s_l1In_en ((f_s_l1In x0 low1 high2).getD false)).2)
  | _ => none
theorem f_s_l1In_cc : CTrue Try.prog 150 f_s_l1In_c := by
  intro args inh rs out h
  unfold f_s_l1In_c at h
  split at h
  · rename_i hd
    obtain ⟨h1, h2⟩ := dec2_enc hd
    rw [← h1, ← h2]
    exact rowC (f_s_l1In_ok _ _ _) h
  · cases h

def f_s_IsGroup_F : Fi := { nv := 0, nc := 0, m := 0, vt := [], kl := [(0, ([0, 2, 5, 6, 7, 8, 9, 10, 11, 12, 13, 14, 15, 16, 17, 18, 19, 20, 21, 22, 23, 24, 25, 26, 27, 28, 29, 30, 31], [0, 1, 2, 4, 5, 6, 7, 8, 9, 10, 11, 12, 13, 14, 15, 16, 17, 18, 19, 20, 21, 22, 23, 24, 25, 26, 27, 28, 29, 30, 31], [0, 1, 3, 4, 5, 6, 7, 8, 9, 10, 11, 12, 13, 14, 15, 16, 17, 18, 19, 20, 21, 22, 23, 24, 25, 26, 27, 28, 29, 30, 31]))], sk := [], mvs := [], fz := [] }
def f_s_IsGroup_a (g0 : List Sc) : List AV := enc [.p .gr] [.l g0]
def f_s_IsGroup_i (g0 : List Sc) : List AV := enc [] []
def f_s_IsGroup_en (r : Bool) : List AV × List AV := (enc [.p .boo] [.b r], enc [] [])
def f_s_IsGroup_M : Calling := addC 150 f_s_l1In_c (noC)
theorem f_s_IsGroup_Mt : CallOk Try.prog (f_s_IsGroup_M) := addC_true f_s_l1In_cc (noC_true)
theorem f_s_IsGroup_o : loopsOnce Try.f179 = true := by kernel_rfl
def f_s_IsGroup_h0 : List Sh := [.u, .p .el, .u, .p (.int .i64), .p (.int .i64), .u, .u, .u, .u, .u, .u, .u, .u, .u, .u, .u, .u, .u, .u, .u, .u, .u, .u, .u, .u, .u, .u, .u, .u, .u, .u, .u]
def f_s_IsGroup_fr0 (g1 : List Sc) (s : Int × Int) : List AV := enc f_s_IsGroup_h0 [.l g1, .i s.1, .i s.2]
def f_s_IsGroup_g0_1 : List Sh := [.u, .u, .u, .p (.int .i64), .u, .u, .u, .u, .u, .u, .u, .u, .u, .u, .u, .u, .u, .u, .u, .u, .u, .u, .u, .u, .u, .u, .u, .u, .u, .u, .u, .u]
def f_s_IsGroup_x0_1 (g1 : List Sc) (e : Int) : X × List AV := (.out 0, enc f_s_IsGroup_g0_1 [.i e])
def f_s_IsGroup_g0_2 : List Sh := [.u, .u, .p .boo, .u, .u, .u, .u, .u, .u, .u, .u, .u, .u, .u, .u, .u, .u, .u, .u, .u, .u, .u, .u, .u, .u, .u, .u, .u, .u, .u, .u, .u]
def f_s_IsGroup_x0_2 (g1 : List Sc) (e : Unit) : X × List AV := (.ret, enc f_s_IsGroup_g0_2 [.b false])
theorem f_s_IsGroup_p0 {R : Type} (g1 : List Sc) (s : Int × Int) (kN : Int × Int → Option R) (kA : Int → Option R) (kB : Unit → Option R) : f_s_IsGroup_k0 g1 s.1 s.2 kN kA kB = (f_s_IsGroup_r0 g1 s).bind (Ro.el kN kA kB) := by
  simp only [f_s_IsGroup_k0, f_s_IsGroup_r0, brB, boB, someB, noneB, Ro.el]
theorem f_s_IsGroup_e0 (g1 : List Sc) (s : Int × Int) : EC E0 f_s_IsGroup_M H0 f_s_IsGroup_F (asL (noL)) 0 (bodyOf Try.f179 0) (f_s_IsGroup_fr0 g1 s) (done (klOf f_s_IsGroup_F 0)) = f_s_IsGroup_k0 g1 s.1 s.2 (fun s => some (.norm, f_s_IsGroup_fr0 g1 s)) (fun e => some (f_s_IsGroup_x0_1 g1 e)) (fun e => some (f_s_IsGroup_x0_2 g1 e)) := by kernel_rfl
theorem f_s_IsGroup_l0 (g1 : List Sc) : ∀ s r, loopL (f_s_IsGroup_r0 g1) s = some r → LS Try.prog f_s_IsGroup_F (bodyOf Try.f179 0) (f_s_IsGroup_fr0 g1 s) (enX (f_s_IsGroup_x0_1 g1) (f_s_IsGroup_x0_2 g1) r) :=
  loop_true E0ok f_s_IsGroup_Mt (noL_true) f_s_IsGroup_o (fun _ h => by cases h) (fun _ h => by cases h) (fun s => (f_s_IsGroup_e0 g1 s).trans (f_s_IsGroup_p0 g1 s _ _ (fun e => some (f_s_IsGroup_x0_2 g1 e))))
def f_s_IsGroup_t0 (σ : List AV) : Option (Bool × Bool × (X × List AV) × (X × List AV)) := match dec f_s_IsGroup_h0 σ with
  | some [.l g1, .i n3, .i i4] => some ((loopL (f_s_IsGroup_r0 g1) (n3, i4)).isSome, isOne (loopL (f_s_IsGroup_r0 g1) (n3, i4)), f_s_IsGroup_x0_1 g1 (getOne 0 (loopL (f_s_IsGroup_r0 g1) (n3, i4))), f_s_IsGroup_x0_2 g1 (getTwo () (loopL (f_s_IsGroup_r0 g1) (n3, i4))))
  | _ => none
theorem f_s_IsGroup_tt0 : TTrue Try.prog f_s_IsGroup_F Try.f179 0 (f_s_IsGroup_t0) := by
  intro σ p r r' h
  unfold f_s_IsGroup_t0 at h
  split at h
  · rename_i hd
    rw [← dec_enc hd]
    exact row2 (f_s_IsGroup_l0 _ _) h
  · cases h
theorem f_s_IsGroup_p {R : Type} (g0 : List Sc) (kR : Bool → Option R) : f_s_IsGroup_k g0 kR = (f_s_IsGroup_k g0 some).bind kR := by
  simp only [f_s_IsGroup_k, blB, someB]
theorem f_s_IsGroup_e (g0 : List Sc) : runFn E0 f_s_IsGroup_M H0 f_s_IsGroup_F (asL (addL 0 (f_s_IsGroup_t0) (noL))) Try.f179 (f_s_IsGroup_a g0) (f_s_IsGroup_i g0) = f_s_IsGroup_k g0 (fun r => some (f_s_IsGroup_en r)) := by kernel_rfl
theorem f_s_IsGroup_ok (g0 : List Sc) (r : Bool) (h : f_s_IsGroup g0 = some r) : CS Try.prog 179 (f_s_IsGroup_a g0) (f_s_IsGroup_i g0) (f_s_IsGroup_en r).1 (f_s_IsGroup_en r).2 :=
  fn_true (Gk := fun k => f_s_IsGroup_k g0 k) (en := f_s_IsGroup_en) Try.func179 E0ok f_s_IsGroup_Mt (addL_true (f_s_IsGroup_tt0) (noL_true)) f_s_IsGroup_o (f_s_IsGroup_e g0) (f_s_IsGroup_p g0) h
def f_s_IsGroup_c : CRow := fun args inh => match dec2 [.p .gr] [] args inh with
  | some ([.l g0], []) => some ((f_s_IsGroup g0).isSome, (f_s_IsGroup_en ((f_s_IsGroup g0).getD false)).1, (f_s_IsGroup_en ((f_s_IsGroup g0).getD false)).2)
  | _ => none
theorem f_s_IsGroup_cc : CTrue Try.prog 179 f_s_IsGroup_c := by
  intro args inh rs out h
  unfold f_s_IsGroup_c at h
  split at h
  · rename_i hd
    obtain ⟨h1, h2⟩ := dec2_enc hd
    rw [← h1, ← h2]
    exact rowC (f_s_IsGroup_ok _) h
  · cases h

def f_s_l2Order_F : Fi := { nv := 0, nc := 0, m := 0, vt := [], kl := [(0, ([0, 2, 5, 6, 7, 8, 9, 10, 11, 12, 13, 14, 15, 16, 17, 18, 19], [0, 1, 2, 4, 5, 6, 7, 8, 9, 10, 11, 12, 13, 14, 15, 16, 17, 18, 19], [0, 1, 3, 4, 5, 6, 7, 8, 9, 10, 11, 12, 13, 14, 15, 16, 17, 18, 19]))], sk := [], mvs := [], fz := [] }
def f_s_l2Order_a (g0 : List Sc) : List AV := enc [.p .gr] [.l g0]
def f_s_l2Order_i (g0 : List Sc) : List AV := enc [] []
def f_s_l2Order_en (r : Int) : List AV × List AV := (enc [.p (.int .i64)] [.i r], enc [] [])
def f_s_l2Order_M : Calling := noC
theorem f_s_l2Order_Mt : CallOk Try.prog (f_s_l2Order_M) := noC_true
theorem f_s_l2Order_o : loopsOnce Try.f139 = true := by kernel_rfl
def f_s_l2Order_h0 : List Sh := [.u, .p .el, .u, .p (.int .i64), .p (.int .i64), .u, .u, .u, .u, .u, .u, .u, .u, .u, .u, .u, .u, .u, .u, .u]
def f_s_l2Order_fr0 (g1 : List Sc) (s : Int × Int) : List AV := enc f_s_l2Order_h0 [.l g1, .i s.1, .i s.2]
def f_s_l2Order_g0_1 : List Sh := [.u, .u, .u, .p (.int .i64), .u, .u, .u, .u, .u, .u, .u, .u, .u, .u, .u, .u, .u, .u, .u, .u]
def f_s_l2Order_x0_1 (g1 : List Sc) (e : Int) : X × List AV := (.out 0, enc f_s_l2Order_g0_1 [.i e])
def f_s_l2Order_x0_2 (g1 : List Sc) (_e : Unit) : X × List AV := (.ret, [])
theorem f_s_l2Order_p0 {R : Type} (g1 : List Sc) (s : Int × Int) (kN : Int × Int → Option R) (kA : Int → Option R) (kB : Unit → Option R) : f_s_l2Order_k0 g1 s.1 s.2 kN kA = (f_s_l2Order_r0 g1 s).bind (Ro.el kN kA kB) := by
  simp only [f_s_l2Order_k0, f_s_l2Order_r0, brB, someB, noneB, Ro.el]
theorem f_s_l2Order_e0 (g1 : List Sc) (s : Int × Int) : EC E0 f_s_l2Order_M H0 f_s_l2Order_F (asL (noL)) 0 (bodyOf Try.f139 0) (f_s_l2Order_fr0 g1 s) (done (klOf f_s_l2Order_F 0)) = f_s_l2Order_k0 g1 s.1 s.2 (fun s => some (.norm, f_s_l2Order_fr0 g1 s)) (fun e => some (f_s_l2Order_x0_1 g1 e)) := by kernel_rfl
theorem f_s_l2Order_l0 (g1 : List Sc) : ∀ s r, loopL (f_s_l2Order_r0 g1) s = some r → LS Try.prog f_s_l2Order_F (bodyOf Try.f139 0) (f_s_l2Order_fr0 g1 s) (enX (f_s_l2Order_x0_1 g1) (f_s_l2Order_x0_2 g1) r) :=
  loop_true E0ok f_s_l2Order_Mt (noL_true) f_s_l2Order_o (fun _ h => by cases h) (fun _ h => by cases h) (fun s => (f_s_l2Order_e0 g1 s).trans (f_s_l2Order_p0 g1 s _ _ (fun e => some (f_s_l2Order_x0_2 g1 e))))
def f_s_l2Order_t0 (σ : List AV) : Option (Bool × Bool × (X × List AV) × (X × List AV)) := match dec f_s_l2Order_h0 σ with
  | some [.l g1, .i n3, .i i4] => some (isOne (loopL (f_s_l2Order_r0 g1) (n3, i4)), true, f_s_l2Order_x0_1 g1 (getOne 0 (loopL (f_s_l2Order_r0 g1) (n3, i4))), (.ret, []))
  | _ => none
theorem f_s_l2Order_tt0 : TTrue Try.prog f_s_l2Order_F Try.f139 0 (f_s_l2Order_t0) := by
  intro σ p r r' h
  unfold f_s_l2Order_t0 at h
  split at h
  · rename_i hd
    rw [← dec_enc hd]
    exact row1 (f_s_l2Order_l0 _ _) h
  · cases h
theorem f_s_l2Order_p {R : Type} (g0 : List Sc) (kR : Int → Option R) : f_s_l2Order_k g0 kR = (f_s_l2Order_k g0 some).bind kR := by
  simp only [f_s_l2Order_k, bl1B, someB]
theorem f_s_l2Order_e (g0 : List Sc) : runFn E0 f_s_l2Order_M H0 f_s_l2Order_F (asL (addL 0 (f_s_l2Order_t0) (noL))) Try.f139 (f_s_l2Order_a g0) (f_s_l2Order_i g0) = f_s_l2Order_k g0 (fun r => some (f_s_l2Order_en r)) := by kernel_rfl
theorem f_s_l2Order_ok (g0 : List Sc) (r : Int) (h : f_s_l2Order g0 = some r) : CS Try.prog 139 (f_s_l2Order_a g0) (f_s_l2Order_i g0) (f_s_l2Order_en r).1 (f_s_l2Order_en r).2 :=
  fn_true (Gk := fun k => f_s_l2Order_k g0 k) (en := f_s_l2Order_en) Try.func139 E0ok f_s_l2Order_Mt (addL_true (f_s_l2Order_tt0) (noL_true)) f_s_l2Order_o (f_s_l2Order_e g0) (f_s_l2Order_p g0) h
def f_s_l2Order_c : CRow := fun args inh => match dec2 [.p .gr] [] args inh with
  | some ([.l g0], []) => some ((f_s_l2Order g0).isSome, (f_s_l2Order_en ((f_s_l2Order g0).getD 0)).1, (f_s_l2Order_en ((f_s_l2Order g0).getD 0)).2)
  | _ => none
theorem f_s_l2Order_cc : CTrue Try.prog 139 f_s_l2Order_c := by
  intro args inh rs out h
  unfold f_s_l2Order_c at h
  split at h
  · rename_i hd
    obtain ⟨h1, h2⟩ := dec2_enc hd
    rw [← h1, ← h2]
    exact rowC (f_s_l2Order_ok _) h
  · cases h

def f_s_OrderOf_F : Fi := { nv := 0, nc := 0, m := 0, vt := [], kl := [], sk := [], mvs := [], fz := [] }
def f_s_OrderOf_a (g0 : List Sc) : List AV := enc [.p .gr] [.l g0]
def f_s_OrderOf_i (g0 : List Sc) : List AV := enc [] []
def f_s_OrderOf_en (r : Int) : List AV × List AV := (enc [.p (.int .i64)] [.i r], enc [] [])
def f_s_OrderOf_M : Calling := addC 179 f_s_IsGroup_c (addC 139 f_s_l2Order_c (noC))
theorem f_s_OrderOf_Mt : CallOk Try.prog (f_s_OrderOf_M) := addC_true f_s_IsGroup_cc (addC_true f_s_l2Order_cc (noC_true))
theorem f_s_OrderOf_o : loopsOnce Try.f72 = true := by kernel_rfl
theorem f_s_OrderOf_p {R : Type} (g0 : List Sc) (kR : Int → Option R) : f_s_OrderOf_k g0 kR = (f_s_OrderOf_k g0 some).bind kR := by
  simp only [f_s_OrderOf_k, brB, boB, someB]
theorem f_s_OrderOf_e (g0 : List Sc) : runFn E0 f_s_OrderOf_M H0 f_s_OrderOf_F (asL (noL)) Try.f72 (f_s_OrderOf_a g0) (f_s_OrderOf_i g0) = f_s_OrderOf_k g0 (fun r => some (f_s_OrderOf_en r)) := by kernel_rfl
theorem f_s_OrderOf_ok (g0 : List Sc) (r : Int) (h : f_s_OrderOf g0 = some r) : CS Try.prog 72 (f_s_OrderOf_a g0) (f_s_OrderOf_i g0) (f_s_OrderOf_en r).1 (f_s_OrderOf_en r).2 :=
  fn_true (Gk := fun k => f_s_OrderOf_k g0 k) (en := f_s_OrderOf_en) Try.func72 E0ok f_s_OrderOf_Mt (noL_true) f_s_OrderOf_o (f_s_OrderOf_e g0) (f_s_OrderOf_p g0) h
def f_s_OrderOf_c : CRow := fun args inh => match dec2 [.p .gr] [] args inh with
  | some ([.l g0], []) => some ((f_s_OrderOf g0).isSome, (f_s_OrderOf_en ((f_s_OrderOf g0).getD 0)).1, (f_s_OrderOf_en ((f_s_OrderOf g0).getD 0)).2)
  | _ => none
theorem f_s_OrderOf_cc : CTrue Try.prog 72 f_s_OrderOf_c := by
  intro args inh rs out h
  unfold f_s_OrderOf_c at h
  split at h
  · rename_i hd
    obtain ⟨h1, h2⟩ := dec2_enc hd
    rw [← h1, ← h2]
    exact rowC (f_s_OrderOf_ok _) h
  · cases h

def f_s_l1Once_io_F : Fi := { nv := 3, nc := 3, m := 3, vt := [], kl := [], sk := [], mvs := [], fz := [] }
def f_s_l1Once_io_a (n1 : Int) (h0 : List Sc) (h1 : Int) (h2 : Int) : List AV := enc [.p (.pt 0 3), .p (.int .i64)] [.i n1]
def f_s_l1Once_io_i (n1 : Int) (h0 : List Sc) (h1 : Int) (h2 : Int) : List AV := enc [.p .sl, .p (.int .i64), .p (.int .i64)] [.l h0, .i h1, .i h2]
def f_s_l1Once_io_en (r : Bool × List Sc × Int × Int) : List AV × List AV := (enc [.p .boo] [.b r.1], enc [.p .sl, .p (.int .i64), .p (.int .i64)] [.l r.2.1, .i r.2.2.1, .i r.2.2.2])
def f_s_l1Once_io_M : Calling := addC 166 f_s_l1Below_io_c (noC)
theorem f_s_l1Once_io_Mt : CallOk Try.prog (f_s_l1Once_io_M) := addC_true f_s_l1Below_io_cc (noC_true)
theorem f_s_l1Once_io_o : loopsOnce Try.f167 = true := by kernel_rfl
theorem f_s_l1Once_io_p {R : Type} (n1 : Int) (h0 : List Sc) (h1 : Int) (h2 : Int) (kR : Bool × List Sc × Int × Int → Option R) : f_s_l1Once_io_k n1 h0 h1 h2 kR = (f_s_l1Once_io_k n1 h0 h1 h2 some).bind kR := by
  simp only [f_s_l1Once_io_k, boB, someB]
theorem f_s_l1Once_io_e (n1 : Int) (h0 : List Sc) (h1 : Int) (h2 : Int) : runFn E0 f_s_l1Once_io_M H0 f_s_l1Once_io_F (asL (noL)) Try.f167 (f_s_l1Once_io_a n1 h0 h1 h2) (f_s_l1Once_io_i n1 h0 h1 h2) = f_s_l1Once_io_k n1 h0 h1 h2 (fun r => some (f_s_l1Once_io_en r)) := by kernel_rfl
theorem f_s_l1Once_io_ok (n1 : Int) (h0 : List Sc) (h1 : Int) (h2 : Int) (r : Bool × List Sc × Int × Int) (h : f_s_l1Once_io n1 h0 h1 h2 = some r) : CS Try.prog 167 (f_s_l1Once_io_a n1 h0 h1 h2) (f_s_l1Once_io_i n1 h0 h1 h2) (f_s_l1Once_io_en r).1 (f_s_l1Once_io_en r).2 :=
  fn_true (Gk := fun k => f_s_l1Once_io_k n1 h0 h1 h2 k) (en := f_s_l1Once_io_en) Try.func167 E0ok f_s_l1Once_io_Mt (noL_true) f_s_l1Once_io_o (f_s_l1Once_io_e n1 h0 h1 h2) (f_s_l1Once_io_p n1 h0 h1 h2) h
def f_s_l1Once_io_c : CRow := fun args inh => match dec2 [.p (.pt 0 3), .p (.int .i64)] [.p .sl, .p (.int .i64), .p (.int .i64)] args inh with
  | some ([.i n1], [.l h0, .i h1, .i h2]) => some ((f_s_l1Once_io n1 h0 h1 h2).isSome, (f_s_l1Once_io_en ((f_s_l1Once_io n1 h0 h1 h2).getD (false, [], 0, 0))).1, (f_s_l1Once_io_en ((f_s_l1Once_io n1 h0 h1 h2).getD (false, [], 0, 0))).2)
  | _ => none
theorem f_s_l1Once_io_cc : CTrue Try.prog 167 f_s_l1Once_io_c := by
  intro args inh rs out h
  unfold f_s_l1Once_io_c at h
  split at h
  · rename_i hd
    obtain ⟨h1, h2⟩ := dec2_enc hd
    rw [← h1, ← h2]
    exact rowC (f_s_l1Once_io_ok _ _ _ _) h
  · cases h

def f_s_l16Sort_F : Fi := { nv := 0, nc := 0, m := 0, vt := [], kl := [(2, ([1, 2, 6, 7, 8, 9, 10, 11, 12, 13, 14, 15, 16, 17, 18, 19, 20, 21, 22, 23, 24, 25, 26, 27, 28, 29, 30, 31, 32, 33, 34, 35, 36, 37, 38, 39, 40, 41, 42, 43, 44, 45, 46], [1, 2, 6, 7, 8, 9, 10, 11, 12, 13, 14, 15, 16, 17, 18, 19, 20, 21, 22, 23, 24, 25, 26, 27, 28, 29, 30, 31, 32, 33, 34, 35, 36, 37, 38, 39, 40, 41, 42, 43, 44, 45, 46], [0, 1, 3, 4, 5, 6, 7, 8, 9, 10, 11, 12, 13, 14, 15, 16, 17, 18, 19, 20, 21, 22, 23, 24, 25, 26, 27, 28, 29, 30, 31, 32, 33, 34, 35, 36, 37, 38, 39, 40, 41, 42, 43, 44, 45, 46])), (0, ([1, 2, 5, 6, 7, 8, 9, 10, 11, 12, 13, 14, 15, 16, 17, 18, 19, 20, 21, 22, 23, 24, 25, 26, 27, 28, 29, 30, 31, 32, 33, 34, 35, 36, 37, 38, 39, 40, 41, 42, 43, 44, 45, 46], [1, 2, 6, 7, 8, 9, 10, 11, 12, 13, 14, 15, 16, 17, 18, 19, 20, 21, 22, 23, 24, 25, 26, 27, 28, 29, 30, 31, 32, 33, 34, 35, 36, 37, 38, 39, 40, 41, 42, 43, 44, 45, 46], [0, 1, 3, 4, 5, 6, 7, 8, 9, 10, 11, 12, 13, 14, 15, 16, 17, 18, 19, 20, 21, 22, 23, 24, 25, 26, 27, 28, 29, 30, 31, 32, 33, 34, 35, 36, 37, 38, 39, 40, 41, 42, 43, 44, 45, 46]))], sk := [], mvs := [], fz := [], fa := [3] }
def f_s_l16Sort_a (l0 : List Sc) : List AV := enc [.p .sl] [.l l0]
def f_s_l16Sort_i (l0 : List Sc) : List AV := enc [] []
def f_s_l16Sort_en (r : List Sc) : List AV × List AV := (enc [.p (.al 0)] [], enc [.own 3] [.l r])
def f_s_l16Sort_M : Calling := noC
theorem f_s_l16Sort_Mt : CallOk Try.prog (f_s_l16Sort_M) := noC_true
theorem f_s_l16Sort_o : loopsOnce Try.f199 = true := by kernel_rfl
def f_s_l16Sort_h2 : List Sh := [.p .sl, .u, .u, .fr 3, .p (.int .i64), .p (.int .i64), .u, .u, .u, .u, .u, .u, .u, .u, .u, .u, .u, .u, .u, .u, .u, .u, .u, .u, .u, .u, .u, .u, .u, .u, .u, .u, .u, .u, .u, .u, .u, .u, .u, .u, .u, .u, .u, .u, .u, .u, .u]
def f_s_l16Sort_fr2 (l0 : List Sc) (out3 : List Sc) (i4 : Int) (s : Int) : List AV := enc f_s_l16Sort_h2 [.l l0, .l out3, .i i4, .i s]
def f_s_l16Sort_g2_1 : List Sh := [.p .sl, .u, .u, .fr 3, .p (.int .i64), .p (.int .i64), .u, .u, .u, .u, .u, .u, .u, .u, .u, .u, .u, .u, .u, .u, .u, .u, .u, .u, .u, .u, .u, .u, .u, .u, .u, .u, .u, .u, .u, .u, .u, .u, .u, .u, .u, .u, .u, .u, .u, .u, .u]
def f_s_l16Sort_x2_1 (l0 : List Sc) (out3 : List Sc) (i4 : Int) (e : Int) : X × List AV := (.out 2, enc f_s_l16Sort_g2_1 [.l l0, .l out3, .i i4, .i e])
def f_s_l16Sort_x2_2 (l0 : List Sc) (out3 : List Sc) (i4 : Int) (_e : Unit) : X × List AV := (.ret, [])
theorem f_s_l16Sort_p2 {R : Type} (l0 : List Sc) (out3 : List Sc) (i4 : Int) (s : Int) (kN : Int → Option R) (kA : Int → Option R) (kB : Unit → Option R) : f_s_l16Sort_k2 l0 out3 i4 s kN kA = (f_s_l16Sort_r2 l0 out3 i4 s).bind (Ro.el kN kA kB) := by
  simp only [f_s_l16Sort_k2, f_s_l16Sort_r2, brB, someB, noneB, Ro.el]
theorem f_s_l16Sort_e2 (l0 : List Sc) (out3 : List Sc) (i4 : Int) (s : Int) : EC E0 f_s_l16Sort_M H0 f_s_l16Sort_F (asL (noL)) 2 (bodyOf Try.f199 2) (f_s_l16Sort_fr2 l0 out3 i4 s) (done (klOf f_s_l16Sort_F 2)) = f_s_l16Sort_k2 l0 out3 i4 s (fun s => some (.norm, f_s_l16Sort_fr2 l0 out3 i4 s)) (fun e => some (f_s_l16Sort_x2_1 l0 out3 i4 e)) := by kernel_rfl
theorem f_s_l16Sort_l2 (l0 : List Sc) (out3 : List Sc) (i4 : Int) : ∀ s r, loopL (f_s_l16Sort_r2 l0 out3 i4) s = some r → LS Try.prog f_s_l16Sort_F (bodyOf Try.f199 2) (f_s_l16Sort_fr2 l0 out3 i4 s) (enX (f_s_l16Sort_x2_1 l0 out3 i4) (f_s_l16Sort_x2_2 l0 out3 i4) r) :=
  loop_true E0ok f_s_l16Sort_Mt (noL_true) f_s_l16Sort_o (fun _ h => by cases h) (fun _ h => by cases h) (fun s => (f_s_l16Sort_e2 l0 out3 i4 s).trans (f_s_l16Sort_p2 l0 out3 i4 s _ _ (fun e => some (f_s_l16Sort_x2_2 l0 out3 i4 e))))
def f_s_l16Sort_t2 (σ : List AV) : Option (Bool × Bool × (X × List AV) × (X × List AV)) := match dec f_s_l16Sort_h2 σ with
  | some [.l l0, .l out3, .i i4, .i k5] => some (isOne (loopL (f_s_l16Sort_r2 l0 out3 i4) k5), true, f_s_l16Sort_x2_1 l0 out3 i4 (getOne 0 (loopL (f_s_l16Sort_r2 l0 out3 i4) k5)), (.ret, []))
  | _ => none
theorem f_s_l16Sort_tt2 : TTrue Try.prog f_s_l16Sort_F Try.f199 2 (f_s_l16Sort_t2) := by
  intro σ p r r' h
  unfold f_s_l16Sort_t2 at h
  split at h
  · rename_i hd
    rw [← dec_enc hd]
    exact row1 (f_s_l16Sort_l2 _ _ _ _) h
  · cases h
def f_s_l16Sort_h0 : List Sh := [.p .sl, .u, .u, .fr 3, .p (.int .i64), .u, .u, .u, .u, .u, .u, .u, .u, .u, .u, .u, .u, .u, .u, .u, .u, .u, .u, .u, .u, .u, .u, .u, .u, .u, .u, .u, .u, .u, .u, .u, .u, .u, .u, .u, .u, .u, .u, .u, .u, .u, .u]
def f_s_l16Sort_fr0 (l0 : List Sc) (s : List Sc × Int) : List AV := enc f_s_l16Sort_h0 [.l l0, .l s.1, .i s.2]
def f_s_l16Sort_g0_1 : List Sh := [.p .sl, .u, .u, .fr 3, .p (.int .i64), .u, .u, .u, .u, .u, .u, .u, .u, .u, .u, .u, .u, .u, .u, .u, .u, .u, .u, .u, .u, .u, .u, .u, .u, .u, .u, .u, .u, .u, .u, .u, .u, .u, .u, .u, .u, .u, .u, .u, .u, .u, .u]
def f_s_l16Sort_x0_1 (l0 : List Sc) (e : List Sc × Int) : X × List AV := (.out 0, enc f_s_l16Sort_g0_1 [.l l0, .l e.1, .i e.2])
def f_s_l16Sort_x0_2 (l0 : List Sc) (_e : Unit) : X × List AV := (.ret, [])
theorem f_s_l16Sort_p0 {R : Type} (l0 : List Sc) (s : List Sc × Int) (kN : List Sc × Int → Option R) (kA : List Sc × Int → Option R) (kB : Unit → Option R) : f_s_l16Sort_k0 l0 s.1 s.2 kN kA = (f_s_l16Sort_r0 l0 s).bind (Ro.el kN kA kB) := by
  simp only [f_s_l16Sort_k0, f_s_l16Sort_r0, brB, bl1B, someB, noneB, Ro.el]
theorem f_s_l16Sort_e0 (l0 : List Sc) (s : List Sc × Int) : EC E0 f_s_l16Sort_M H0 f_s_l16Sort_F (asL (addL 2 (f_s_l16Sort_t2) (noL))) 0 (bodyOf Try.f199 0) (f_s_l16Sort_fr0 l0 s) (done (klOf f_s_l16Sort_F 0)) = f_s_l16Sort_k0 l0 s.1 s.2 (fun s => some (.norm, f_s_l16Sort_fr0 l0 s)) (fun e => some (f_s_l16Sort_x0_1 l0 e)) := by kernel_rfl
theorem f_s_l16Sort_l0 (l0 : List Sc) : ∀ s r, loopL (f_s_l16Sort_r0 l0) s = some r → LS Try.prog f_s_l16Sort_F (bodyOf Try.f199 0) (f_s_l16Sort_fr0 l0 s) (enX (f_s_l16Sort_x0_1 l0) (f_s_l16Sort_x0_2 l0) r) :=
  loop_true E0ok f_s_l16Sort_Mt (addL_true (f_s_l16Sort_tt2) (noL_true)) f_s_l16Sort_o (fun _ h => by cases h) (fun _ h => by cases h) (fun s => (f_s_l16Sort_e0 l0 s).trans (f_s_l16Sort_p0 l0 s _ _ (fun e => some (f_s_l16Sort_x0_2 l0 e))))
def f_s_l16Sort_t0 (σ : List AV) : Option (Bool × Bool × (X × List AV) × (X × List AV)) := match dec f_s_l16Sort_h0 σ with
  | some [.l l0, .l out3, .i i4] => some (isOne (loopL (f_s_l16Sort_r0 l0) (out3, i4)), true, f_s_l16Sort_x0_1 l0 (getOne ([], 0) (loopL (f_s_l16Sort_r0 l0) (out3, i4))), (.ret, []))
  | _ => none
theorem f_s_l16Sort_tt0 : TTrue Try.prog f_s_l16Sort_F Try.f199 0 (f_s_l16Sort_t0) := by
  intro σ p r r' h
  unfold f_s_l16Sort_t0 at h
  split at h
  · rename_i hd
    rw [← dec_enc hd]
    exact row1 (f_s_l16Sort_l0 _ _) h
  · cases h
theorem f_s_l16Sort_p {R : Type} (l0 : List Sc) (kR : List Sc → Option R) : f_s_l16Sort_k l0 kR = (f_s_l16Sort_k l0 some).bind kR := by
  simp only [f_s_l16Sort_k, bl1B, someB]
theorem f_s_l16Sort_e (l0 : List Sc) : runFn E0 f_s_l16Sort_M H0 f_s_l16Sort_F (asL (addL 0 (f_s_l16Sort_t0) (addL 2 (f_s_l16Sort_t2) (noL)))) Try.f199 (f_s_l16Sort_a l0) (f_s_l16Sort_i l0) = f_s_l16Sort_k l0 (fun r => some (f_s_l16Sort_en r)) := by kernel_rfl
theorem f_s_l16Sort_ok (l0 : List Sc) (r : List Sc) (h : f_s_l16Sort l0 = some r) : CS Try.prog 199 (f_s_l16Sort_a l0) (f_s_l16Sort_i l0) (f_s_l16Sort_en r).1 (f_s_l16Sort_en r).2 :=
  fn_true (Gk := fun k => f_s_l16Sort_k l0 k) (en := f_s_l16Sort_en) Try.func199 E0ok f_s_l16Sort_Mt (addL_true (f_s_l16Sort_tt0) (addL_true (f_s_l16Sort_tt2) (noL_true))) f_s_l16Sort_o (f_s_l16Sort_e l0) (f_s_l16Sort_p l0) h
def f_s_l16Sort_c : CRow := fun args inh => match dec2 [.p .sl] [] args inh with
  | some ([.l l0], []) => some ((f_s_l16Sort l0).isSome, (f_s_l16Sort_en ((f_s_l16Sort l0).getD [])).1, (f_s_l16Sort_en ((f_s_l16Sort l0).getD [])).2)
  | _ => none
theorem f_s_l16Sort_cc : CTrue Try.prog 199 f_s_l16Sort_c := by
  intro args inh rs out h
  unfold f_s_l16Sort_c at h
  split at h
  · rename_i hd
    obtain ⟨h1, h2⟩ := dec2_enc hd
    rw [← h1, ← h2]
    exact rowC (f_s_l16Sort_ok _) h
  · cases h

def f_s_l16Draw_io_F : Fi := { nv := 6, nc := 5, m := 3, vt := [(4, 3), (6, 4), (11, 5)], kl := [(0, ([5, 7, 8, 9, 11, 16, 17, 18, 19, 20, 21, 22, 23, 24, 25, 26, 27, 28, 29, 30, 31, 32, 33, 34, 35, 36, 37, 38, 39, 40, 41, 42, 43, 44, 45, 46, 47, 48, 49, 50, 51, 52, 53, 54, 55], [5, 7, 8, 9, 11, 14, 15, 16, 17, 18, 19, 20, 21, 22, 23, 24, 25, 26, 27, 28, 29, 30, 31, 32, 33, 34, 35, 36, 37, 38, 39, 40, 41, 42, 43, 44, 45, 46, 47, 48, 49, 50, 51, 52, 53, 54, 55], [4, 5, 6, 7, 8, 9, 12, 13, 14, 15, 16, 17, 18, 19, 20, 21, 22, 23, 24, 25, 26, 27, 28, 29, 30, 31, 32, 33, 34, 35, 36, 37, 38, 39, 40, 41, 42, 43, 44, 45, 46, 47, 48, 49, 50, 51, 52, 53, 54, 55]))], sk := [], mvs := [5], fz := [] }
def f_s_l16Draw_io_a (most1 : Int) (h0 : List Sc) (h1 : Int) (h2 : Int) : List AV := enc [.p (.pt 0 3), .p (.int .i64)] [.i most1]
def f_s_l16Draw_io_i (most1 : Int) (h0 : List Sc) (h1 : Int) (h2 : Int) : List AV := enc [.p .sl, .p (.int .i64), .p (.int .i64)] [.l h0, .i h1, .i h2]
def f_s_l16Draw_io_en (r : List Sc × List Sc × List Sc × Int × Int) : List AV × List AV := (enc [.p (.go 3), .p (.al 4)] [], enc [.p .sl, .p (.int .i64), .p (.int .i64), .own 3, .own 3] [.l r.2.2.1, .i r.2.2.2.1, .i r.2.2.2.2, .l r.1, .l r.2.1])
def f_s_l16Draw_io_M : Calling := addC 163 f_s_l2Any_io_c (addC 72 f_s_OrderOf_c (addC 166 f_s_l1Below_io_c (addC 167 f_s_l1Once_io_c (addC 168 f_s_l1PickInt_io_c (addC 199 f_s_l16Sort_c (noC))))))
theorem f_s_l16Draw_io_Mt : CallOk Try.prog (f_s_l16Draw_io_M) := addC_true f_s_l2Any_io_cc (addC_true f_s_OrderOf_cc (addC_true f_s_l1Below_io_cc (addC_true f_s_l1Once_io_cc (addC_true f_s_l1PickInt_io_cc (addC_true f_s_l16Sort_cc (noC_true))))))
theorem f_s_l16Draw_io_o : loopsOnce Try.f195 = true := by kernel_rfl
def f_s_l16Draw_io_h0 : List Sh := [.p .sl, .p (.int .i64), .p (.int .i64), .p .sl, .own 3, .u, .p (.pt 0 3), .u, .u, .u, .p (.pt 3 1), .u, .p (.pt 4 1), .own 3, .p (.int .i64), .p (.int .i64), .u, .u, .u, .u, .u, .u, .u, .u, .u, .u, .u, .u, .u, .u, .u, .u, .u, .u, .u, .u, .u, .u, .u, .u, .u, .u, .u, .u, .u, .u, .u, .u, .u, .u, .u, .u, .u, .u, .u, .u]
def f_s_l16Draw_io_fr0 (s : List Sc × Int × Int × List Sc × List Sc × List Sc × Int × Int) : List AV := enc f_s_l16Draw_io_h0 [.l s.1, .i s.2.1, .i s.2.2.1, .l s.2.2.2.1, .l s.2.2.2.2.1, .l s.2.2.2.2.2.1, .i s.2.2.2.2.2.2.1, .i s.2.2.2.2.2.2.2]
def f_s_l16Draw_io_g0_1 : List Sh := [.p .sl, .p (.int .i64), .p (.int .i64), .p .sl, .own 3, .u, .p (.pt 0 3), .u, .u, .u, .p (.pt 3 1), .u, .p (.pt 4 1), .own 3, .u, .u, .u, .u, .u, .u, .u, .u, .u, .u, .u, .u, .u, .u, .u, .u, .u, .u, .u, .u, .u, .u, .u, .u, .u, .u, .u, .u, .u, .u, .u, .u, .u, .u, .u, .u, .u, .u, .u, .u, .u, .u]
def f_s_l16Draw_io_x0_1 (e : List Sc × Int × Int × List Sc × List Sc × List Sc) : X × List AV := (.out 0, enc f_s_l16Draw_io_g0_1 [.l e.1, .i e.2.1, .i e.2.2.1, .l e.2.2.2.1, .l e.2.2.2.2.1, .l e.2.2.2.2.2])
def f_s_l16Draw_io_x0_2 (_e : Unit) : X × List AV := (.ret, [])
theorem f_s_l16Draw_io_p0 {R : Type} (s : List Sc × Int × Int × List Sc × List Sc × List Sc × Int × Int) (kN : List Sc × Int × Int × List Sc × List Sc × List Sc × Int × Int → Option R) (kA : List Sc × Int × Int × List Sc × List Sc × List Sc → Option R) (kB : Unit → Option R) : f_s_l16Draw_io_k0 s.1 s.2.1 s.2.2.1 s.2.2.2.1 s.2.2.2.2.1 s.2.2.2.2.2.1 s.2.2.2.2.2.2.1 s.2.2.2.2.2.2.2 kN kA = (f_s_l16Draw_io_r0 s).bind (Ro.el kN kA kB) := by
  simp only [f_s_l16Draw_io_k0, f_s_l16Draw_io_r0, brB, boB, someB, noneB, Ro.el]
theorem f_s_l16Draw_io_e0 (s : List Sc × Int × Int × List Sc × List Sc × List Sc × Int × Int) : EC E0 f_s_l16Draw_io_M H0 f_s_l16Draw_io_F (asL (noL)) 0 (bodyOf Try.f195 0) (f_s_l16Draw_io_fr0 s) (done (klOf f_s_l16Draw_io_F 0)) = f_s_l16Draw_io_k0 s.1 s.2.1 s.2.2.1 s.2.2.2.1 s.2.2.2.2.1 s.2.2.2.2.2.1 s.2.2.2.2.2.2.1 s.2.2.2.2.2.2.2 (fun s => some (.norm, f_s_l16Draw_io_fr0 s)) (fun e => some (f_s_l16Draw_io_x0_1 e)) := by kernel_rfl
theorem f_s_l16Draw_io_l0 : ∀ s r, loopL (f_s_l16Draw_io_r0) s = some r → LS Try.prog f_s_l16Draw_io_F (bodyOf Try.f195 0) (f_s_l16Draw_io_fr0 s) (enX (f_s_l16Draw_io_x0_1) (f_s_l16Draw_io_x0_2) r) :=
  loop_true E0ok f_s_l16Draw_io_Mt (noL_true) f_s_l16Draw_io_o (fun _ h => by cases h) (fun _ h => by cases h) (fun s => (f_s_l16Draw_io_e0 s).trans (f_s_l16Draw_io_p0 s _ _ (fun e => some (f_s_l16Draw_io_x0_2 e))))
def f_s_l16Draw_io_t0 (σ : List AV) : Option (Bool × Bool × (X × List AV) × (X × List AV)) := match dec f_s_l16Draw_io_h0 σ with
  | some [.l v0, .i v1, .i v2, .l v3, .l v4, .l l7, .i x8, .i n9] => some (isOne (loopL (f_s_l16Draw_io_r0) (v0, v1, v2, v3, v4, l7, x8, n9)), true, f_s_l16Draw_io_x0_1 (getOne ([], 0, 0, [], [], []) (loopL (f_s_l16Draw_io_r0) (v0, v1, v2, v3, v4, l7, x8, n9))), (.ret, []))
  | _ => none
theorem f_s_l16Draw_io_tt0 : TTrue Try.prog f_s_l16Draw_io_F Try.f195 0 (f_s_l16Draw_io_t0) := by
  intro σ p r r' h
  unfold f_s_l16Draw_io_t0 at h
  split at h
  · rename_i hd
    rw [← dec_enc hd]
    exact row1 (f_s_l16Draw_io_l0 _) h
  · cases h
theorem f_s_l16Draw_io_p {R : Type} (most1 : Int) (h0 : List Sc) (h1 : Int) (h2 : Int) (kR : List Sc × List Sc × List Sc × Int × Int → Option R) : f_s_l16Draw_io_k most1 h0 h1 h2 kR = (f_s_l16Draw_io_k most1 h0 h1 h2 some).bind kR := by
  simp only [f_s_l16Draw_io_k, brB, boB, bl1B, someB, noneB]
theorem f_s_l16Draw_io_e (most1 : Int) (h0 : List Sc) (h1 : Int) (h2 : Int) : runFn E0 f_s_l16Draw_io_M H0 f_s_l16Draw_io_F (asL (addL 0 (f_s_l16Draw_io_t0) (noL))) Try.f195 (f_s_l16Draw_io_a most1 h0 h1 h2) (f_s_l16Draw_io_i most1 h0 h1 h2) = f_s_l16Draw_io_k most1 h0 h1 h2 (fun r => some (f_s_l16Draw_io_en r)) := by kernel_rfl
theorem f_s_l16Draw_io_ok (most1 : Int) (h0 : List Sc) (h1 : Int) (h2 : Int) (r : List Sc × List Sc × List Sc × Int × Int) (h : f_s_l16Draw_io most1 h0 h1 h2 = some r) : CS Try.prog 195 (f_s_l16Draw_io_a most1 h0 h1 h2) (f_s_l16Draw_io_i most1 h0 h1 h2) (f_s_l16Draw_io_en r).1 (f_s_l16Draw_io_en r).2 :=
  fn_true (Gk := fun k => f_s_l16Draw_io_k most1 h0 h1 h2 k) (en := f_s_l16Draw_io_en) Try.func195 E0ok f_s_l16Draw_io_Mt (addL_true (f_s_l16Draw_io_tt0) (noL_true)) f_s_l16Draw_io_o (f_s_l16Draw_io_e most1 h0 h1 h2) (f_s_l16Draw_io_p most1 h0 h1 h2) h
def f_s_l16Draw_io_c : CRow := fun args inh => match dec2 [.p (.pt 0 3), .p (.int .i64)] [.p .sl, .p (.int .i64), .p (.int .i64)] args inh with
  | some ([.i most1], [.l h0, .i h1, .i h2]) => some ((f_s_l16Draw_io most1 h0 h1 h2).isSome, (f_s_l16Draw_io_en ((f_s_l16Draw_io most1 h0 h1 h2).getD ([], [], [], 0, 0))).1, (f_s_l16Draw_io_en ((f_s_l16Draw_io most1 h0 h1 h2).getD ([], [], [], 0, 0))).2)
  | _ => none
theorem f_s_l16Draw_io_cc : CTrue Try.prog 195 f_s_l16Draw_io_c := by
  intro args inh rs out h
  unfold f_s_l16Draw_io_c at h
  split at h
  · rename_i hd
    obtain ⟨h1, h2⟩ := dec2_enc hd
    rw [← h1, ← h2]
    exact rowC (f_s_l16Draw_io_ok _ _ _ _) h
  · cases h

def f_s_l16Both_F : Fi := { nv := 7, nc := 5, m := 0, vt := [(2, 0), (4, 1), (8, 2), (9, 5)], kl := [], sk := [], mvs := [5, 6], fz := [] }
def f_s_l16Both_a (code0 : List Sc) : List AV := enc [.p .sl] [.l code0]
def f_s_l16Both_i (code0 : List Sc) : List AV := enc [] []
def f_s_l16Both_en (r : List Sc × List Sc) : List AV × List AV := (enc [.p (.go 0), .p (.al 1)] [], enc [.own 3, .own 3] [.l r.1, .l r.2])
def f_s_l16Both_M : Calling := addC 162 f_s_l1New_c (addC 195 f_s_l16Draw_io_c (noC))
theorem f_s_l16Both_Mt : CallOk Try.prog (f_s_l16Both_M) := addC_true f_s_l1New_cc (addC_true f_s_l16Draw_io_cc (noC_true))
theorem f_s_l16Both_o : loopsOnce Try.f182 = true := by kernel_rfl
theorem f_s_l16Both_p {R : Type} (code0 : List Sc) (kR : List Sc × List Sc → Option R) : f_s_l16Both_k code0 kR = (f_s_l16Both_k code0 some).bind kR := by
  simp only [f_s_l16Both_k, boB, someB]
theorem f_s_l16Both_e (code0 : List Sc) : runFn E0 f_s_l16Both_M H0 f_s_l16Both_F (asL (noL)) Try.f182 (f_s_l16Both_a code0) (f_s_l16Both_i code0) = f_s_l16Both_k code0 (fun r => some (f_s_l16Both_en r)) := by kernel_rfl
theorem f_s_l16Both_ok (code0 : List Sc) (r : List Sc × List Sc) (h : f_s_l16Both code0 = some r) : CS Try.prog 182 (f_s_l16Both_a code0) (f_s_l16Both_i code0) (f_s_l16Both_en r).1 (f_s_l16Both_en r).2 :=
  fn_true (Gk := fun k => f_s_l16Both_k code0 k) (en := f_s_l16Both_en) Try.func182 E0ok f_s_l16Both_Mt (noL_true) f_s_l16Both_o (f_s_l16Both_e code0) (f_s_l16Both_p code0) h
def f_s_l16Both_c : CRow := fun args inh => match dec2 [.p .sl] [] args inh with
  | some ([.l code0], []) => some ((f_s_l16Both code0).isSome, (f_s_l16Both_en ((f_s_l16Both code0).getD ([], []))).1, (f_s_l16Both_en ((f_s_l16Both code0).getD ([], []))).2)
  | _ => none
theorem f_s_l16Both_cc : CTrue Try.prog 182 f_s_l16Both_c := by
  intro args inh rs out h
  unfold f_s_l16Both_c at h
  split at h
  · rename_i hd
    obtain ⟨h1, h2⟩ := dec2_enc hd
    rw [← h1, ← h2]
    exact rowC (f_s_l16Both_ok _) h
  · cases h

def f_s_DrawShortestZero_F : Fi := { nv := 4, nc := 2, m := 0, vt := [(2, 0), (4, 1), (8, 2)], kl := [], sk := [], mvs := [2, 3], fz := [] }
def f_s_DrawShortestZero_a (code0 : List Sc) : List AV := enc [.p .sl] [.l code0]
def f_s_DrawShortestZero_i (code0 : List Sc) : List AV := enc [] []
def f_s_DrawShortestZero_en (r : List Sc × List Sc) : List AV × List AV := (enc [.p (.go 0), .p (.al 1)] [], enc [.own 3, .own 3] [.l r.1, .l r.2])
def f_s_DrawShortestZero_M : Calling := addC 182 f_s_l16Both_c (noC)
theorem f_s_DrawShortestZero_Mt : CallOk Try.prog (f_s_DrawShortestZero_M) := addC_true f_s_l16Both_cc (noC_true)
theorem f_s_DrawShortestZero_o : loopsOnce Try.f97 = true := by kernel_rfl
theorem f_s_DrawShortestZero_p {R : Type} (code0 : List Sc) (kR : List Sc × List Sc → Option R) : f_s_DrawShortestZero_k code0 kR = (f_s_DrawShortestZero_k code0 some).bind kR := by
  simp only [f_s_DrawShortestZero_k, boB, someB]
theorem f_s_DrawShortestZero_e (code0 : List Sc) : runFn E0 f_s_DrawShortestZero_M H0 f_s_DrawShortestZero_F (asL (noL)) Try.f97 (f_s_DrawShortestZero_a code0) (f_s_DrawShortestZero_i code0) = f_s_DrawShortestZero_k code0 (fun r => some (f_s_DrawShortestZero_en r)) := by kernel_rfl
theorem f_s_DrawShortestZero_ok (code0 : List Sc) (r : List Sc × List Sc) (h : f_s_DrawShortestZero code0 = some r) : CS Try.prog 97 (f_s_DrawShortestZero_a code0) (f_s_DrawShortestZero_i code0) (f_s_DrawShortestZero_en r).1 (f_s_DrawShortestZero_en r).2 :=
  fn_true (Gk := fun k => f_s_DrawShortestZero_k code0 k) (en := f_s_DrawShortestZero_en) Try.func97 E0ok f_s_DrawShortestZero_Mt (noL_true) f_s_DrawShortestZero_o (f_s_DrawShortestZero_e code0) (f_s_DrawShortestZero_p code0) h
def f_s_DrawShortestZero_c : CRow := fun args inh => match dec2 [.p .sl] [] args inh with
  | some ([.l code0], []) => some ((f_s_DrawShortestZero code0).isSome, (f_s_DrawShortestZero_en ((f_s_DrawShortestZero code0).getD ([], []))).1, (f_s_DrawShortestZero_en ((f_s_DrawShortestZero code0).getD ([], []))).2)
  | _ => none
theorem f_s_DrawShortestZero_cc : CTrue Try.prog 97 f_s_DrawShortestZero_c := by
  intro args inh rs out h
  unfold f_s_DrawShortestZero_c at h
  split at h
  · rename_i hd
    obtain ⟨h1, h2⟩ := dec2_enc hd
    rw [← h1, ← h2]
    exact rowC (f_s_DrawShortestZero_ok _) h
  · cases h

def f_i_within_F : Fi := { nv := 0, nc := 0, m := 0, vt := [], kl := [], sk := [], mvs := [], fz := [] }
def f_i_within_a (x0 : Int) (lo1 : Int) (hi2 : Int) : List AV := enc [.p (.int .i64), .p (.int .i64), .p (.int .i64)] [.i x0, .i lo1, .i hi2]
def f_i_within_i (x0 : Int) (lo1 : Int) (hi2 : Int) : List AV := enc [] []
def f_i_within_en (r : Bool) : List AV × List AV := (enc [.p .boo] [.b r], enc [] [])
def f_i_within_M : Calling := noC
theorem f_i_within_Mt : CallOk Try.prog (f_i_within_M) := noC_true
theorem f_i_within_o : loopsOnce Try.f144 = true := by kernel_rfl
theorem f_i_within_p {R : Type} (x0 : Int) (lo1 : Int) (hi2 : Int) (kR : Bool → Option R) : f_i_within_k x0 lo1 hi2 kR = (f_i_within_k x0 lo1 hi2 some).bind kR := by
  simp only [f_i_within_k, brB, someB]
theorem f_i_within_e (x0 : Int) (lo1 : Int) (hi2 : Int) : runFn E0 f_i_within_M H0 f_i_within_F (asL (noL)) Try.f144 (f_i_within_a x0 lo1 hi2) (f_i_within_i x0 lo1 hi2) = f_i_within_k x0 lo1 hi2 (fun r => some (f_i_within_en r)) := by kernel_rfl
theorem f_i_within_ok (x0 : Int) (lo1 : Int) (hi2 : Int) (r : Bool) (h : f_i_within x0 lo1 hi2 = some r) : CS Try.prog 144 (f_i_within_a x0 lo1 hi2) (f_i_within_i x0 lo1 hi2) (f_i_within_en r).1 (f_i_within_en r).2 :=
  fn_true (Gk := fun k => f_i_within_k x0 lo1 hi2 k) (en := f_i_within_en) Try.func144 E0ok f_i_within_Mt (noL_true) f_i_within_o (f_i_within_e x0 lo1 hi2) (f_i_within_p x0 lo1 hi2) h
def f_i_within_c : CRow := fun args inh => match dec2 [.p (.int .i64), .p (.int .i64), .p (.int .i64)] [] args inh with
  | some ([.i x0, .i lo1, .i hi2], []) => some ((f_i_within x0 lo1 hi2).isSome, (f_i_within_en ((f_i_within x0 lo1 hi2).getD false)).1, (f_i_within_en ((f_i_within x0 lo1 hi2).getD false)).2)
  | _ => none
theorem f_i_within_cc : CTrue Try.prog 144 f_i_within_c := by
  intro args inh rs out h
  unfold f_i_within_c at h
  split at h
  · rename_i hd
    obtain ⟨h1, h2⟩ := dec2_enc hd
    rw [← h1, ← h2]
    exact rowC (f_i_within_ok _ _ _) h
  · cases h

def f_i_IsGroup_F : Fi := { nv := 0, nc := 0, m := 0, vt := [], kl := [(0, ([0, 1, 2, 4, 5, 6, 7, 8, 9, 10, 14, 15, 16, 17, 18, 19, 20, 21, 22, 23, 24, 25], [0, 1, 2, 4, 5, 6, 7, 8, 9, 10, 11, 12, 13, 14, 15, 16, 17, 18, 19, 20, 21, 22, 23, 24, 25], [0, 1, 3, 4, 5, 6, 7, 8, 9, 10, 11, 12, 13, 14, 15, 16, 17, 18, 19, 20, 21, 22, 23, 24, 25]))], sk := [], mvs := [], fz := [] }
def f_i_IsGroup_a (g0 : List Sc) : List AV := enc [.p .gr] [.l g0]
def f_i_IsGroup_i (g0 : List Sc) : List AV := enc [] []
def f_i_IsGroup_en (r : Bool) : List AV × List AV := (enc [.p .boo] [.b r], enc [] [])
def f_i_IsGroup_M : Calling := addC 144 f_i_within_c (noC)
theorem f_i_IsGroup_Mt : CallOk Try.prog (f_i_IsGroup_M) := addC_true f_i_within_cc (noC_true)
theorem f_i_IsGroup_o : loopsOnce Try.f142 = true := by kernel_rfl
def f_i_IsGroup_h0 : List Sh := [.u, .u, .u, .p (.int .i64), .u, .u, .u, .u, .u, .u, .u, .p .sl, .p (.int .i64), .p (.int .i64), .u, .u, .u, .u, .u, .u, .u, .u, .u, .u, .u, .u]
def f_i_IsGroup_fr0 (t11 : List Sc) (t12 : Int) (s : Int × Int) : List AV := enc f_i_IsGroup_h0 [.i s.1, .l t11, .i t12, .i s.2]
def f_i_IsGroup_g0_1 : List Sh := [.u, .u, .u, .p (.int .i64), .u, .u, .u, .u, .u, .u, .u, .u, .u, .u, .u, .u, .u, .u, .u, .u, .u, .u, .u, .u, .u, .u]
def f_i_IsGroup_x0_1 (t11 : List Sc) (t12 : Int) (e : Int) : X × List AV := (.out 0, enc f_i_IsGroup_g0_1 [.i e])
def f_i_IsGroup_g0_2 : List Sh := [.u, .u, .p .boo, .u, .u, .u, .u, .u, .u, .u, .u, .u, .u, .u, .u, .u, .u, .u, .u, .u, .u, .u, .u, .u, .u, .u]
def f_i_IsGroup_x0_2 (t11 : List Sc) (t12 : Int) (e : Unit) : X × List AV := (.ret, enc f_i_IsGroup_g0_2 [.b false])
theorem f_i_IsGroup_p0 {R : Type} (t11 : List Sc) (t12 : Int) (s : Int × Int) (kN : Int × Int → Option R) (kA : Int → Option R) (kB : Unit → Option R) : f_i_IsGroup_k0 t11 t12 s.1 s.2 kN kA kB = (f_i_IsGroup_r0 t11 t12 s).bind (Ro.el kN kA kB) := by
  simp only [f_i_IsGroup_k0, f_i_IsGroup_r0, brB, boB, someB, noneB, Ro.el]
theorem f_i_IsGroup_e0 (t11 : List Sc) (t12 : Int) (s : Int × Int) : EC E0 f_i_IsGroup_M H0 f_i_IsGroup_F (asL (noL)) 0 (bodyOf Try.f142 0) (f_i_IsGroup_fr0 t11 t12 s) (done (klOf f_i_IsGroup_F 0)) = f_i_IsGroup_k0 t11 t12 s.1 s.2 (fun s => some (.norm, f_i_IsGroup_fr0 t11 t12 s)) (fun e => some (f_i_IsGroup_x0_1 t11 t12 e)) (fun e => some (f_i_IsGroup_x0_2 t11 t12 e)) := by kernel_rfl
theorem f_i_IsGroup_l0 (t11 : List Sc) (t12 : Int) : ∀ s r, loopL (f_i_IsGroup_r0 t11 t12) s = some r → LS Try.prog f_i_IsGroup_F (bodyOf Try.f142 0) (f_i_IsGroup_fr0 t11 t12 s) (enX (f_i_IsGroup_x0_1 t11 t12) (f_i_IsGroup_x0_2 t11 t12) r) :=
  loop_true E0ok f_i_IsGroup_Mt (noL_true) f_i_IsGroup_o (fun _ h => by cases h) (fun _ h => by cases h) (fun s => (f_i_IsGroup_e0 t11 t12 s).trans (f_i_IsGroup_p0 t11 t12 s _ _ (fun e => some (f_i_IsGroup_x0_2 t11 t12 e))))
def f_i_IsGroup_t0 (σ : List AV) : Option (Bool × Bool × (X × List AV) × (X × List AV)) := match dec f_i_IsGroup_h0 σ with
  | some [.i n3, .l t11, .i t12, .i t13] => some ((loopL (f_i_IsGroup_r0 t11 t12) (n3, t13)).isSome, isOne (loopL (f_i_IsGroup_r0 t11 t12) (n3, t13)), f_i_IsGroup_x0_1 t11 t12 (getOne 0 (loopL (f_i_IsGroup_r0 t11 t12) (n3, t13))), f_i_IsGroup_x0_2 t11 t12 (getTwo () (loopL (f_i_IsGroup_r0 t11 t12) (n3, t13))))
  | _ => none
theorem f_i_IsGroup_tt0 : TTrue Try.prog f_i_IsGroup_F Try.f142 0 (f_i_IsGroup_t0) := by
  intro σ p r r' h
  unfold f_i_IsGroup_t0 at h
  split at h
  · rename_i hd
    rw [← dec_enc hd]
    exact row2 (f_i_IsGroup_l0 _ _ _) h
  · cases h
theorem f_i_IsGroup_p {R : Type} (g0 : List Sc) (kR : Bool → Option R) : f_i_IsGroup_k g0 kR = (f_i_IsGroup_k g0 some).bind kR := by
  simp only [f_i_IsGroup_k, brB, blB, someB]
theorem f_i_IsGroup_e (g0 : List Sc) : runFn E0 f_i_IsGroup_M H0 f_i_IsGroup_F (asL (addL 0 (f_i_IsGroup_t0) (noL))) Try.f142 (f_i_IsGroup_a g0) (f_i_IsGroup_i g0) = f_i_IsGroup_k g0 (fun r => some (f_i_IsGroup_en r)) := by kernel_rfl
theorem f_i_IsGroup_ok (g0 : List Sc) (r : Bool) (h : f_i_IsGroup g0 = some r) : CS Try.prog 142 (f_i_IsGroup_a g0) (f_i_IsGroup_i g0) (f_i_IsGroup_en r).1 (f_i_IsGroup_en r).2 :=
  fn_true (Gk := fun k => f_i_IsGroup_k g0 k) (en := f_i_IsGroup_en) Try.func142 E0ok f_i_IsGroup_Mt (addL_true (f_i_IsGroup_tt0) (noL_true)) f_i_IsGroup_o (f_i_IsGroup_e g0) (f_i_IsGroup_p g0) h
def f_i_IsGroup_c : CRow := fun args inh => match dec2 [.p .gr] [] args inh with
  | some ([.l g0], []) => some ((f_i_IsGroup g0).isSome, (f_i_IsGroup_en ((f_i_IsGroup g0).getD false)).1, (f_i_IsGroup_en ((f_i_IsGroup g0).getD false)).2)
  | _ => none
theorem f_i_IsGroup_cc : CTrue Try.prog 142 f_i_IsGroup_c := by
  intro args inh rs out h
  unfold f_i_IsGroup_c at h
  split at h
  · rename_i hd
    obtain ⟨h1, h2⟩ := dec2_enc hd
    rw [← h1, ← h2]
    exact rowC (f_i_IsGroup_ok _) h
  · cases h

def f_i_OrderOf_F : Fi := { nv := 0, nc := 0, m := 0, vt := [], kl := [(0, ([0, 1, 2, 4, 5, 6, 7, 8, 9, 13, 14, 15, 16, 17, 18, 19, 20], [0, 1, 2, 4, 5, 6, 7, 8, 9, 10, 11, 12, 13, 14, 15, 16, 17, 18, 19, 20], [0, 1, 3, 4, 5, 6, 7, 8, 9, 10, 11, 12, 13, 14, 15, 16, 17, 18, 19, 20]))], sk := [], mvs := [], fz := [] }
def f_i_OrderOf_a (g0 : List Sc) : List AV := enc [.p .gr] [.l g0]
def f_i_OrderOf_i (g0 : List Sc) : List AV := enc [] []
def f_i_OrderOf_en (r : Int) : List AV × List AV := (enc [.p (.int .i64)] [.i r], enc [] [])
def f_i_OrderOf_M : Calling := addC 142 f_i_IsGroup_c (noC)
theorem f_i_OrderOf_Mt : CallOk Try.prog (f_i_OrderOf_M) := addC_true f_i_IsGroup_cc (noC_true)
theorem f_i_OrderOf_o : loopsOnce Try.f122 = true := by kernel_rfl
def f_i_OrderOf_h0 : List Sh := [.u, .u, .u, .p (.int .i64), .u, .u, .u, .u, .u, .u, .p .sl, .p (.int .i64), .p (.int .i64), .u, .u, .u, .u, .u, .u, .u, .u]
def f_i_OrderOf_fr0 (t10 : List Sc) (t11 : Int) (s : Int × Int) : List AV := enc f_i_OrderOf_h0 [.i s.1, .l t10, .i t11, .i s.2]
def f_i_OrderOf_g0_1 : List Sh := [.u, .u, .u, .p (.int .i64), .u, .u, .u, .u, .u, .u, .u, .u, .u, .u, .u, .u, .u, .u, .u, .u, .u]
def f_i_OrderOf_x0_1 (t10 : List Sc) (t11 : Int) (e : Int) : X × List AV := (.out 0, enc f_i_OrderOf_g0_1 [.i e])
def f_i_OrderOf_x0_2 (t10 : List Sc) (t11 : Int) (_e : Unit) : X × List AV := (.ret, [])
theorem f_i_OrderOf_p0 {R : Type} (t10 : List Sc) (t11 : Int) (s : Int × Int) (kN : Int × Int → Option R) (kA : Int → Option R) (kB : Unit → Option R) : f_i_OrderOf_k0 t10 t11 s.1 s.2 kN kA = (f_i_OrderOf_r0 t10 t11 s).bind (Ro.el kN kA kB) := by
  simp only [f_i_OrderOf_k0, f_i_OrderOf_r0, brB, someB, noneB, Ro.el]
theorem f_i_OrderOf_e0 (t10 : List Sc) (t11 : Int) (s : Int × Int) : EC E0 f_i_OrderOf_M H0 f_i_OrderOf_F (asL (noL)) 0 (bodyOf Try.f122 0) (f_i_OrderOf_fr0 t10 t11 s) (done (klOf f_i_OrderOf_F 0)) = f_i_OrderOf_k0 t10 t11 s.1 s.2 (fun s => some (.norm, f_i_OrderOf_fr0 t10 t11 s)) (fun e => some (f_i_OrderOf_x0_1 t10 t11 e)) := by kernel_rfl
theorem f_i_OrderOf_l0 (t10 : List Sc) (t11 : Int) : ∀ s r, loopL (f_i_OrderOf_r0 t10 t11) s = some r → LS Try.prog f_i_OrderOf_F (bodyOf Try.f122 0) (f_i_OrderOf_fr0 t10 t11 s) (enX (f_i_OrderOf_x0_1 t10 t11) (f_i_OrderOf_x0_2 t10 t11) r) :=
  loop_true E0ok f_i_OrderOf_Mt (noL_true) f_i_OrderOf_o (fun _ h => by cases h) (fun _ h => by cases h) (fun s => (f_i_OrderOf_e0 t10 t11 s).trans (f_i_OrderOf_p0 t10 t11 s _ _ (fun e => some (f_i_OrderOf_x0_2 t10 t11 e))))
def f_i_OrderOf_t0 (σ : List AV) : Option (Bool × Bool × (X × List AV) × (X × List AV)) := match dec f_i_OrderOf_h0 σ with
  | some [.i n3, .l t10, .i t11, .i t12] => some (isOne (loopL (f_i_OrderOf_r0 t10 t11) (n3, t12)), true, f_i_OrderOf_x0_1 t10 t11 (getOne 0 (loopL (f_i_OrderOf_r0 t10 t11) (n3, t12))), (.ret, []))
  | _ => none
theorem f_i_OrderOf_tt0 : TTrue Try.prog f_i_OrderOf_F Try.f122 0 (f_i_OrderOf_t0) := by
  intro σ p r r' h
  unfold f_i_OrderOf_t0 at h
  split at h
  · rename_i hd
    rw [← dec_enc hd]
    exact row1 (f_i_OrderOf_l0 _ _ _) h
  · cases h
theorem f_i_OrderOf_p {R : Type} (g0 : List Sc) (kR : Int → Option R) : f_i_OrderOf_k g0 kR = (f_i_OrderOf_k g0 some).bind kR := by
  simp only [f_i_OrderOf_k, brB, boB, bl1B, someB]
theorem f_i_OrderOf_e (g0 : List Sc) : runFn E0 f_i_OrderOf_M H0 f_i_OrderOf_F (asL (addL 0 (f_i_OrderOf_t0) (noL))) Try.f122 (f_i_OrderOf_a g0) (f_i_OrderOf_i g0) = f_i_OrderOf_k g0 (fun r => some (f_i_OrderOf_en r)) := by kernel_rfl
theorem f_i_OrderOf_ok (g0 : List Sc) (r : Int) (h : f_i_OrderOf g0 = some r) : CS Try.prog 122 (f_i_OrderOf_a g0) (f_i_OrderOf_i g0) (f_i_OrderOf_en r).1 (f_i_OrderOf_en r).2 :=
  fn_true (Gk := fun k => f_i_OrderOf_k g0 k) (en := f_i_OrderOf_en) Try.func122 E0ok f_i_OrderOf_Mt (addL_true (f_i_OrderOf_tt0) (noL_true)) f_i_OrderOf_o (f_i_OrderOf_e g0) (f_i_OrderOf_p g0) h
def f_i_OrderOf_c : CRow := fun args inh => match dec2 [.p .gr] [] args inh with
  | some ([.l g0], []) => some ((f_i_OrderOf g0).isSome, (f_i_OrderOf_en ((f_i_OrderOf g0).getD 0)).1, (f_i_OrderOf_en ((f_i_OrderOf g0).getD 0)).2)
  | _ => none
theorem f_i_OrderOf_cc : CTrue Try.prog 122 f_i_OrderOf_c := by
  intro args inh rs out h
  unfold f_i_OrderOf_c at h
  split at h
  · rename_i hd
    obtain ⟨h1, h2⟩ := dec2_enc hd
    rw [← h1, ← h2]
    exact rowC (f_i_OrderOf_ok _) h
  · cases h

def f_i_Group_has_F : Fi := { nv := 0, nc := 0, m := 0, vt := [], kl := [], sk := [], mvs := [], fz := [] }
def f_i_Group_has_a (g0 : List Sc) (x1 : Int) : List AV := enc [.p .gr, .p (.int .i64)] [.l g0, .i x1]
def f_i_Group_has_i (g0 : List Sc) (x1 : Int) : List AV := enc [] []
def f_i_Group_has_en (r : Bool) : List AV × List AV := (enc [.p .boo] [.b r], enc [] [])
def f_i_Group_has_M : Calling := addC 122 f_i_OrderOf_c (addC 144 f_i_within_c (noC))
theorem f_i_Group_has_Mt : CallOk Try.prog (f_i_Group_has_M) := addC_true f_i_OrderOf_cc (addC_true f_i_within_cc (noC_true))
theorem f_i_Group_has_o : loopsOnce Try.f143 = true := by kernel_rfl
theorem f_i_Group_has_p {R : Type} (g0 : List Sc) (x1 : Int) (kR : Bool → Option R) : f_i_Group_has_k g0 x1 kR = (f_i_Group_has_k g0 x1 some).bind kR := by
  simp only [f_i_Group_has_k, boB, someB]
theorem f_i_Group_has_e (g0 : List Sc) (x1 : Int) : runFn E0 f_i_Group_has_M H0 f_i_Group_has_F (asL (noL)) Try.f143 (f_i_Group_has_a g0 x1) (f_i_Group_has_i g0 x1) = f_i_Group_has_k g0 x1 (fun r => some (f_i_Group_has_en r)) := by kernel_rfl
theorem f_i_Group_has_ok (g0 : List Sc) (x1 : Int) (r : Bool) (h : f_i_Group_has g0 x1 = some r) : CS Try.prog 143 (f_i_Group_has_a g0 x1) (f_i_Group_has_i g0 x1) (f_i_Group_has_en r).1 (f_i_Group_has_en r).2 :=
  fn_true (Gk := fun k => f_i_Group_has_k g0 x1 k) (en := f_i_Group_has_en) Try.func143 E0ok f_i_Group_has_Mt (noL_true) f_i_Group_has_o (f_i_Group_has_e g0 x1) (f_i_Group_has_p g0 x1) h
def f_i_Group_has_c : CRow := fun args inh => match dec2 [.p .gr, .p (.int .i64)] [] args inh with
  | some ([.l g0, .i x1], []) => some ((f_i_Group_has g0 x1).isSome, (f_i_Group_has_en ((f_i_Group_has g0 x1).getD false)).1, (f_i_Group_has_en ((f_i_Group_has g0 x1).getD false)).2)
  | _ => none
theorem f_i_Group_has_cc : CTrue Try.prog 143 f_i_Group_has_c := by
  intro args inh rs out h
  unfold f_i_Group_has_c at h
  split at h
  · rename_i hd
    obtain ⟨h1, h2⟩ := dec2_enc hd
    rw [← h1, ← h2]
    exact rowC (f_i_Group_has_ok _ _) h
  · cases h

def f_cmp_isNaN_F : Fi := { nv := 0, nc := 0, m := 0, vt := [], kl := [], sk := [], mvs := [], fz := [] }
def f_cmp_isNaN_a (x0 : Int) : List AV := enc [.p (.int .i64)] [.i x0]
def f_cmp_isNaN_i (x0 : Int) : List AV := enc [] []
def f_cmp_isNaN_en (r : Bool) : List AV × List AV := (enc [.p .boo] [.b r], enc [] [])
def f_cmp_isNaN_M : Calling := noC
theorem f_cmp_isNaN_Mt : CallOk Try.prog (f_cmp_isNaN_M) := noC_true
theorem f_cmp_isNaN_o : loopsOnce Try.f214 = true := by kernel_rfl
theorem f_cmp_isNaN_p {R : Type} (x0 : Int) (kR : Bool → Option R) : f_cmp_isNaN_k x0 kR = (f_cmp_isNaN_k x0 some).bind kR := by
  simp only [f_cmp_isNaN_k, someB]
theorem f_cmp_isNaN_e (x0 : Int) : runFn E0 f_cmp_isNaN_M H0 f_cmp_isNaN_F (asL (noL)) Try.f214 (f_cmp_isNaN_a x0) (f_cmp_isNaN_i x0) = f_cmp_isNaN_k x0 (fun r => some (f_cmp_isNaN_en r)) := by kernel_rfl
theorem f_cmp_isNaN_ok (x0 : Int) (r : Bool) (h : f_cmp_isNaN x0 = some r) : CS Try.prog 214 (f_cmp_isNaN_a x0) (f_cmp_isNaN_i x0) (f_cmp_isNaN_en r).1 (f_cmp_isNaN_en r).2 :=
  fn_true (Gk := fun k => f_cmp_isNaN_k x0 k) (en := f_cmp_isNaN_en) Try.func214 E0ok f_cmp_isNaN_Mt (noL_true) f_cmp_isNaN_o (f_cmp_isNaN_e x0) (f_cmp_isNaN_p x0) h
def f_cmp_isNaN_c : CRow := fun args inh => match dec2 [.p (.int .i64)] [] args inh with
  | some ([.i x0], []) => some ((f_cmp_isNaN x0).isSome, (f_cmp_isNaN_en ((f_cmp_isNaN x0).getD false)).1, (f_cmp_isNaN_en ((f_cmp_isNaN x0).getD false)).2)
  | _ => none
theorem f_cmp_isNaN_cc : CTrue Try.prog 214 f_cmp_isNaN_c := by
  intro args inh rs out h
  unfold f_cmp_isNaN_c at h
  split at h
  · rename_i hd
    obtain ⟨h1, h2⟩ := dec2_enc hd
    rw [← h1, ← h2]
    exact rowC (f_cmp_isNaN_ok _) h
  · cases h

def f_cmp_Less_F : Fi := { nv := 0, nc := 0, m := 0, vt := [], kl := [], sk := [], mvs := [], fz := [] }
def f_cmp_Less_a (x0 : Int) (y1 : Int) : List AV := enc [.p (.int .i64), .p (.int .i64)] [.i x0, .i y1]
def f_cmp_Less_i (x0 : Int) (y1 : Int) : List AV := enc [] []
def f_cmp_Less_en (r : Bool) : List AV × List AV := (enc [.p .boo] [.b r], enc [] [])
def f_cmp_Less_M : Calling := addC 214 f_cmp_isNaN_c (noC)
theorem f_cmp_Less_Mt : CallOk Try.prog (f_cmp_Less_M) := addC_true f_cmp_isNaN_cc (noC_true)
theorem f_cmp_Less_o : loopsOnce Try.f210 = true := by kernel_rfl
theorem f_cmp_Less_p {R : Type} (x0 : Int) (y1 : Int) (kR : Bool → Option R) : f_cmp_Less_k x0 y1 kR = (f_cmp_Less_k x0 y1 some).bind kR := by
  simp only [f_cmp_Less_k, brB, boB, someB]
theorem f_cmp_Less_e (x0 : Int) (y1 : Int) : runFn E0 f_cmp_Less_M H0 f_cmp_Less_F (asL (noL)) Try.f210 (f_cmp_Less_a x0 y1) (f_cmp_Less_i x0 y1) = f_cmp_Less_k x0 y1 (fun r => some (f_cmp_Less_en r)) := by kernel_rfl
theorem f_cmp_Less_ok (x0 : Int) (y1 : Int) (r : Bool) (h : f_cmp_Less x0 y1 = some r) : CS Try.prog 210 (f_cmp_Less_a x0 y1) (f_cmp_Less_i x0 y1) (f_cmp_Less_en r).1 (f_cmp_Less_en r).2 :=
  fn_true (Gk := fun k => f_cmp_Less_k x0 y1 k) (en := f_cmp_Less_en) Try.func210 E0ok f_cmp_Less_Mt (noL_true) f_cmp_Less_o (f_cmp_Less_e x0 y1) (f_cmp_Less_p x0 y1) h
def f_cmp_Less_c : CRow := fun args inh => match dec2 [.p (.int .i64), .p (.int .i64)] [] args inh with
  | some ([.i x0, .i y1], []) => some ((f_cmp_Less x0 y1).isSome, (f_cmp_Less_en ((f_cmp_Less x0 y1).getD false)).1, (f_cmp_Less_en ((f_cmp_Less x0 y1).getD false)).2)
  | _ => none
theorem f_cmp_Less_cc : CTrue Try.prog 210 f_cmp_Less_c := by
  intro args inh rs out h
  unfold f_cmp_Less_c at h
  split at h
  · rename_i hd
    obtain ⟨h1, h2⟩ := dec2_enc hd
    rw [← h1, ← h2]
    exact rowC (f_cmp_Less_ok _ _) h
  · cases h

def f_slices_IsSorted_F : Fi := { nv := 0, nc := 0, m := 0, vt := [], kl := [(0, ([1, 2, 4, 5, 6, 7, 8, 9, 10, 11, 12, 13, 14, 15, 16, 17, 18, 19, 20], [0, 1, 2, 3, 4, 5, 6, 7, 8, 9, 10, 11, 12, 13, 14, 15, 16, 17, 18, 19, 20], [0, 1, 3, 4, 5, 6, 7, 8, 9, 10, 11, 12, 13, 14, 15, 16, 17, 18, 19, 20]))], sk := [], mvs := [], fz := [] }
def f_slices_IsSorted_a (x0 : List Sc) : List AV := enc [.p .sl] [.l x0]
def f_slices_IsSorted_i (x0 : List Sc) : List AV := enc [] []
def f_slices_IsSorted_en (r : Bool) : List AV × List AV := (enc [.p .boo] [.b r], enc [] [])
def f_slices_IsSorted_M : Calling := addC 210 f_cmp_Less_c (noC)
theorem f_slices_IsSorted_Mt : CallOk Try.prog (f_slices_IsSorted_M) := addC_true f_cmp_Less_cc (noC_true)
theorem f_slices_IsSorted_o : loopsOnce Try.f197 = true := by kernel_rfl
def f_slices_IsSorted_h0 : List Sh := [.p .sl, .u, .u, .p (.int .i64), .u, .u, .u, .u, .u, .u, .u, .u, .u, .u, .u, .u, .u, .u, .u, .u, .u]
def f_slices_IsSorted_fr0 (x0 : List Sc) (s : Int) : List AV := enc f_slices_IsSorted_h0 [.l x0, .i s]
def f_slices_IsSorted_g0_1 : List Sh := [.u, .u, .u, .u, .u, .u, .u, .u, .u, .u, .u, .u, .u, .u, .u, .u, .u, .u, .u, .u, .u]
def f_slices_IsSorted_x0_1 (x0 : List Sc) (e : Unit) : X × List AV := (.out 0, enc f_slices_IsSorted_g0_1 [])
def f_slices_IsSorted_g0_2 : List Sh := [.u, .u, .p .boo, .u, .u, .u, .u, .u, .u, .u, .u, .u, .u, .u, .u, .u, .u, .u, .u, .u, .u]
def f_slices_IsSorted_x0_2 (x0 : List Sc) (e : Unit) : X × List AV := (.ret, enc f_slices_IsSorted_g0_2 [.b false])
theorem f_slices_IsSorted_p0 {R : Type} (x0 : List Sc) (s : Int) (kN : Int → Option R) (kA : Unit → Option R) (kB : Unit → Option R) : f_slices_IsSorted_k0 x0 s kN kA kB = (f_slices_IsSorted_r0 x0 s).bind (Ro.el kN kA kB) := by
  simp only [f_slices_IsSorted_k0, f_slices_IsSorted_r0, brB, boB, someB, noneB, Ro.el]
theorem f_slices_IsSorted_e0 (x0 : List Sc) (s : Int) : EC E0 f_slices_IsSorted_M H0 f_slices_IsSorted_F (asL (noL)) 0 (bodyOf Try.f197 0) (f_slices_IsSorted_fr0 x0 s) (done (klOf f_slices_IsSorted_F 0)) = f_slices_IsSorted_k0 x0 s (fun s => some (.norm, f_slices_IsSorted_fr0 x0 s)) (fun e => some (f_slices_IsSorted_x0_1 x0 e)) (fun e => some (f_slices_IsSorted_x0_2 x0 e)) := by kernel_rfl
theorem f_slices_IsSorted_l0 (x0 : List Sc) : ∀ s r, loopL (f_slices_IsSorted_r0 x0) s = some r → LS Try.prog f_slices_IsSorted_F (bodyOf Try.f197 0) (f_slices_IsSorted_fr0 x0 s) (enX (f_slices_IsSorted_x0_1 x0) (f_slices_IsSorted_x0_2 x0) r) :=
  loop_true E0ok f_slices_IsSorted_Mt (noL_true) f_slices_IsSorted_o (fun _ h => by cases h) (fun _ h => by cases h) (fun s => (f_slices_IsSorted_e0 x0 s).trans (f_slices_IsSorted_p0 x0 s _ _ (fun e => some (f_slices_IsSorted_x0_2 x0 e))))
def f_slices_IsSorted_t0 (σ : List AV) : Option (Bool × Bool × (X × List AV) × (X × List AV)) := match dec f_slices_IsSorted_h0 σ with
  | some [.l x0, .i i3] => some ((loopL (f_slices_IsSorted_r0 x0) i3).isSome, isOne (loopL (f_slices_IsSorted_r0 x0) i3), f_slices_IsSorted_x0_1 x0 (getOne () (loopL (f_slices_IsSorted_r0 x0) i3)), f_slices_IsSorted_x0_2 x0 (getTwo () (loopL (f_slices_IsSorted_r0 x0) i3)))
  | _ => none
theorem f_slices_IsSorted_tt0 : TTrue Try.prog f_slices_IsSorted_F Try.f197 0 (f_slices_IsSorted_t0) := by
  intro σ p r r' h
  unfold f_slices_IsSorted_t0 at h
  split at h
  · rename_i hd
    rw [← dec_enc hd]
    exact row2 (f_slices_IsSorted_l0 _ _) h
  · cases h
theorem f_slices_IsSorted_p {R : Type} (x0 : List Sc) (kR : Bool → Option R) : f_slices_IsSorted_k x0 kR = (f_slices_IsSorted_k x0 some).bind kR := by
  simp only [f_slices_IsSorted_k, blB, someB]
theorem f_slices_IsSorted_e (x0 : List Sc) : runFn E0 f_slices_IsSorted_M H0 f_slices_IsSorted_F (asL (addL 0 (f_slices_IsSorted_t0) (noL))) Try.f197 (f_slices_IsSorted_a x0) (f_slices_IsSorted_i x0) = f_slices_IsSorted_k x0 (fun r => some (f_slices_IsSorted_en r)) := by kernel_rfl
theorem f_slices_IsSorted_ok (x0 : List Sc) (r : Bool) (h : f_slices_IsSorted x0 = some r) : CS Try.prog 197 (f_slices_IsSorted_a x0) (f_slices_IsSorted_i x0) (f_slices_IsSorted_en r).1 (f_slices_IsSorted_en r).2 :=
  fn_true (Gk := fun k => f_slices_IsSorted_k x0 k) (en := f_slices_IsSorted_en) Try.func197 E0ok f_slices_IsSorted_Mt (addL_true (f_slices_IsSorted_tt0) (noL_true)) f_slices_IsSorted_o (f_slices_IsSorted_e x0) (f_slices_IsSorted_p x0) h
def f_slices_IsSorted_c : CRow := fun args inh => match dec2 [.p .sl] [] args inh with
  | some ([.l x0], []) => some ((f_slices_IsSorted x0).isSome, (f_slices_IsSorted_en ((f_slices_IsSorted x0).getD false)).1, (f_slices_IsSorted_en ((f_slices_IsSorted x0).getD false)).2)
  | _ => none
theorem f_slices_IsSorted_cc : CTrue Try.prog 197 f_slices_IsSorted_c := by
  intro args inh rs out h
  unfold f_slices_IsSorted_c at h
  split at h
  · rename_i hd
    obtain ⟨h1, h2⟩ := dec2_enc hd
    rw [← h1, ← h2]
    exact rowC (f_slices_IsSorted_ok _) h
  · cases h

def f_i_IsSequence_F : Fi := { nv := 0, nc := 0, m := 0, vt := [], kl := [(0, ([0, 3, 4, 5, 6, 10, 11, 12, 13, 14, 15, 16, 17, 18, 19, 20, 21, 22, 23, 24, 25, 26, 27, 28], [0, 3, 4, 5, 6, 7, 8, 9, 10, 11, 12, 13, 14, 15, 16, 17, 18, 19, 20, 21, 22, 23, 24, 25, 26, 27, 28], [0, 1, 2, 3, 5, 6, 7, 8, 9, 10, 11, 12, 13, 14, 15, 16, 17, 18, 19, 20, 21, 22, 23, 24, 25, 26, 27, 28]))], sk := [], mvs := [], fz := [] }
def f_i_IsSequence_a (g0 : List Sc) (l1 : List Sc) : List AV := enc [.p .gr, .p .sl] [.l g0, .l l1]
def f_i_IsSequence_i (g0 : List Sc) (l1 : List Sc) : List AV := enc [] []
def f_i_IsSequence_en (r : Bool) : List AV × List AV := (enc [.p .boo] [.b r], enc [] [])
def f_i_IsSequence_M : Calling := addC 143 f_i_Group_has_c (addC 142 f_i_IsGroup_c (addC 197 f_slices_IsSorted_c (noC)))
theorem f_i_IsSequence_Mt : CallOk Try.prog (f_i_IsSequence_M) := addC_true f_i_Group_has_cc (addC_true f_i_IsGroup_cc (addC_true f_slices_IsSorted_cc (noC_true)))
theorem f_i_IsSequence_o : loopsOnce Try.f104 = true := by kernel_rfl
def f_i_IsSequence_h0 : List Sh := [.u, .p .sl, .p .el, .u, .u, .u, .u, .p .sl, .p (.int .i64), .p (.int .i64), .u, .u, .u, .u, .u, .u, .u, .u, .u, .u, .u, .u, .u, .u, .u, .u, .u, .u, .u]
def f_i_IsSequence_fr0 (l1 : List Sc) (g2 : List Sc) (t7 : List Sc) (t8 : Int) (s : Int) : List AV := enc f_i_IsSequence_h0 [.l l1, .l g2, .l t7, .i t8, .i s]
def f_i_IsSequence_g0_1 : List Sh := [.u, .p .sl, .p .el, .u, .u, .u, .u, .u, .u, .u, .u, .u, .u, .u, .u, .u, .u, .u, .u, .u, .u, .u, .u, .u, .u, .u, .u, .u, .u]
def f_i_IsSequence_x0_1 (l1 : List Sc) (g2 : List Sc) (t7 : List Sc) (t8 : Int) (e : Unit) : X × List AV := (.out 0, enc f_i_IsSequence_g0_1 [.l l1, .l g2])
def f_i_IsSequence_g0_2 : List Sh := [.u, .u, .u, .u, .p .boo, .u, .u, .u, .u, .u, .u, .u, .u, .u, .u, .u, .u, .u, .u, .u, .u, .u, .u, .u, .u, .u, .u, .u, .u]
def f_i_IsSequence_x0_2 (l1 : List Sc) (g2 : List Sc) (t7 : List Sc) (t8 : Int) (e : Unit) : X × List AV := (.ret, enc f_i_IsSequence_g0_2 [.b false])
theorem f_i_IsSequence_p0 {R : Type} (l1 : List Sc) (g2 : List Sc) (t7 : List Sc) (t8 : Int) (s : Int) (kN : Int → Option R) (kA : Unit → Option R) (kB : Unit → Option R) : f_i_IsSequence_k0 l1 g2 t7 t8 s kN kA kB = (f_i_IsSequence_r0 l1 g2 t7 t8 s).bind (Ro.el kN kA kB) := by
  simp only [f_i_IsSequence_k0, f_i_IsSequence_r0, brB, boB, someB, noneB, Ro.el]
theorem f_i_IsSequence_e0 (l1 : List Sc) (g2 : List Sc) (t7 : List Sc) (t8 : Int) (s : Int) : EC E0 f_i_IsSequence_M H0 f_i_IsSequence_F (asL (noL)) 0 (bodyOf Try.f104 0) (f_i_IsSequence_fr0 l1 g2 t7 t8 s) (done (klOf f_i_IsSequence_F 0)) = f_i_IsSequence_k0 l1 g2 t7 t8 s (fun s => some (.norm, f_i_IsSequence_fr0 l1 g2 t7 t8 s)) (fun e => some (f_i_IsSequence_x0_1 l1 g2 t7 t8 e)) (fun e => some (f_i_IsSequence_x0_2 l1 g2 t7 t8 e)) := by kernel_rfl
theorem f_i_IsSequence_l0 (l1 : List Sc) (g2 : List Sc) (t7 : List Sc) (t8 : Int) : ∀ s r, loopL (f_i_IsSequence_r0 l1 g2 t7 t8) s = some r → LS Try.prog f_i_IsSequence_F (bodyOf Try.f104 0) (f_i_IsSequence_fr0 l1 g2 t7 t8 s) (enX (f_i_IsSequence_x0_1 l1 g2 t7 t8) (f_i_IsSequence_x0_2 l1 g2 t7 t8) r) :=
  loop_true E0ok f_i_IsSequence_Mt (noL_true) f_i_IsSequence_o (fun _ h => by cases h) (fun _ h => by cases h) (fun s => (f_i_IsSequence_e0 l1 g2 t7 t8 s).trans (f_i_IsSequence_p0 l1 g2 t7 t8 s _ _ (fun e => some (f_i_IsSequence_x0_2 l1 g2 t7 t8 e))))
def f_i_IsSequence_t0 (σ : List AV) : Option (Bool × Bool × (X × List AV) × (X × List AV)) := match dec f_i_IsSequence_h0 σ with
  | some [.l l1, .l g2, .l t7, .i t8, .i t9] => some ((loopL (f_i_IsSequence_r0 l1 g2 t7 t8) t9).isSome, isOne (loopL (f_i_IsSequence_r0 l1 g2 t7 t8) t9), f_i_IsSequence_x0_1 l1 g2 t7 t8 (getOne () (loopL (f_i_IsSequence_r0 l1 g2 t7 t8) t9)), f_i_IsSequence_x0_2 l1 g2 t7 t8 (getTwo () (loopL (f_i_IsSequence_r0 l1 g2 t7 t8) t9)))
  | _ => none
theorem f_i_IsSequence_tt0 : TTrue Try.prog f_i_IsSequence_F Try.f104 0 (f_i_IsSequence_t0) := by
  intro σ p r r' h
  unfold f_i_IsSequence_t0 at h
  split at h
  · rename_i hd
    rw [← dec_enc hd]
    exact row2 (f_i_IsSequence_l0 _ _ _ _ _) h
  · cases h
theorem f_i_IsSequence_p {R : Type} (g0 : List Sc) (l1 : List Sc) (kR : Bool → Option R) : f_i_IsSequence_k g0 l1 kR = (f_i_IsSequence_k g0 l1 some).bind kR := by
  simp only [f_i_IsSequence_k, brB, boB, blB, someB]
theorem f_i_IsSequence_e (g0 : List Sc) (l1 : List Sc) : runFn E0 f_i_IsSequence_M H0 f_i_IsSequence_F (asL (addL 0 (f_i_IsSequence_t0) (noL))) Try.f104 (f_i_IsSequence_a g0 l1) (f_i_IsSequence_i g0 l1) = f_i_IsSequence_k g0 l1 (fun r => some (f_i_IsSequence_en r)) := by kernel_rfl
theorem f_i_IsSequence_ok (g0 : List Sc) (l1 : List Sc) (r : Bool) (h : f_i_IsSequence g0 l1 = some r) : CS Try.prog 104 (f_i_IsSequence_a g0 l1) (f_i_IsSequence_i g0 l1) (f_i_IsSequence_en r).1 (f_i_IsSequence_en r).2 :=
  fn_true (Gk := fun k => f_i_IsSequence_k g0 l1 k) (en := f_i_IsSequence_en) Try.func104 E0ok f_i_IsSequence_Mt (addL_true (f_i_IsSequence_tt0) (noL_true)) f_i_IsSequence_o (f_i_IsSequence_e g0 l1) (f_i_IsSequence_p g0 l1) h
def f_i_IsSequence_c : CRow := fun args inh => match dec2 [.p .gr, .p .sl] [] args inh with
  | some ([.l g0, .l l1], []) => some ((f_i_IsSequence g0 l1).isSome, (f_i_IsSequence_en ((f_i_IsSequence g0 l1).getD false)).1, (f_i_IsSequence_en ((f_i_IsSequence g0 l1).getD false)).2)
  | _ => none
theorem f_i_IsSequence_cc : CTrue Try.prog 104 f_i_IsSequence_c := by
  intro args inh rs out h
  unfold f_i_IsSequence_c at h
  split at h
  · rename_i hd
    obtain ⟨h1, h2⟩ := dec2_enc hd
    rw [← h1, ← h2]
    exact rowC (f_i_IsSequence_ok _ _) h
  · cases h

def f_i_bits_F : Fi := { nv := 0, nc := 0, m := 0, vt := [], kl := [(0, ([1, 2, 4, 5, 6, 7, 8, 9, 10, 11, 12], [0, 1, 2, 4, 5, 6, 7, 8, 9, 10, 11, 12], [0, 1, 3, 4, 5, 6, 7, 8, 9, 10, 11, 12]))], sk := [], mvs := [], fz := [] }
def f_i_bits_a (a0 : Int) : List AV := enc [.p (.int .i64)] [.i a0]
def f_i_bits_i (a0 : Int) : List AV := enc [] []
def f_i_bits_en (r : Int) : List AV × List AV := (enc [.p (.int .i64)] [.i r], enc [] [])
def f_i_bits_M : Calling := noC
theorem f_i_bits_Mt : CallOk Try.prog (f_i_bits_M) := noC_true
theorem f_i_bits_o : loopsOnce Try.f126 = true := by kernel_rfl
def f_i_bits_h0 : List Sh := [.p (.int .i64), .u, .u, .p (.int .i64), .u, .u, .u, .u, .u, .u, .u, .u, .u]
def f_i_bits_fr0 (s : Int × Int) : List AV := enc f_i_bits_h0 [.i s.1, .i s.2]
def f_i_bits_g0_1 : List Sh := [.u, .u, .u, .p (.int .i64), .u, .u, .u, .u, .u, .u, .u, .u, .u]
def f_i_bits_x0_1 (e : Int) : X × List AV := (.out 0, enc f_i_bits_g0_1 [.i e])
def f_i_bits_x0_2 (_e : Unit) : X × List AV := (.ret, [])
theorem f_i_bits_p0 {R : Type} (s : Int × Int) (kN : Int × Int → Option R) (kA : Int → Option R) (kB : Unit → Option R) : f_i_bits_k0 s.1 s.2 kN kA = (f_i_bits_r0 s).bind (Ro.el kN kA kB) := by
  simp only [f_i_bits_k0, f_i_bits_r0, brB, someB, Ro.el]
theorem f_i_bits_e0 (s : Int × Int) : EC E0 f_i_bits_M H0 f_i_bits_F (asL (noL)) 0 (bodyOf Try.f126 0) (f_i_bits_fr0 s) (done (klOf f_i_bits_F 0)) = f_i_bits_k0 s.1 s.2 (fun s => some (.norm, f_i_bits_fr0 s)) (fun e => some (f_i_bits_x0_1 e)) := by kernel_rfl
theorem f_i_bits_l0 : ∀ s r, loopL (f_i_bits_r0) s = some r → LS Try.prog f_i_bits_F (bodyOf Try.f126 0) (f_i_bits_fr0 s) (enX (f_i_bits_x0_1) (f_i_bits_x0_2) r) :=
  loop_true E0ok f_i_bits_Mt (noL_true) f_i_bits_o (fun _ h => by cases h) (fun _ h => by cases h) (fun s => (f_i_bits_e0 s).trans (f_i_bits_p0 s _ _ (fun e => some (f_i_bits_x0_2 e))))
def f_i_bits_t0 (σ : List AV) : Option (Bool × Bool × (X × List AV) × (X × List AV)) := match dec f_i_bits_h0 σ with
  | some [.i a0, .i n3] => some (isOne (loopL (f_i_bits_r0) (a0, n3)), true, f_i_bits_x0_1 (getOne 0 (loopL (f_i_bits_r0) (a0, n3))), (.ret, []))
  | _ => none
theorem f_i_bits_tt0 : TTrue Try.prog f_i_bits_F Try.f126 0 (f_i_bits_t0) := by
  intro σ p r r' h
  unfold f_i_bits_t0 at h
  split at h
  · rename_i hd
    rw [← dec_enc hd]
    exact row1 (f_i_bits_l0 _) h
  · cases h
theorem f_i_bits_p {R : Type} (a0 : Int) (kR : Int → Option R) : f_i_bits_k a0 kR = (f_i_bits_k a0 some).bind kR := by
  simp only [f_i_bits_k, bl1B, someB]
theorem f_i_bits_e (a0 : Int) : runFn E0 f_i_bits_M H0 f_i_bits_F (asL (addL 0 (f_i_bits_t0) (noL))) Try.f126 (f_i_bits_a a0) (f_i_bits_i a0) = f_i_bits_k a0 (fun r => some (f_i_bits_en r)) := by kernel_rfl
theorem f_i_bits_ok (a0 : Int) (r : Int) (h : f_i_bits a0 = some r) : CS Try.prog 126 (f_i_bits_a a0) (f_i_bits_i a0) (f_i_bits_en r).1 (f_i_bits_en r).2 :=
  fn_true (Gk := fun k => f_i_bits_k a0 k) (en := f_i_bits_en) Try.func126 E0ok f_i_bits_Mt (addL_true (f_i_bits_tt0) (noL_true)) f_i_bits_o (f_i_bits_e a0) (f_i_bits_p a0) h
def f_i_bits_c : CRow := fun args inh => match dec2 [.p (.int .i64)] [] args inh with
  | some ([.i a0], []) => some ((f_i_bits a0).isSome, (f_i_bits_en ((f_i_bits a0).getD 0)).1, (f_i_bits_en ((f_i_bits a0).getD 0)).2)
  | _ => none
theorem f_i_bits_cc : CTrue Try.prog 126 f_i_bits_c := by
  intro args inh rs out h
  unfold f_i_bits_c at h
  split at h
  · rename_i hd
    obtain ⟨h1, h2⟩ := dec2_enc hd
    rw [← h1, ← h2]
    exact rowC (f_i_bits_ok _) h
  · cases h

def f_i_in_F : Fi := { nv := 0, nc := 0, m := 0, vt := [], kl := [], sk := [], mvs := [], fz := [] }
def f_i_in_a (a0 : Int) (x1 : Int) : List AV := enc [.p (.int .i64), .p (.int .i64)] [.i a0, .i x1]
def f_i_in_i (a0 : Int) (x1 : Int) : List AV := enc [] []
def f_i_in_en (r : Bool) : List AV × List AV := (enc [.p .boo] [.b r], enc [] [])
def f_i_in_M : Calling := noC
theorem f_i_in_Mt : CallOk Try.prog (f_i_in_M) := noC_true
theorem f_i_in_o : loopsOnce Try.f153 = true := by kernel_rfl
theorem f_i_in_p {R : Type} (a0 : Int) (x1 : Int) (kR : Bool → Option R) : f_i_in_k a0 x1 kR = (f_i_in_k a0 x1 some).bind kR := by
  simp only [f_i_in_k, brB, someB, noneB]
theorem f_i_in_e (a0 : Int) (x1 : Int) : runFn E0 f_i_in_M H0 f_i_in_F (asL (noL)) Try.f153 (f_i_in_a a0 x1) (f_i_in_i a0 x1) = f_i_in_k a0 x1 (fun r => some (f_i_in_en r)) := by kernel_rfl
theorem f_i_in_ok (a0 : Int) (x1 : Int) (r : Bool) (h : f_i_in a0 x1 = some r) : CS Try.prog 153 (f_i_in_a a0 x1) (f_i_in_i a0 x1) (f_i_in_en r).1 (f_i_in_en r).2 :=
  fn_true (Gk := fun k => f_i_in_k a0 x1 k) (en := f_i_in_en) Try.func153 E0ok f_i_in_Mt (noL_true) f_i_in_o (f_i_in_e a0 x1) (f_i_in_p a0 x1) h
def f_i_in_c : CRow := fun args inh => match dec2 [.p (.int .i64), .p (.int .i64)] [] args inh with
  | some ([.i a0, .i x1], []) => some ((f_i_in a0 x1).isSome, (f_i_in_en ((f_i_in a0 x1).getD false)).1, (f_i_in_en ((f_i_in a0 x1).getD false)).2)
  | _ => none
theorem f_i_in_cc : CTrue Try.prog 153 f_i_in_c := by
  intro args inh rs out h
  unfold f_i_in_c at h
  split at h
  · rename_i hd
    obtain ⟨h1, h2⟩ := dec2_enc hd
    rw [← h1, ← h2]
    exact rowC (f_i_in_ok _ _) h
  · cases h

def f_i_part_F : Fi := { nv := 0, nc := 0, m := 0, vt := [], kl := [(0, ([0, 2, 3, 4, 6, 7, 8, 12, 13, 14, 15, 16, 17, 18, 19, 20, 21, 22, 23, 24], [0, 1, 2, 3, 4, 6, 7, 8, 9, 10, 11, 12, 13, 14, 15, 16, 17, 18, 19, 20, 21, 22, 23, 24], [0, 1, 2, 3, 5, 6, 7, 8, 9, 10, 11, 12, 13, 14, 15, 16, 17, 18, 19, 20, 21, 22, 23, 24]))], sk := [], mvs := [], fz := [] }
def f_i_part_a (l0 : List Sc) (mask1 : Int) : List AV := enc [.p .sl, .p (.int .i64)] [.l l0, .i mask1]
def f_i_part_i (l0 : List Sc) (mask1 : Int) : List AV := enc [] []
def f_i_part_en (r : List Sc) : List AV × List AV := (enc [.p (.al 0)] [], enc [.own 3] [.l r])
def f_i_part_M : Calling := addC 153 f_i_in_c (noC)
theorem f_i_part_Mt : CallOk Try.prog (f_i_part_M) := addC_true f_i_in_cc (noC_true)
theorem f_i_part_o : loopsOnce Try.f173 = true := by kernel_rfl
def f_i_part_h0 : List Sh := [.u, .p (.int .i64), .u, .u, .u, .own 3, .u, .u, .u, .p .sl, .p (.int .i64), .p (.int .i64), .u, .u, .u, .u, .u, .u, .u, .u, .u, .u, .u, .u, .u]
def f_i_part_fr0 (mask1 : Int) (t9 : List Sc) (t10 : Int) (s : List Sc × Int) : List AV := enc f_i_part_h0 [.i mask1, .l s.1, .l t9, .i t10, .i s.2]
def f_i_part_g0_1 : List Sh := [.u, .u, .u, .u, .u, .own 3, .u, .u, .u, .u, .u, .u, .u, .u, .u, .u, .u, .u, .u, .u, .u, .u, .u, .u, .u]
def f_i_part_x0_1 (mask1 : Int) (t9 : List Sc) (t10 : Int) (e : List Sc) : X × List AV := (.out 0, enc f_i_part_g0_1 [.l e])
def f_i_part_x0_2 (mask1 : Int) (t9 : List Sc) (t10 : Int) (_e : Unit) : X × List AV := (.ret, [])
theorem f_i_part_p0 {R : Type} (mask1 : Int) (t9 : List Sc) (t10 : Int) (s : List Sc × Int) (kN : List Sc × Int → Option R) (kA : List Sc → Option R) (kB : Unit → Option R) : f_i_part_k0 mask1 t9 t10 s.1 s.2 kN kA = (f_i_part_r0 mask1 t9 t10 s).bind (Ro.el kN kA kB) := by
  simp only [f_i_part_k0, f_i_part_r0, brB, boB, someB, noneB, Ro.el]
theorem f_i_part_e0 (mask1 : Int) (t9 : List Sc) (t10 : Int) (s : List Sc × Int) : EC E0 f_i_part_M H0 f_i_part_F (asL (noL)) 0 (bodyOf Try.f173 0) (f_i_part_fr0 mask1 t9 t10 s) (done (klOf f_i_part_F 0)) = f_i_part_k0 mask1 t9 t10 s.1 s.2 (fun s => some (.norm, f_i_part_fr0 mask1 t9 t10 s)) (fun e => some (f_i_part_x0_1 mask1 t9 t10 e)) := by kernel_rfl
theorem f_i_part_l0 (mask1 : Int) (t9 : List Sc) (t10 : Int) : ∀ s r, loopL (f_i_part_r0 mask1 t9 t10) s = some r → LS Try.prog f_i_part_F (bodyOf Try.f173 0) (f_i_part_fr0 mask1 t9 t10 s) (enX (f_i_part_x0_1 mask1 t9 t10) (f_i_part_x0_2 mask1 t9 t10) r) :=
  loop_true E0ok f_i_part_Mt (noL_true) f_i_part_o (fun _ h => by cases h) (fun _ h => by cases h) (fun s => (f_i_part_e0 mask1 t9 t10 s).trans (f_i_part_p0 mask1 t9 t10 s _ _ (fun e => some (f_i_part_x0_2 mask1 t9 t10 e))))
def f_i_part_t0 (σ : List AV) : Option (Bool × Bool × (X × List AV) × (X × List AV)) := match dec f_i_part_h0 σ with
  | some [.i mask1, .l out5, .l t9, .i t10, .i t11] => some (isOne (loopL (f_i_part_r0 mask1 t9 t10) (out5, t11)), true, f_i_part_x0_1 mask1 t9 t10 (getOne [] (loopL (f_i_part_r0 mask1 t9 t10) (out5, t11))), (.ret, []))
  | _ => none
theorem f_i_part_tt0 : TTrue Try.prog f_i_part_F Try.f173 0 (f_i_part_t0) := by
  intro σ p r r' h
  unfold f_i_part_t0 at h
  split at h
  · rename_i hd
    rw [← dec_enc hd]
    exact row1 (f_i_part_l0 _ _ _ _) h
  · cases h
theorem f_i_part_p {R : Type} (l0 : List Sc) (mask1 : Int) (kR : List Sc → Option R) : f_i_part_k l0 mask1 kR = (f_i_part_k l0 mask1 some).bind kR := by
  simp only [f_i_part_k, bl1B, someB]
theorem f_i_part_e (l0 : List Sc) (mask1 : Int) : runFn E0 f_i_part_M H0 f_i_part_F (asL (addL 0 (f_i_part_t0) (noL))) Try.f173 (f_i_part_a l0 mask1) (f_i_part_i l0 mask1) = f_i_part_k l0 mask1 (fun r => some (f_i_part_en r)) := by kernel_rfl
theorem f_i_part_ok (l0 : List Sc) (mask1 : Int) (r : List Sc) (h : f_i_part l0 mask1 = some r) : CS Try.prog 173 (f_i_part_a l0 mask1) (f_i_part_i l0 mask1) (f_i_part_en r).1 (f_i_part_en r).2 :=
  fn_true (Gk := fun k => f_i_part_k l0 mask1 k) (en := f_i_part_en) Try.func173 E0ok f_i_part_Mt (addL_true (f_i_part_tt0) (noL_true)) f_i_part_o (f_i_part_e l0 mask1) (f_i_part_p l0 mask1) h
def f_i_part_c : CRow := fun args inh => match dec2 [.p .sl, .p (.int .i64)] [] args inh with
  | some ([.l l0, .i mask1], []) => some ((f_i_part l0 mask1).isSome, (f_i_part_en ((f_i_part l0 mask1).getD [])).1, (f_i_part_en ((f_i_part l0 mask1).getD [])).2)
  | _ => none
theorem f_i_part_cc : CTrue Try.prog 173 f_i_part_c := by
  intro args inh rs out h
  unfold f_i_part_c at h
  split at h
  · rename_i hd
    obtain ⟨h1, h2⟩ := dec2_enc hd
    rw [← h1, ← h2]
    exact rowC (f_i_part_ok _ _) h
  · cases h

def f_i_Group_add_F : Fi := { nv := 0, nc := 0, m := 0, vt := [], kl := [(0, ([0, 3, 4, 5, 6, 9, 10, 11, 15, 16, 17, 18, 19, 20, 21, 22, 23, 24, 25, 26, 27, 28, 29, 30, 31, 32, 33, 34, 35, 36, 37, 38, 39, 40, 41], [0, 1, 2, 3, 4, 5, 6, 8, 9, 10, 11, 12, 13, 14, 15, 16, 17, 18, 19, 20, 21, 22, 23, 24, 25, 26, 27, 28, 29, 30, 31, 32, 33, 34, 35, 36, 37, 38, 39, 40, 41], [0, 1, 2, 3, 4, 5, 7, 8, 9, 10, 11, 12, 13, 14, 15, 16, 17, 18, 19, 20, 21, 22, 23, 24, 25, 26, 27, 28, 29, 30, 31, 32, 33, 34, 35, 36, 37, 38, 39, 40, 41]))], sk := [], mvs := [], fz := [] }
def f_i_Group_add_a (g0 : List Sc) (x1 : Int) (y2 : Int) : List AV := enc [.p .gr, .p (.int .i64), .p (.int .i64)] [.l g0, .i x1, .i y2]
def f_i_Group_add_i (g0 : List Sc) (x1 : Int) (y2 : Int) : List AV := enc [] []
def f_i_Group_add_en (r : Int) : List AV × List AV := (enc [.p (.int .i64)] [.i r], enc [] [])
def f_i_Group_add_M : Calling := noC
theorem f_i_Group_add_Mt : CallOk Try.prog (f_i_Group_add_M) := noC_true
theorem f_i_Group_add_o : loopsOnce Try.f155 = true := by kernel_rfl
def f_i_Group_add_h0 : List Sh := [.u, .p (.int .i64), .p (.int .i64), .u, .u, .u, .u, .p (.int .i64), .p (.int .i64), .u, .u, .u, .p .sl, .p (.int .i64), .p (.int .i64), .u, .u, .u, .u, .u, .u, .u, .u, .u, .u, .u, .u, .u, .u, .u, .u, .u, .u, .u, .u, .u, .u, .u, .u, .u, .u, .u]
def f_i_Group_add_fr0 (t12 : List Sc) (t13 : Int) (s : Int × Int × Int × Int × Int) : List AV := enc f_i_Group_add_h0 [.i s.1, .i s.2.1, .i s.2.2.1, .i s.2.2.2.1, .l t12, .i t13, .i s.2.2.2.2]
def f_i_Group_add_g0_1 : List Sh := [.u, .u, .u, .u, .u, .u, .u, .p (.int .i64), .u, .u, .u, .u, .u, .u, .u, .u, .u, .u, .u, .u, .u, .u, .u, .u, .u, .u, .u, .u, .u, .u, .u, .u, .u, .u, .u, .u, .u, .u, .u, .u, .u, .u]
def f_i_Group_add_x0_1 (t12 : List Sc) (t13 : Int) (e : Int) : X × List AV := (.out 0, enc f_i_Group_add_g0_1 [.i e])
def f_i_Group_add_x0_2 (t12 : List Sc) (t13 : Int) (_e : Unit) : X × List AV := (.ret, [])
theorem f_i_Group_add_p0 {R : Type} (t12 : List Sc) (t13 : Int) (s : Int × Int × Int × Int × Int) (kN : Int × Int × Int × Int × Int → Option R) (kA : Int → Option R) (kB : Unit → Option R) : f_i_Group_add_k0 t12 t13 s.1 s.2.1 s.2.2.1 s.2.2.2.1 s.2.2.2.2 kN kA = (f_i_Group_add_r0 t12 t13 s).bind (Ro.el kN kA kB) := by
  simp only [f_i_Group_add_k0, f_i_Group_add_r0, brB, someB, noneB, Ro.el]
theorem f_i_Group_add_e0 (t12 : List Sc) (t13 : Int) (s : Int × Int × Int × Int × Int) : EC E0 f_i_Group_add_M H0 f_i_Group_add_F (asL (noL)) 0 (bodyOf Try.f155 0) (f_i_Group_add_fr0 t12 t13 s) (done (klOf f_i_Group_add_F 0)) = f_i_Group_add_k0 t12 t13 s.1 s.2.1 s.2.2.1 s.2.2.2.1 s.2.2.2.2 (fun s => some (.norm, f_i_Group_add_fr0 t12 t13 s)) (fun e => some (f_i_Group_add_x0_1 t12 t13 e)) := by kernel_rfl
theorem f_i_Group_add_l0 (t12 : List Sc) (t13 : Int) : ∀ s r, loopL (f_i_Group_add_r0 t12 t13) s = some r → LS Try.prog f_i_Group_add_F (bodyOf Try.f155 0) (f_i_Group_add_fr0 t12 t13 s) (enX (f_i_Group_add_x0_1 t12 t13) (f_i_Group_add_x0_2 t12 t13) r) :=
  loop_true E0ok f_i_Group_add_Mt (noL_true) f_i_Group_add_o (fun _ h => by cases h) (fun _ h => by cases h) (fun s => (f_i_Group_add_e0 t12 t13 s).trans (f_i_Group_add_p0 t12 t13 s _ _ (fun e => some (f_i_Group_add_x0_2 t12 t13 e))))
def f_i_Group_add_t0 (σ : List AV) : Option (Bool × Bool × (X × List AV) × (X × List AV)) := match dec f_i_Group_add_h0 σ with
  | some [.i x1, .i y2, .i sum7, .i unit8, .l t12, .i t13, .i t14] => some (isOne (loopL (f_i_Group_add_r0 t12 t13) (x1, y2, sum7, unit8, t14)), true, f_i_Group_add_x0_1 t12 t13 (getOne 0 (loopL (f_i_Group_add_r0 t12 t13) (x1, y2, sum7, unit8, t14))), (.ret, []))
  | _ => none
theorem f_i_Group_add_tt0 : TTrue Try.prog f_i_Group_add_F Try.f155 0 (f_i_Group_add_t0) := by
  intro σ p r r' h
  unfold f_i_Group_add_t0 at h
  split at h
  · rename_i hd
    rw [← dec_enc hd]
    exact row1 (f_i_Group_add_l0 _ _ _) h
  · cases h
theorem f_i_Group_add_p {R : Type} (g0 : List Sc) (x1 : Int) (y2 : Int) (kR : Int → Option R) : f_i_Group_add_k g0 x1 y2 kR = (f_i_Group_add_k g0 x1 y2 some).bind kR := by
  simp only [f_i_Group_add_k, bl1B, someB]
theorem f_i_Group_add_e (g0 : List Sc) (x1 : Int) (y2 : Int) : runFn E0 f_i_Group_add_M H0 f_i_Group_add_F (asL (addL 0 (f_i_Group_add_t0) (noL))) Try.f155 (f_i_Group_add_a g0 x1 y2) (f_i_Group_add_i g0 x1 y2) = f_i_Group_add_k g0 x1 y2 (fun r => some (f_i_Group_add_en r)) := by kernel_rfl
theorem f_i_Group_add_ok (g0 : List Sc) (x1 : Int) (y2 : Int) (r : Int) (h : f_i_Group_add g0 x1 y2 = some r) : CS Try.prog 155 (f_i_Group_add_a g0 x1 y2) (f_i_Group_add_i g0 x1 y2) (f_i_Group_add_en r).1 (f_i_Group_add_en r).2 :=
  fn_true (Gk := fun k => f_i_Group_add_k g0 x1 y2 k) (en := f_i_Group_add_en) Try.func155 E0ok f_i_Group_add_Mt (addL_true (f_i_Group_add_tt0) (noL_true)) f_i_Group_add_o (f_i_Group_add_e g0 x1 y2) (f_i_Group_add_p g0 x1 y2) h
def f_i_Group_add_c : CRow := fun args inh => match dec2 [.p .gr, .p (.int .i64), .p (.int .i64)] [] args inh with
  | some ([.l g0, .i x1, .i y2], []) => some ((f_i_Group_add g0 x1 y2).isSome, (f_i_Group_add_en ((f_i_Group_add g0 x1 y2).getD 0)).1, (f_i_Group_add_en ((f_i_Group_add g0 x1 y2).getD 0)).2)
  | _ => none
theorem f_i_Group_add_cc : CTrue Try.prog 155 f_i_Group_add_c := by
  intro args inh rs out h
  unfold f_i_Group_add_c at h
  split at h
  · rename_i hd
    obtain ⟨h1, h2⟩ := dec2_enc hd
    rw [← h1, ← h2]
    exact rowC (f_i_Group_add_ok _ _ _) h
  · cases h

def f_i_Group_total_F : Fi := { nv := 0, nc := 0, m := 0, vt := [], kl := [(0, ([0, 1, 3, 4, 6, 7, 11, 12, 13, 14, 15, 16, 17, 18, 19], [0, 1, 2, 3, 4, 6, 7, 8, 9, 10, 11, 12, 13, 14, 15, 16, 17, 18, 19], [0, 1, 2, 3, 5, 6, 7, 8, 9, 10, 11, 12, 13, 14, 15, 16, 17, 18, 19]))], sk := [], mvs := [], fz := [] }
def f_i_Group_total_a (g0 : List Sc) (l1 : List Sc) : List AV := enc [.p .gr, .p .sl] [.l g0, .l l1]
def f_i_Group_total_i (g0 : List Sc) (l1 : List Sc) : List AV := enc [] []
def f_i_Group_total_en (r : Int) : List AV × List AV := (enc [.p (.int .i64)] [.i r], enc [] [])
def f_i_Group_total_M : Calling := addC 155 f_i_Group_add_c (noC)
theorem f_i_Group_total_Mt : CallOk Try.prog (f_i_Group_total_M) := addC_true f_i_Group_add_cc (noC_true)
theorem f_i_Group_total_o : loopsOnce Try.f181 = true := by kernel_rfl
def f_i_Group_total_h0 : List Sh := [.u, .u, .p .el, .u, .u, .p (.int .i64), .u, .u, .p .sl, .p (.int .i64), .p (.int .i64), .u, .u, .u, .u, .u, .u, .u, .u, .u]
def f_i_Group_total_fr0 (g2 : List Sc) (t8 : List Sc) (t9 : Int) (s : Int × Int) : List AV := enc f_i_Group_total_h0 [.l g2, .i s.1, .l t8, .i t9, .i s.2]
def f_i_Group_total_g0_1 : List Sh := [.u, .u, .u, .u, .u, .p (.int .i64), .u, .u, .u, .u, .u, .u, .u, .u, .u, .u, .u, .u, .u, .u]
def f_i_Group_total_x0_1 (g2 : List Sc) (t8 : List Sc) (t9 : Int) (e : Int) : X × List AV := (.out 0, enc f_i_Group_total_g0_1 [.i e])
def f_i_Group_total_x0_2 (g2 : List Sc) (t8 : List Sc) (t9 : Int) (_e : Unit) : X × List AV := (.ret, [])
theorem f_i_Group_total_p0 {R : Type} (g2 : List Sc) (t8 : List Sc) (t9 : Int) (s : Int × Int) (kN : Int × Int → Option R) (kA : Int → Option R) (kB : Unit → Option R) : f_i_Group_total_k0 g2 t8 t9 s.1 s.2 kN kA = (f_i_Group_total_r0 g2 t8 t9 s).bind (Ro.el kN kA kB) := by
  simp only [f_i_Group_total_k0, f_i_Group_total_r0, brB, boB, someB, noneB, Ro.el]
theorem f_i_Group_total_e0 (g2 : List Sc) (t8 : List Sc) (t9 : Int) (s : Int × Int) : EC E0 f_i_Group_total_M H0 f_i_Group_total_F (asL (noL)) 0 (bodyOf Try.f181 0) (f_i_Group_total_fr0 g2 t8 t9 s) (done (klOf f_i_Group_total_F 0)) = f_i_Group_total_k0 g2 t8 t9 s.1 s.2 (fun s => some (.norm, f_i_Group_total_fr0 g2 t8 t9 s)) (fun e => some (f_i_Group_total_x0_1 g2 t8 t9 e)) := by kernel_rfl
theorem f_i_Group_total_l0 (g2 : List Sc) (t8 : List Sc) (t9 : Int) : ∀ s r, loopL (f_i_Group_total_r0 g2 t8 t9) s = some r → LS Try.prog f_i_Group_total_F (bodyOf Try.f181 0) (f_i_Group_total_fr0 g2 t8 t9 s) (enX (f_i_Group_total_x0_1 g2 t8 t9) (f_i_Group_total_x0_2 g2 t8 t9) r) :=
  loop_true E0ok f_i_Group_total_Mt (noL_true) f_i_Group_total_o (fun _ h => by cases h) (fun _ h => by cases h) (fun s => (f_i_Group_total_e0 g2 t8 t9 s).trans (f_i_Group_total_p0 g2 t8 t9 s _ _ (fun e => some (f_i_Group_total_x0_2 g2 t8 t9 e))))
def f_i_Group_total_t0 (σ : List AV) : Option (Bool × Bool × (X × List AV) × (X × List AV)) := match dec f_i_Group_total_h0 σ with
  | some [.l g2, .i s5, .l t8, .i t9, .i t10] => some (isOne (loopL (f_i_Group_total_r0 g2 t8 t9) (s5, t10)), true, f_i_Group_total_x0_1 g2 t8 t9 (getOne 0 (loopL (f_i_Group_total_r0 g2 t8 t9) (s5, t10))), (.ret, []))
  | _ => none
theorem f_i_Group_total_tt0 : TTrue Try.prog f_i_Group_total_F Try.f181 0 (f_i_Group_total_t0) := by
  intro σ p r r' h
  unfold f_i_Group_total_t0 at h
  split at h
  · rename_i hd
    rw [← dec_enc hd]
    exact row1 (f_i_Group_total_l0 _ _ _ _) h
  · cases h
theorem f_i_Group_total_p {R : Type} (g0 : List Sc) (l1 : List Sc) (kR : Int → Option R) : f_i_Group_total_k g0 l1 kR = (f_i_Group_total_k g0 l1 some).bind kR := by
  simp only [f_i_Group_total_k, bl1B, someB]
theorem f_i_Group_total_e (g0 : List Sc) (l1 : List Sc) : runFn E0 f_i_Group_total_M H0 f_i_Group_total_F (asL (addL 0 (f_i_Group_total_t0) (noL))) Try.f181 (f_i_Group_total_a g0 l1) (f_i_Group_total_i g0 l1) = f_i_Group_total_k g0 l1 (fun r => some (f_i_Group_total_en r)) := by kernel_rfl
theorem f_i_Group_total_ok (g0 : List Sc) (l1 : List Sc) (r : Int) (h : f_i_Group_total g0 l1 = some r) : CS Try.prog 181 (f_i_Group_total_a g0 l1) (f_i_Group_total_i g0 l1) (f_i_Group_total_en r).1 (f_i_Group_total_en r).2 :=
  fn_true (Gk := fun k => f_i_Group_total_k g0 l1 k) (en := f_i_Group_total_en) Try.func181 E0ok f_i_Group_total_Mt (addL_true (f_i_Group_total_tt0) (noL_true)) f_i_Group_total_o (f_i_Group_total_e g0 l1) (f_i_Group_total_p g0 l1) h
def f_i_Group_total_c : CRow := fun args inh => match dec2 [.p .gr, .p .sl] [] args inh with
  | some ([.l g0, .l l1], []) => some ((f_i_Group_total g0 l1).isSome, (f_i_Group_total_en ((f_i_Group_total g0 l1).getD 0)).1, (f_i_Group_total_en ((f_i_Group_total g0 l1).getD 0)).2)
  | _ => none
theorem f_i_Group_total_cc : CTrue Try.prog 181 f_i_Group_total_c := by
  intro args inh rs out h
  unfold f_i_Group_total_c at h
  split at h
  · rename_i hd
    obtain ⟨h1, h2⟩ := dec2_enc hd
    rw [← h1, ← h2]
    exact rowC (f_i_Group_total_ok _ _) h
  · cases h

def f_i_ZeroOfLength_F : Fi := { nv := 0, nc := 0, m := 0, vt := [], kl := [(0, ([0, 4, 5, 6, 7, 8, 9, 10, 11, 12, 13, 14, 15, 16, 17, 18, 19, 20, 21, 22, 25, 26, 27, 28, 29, 30, 31, 32, 33, 34, 35, 36, 37, 38, 39, 40, 41, 42, 43], [0, 1, 2, 3, 4, 5, 6, 7, 8, 9, 10, 11, 12, 13, 14, 15, 16, 17, 18, 19, 20, 21, 22, 23, 24, 25, 26, 27, 28, 29, 30, 31, 32, 33, 34, 35, 36, 37, 38, 39, 40, 41, 42, 43], [0, 1, 2, 3, 4, 5, 8, 9, 10, 11, 12, 13, 14, 15, 16, 17, 18, 19, 20, 21, 22, 23, 24, 25, 26, 27, 28, 29, 30, 31, 32, 33, 34, 35, 36, 37, 38, 39, 40, 41, 42, 43]))], sk := [], mvs := [], fz := [] }
def f_i_ZeroOfLength_a (g0 : List Sc) (l1 : List Sc) (k2 : Int) : List AV := enc [.p .gr, .p .sl, .p (.int .i64)] [.l g0, .l l1, .i k2]
def f_i_ZeroOfLength_i (g0 : List Sc) (l1 : List Sc) (k2 : Int) : List AV := enc [] []
def f_i_ZeroOfLength_en (r : List Sc × Bool) : List AV × List AV := (enc [.p (.al 0), .p .boo] [.b r.2], enc [.own 3] [.l r.1])
def f_i_ZeroOfLength_M : Calling := addC 104 f_i_IsSequence_c (addC 144 f_i_within_c (addC 126 f_i_bits_c (addC 173 f_i_part_c (addC 181 f_i_Group_total_c (noC)))))
theorem f_i_ZeroOfLength_Mt : CallOk Try.prog (f_i_ZeroOfLength_M) := addC_true f_i_IsSequence_cc (addC_true f_i_within_cc (addC_true f_i_bits_cc (addC_true f_i_part_cc (addC_true f_i_Group_total_cc (noC_true)))))
theorem f_i_ZeroOfLength_o : loopsOnce Try.f70 = true := by kernel_rfl
def f_i_ZeroOfLength_h0 : List Sh := [.u, .p .sl, .p (.int .i64), .p .el, .u, .u, .u, .u, .u, .u, .u, .u, .u, .u, .u, .u, .u, .u, .u, .u, .u, .u, .u, .p (.int .i64), .p (.int .i64), .u, .u, .u, .u, .u, .u, .u, .u, .u, .u, .u, .u, .u, .u, .u, .u, .u, .u, .u]
def f_i_ZeroOfLength_fr0 (l1 : List Sc) (k2 : Int) (g3 : List Sc) (t23 : Int) (s : Int) : List AV := enc f_i_ZeroOfLength_h0 [.l l1, .i k2, .l g3, .i t23, .i s]
def f_i_ZeroOfLength_g0_1 : List Sh := [.u, .u, .u, .u, .u, .u, .u, .u, .u, .u, .u, .u, .u, .u, .u, .u, .u, .u, .u, .u, .u, .u, .u, .u, .u, .u, .u, .u, .u, .u, .u, .u, .u, .u, .u, .u, .u, .u, .u, .u, .u, .u, .u, .u]
def f_i_ZeroOfLength_x0_1 (l1 : List Sc) (k2 : Int) (g3 : List Sc) (t23 : Int) (e : Unit) : X × List AV := (.out 0, enc f_i_ZeroOfLength_g0_1 [])
def f_i_ZeroOfLength_g0_2 : List Sh := [.u, .u, .u, .u, .u, .u, .own 3, .p .boo, .u, .u, .u, .u, .u, .u, .u, .u, .u, .u, .u, .u, .u, .u, .u, .u, .u, .u, .u, .u, .u, .u, .u, .u, .u, .u, .u, .u, .u, .u, .u, .u, .u, .u, .u, .u]
def f_i_ZeroOfLength_x0_2 (l1 : List Sc) (k2 : Int) (g3 : List Sc) (t23 : Int) (e : List Sc) : X × List AV := (.ret, enc f_i_ZeroOfLength_g0_2 [.l e, .b true])
theorem f_i_ZeroOfLength_p0 {R : Type} (l1 : List Sc) (k2 : Int) (g3 : List Sc) (t23 : Int) (s : Int) (kN : Int → Option R) (kA : Unit → Option R) (kB : List Sc → Option R) : f_i_ZeroOfLength_k0 l1 k2 g3 t23 s kN kA kB = (f_i_ZeroOfLength_r0 l1 k2 g3 t23 s).bind (Ro.el kN kA kB) := by
  simp only [f_i_ZeroOfLength_k0, f_i_ZeroOfLength_r0, brB, boB, someB, Ro.el]
theorem f_i_ZeroOfLength_e0 (l1 : List Sc) (k2 : Int) (g3 : List Sc) (t23 : Int) (s : Int) : EC E0 f_i_ZeroOfLength_M H0 f_i_ZeroOfLength_F (asL (noL)) 0 (bodyOf Try.f70 0) (f_i_ZeroOfLength_fr0 l1 k2 g3 t23 s) (done (klOf f_i_ZeroOfLength_F 0)) = f_i_ZeroOfLength_k0 l1 k2 g3 t23 s (fun s => some (.norm, f_i_ZeroOfLength_fr0 l1 k2 g3 t23 s)) (fun e => some (f_i_ZeroOfLength_x0_1 l1 k2 g3 t23 e)) (fun e => some (f_i_ZeroOfLength_x0_2 l1 k2 g3 t23 e)) := by kernel_rfl
theorem f_i_ZeroOfLength_l0 (l1 : List Sc) (k2 : Int) (g3 : List Sc) (t23 : Int) : ∀ s r, loopL (f_i_ZeroOfLength_r0 l1 k2 g3 t23) s = some r → LS Try.prog f_i_ZeroOfLength_F (bodyOf Try.f70 0) (f_i_ZeroOfLength_fr0 l1 k2 g3 t23 s) (enX (f_i_ZeroOfLength_x0_1 l1 k2 g3 t23) (f_i_ZeroOfLength_x0_2 l1 k2 g3 t23) r) :=
  loop_true E0ok f_i_ZeroOfLength_Mt (noL_true) f_i_ZeroOfLength_o (fun _ h => by cases h) (fun _ h => by cases h) (fun s => (f_i_ZeroOfLength_e0 l1 k2 g3 t23 s).trans (f_i_ZeroOfLength_p0 l1 k2 g3 t23 s _ _ (fun e => some (f_i_ZeroOfLength_x0_2 l1 k2 g3 t23 e))))
def f_i_ZeroOfLength_t0 (σ : List AV) : Option (Bool × Bool × (X × List AV) × (X × List AV)) := match dec f_i_ZeroOfLength_h0 σ with
  | some [.l l1, .i k2, .l g3, .i t23, .i t24] => some ((loopL (f_i_ZeroOfLength_r0 l1 k2 g3 t23) t24).isSome, isOne (loopL (f_i_ZeroOfLength_r0 l1 k2 g3 t23) t24), f_i_ZeroOfLength_x0_1 l1 k2 g3 t23 (getOne () (loopL (f_i_ZeroOfLength_r0 l1 k2 g3 t23) t24)), f_i_ZeroOfLength_x0_2 l1 k2 g3 t23 (getTwo [] (loopL (f_i_ZeroOfLength_r0 l1 k2 g3 t23) t24)))
  | _ => none
theorem f_i_ZeroOfLength_tt0 : TTrue Try.prog f_i_ZeroOfLength_F Try.f70 0 (f_i_ZeroOfLength_t0) := by
  intro σ p r r' h
  unfold f_i_ZeroOfLength_t0 at h
  split at h
  · rename_i hd
    rw [← dec_enc hd]
    exact row2 (f_i_ZeroOfLength_l0 _ _ _ _ _) h
  · cases h
theorem f_i_ZeroOfLength_p {R : Type} (g0 : List Sc) (l1 : List Sc) (k2 : Int) (kR : List Sc × Bool → Option R) : f_i_ZeroOfLength_k g0 l1 k2 kR = (f_i_ZeroOfLength_k g0 l1 k2 some).bind kR := by
  simp only [f_i_ZeroOfLength_k, brB, boB, blB, someB, noneB]
theorem f_i_ZeroOfLength_e (g0 : List Sc) (l1 : List Sc) (k2 : Int) : runFn E0 f_i_ZeroOfLength_M H0 f_i_ZeroOfLength_F (asL (addL 0 (f_i_ZeroOfLength_t0) (noL))) Try.f70 (f_i_ZeroOfLength_a g0 l1 k2) (f_i_ZeroOfLength_i g0 l1 k2) = f_i_ZeroOfLength_k g0 l1 k2 (fun r => some (f_i_ZeroOfLength_en r)) := by kernel_rfl
theorem f_i_ZeroOfLength_ok (g0 : List Sc) (l1 : List Sc) (k2 : Int) (r : List Sc × Bool) (h : f_i_ZeroOfLength g0 l1 k2 = some r) : CS Try.prog 70 (f_i_ZeroOfLength_a g0 l1 k2) (f_i_ZeroOfLength_i g0 l1 k2) (f_i_ZeroOfLength_en r).1 (f_i_ZeroOfLength_en r).2 :=
  fn_true (Gk := fun k => f_i_ZeroOfLength_k g0 l1 k2 k) (en := f_i_ZeroOfLength_en) Try.func70 E0ok f_i_ZeroOfLength_Mt (addL_true (f_i_ZeroOfLength_tt0) (noL_true)) f_i_ZeroOfLength_o (f_i_ZeroOfLength_e g0 l1 k2) (f_i_ZeroOfLength_p g0 l1 k2) h
def f_i_ZeroOfLength_c : CRow := fun args inh => match dec2 [.p .gr, .p .sl, .p (.int .i64)] [] args inh with
  | some ([.l g0, .l l1, .i k2], []) => some ((f_i_ZeroOfLength g0 l1 k2).isSome, (f_i_ZeroOfLength_en ((f_i_ZeroOfLength g0 l1 k2).getD ([], false))).1, (f_i_ZeroOfLength_en ((f_i_ZeroOfLength g0 l1 k2).getD ([], false))).2)
  | _ => none
theorem f_i_ZeroOfLength_cc : CTrue Try.prog 70 f_i_ZeroOfLength_c := by
  intro args inh rs out h
  unfold f_i_ZeroOfLength_c at h
  split at h
  · rename_i hd
    obtain ⟨h1, h2⟩ := dec2_enc hd
    rw [← h1, ← h2]
    exact rowC (f_i_ZeroOfLength_ok _ _ _) h
  · cases h

def f_i_ShortestZero_F : Fi := { nv := 1, nc := 0, m := 0, vt := [(24, 0)], kl := [(0, ([0, 1, 4, 5, 6, 8, 9, 10, 11, 12, 13, 14, 15, 16, 17, 18, 19, 20, 21, 22, 23, 24, 25, 26, 27, 28, 29, 30], [0, 1, 2, 3, 4, 5, 6, 7, 8, 9, 10, 11, 12, 13, 14, 15, 16, 17, 18, 19, 20, 21, 22, 23, 24, 25, 26, 27, 28, 29, 30], [0, 1, 2, 3, 4, 7, 8, 9, 10, 11, 12, 13, 14, 15, 16, 17, 18, 19, 20, 21, 22, 23, 24, 25, 26, 27, 28, 29, 30]))], sk := [], mvs := [0], fz := [] }
def f_i_ShortestZero_a (g0 : List Sc) (l1 : List Sc) : List AV := enc [.p .gr, .p .sl] [.l g0, .l l1]
def f_i_ShortestZero_i (g0 : List Sc) (l1 : List Sc) : List AV := enc [] []
def f_i_ShortestZero_en (r : List Sc × Bool) : List AV × List AV := (enc [.p (.al 0), .p .boo] [.b r.2], enc [.own 3] [.l r.1])
def f_i_ShortestZero_M : Calling := addC 104 f_i_IsSequence_c (addC 70 f_i_ZeroOfLength_c (noC))
theorem f_i_ShortestZero_Mt : CallOk Try.prog (f_i_ShortestZero_M) := addC_true f_i_IsSequence_cc (addC_true f_i_ZeroOfLength_cc (noC_true))
theorem f_i_ShortestZero_o : loopsOnce Try.f98 = true := by kernel_rfl
def f_i_ShortestZero_h0 : List Sh := [.u, .u, .p .sl, .p .el, .u, .u, .u, .p (.int .i64), .u, .u, .u, .u, .u, .u, .u, .u, .u, .u, .u, .u, .u, .u, .u, .u, .u, .u, .u, .u, .u, .u, .u]
def f_i_ShortestZero_fr0 (l1 : List Sc) (g2 : List Sc) (s : Int) : List AV := enc f_i_ShortestZero_h0 [.l l1, .l g2, .i s]
def f_i_ShortestZero_g0_1 : List Sh := [.u, .u, .u, .u, .u, .u, .u, .u, .u, .u, .u, .u, .u, .u, .u, .u, .u, .u, .u, .u, .u, .u, .u, .u, .u, .u, .u, .u, .u, .u, .u]
def f_i_ShortestZero_x0_1 (l1 : List Sc) (g2 : List Sc) (e : Unit) : X × List AV := (.out 0, enc f_i_ShortestZero_g0_1 [])
def f_i_ShortestZero_g0_2 : List Sh := [.u, .u, .u, .u, .u, .own 3, .p .boo, .u, .u, .u, .u, .u, .u, .u, .u, .u, .u, .u, .u, .u, .u, .u, .u, .u, .u, .u, .u, .u, .u, .u, .u]
def f_i_ShortestZero_x0_2 (l1 : List Sc) (g2 : List Sc) (e : List Sc) : X × List AV := (.ret, enc f_i_ShortestZero_g0_2 [.l e, .b true])
theorem f_i_ShortestZero_p0 {R : Type} (l1 : List Sc) (g2 : List Sc) (s : Int) (kN : Int → Option R) (kA : Unit → Option R) (kB : List Sc → Option R) : f_i_ShortestZero_k0 l1 g2 s kN kA kB = (f_i_ShortestZero_r0 l1 g2 s).bind (Ro.el kN kA kB) := by
  simp only [f_i_ShortestZero_k0, f_i_ShortestZero_r0, brB, boB, someB, Ro.el]
theorem f_i_ShortestZero_e0 (l1 : List Sc) (g2 : List Sc) (s : Int) : EC E0 f_i_ShortestZero_M H0 f_i_ShortestZero_F (asL (noL)) 0 (bodyOf Try.f98 0) (f_i_ShortestZero_fr0 l1 g2 s) (done (klOf f_i_ShortestZero_F 0)) = f_i_ShortestZero_k0 l1 g2 s (fun s => some (.norm, f_i_ShortestZero_fr0 l1 g2 s)) (fun e => some (f_i_ShortestZero_x0_1 l1 g2 e)) (fun e => some (f_i_ShortestZero_x0_2 l1 g2 e)) := by kernel_rfl
theorem f_i_ShortestZero_l0 (l1 : List Sc) (g2 : List Sc) : ∀ s r, loopL (f_i_ShortestZero_r0 l1 g2) s = some r → LS Try.prog f_i_ShortestZero_F (bodyOf Try.f98 0) (f_i_ShortestZero_fr0 l1 g2 s) (enX (f_i_ShortestZero_x0_1 l1 g2) (f_i_ShortestZero_x0_2 l1 g2) r) :=
  loop_true E0ok f_i_ShortestZero_Mt (noL_true) f_i_ShortestZero_o (fun _ h => by cases h) (fun _ h => by cases h) (fun s => (f_i_ShortestZero_e0 l1 g2 s).trans (f_i_ShortestZero_p0 l1 g2 s _ _ (fun e => some (f_i_ShortestZero_x0_2 l1 g2 e))))
def f_i_ShortestZero_t0 (σ : List AV) : Option (Bool × Bool × (X × List AV) × (X × List AV)) := match dec f_i_ShortestZero_h0 σ with
  | some [.l l1, .l g2, .i k6] => some ((loopL (f_i_ShortestZero_r0 l1 g2) k6).isSome, isOne (loopL (f_i_ShortestZero_r0 l1 g2) k6), f_i_ShortestZero_x0_1 l1 g2 (getOne () (loopL (f_i_ShortestZero_r0 l1 g2) k6)), f_i_ShortestZero_x0_2 l1 g2 (getTwo [] (loopL (f_i_ShortestZero_r0 l1 g2) k6)))
  | _ => none
theorem f_i_ShortestZero_tt0 : TTrue Try.prog f_i_ShortestZero_F Try.f98 0 (f_i_ShortestZero_t0) := by
  intro σ p r r' h
  unfold f_i_ShortestZero_t0 at h
  split at h
  · rename_i hd
    rw [← dec_enc hd]
    exact row2 (f_i_ShortestZero_l0 _ _ _) h
  · cases h
theorem f_i_ShortestZero_p {R : Type} (g0 : List Sc) (l1 : List Sc) (kR : List Sc × Bool → Option R) : f_i_ShortestZero_k g0 l1 kR = (f_i_ShortestZero_k g0 l1 some).bind kR := by
  simp only [f_i_ShortestZero_k, blB, someB]
theorem f_i_ShortestZero_e (g0 : List Sc) (l1 : List Sc) : runFn E0 f_i_ShortestZero_M H0 f_i_ShortestZero_F (asL (addL 0 (f_i_ShortestZero_t0) (noL))) Try.f98 (f_i_ShortestZero_a g0 l1) (f_i_ShortestZero_i g0 l1) = f_i_ShortestZero_k g0 l1 (fun r => some (f_i_ShortestZero_en r)) := by kernel_rfl
theorem f_i_ShortestZero_ok (g0 : List Sc) (l1 : List Sc) (r : List Sc × Bool) (h : f_i_ShortestZero g0 l1 = some r) : CS Try.prog 98 (f_i_ShortestZero_a g0 l1) (f_i_ShortestZero_i g0 l1) (f_i_ShortestZero_en r).1 (f_i_ShortestZero_en r).2 :=
  fn_true (Gk := fun k => f_i_ShortestZero_k g0 l1 k) (en := f_i_ShortestZero_en) Try.func98 E0ok f_i_ShortestZero_Mt (addL_true (f_i_ShortestZero_tt0) (noL_true)) f_i_ShortestZero_o (f_i_ShortestZero_e g0 l1) (f_i_ShortestZero_p g0 l1) h
def f_i_ShortestZero_c : CRow := fun args inh => match dec2 [.p .gr, .p .sl] [] args inh with
  | some ([.l g0, .l l1], []) => some ((f_i_ShortestZero g0 l1).isSome, (f_i_ShortestZero_en ((f_i_ShortestZero g0 l1).getD ([], false))).1, (f_i_ShortestZero_en ((f_i_ShortestZero g0 l1).getD ([], false))).2)
  | _ => none
theorem f_i_ShortestZero_cc : CTrue Try.prog 98 f_i_ShortestZero_c := by
  intro args inh rs out h
  unfold f_i_ShortestZero_c at h
  split at h
  · rename_i hd
    obtain ⟨h1, h2⟩ := dec2_enc hd
    rw [← h1, ← h2]
    exact rowC (f_i_ShortestZero_ok _ _) h
  · cases h

def f_s_l2Is_F : Fi := { nv := 0, nc := 0, m := 0, vt := [], kl := [], sk := [], mvs := [], fz := [] }
def f_s_l2Is_a (g0 : List Sc) (x1 : Int) : List AV := enc [.p .gr, .p (.int .i64)] [.l g0, .i x1]
def f_s_l2Is_i (g0 : List Sc) (x1 : Int) : List AV := enc [] []
def f_s_l2Is_en (r : Bool) : List AV × List AV := (enc [.p .boo] [.b r], enc [] [])
def f_s_l2Is_M : Calling := addC 72 f_s_OrderOf_c (noC)
theorem f_s_l2Is_Mt : CallOk Try.prog (f_s_l2Is_M) := addC_true f_s_OrderOf_cc (noC_true)
theorem f_s_l2Is_o : loopsOnce Try.f148 = true := by kernel_rfl
theorem f_s_l2Is_p {R : Type} (g0 : List Sc) (x1 : Int) (kR : Bool → Option R) : f_s_l2Is_k g0 x1 kR = (f_s_l2Is_k g0 x1 some).bind kR := by
  simp only [f_s_l2Is_k, brB, boB, someB]
theorem f_s_l2Is_e (g0 : List Sc) (x1 : Int) : runFn E0 f_s_l2Is_M H0 f_s_l2Is_F (asL (noL)) Try.f148 (f_s_l2Is_a g0 x1) (f_s_l2Is_i g0 x1) = f_s_l2Is_k g0 x1 (fun r => some (f_s_l2Is_en r)) := by kernel_rfl
theorem f_s_l2Is_ok (g0 : List Sc) (x1 : Int) (r : Bool) (h : f_s_l2Is g0 x1 = some r) : CS Try.prog 148 (f_s_l2Is_a g0 x1) (f_s_l2Is_i g0 x1) (f_s_l2Is_en r).1 (f_s_l2Is_en r).2 :=
  fn_true (Gk := fun k => f_s_l2Is_k g0 x1 k) (en := f_s_l2Is_en) Try.func148 E0ok f_s_l2Is_Mt (noL_true) f_s_l2Is_o (f_s_l2Is_e g0 x1) (f_s_l2Is_p g0 x1) h
def f_s_l2Is_c : CRow := fun args inh => match dec2 [.p .gr, .p (.int .i64)] [] args inh with
  | some ([.l g0, .i x1], []) => some ((f_s_l2Is g0 x1).isSome, (f_s_l2Is_en ((f_s_l2Is g0 x1).getD false)).1, (f_s_l2Is_en ((f_s_l2Is g0 x1).getD false)).2)
  | _ => none
theorem f_s_l2Is_cc : CTrue Try.prog 148 f_s_l2Is_c := by
  intro args inh rs out h
  unfold f_s_l2Is_c at h
  split at h
  · rename_i hd
    obtain ⟨h1, h2⟩ := dec2_enc hd
    rw [← h1, ← h2]
    exact rowC (f_s_l2Is_ok _ _) h
  · cases h

def f_s_IsSequence_F : Fi := { nv := 0, nc := 0, m := 0, vt := [], kl := [(0, ([0, 3, 4, 6, 7, 8, 9, 10, 11, 12, 13, 14, 15, 16, 17, 18, 19, 20, 21, 22, 23, 24, 25, 26, 27, 28, 29, 30, 31, 32, 33, 34, 35, 36, 37, 38, 39, 40, 41], [0, 3, 4, 5, 6, 7, 8, 9, 10, 11, 12, 13, 14, 15, 16, 17, 18, 19, 20, 21, 22, 23, 24, 25, 26, 27, 28, 29, 30, 31, 32, 33, 34, 35, 36, 37, 38, 39, 40, 41], [0, 1, 2, 3, 5, 6, 7, 8, 9, 10, 11, 12, 13, 14, 15, 16, 17, 18, 19, 20, 21, 22, 23, 24, 25, 26, 27, 28, 29, 30, 31, 32, 33, 34, 35, 36, 37, 38, 39, 40, 41]))], sk := [], mvs := [], fz := [] }
def f_s_IsSequence_a (g0 : List Sc) (l1 : List Sc) : List AV := enc [.p .gr, .p .sl] [.l g0, .l l1]
def f_s_IsSequence_i (g0 : List Sc) (l1 : List Sc) : List AV := enc [] []
def f_s_IsSequence_en (r : Bool) : List AV × List AV := (enc [.p .boo] [.b r], enc [] [])
def f_s_IsSequence_M : Calling := addC 148 f_s_l2Is_c (addC 179 f_s_IsGroup_c (noC))
theorem f_s_IsSequence_Mt : CallOk Try.prog (f_s_IsSequence_M) := addC_true f_s_l2Is_cc (addC_true f_s_IsGroup_cc (noC_true))
theorem f_s_IsSequence_o : loopsOnce Try.f101 = true := by kernel_rfl
def f_s_IsSequence_h0 : List Sh := [.u, .p .sl, .p .el, .u, .u, .p (.int .i64), .u, .u, .u, .u, .u, .u, .u, .u, .u, .u, .u, .u, .u, .u, .u, .u, .u, .u, .u, .u, .u, .u, .u, .u, .u, .u, .u, .u, .u, .u, .u, .u, .u, .u, .u, .u]
def f_s_IsSequence_fr0 (l1 : List Sc) (g2 : List Sc) (s : Int) : List AV := enc f_s_IsSequence_h0 [.l l1, .l g2, .i s]
def f_s_IsSequence_g0_1 : List Sh := [.u, .p .sl, .p .el, .u, .u, .u, .u, .u, .u, .u, .u, .u, .u, .u, .u, .u, .u, .u, .u, .u, .u, .u, .u, .u, .u, .u, .u, .u, .u, .u, .u, .u, .u, .u, .u, .u, .u, .u, .u, .u, .u, .u]
def f_s_IsSequence_x0_1 (l1 : List Sc) (g2 : List Sc) (e : Unit) : X × List AV := (.out 0, enc f_s_IsSequence_g0_1 [.l l1, .l g2])
def f_s_IsSequence_g0_2 : List Sh := [.u, .u, .u, .u, .p .boo, .u, .u, .u, .u, .u, .u, .u, .u, .u, .u, .u, .u, .u, .u, .u, .u, .u, .u, .u, .u, .u, .u, .u, .u, .u, .u, .u, .u, .u, .u, .u, .u, .u, .u, .u, .u, .u]
def f_s_IsSequence_x0_2 (l1 : List Sc) (g2 : List Sc) (e : Unit) : X × List AV := (.ret, enc f_s_IsSequence_g0_2 [.b false])
theorem f_s_IsSequence_p0 {R : Type} (l1 : List Sc) (g2 : List Sc) (s : Int) (kN : Int → Option R) (kA : Unit → Option R) (kB : Unit → Option R) : f_s_IsSequence_k0 l1 g2 s kN kA kB = (f_s_IsSequence_r0 l1 g2 s).bind (Ro.el kN kA kB) := by
  simp only [f_s_IsSequence_k0, f_s_IsSequence_r0, brB, boB, someB, noneB, Ro.el]
theorem f_s_IsSequence_e0 (l1 : List Sc) (g2 : List Sc) (s : Int) : EC E0 f_s_IsSequence_M H0 f_s_IsSequence_F (asL (noL)) 0 (bodyOf Try.f101 0) (f_s_IsSequence_fr0 l1 g2 s) (done (klOf f_s_IsSequence_F 0)) = f_s_IsSequence_k0 l1 g2 s (fun s => some (.norm, f_s_IsSequence_fr0 l1 g2 s)) (fun e => some (f_s_IsSequence_x0_1 l1 g2 e)) (fun e => some (f_s_IsSequence_x0_2 l1 g2 e)) := by kernel_rfl
theorem f_s_IsSequence_l0 (l1 : List Sc) (g2 : List Sc) : ∀ s r, loopL (f_s_IsSequence_r0 l1 g2) s = some r → LS Try.prog f_s_IsSequence_F (bodyOf Try.f101 0) (f_s_IsSequence_fr0 l1 g2 s) (enX (f_s_IsSequence_x0_1 l1 g2) (f_s_IsSequence_x0_2 l1 g2) r) :=
  loop_true E0ok f_s_IsSequence_Mt (noL_true) f_s_IsSequence_o (fun _ h => by cases h) (fun _ h => by cases h) (fun s => (f_s_IsSequence_e0 l1 g2 s).trans (f_s_IsSequence_p0 l1 g2 s _ _ (fun e => some (f_s_IsSequence_x0_2 l1 g2 e))))
def f_s_IsSequence_t0 (σ : List AV) : Option (Bool × Bool × (X × List AV) × (X × List AV)) := match dec f_s_IsSequence_h0 σ with
  | some [.l l1, .l g2, .i i5] => some ((loopL (f_s_IsSequence_r0 l1 g2) i5).isSome, isOne (loopL (f_s_IsSequence_r0 l1 g2) i5), f_s_IsSequence_x0_1 l1 g2 (getOne () (loopL (f_s_IsSequence_r0 l1 g2) i5)), f_s_IsSequence_x0_2 l1 g2 (getTwo () (loopL (f_s_IsSequence_r0 l1 g2) i5)))
  | _ => none
theorem f_s_IsSequence_tt0 : TTrue Try.prog f_s_IsSequence_F Try.f101 0 (f_s_IsSequence_t0) := by
  intro σ p r r' h
  unfold f_s_IsSequence_t0 at h
  split at h
  · rename_i hd
    rw [← dec_enc hd]
    exact row2 (f_s_IsSequence_l0 _ _ _) h
  · cases h
theorem f_s_IsSequence_p {R : Type} (g0 : List Sc) (l1 : List Sc) (kR : Bool → Option R) : f_s_IsSequence_k g0 l1 kR = (f_s_IsSequence_k g0 l1 some).bind kR := by
  simp only [f_s_IsSequence_k, brB, boB, blB, someB]
theorem f_s_IsSequence_e (g0 : List Sc) (l1 : List Sc) : runFn E0 f_s_IsSequence_M H0 f_s_IsSequence_F (asL (addL 0 (f_s_IsSequence_t0) (noL))) Try.f101 (f_s_IsSequence_a g0 l1) (f_s_IsSequence_i g0 l1) = f_s_IsSequence_k g0 l1 (fun r => some (f_s_IsSequence_en r)) := by kernel_rfl
theorem f_s_IsSequence_ok (g0 : List Sc) (l1 : List Sc) (r : Bool) (h : f_s_IsSequence g0 l1 = some r) : CS Try.prog 101 (f_s_IsSequence_a g0 l1) (f_s_IsSequence_i g0 l1) (f_s_IsSequence_en r).1 (f_s_IsSequence_en r).2 :=
  fn_true (Gk := fun k => f_s_IsSequence_k g0 l1 k) (en := f_s_IsSequence_en) Try.func101 E0ok f_s_IsSequence_Mt (addL_true (f_s_IsSequence_tt0) (noL_true)) f_s_IsSequence_o (f_s_IsSequence_e g0 l1) (f_s_IsSequence_p g0 l1) h
def f_s_IsSequence_c : CRow := fun args inh => match dec2 [.p .gr, .p .sl] [] args inh with
  | some ([.l g0, .l l1], []) => some ((f_s_IsSequence g0 l1).isSome, (f_s_IsSequence_en ((f_s_IsSequence g0 l1).getD false)).1, (f_s_IsSequence_en ((f_s_IsSequence g0 l1).getD false)).2)
  | _ => none
theorem f_s_IsSequence_cc : CTrue Try.prog 101 f_s_IsSequence_c := by
  intro args inh rs out h
  unfold f_s_IsSequence_c at h
  split at h
  · rename_i hd
    obtain ⟨h1, h2⟩ := dec2_enc hd
    rw [← h1, ← h2]
    exact rowC (f_s_IsSequence_ok _ _) h
  · cases h

def f_s_l16Part_F : Fi := { nv := 0, nc := 0, m := 0, vt := [], kl := [(0, ([2, 3, 4, 7, 8, 9, 10, 11, 12, 13, 14, 15, 16, 17, 18, 19, 20, 21, 22, 23, 24, 25, 26], [0, 1, 2, 3, 4, 6, 7, 8, 9, 10, 11, 12, 13, 14, 15, 16, 17, 18, 19, 20, 21, 22, 23, 24, 25, 26], [0, 1, 2, 3, 5, 6, 7, 8, 9, 10, 11, 12, 13, 14, 15, 16, 17, 18, 19, 20, 21, 22, 23, 24, 25, 26]))], sk := [], mvs := [], fz := [] }
def f_s_l16Part_a (l0 : List Sc) (code1 : Int) : List AV := enc [.p .sl, .p (.int .i64)] [.l l0, .i code1]
def f_s_l16Part_i (l0 : List Sc) (code1 : Int) : List AV := enc [] []
def f_s_l16Part_en (r : List Sc) : List AV × List AV := (enc [.p (.al 0)] [], enc [.own 3] [.l r])
def f_s_l16Part_M : Calling := noC
theorem f_s_l16Part_Mt : CallOk Try.prog (f_s_l16Part_M) := noC_true
theorem f_s_l16Part_o : loopsOnce Try.f174 = true := by kernel_rfl
def f_s_l16Part_h0 : List Sh := [.p .sl, .p (.int .i64), .u, .u, .u, .own 3, .p (.int .i64), .u, .u, .u, .u, .u, .u, .u, .u, .u, .u, .u, .u, .u, .u, .u, .u, .u, .u, .u, .u]
def f_s_l16Part_fr0 (l0 : List Sc) (code1 : Int) (s : List Sc × Int) : List AV := enc f_s_l16Part_h0 [.l l0, .i code1, .l s.1, .i s.2]
def f_s_l16Part_g0_1 : List Sh := [.u, .u, .u, .u, .u, .own 3, .u, .u, .u, .u, .u, .u, .u, .u, .u, .u, .u, .u, .u, .u, .u, .u, .u, .u, .u, .u, .u]
def f_s_l16Part_x0_1 (l0 : List Sc) (code1 : Int) (e : List Sc) : X × List AV := (.out 0, enc f_s_l16Part_g0_1 [.l e])
def f_s_l16Part_x0_2 (l0 : List Sc) (code1 : Int) (_e : Unit) : X × List AV := (.ret, [])
theorem f_s_l16Part_p0 {R : Type} (l0 : List Sc) (code1 : Int) (s : List Sc × Int) (kN : List Sc × Int → Option R) (kA : List Sc → Option R) (kB : Unit → Option R) : f_s_l16Part_k0 l0 code1 s.1 s.2 kN kA = (f_s_l16Part_r0 l0 code1 s).bind (Ro.el kN kA kB) := by
  simp only [f_s_l16Part_k0, f_s_l16Part_r0, brB, someB, noneB, Ro.el]
theorem f_s_l16Part_e0 (l0 : List Sc) (code1 : Int) (s : List Sc × Int) : EC E0 f_s_l16Part_M H0 f_s_l16Part_F (asL (noL)) 0 (bodyOf Try.f174 0) (f_s_l16Part_fr0 l0 code1 s) (done (klOf f_s_l16Part_F 0)) = f_s_l16Part_k0 l0 code1 s.1 s.2 (fun s => some (.norm, f_s_l16Part_fr0 l0 code1 s)) (fun e => some (f_s_l16Part_x0_1 l0 code1 e)) := by kernel_rfl
theorem f_s_l16Part_l0 (l0 : List Sc) (code1 : Int) : ∀ s r, loopL (f_s_l16Part_r0 l0 code1) s = some r → LS Try.prog f_s_l16Part_F (bodyOf Try.f174 0) (f_s_l16Part_fr0 l0 code1 s) (enX (f_s_l16Part_x0_1 l0 code1) (f_s_l16Part_x0_2 l0 code1) r) :=
  loop_true E0ok f_s_l16Part_Mt (noL_true) f_s_l16Part_o (fun _ h => by cases h) (fun _ h => by cases h) (fun s => (f_s_l16Part_e0 l0 code1 s).trans (f_s_l16Part_p0 l0 code1 s _ _ (fun e => some (f_s_l16Part_x0_2 l0 code1 e))))
def f_s_l16Part_t0 (σ : List AV) : Option (Bool × Bool × (X × List AV) × (X × List AV)) := match dec f_s_l16Part_h0 σ with
  | some [.l l0, .i code1, .l out5, .i i6] => some (isOne (loopL (f_s_l16Part_r0 l0 code1) (out5, i6)), true, f_s_l16Part_x0_1 l0 code1 (getOne [] (loopL (f_s_l16Part_r0 l0 code1) (out5, i6))), (.ret, []))
  | _ => none
theorem f_s_l16Part_tt0 : TTrue Try.prog f_s_l16Part_F Try.f174 0 (f_s_l16Part_t0) := by
  intro σ p r r' h
  unfold f_s_l16Part_t0 at h
  split at h
  · rename_i hd
    rw [← dec_enc hd]
    exact row1 (f_s_l16Part_l0 _ _ _) h
  · cases h
theorem f_s_l16Part_p {R : Type} (l0 : List Sc) (code1 : Int) (kR : List Sc → Option R) : f_s_l16Part_k l0 code1 kR = (f_s_l16Part_k l0 code1 some).bind kR := by
  simp only [f_s_l16Part_k, bl1B, someB]
theorem f_s_l16Part_e (l0 : List Sc) (code1 : Int) : runFn E0 f_s_l16Part_M H0 f_s_l16Part_F (asL (addL 0 (f_s_l16Part_t0) (noL))) Try.f174 (f_s_l16Part_a l0 code1) (f_s_l16Part_i l0 code1) = f_s_l16Part_k l0 code1 (fun r => some (f_s_l16Part_en r)) := by kernel_rfl
theorem f_s_l16Part_ok (l0 : List Sc) (code1 : Int) (r : List Sc) (h : f_s_l16Part l0 code1 = some r) : CS Try.prog 174 (f_s_l16Part_a l0 code1) (f_s_l16Part_i l0 code1) (f_s_l16Part_en r).1 (f_s_l16Part_en r).2 :=
  fn_true (Gk := fun k => f_s_l16Part_k l0 code1 k) (en := f_s_l16Part_en) Try.func174 E0ok f_s_l16Part_Mt (addL_true (f_s_l16Part_tt0) (noL_true)) f_s_l16Part_o (f_s_l16Part_e l0 code1) (f_s_l16Part_p l0 code1) h
def f_s_l16Part_c : CRow := fun args inh => match dec2 [.p .sl, .p (.int .i64)] [] args inh with
  | some ([.l l0, .i code1], []) => some ((f_s_l16Part l0 code1).isSome, (f_s_l16Part_en ((f_s_l16Part l0 code1).getD [])).1, (f_s_l16Part_en ((f_s_l16Part l0 code1).getD [])).2)
  | _ => none
theorem f_s_l16Part_cc : CTrue Try.prog 174 f_s_l16Part_c := by
  intro args inh rs out h
  unfold f_s_l16Part_c at h
  split at h
  · rename_i hd
    obtain ⟨h1, h2⟩ := dec2_enc hd
    rw [← h1, ← h2]
    exact rowC (f_s_l16Part_ok _ _) h
  · cases h

def f_s_l2Add_F : Fi := { nv := 0, nc := 0, m := 0, vt := [], kl := [(0, ([0, 4, 5, 6, 10, 11, 12, 13, 14, 15, 16, 17, 18, 19, 20, 21, 22, 23, 24, 25, 26, 27, 28, 29, 30, 31, 32, 33, 34, 35, 36, 37, 38, 39, 40, 41, 42, 43, 44, 45], [0, 1, 2, 3, 4, 5, 6, 8, 9, 10, 11, 12, 13, 14, 15, 16, 17, 18, 19, 20, 21, 22, 23, 24, 25, 26, 27, 28, 29, 30, 31, 32, 33, 34, 35, 36, 37, 38, 39, 40, 41, 42, 43, 44, 45], [0, 1, 2, 3, 4, 5, 7, 8, 9, 10, 11, 12, 13, 14, 15, 16, 17, 18, 19, 20, 21, 22, 23, 24, 25, 26, 27, 28, 29, 30, 31, 32, 33, 34, 35, 36, 37, 38, 39, 40, 41, 42, 43, 44, 45]))], sk := [], mvs := [], fz := [] }
def f_s_l2Add_a (g0 : List Sc) (x1 : Int) (y2 : Int) : List AV := enc [.p .gr, .p (.int .i64), .p (.int .i64)] [.l g0, .i x1, .i y2]
def f_s_l2Add_i (g0 : List Sc) (x1 : Int) (y2 : Int) : List AV := enc [] []
def f_s_l2Add_en (r : Int) : List AV × List AV := (enc [.p (.int .i64)] [.i r], enc [] [])
def f_s_l2Add_M : Calling := noC
theorem f_s_l2Add_Mt : CallOk Try.prog (f_s_l2Add_M) := noC_true
theorem f_s_l2Add_o : loopsOnce Try.f156 = true := by kernel_rfl
def f_s_l2Add_h0 : List Sh := [.u, .p (.int .i64), .p (.int .i64), .p .el, .u, .u, .u, .p (.int .i64), .p (.int .i64), .p (.int .i64), .u, .u, .u, .u, .u, .u, .u, .u, .u, .u, .u, .u, .u, .u, .u, .u, .u, .u, .u, .u, .u, .u, .u, .u, .u, .u, .u, .u, .u, .u, .u, .u, .u, .u, .u, .u]
def f_s_l2Add_fr0 (g3 : List Sc) (s : Int × Int × Int × Int × Int) : List AV := enc f_s_l2Add_h0 [.i s.1, .i s.2.1, .l g3, .i s.2.2.1, .i s.2.2.2.1, .i s.2.2.2.2]
def f_s_l2Add_g0_1 : List Sh := [.u, .u, .u, .u, .u, .u, .u, .p (.int .i64), .u, .u, .u, .u, .u, .u, .u, .u, .u, .u, .u, .u, .u, .u, .u, .u, .u, .u, .u, .u, .u, .u, .u, .u, .u, .u, .u, .u, .u, .u, .u, .u, .u, .u, .u, .u, .u, .u]
def f_s_l2Add_x0_1 (g3 : List Sc) (e : Int) : X × List AV := (.out 0, enc f_s_l2Add_g0_1 [.i e])
def f_s_l2Add_x0_2 (g3 : List Sc) (_e : Unit) : X × List AV := (.ret, [])
theorem f_s_l2Add_p0 {R : Type} (g3 : List Sc) (s : Int × Int × Int × Int × Int) (kN : Int × Int × Int × Int × Int → Option R) (kA : Int → Option R) (kB : Unit → Option R) : f_s_l2Add_k0 g3 s.1 s.2.1 s.2.2.1 s.2.2.2.1 s.2.2.2.2 kN kA = (f_s_l2Add_r0 g3 s).bind (Ro.el kN kA kB) := by
  simp only [f_s_l2Add_k0, f_s_l2Add_r0, brB, someB, noneB, Ro.el]
theorem f_s_l2Add_e0 (g3 : List Sc) (s : Int × Int × Int × Int × Int) : EC E0 f_s_l2Add_M H0 f_s_l2Add_F (asL (noL)) 0 (bodyOf Try.f156 0) (f_s_l2Add_fr0 g3 s) (done (klOf f_s_l2Add_F 0)) = f_s_l2Add_k0 g3 s.1 s.2.1 s.2.2.1 s.2.2.2.1 s.2.2.2.2 (fun s => some (.norm, f_s_l2Add_fr0 g3 s)) (fun e => some (f_s_l2Add_x0_1 g3 e)) := by kernel_rfl
theorem f_s_l2Add_l0 (g3 : List Sc) : ∀ s r, loopL (f_s_l2Add_r0 g3) s = some r → LS Try.prog f_s_l2Add_F (bodyOf Try.f156 0) (f_s_l2Add_fr0 g3 s) (enX (f_s_l2Add_x0_1 g3) (f_s_l2Add_x0_2 g3) r) :=
  loop_true E0ok f_s_l2Add_Mt (noL_true) f_s_l2Add_o (fun _ h => by cases h) (fun _ h => by cases h) (fun s => (f_s_l2Add_e0 g3 s).trans (f_s_l2Add_p0 g3 s _ _ (fun e => some (f_s_l2Add_x0_2 g3 e))))
def f_s_l2Add_t0 (σ : List AV) : Option (Bool × Bool × (X × List AV) × (X × List AV)) := match dec f_s_l2Add_h0 σ with
  | some [.i x1, .i y2, .l g3, .i z7, .i step8, .i i9] => some (isOne (loopL (f_s_l2Add_r0 g3) (x1, y2, z7, step8, i9)), true, f_s_l2Add_x0_1 g3 (getOne 0 (loopL (f_s_l2Add_r0 g3) (x1, y2, z7, step8, i9))), (.ret, []))
  | _ => none
theorem f_s_l2Add_tt0 : TTrue Try.prog f_s_l2Add_F Try.f156 0 (f_s_l2Add_t0) := by
  intro σ p r r' h
  unfold f_s_l2Add_t0 at h
  split at h
  · rename_i hd
    rw [← dec_enc hd]
    exact row1 (f_s_l2Add_l0 _ _) h
  · cases h
theorem f_s_l2Add_p {R : Type} (g0 : List Sc) (x1 : Int) (y2 : Int) (kR : Int → Option R) : f_s_l2Add_k g0 x1 y2 kR = (f_s_l2Add_k g0 x1 y2 some).bind kR := by
  simp only [f_s_l2Add_k, bl1B, someB]
theorem f_s_l2Add_e (g0 : List Sc) (x1 : Int) (y2 : Int) : runFn E0 f_s_l2Add_M H0 f_s_l2Add_F (asL (addL 0 (f_s_l2Add_t0) (noL))) Try.f156 (f_s_l2Add_a g0 x1 y2) (f_s_l2Add_i g0 x1 y2) = f_s_l2Add_k g0 x1 y2 (fun r => some (f_s_l2Add_en r)) := by kernel_rfl
theorem f_s_l2Add_ok (g0 : List Sc) (x1 : Int) (y2 : Int) (r : Int) (h : f_s_l2Add g0 x1 y2 = some r) : CS Try.prog 156 (f_s_l2Add_a g0 x1 y2) (f_s_l2Add_i g0 x1 y2) (f_s_l2Add_en r).1 (f_s_l2Add_en r).2 :=
  fn_true (Gk := fun k => f_s_l2Add_k g0 x1 y2 k) (en := f_s_l2Add_en) Try.func156 E0ok f_s_l2Add_Mt (addL_true (f_s_l2Add_tt0) (noL_true)) f_s_l2Add_o (f_s_l2Add_e g0 x1 y2) (f_s_l2Add_p g0 x1 y2) h
def f_s_l2Add_c : CRow := fun args inh => match dec2 [.p .gr, .p (.int .i64), .p (.int .i64)] [] args inh with
  | some ([.l g0, .i x1, .i y2], []) => some ((f_s_l2Add g0 x1 y2).isSome, (f_s_l2Add_en ((f_s_l2Add g0 x1 y2).getD 0)).1, (f_s_l2Add_en ((f_s_l2Add g0 x1 y2).getD 0)).2)
  | _ => none
theorem f_s_l2Add_cc : CTrue Try.prog 156 f_s_l2Add_c := by
  intro args inh rs out h
  unfold f_s_l2Add_c at h
  split at h
  · rename_i hd
    obtain ⟨h1, h2⟩ := dec2_enc hd
    rw [← h1, ← h2]
    exact rowC (f_s_l2Add_ok _ _ _) h
  · cases h

def f_s_l16Sum_F : Fi := { nv := 0, nc := 0, m := 0, vt := [], kl := [(0, ([0, 3, 4, 7, 8, 9, 10, 11, 12, 13, 14, 15, 16, 17, 18, 19, 20], [0, 1, 2, 3, 4, 6, 7, 8, 9, 10, 11, 12, 13, 14, 15, 16, 17, 18, 19, 20], [0, 1, 2, 3, 5, 6, 7, 8, 9, 10, 11, 12, 13, 14, 15, 16, 17, 18, 19, 20]))], sk := [], mvs := [], fz := [] }
def f_s_l16Sum_a (g0 : List Sc) (l1 : List Sc) : List AV := enc [.p .gr, .p .sl] [.l g0, .l l1]
def f_s_l16Sum_i (g0 : List Sc) (l1 : List Sc) : List AV := enc [] []
def f_s_l16Sum_en (r : Int) : List AV × List AV := (enc [.p (.int .i64)] [.i r], enc [] [])
def f_s_l16Sum_M : Calling := addC 156 f_s_l2Add_c (noC)
theorem f_s_l16Sum_Mt : CallOk Try.prog (f_s_l16Sum_M) := addC_true f_s_l2Add_cc (noC_true)
theorem f_s_l16Sum_o : loopsOnce Try.f183 = true := by kernel_rfl
def f_s_l16Sum_h0 : List Sh := [.u, .p .sl, .p .el, .u, .u, .p (.int .i64), .p (.int .i64), .u, .u, .u, .u, .u, .u, .u, .u, .u, .u, .u, .u, .u, .u]
def f_s_l16Sum_fr0 (l1 : List Sc) (g2 : List Sc) (s : Int × Int) : List AV := enc f_s_l16Sum_h0 [.l l1, .l g2, .i s.1, .i s.2]
def f_s_l16Sum_g0_1 : List Sh := [.u, .u, .u, .u, .u, .p (.int .i64), .u, .u, .u, .u, .u, .u, .u, .u, .u, .u, .u, .u, .u, .u, .u]
def f_s_l16Sum_x0_1 (l1 : List Sc) (g2 : List Sc) (e : Int) : X × List AV := (.out 0, enc f_s_l16Sum_g0_1 [.i e])
def f_s_l16Sum_x0_2 (l1 : List Sc) (g2 : List Sc) (_e : Unit) : X × List AV := (.ret, [])
theorem f_s_l16Sum_p0 {R : Type} (l1 : List Sc) (g2 : List Sc) (s : Int × Int) (kN : Int × Int → Option R) (kA : Int → Option R) (kB : Unit → Option R) : f_s_l16Sum_k0 l1 g2 s.1 s.2 kN kA = (f_s_l16Sum_r0 l1 g2 s).bind (Ro.el kN kA kB) := by
  simp only [f_s_l16Sum_k0, f_s_l16Sum_r0, brB, boB, someB, noneB, Ro.el]
theorem f_s_l16Sum_e0 (l1 : List Sc) (g2 : List Sc) (s : Int × Int) : EC E0 f_s_l16Sum_M H0 f_s_l16Sum_F (asL (noL)) 0 (bodyOf Try.f183 0) (f_s_l16Sum_fr0 l1 g2 s) (done (klOf f_s_l16Sum_F 0)) = f_s_l16Sum_k0 l1 g2 s.1 s.2 (fun s => some (.norm, f_s_l16Sum_fr0 l1 g2 s)) (fun e => some (f_s_l16Sum_x0_1 l1 g2 e)) := by kernel_rfl
theorem f_s_l16Sum_l0 (l1 : List Sc) (g2 : List Sc) : ∀ s r, loopL (f_s_l16Sum_r0 l1 g2) s = some r → LS Try.prog f_s_l16Sum_F (bodyOf Try.f183 0) (f_s_l16Sum_fr0 l1 g2 s) (enX (f_s_l16Sum_x0_1 l1 g2) (f_s_l16Sum_x0_2 l1 g2) r) :=
  loop_true E0ok f_s_l16Sum_Mt (noL_true) f_s_l16Sum_o (fun _ h => by cases h) (fun _ h => by cases h) (fun s => (f_s_l16Sum_e0 l1 g2 s).trans (f_s_l16Sum_p0 l1 g2 s _ _ (fun e => some (f_s_l16Sum_x0_2 l1 g2 e))))
def f_s_l16Sum_t0 (σ : List AV) : Option (Bool × Bool × (X × List AV) × (X × List AV)) := match dec f_s_l16Sum_h0 σ with
  | some [.l l1, .l g2, .i z5, .i i6] => some (isOne (loopL (f_s_l16Sum_r0 l1 g2) (z5, i6)), true, f_s_l16Sum_x0_1 l1 g2 (getOne 0 (loopL (f_s_l16Sum_r0 l1 g2) (z5, i6))), (.ret, []))
  | _ => none
theorem f_s_l16Sum_tt0 : TTrue Try.prog f_s_l16Sum_F Try.f183 0 (f_s_l16Sum_t0) := by
  intro σ p r r' h
  unfold f_s_l16Sum_t0 at h
  split at h
  · rename_i hd
    rw [← dec_enc hd]
    exact row1 (f_s_l16Sum_l0 _ _ _) h
  · cases h
theorem f_s_l16Sum_p {R : Type} (g0 : List Sc) (l1 : List Sc) (kR : Int → Option R) : f_s_l16Sum_k g0 l1 kR = (f_s_l16Sum_k g0 l1 some).bind kR := by
  simp only [f_s_l16Sum_k, bl1B, someB]
theorem f_s_l16Sum_e (g0 : List Sc) (l1 : List Sc) : runFn E0 f_s_l16Sum_M H0 f_s_l16Sum_F (asL (addL 0 (f_s_l16Sum_t0) (noL))) Try.f183 (f_s_l16Sum_a g0 l1) (f_s_l16Sum_i g0 l1) = f_s_l16Sum_k g0 l1 (fun r => some (f_s_l16Sum_en r)) := by kernel_rfl
theorem f_s_l16Sum_ok (g0 : List Sc) (l1 : List Sc) (r : Int) (h : f_s_l16Sum g0 l1 = some r) : CS Try.prog 183 (f_s_l16Sum_a g0 l1) (f_s_l16Sum_i g0 l1) (f_s_l16Sum_en r).1 (f_s_l16Sum_en r).2 :=
  fn_true (Gk := fun k => f_s_l16Sum_k g0 l1 k) (en := f_s_l16Sum_en) Try.func183 E0ok f_s_l16Sum_Mt (addL_true (f_s_l16Sum_tt0) (noL_true)) f_s_l16Sum_o (f_s_l16Sum_e g0 l1) (f_s_l16Sum_p g0 l1) h
def f_s_l16Sum_c : CRow := fun args inh => match dec2 [.p .gr, .p .sl] [] args inh with
  | some ([.l g0, .l l1], []) => some ((f_s_l16Sum g0 l1).isSome, (f_s_l16Sum_en ((f_s_l16Sum g0 l1).getD 0)).1, (f_s_l16Sum_en ((f_s_l16Sum g0 l1).getD 0)).2)
  | _ => none
theorem f_s_l16Sum_cc : CTrue Try.prog 183 f_s_l16Sum_c := by
  intro args inh rs out h
  unfold f_s_l16Sum_c at h
  split at h
  · rename_i hd
    obtain ⟨h1, h2⟩ := dec2_enc hd
    rw [← h1, ← h2]
    exact rowC (f_s_l16Sum_ok _ _) h
  · cases h

def f_s_ShortestZero_F : Fi := { nv := 0, nc := 0, m := 0, vt := [], kl := [(0, ([0, 3, 4, 5, 8, 9, 10, 11, 12, 13, 14, 15, 16, 17, 18, 19, 20, 21, 22, 23, 24, 25, 26, 27, 28, 29, 30, 31, 32, 33, 34, 35, 36, 37, 38, 39, 40, 41, 42, 43, 44, 45], [0, 1, 2, 3, 4, 5, 7, 8, 9, 10, 11, 12, 13, 14, 15, 16, 17, 18, 19, 20, 21, 22, 23, 24, 25, 26, 27, 28, 29, 30, 31, 32, 33, 34, 35, 36, 37, 38, 39, 40, 41, 42, 43, 44, 45], [0, 1, 2, 3, 6, 7, 8, 9, 10, 11, 12, 13, 14, 15, 16, 17, 18, 19, 20, 21, 22, 23, 24, 25, 26, 27, 28, 29, 30, 31, 32, 33, 34, 35, 36, 37, 38, 39, 40, 41, 42, 43, 44, 45]))], sk := [], mvs := [], fz := [] }
def f_s_ShortestZero_a (g0 : List Sc) (l1 : List Sc) : List AV := enc [.p .gr, .p .sl] [.l g0, .l l1]
def f_s_ShortestZero_i (g0 : List Sc) (l1 : List Sc) : List AV := enc [] []
def f_s_ShortestZero_en (r : List Sc × Bool) : List AV × List AV := (enc [.p (.al 0), .p .boo] [.b r.2], enc [.own 3] [.l r.1])
def f_s_ShortestZero_M : Calling := addC 101 f_s_IsSequence_c (addC 174 f_s_l16Part_c (addC 183 f_s_l16Sum_c (noC)))
theorem f_s_ShortestZero_Mt : CallOk Try.prog (f_s_ShortestZero_M) := addC_true f_s_IsSequence_cc (addC_true f_s_l16Part_cc (addC_true f_s_l16Sum_cc (noC_true)))
theorem f_s_ShortestZero_o : loopsOnce Try.f99 = true := by kernel_rfl
def f_s_ShortestZero_h0 : List Sh := [.u, .p .sl, .p .el, .u, .u, .u, .own 3, .p (.int .i64), .u, .u, .u, .u, .u, .u, .u, .u, .u, .u, .u, .u, .u, .u, .u, .u, .u, .u, .u, .u, .u, .u, .u, .u, .u, .u, .u, .u, .u, .u, .u, .u, .u, .u, .u, .u, .u, .u]
def f_s_ShortestZero_fr0 (l1 : List Sc) (g2 : List Sc) (s : List Sc × Int) : List AV := enc f_s_ShortestZero_h0 [.l l1, .l g2, .l s.1, .i s.2]
def f_s_ShortestZero_g0_1 : List Sh := [.u, .u, .u, .u, .u, .u, .own 3, .u, .u, .u, .u, .u, .u, .u, .u, .u, .u, .u, .u, .u, .u, .u, .u, .u, .u, .u, .u, .u, .u, .u, .u, .u, .u, .u, .u, .u, .u, .u, .u, .u, .u, .u, .u, .u, .u, .u]
def f_s_ShortestZero_x0_1 (l1 : List Sc) (g2 : List Sc) (e : List Sc) : X × List AV := (.out 0, enc f_s_ShortestZero_g0_1 [.l e])
def f_s_ShortestZero_x0_2 (l1 : List Sc) (g2 : List Sc) (_e : Unit) : X × List AV := (.ret, [])
theorem f_s_ShortestZero_p0 {R : Type} (l1 : List Sc) (g2 : List Sc) (s : List Sc × Int) (kN : List Sc × Int → Option R) (kA : List Sc → Option R) (kB : Unit → Option R) : f_s_ShortestZero_k0 l1 g2 s.1 s.2 kN kA = (f_s_ShortestZero_r0 l1 g2 s).bind (Ro.el kN kA kB) := by
  simp only [f_s_ShortestZero_k0, f_s_ShortestZero_r0, brB, boB, someB, noneB, Ro.el]
theorem f_s_ShortestZero_e0 (l1 : List Sc) (g2 : List Sc) (s : List Sc × Int) : EC E0 f_s_ShortestZero_M H0 f_s_ShortestZero_F (asL (noL)) 0 (bodyOf Try.f99 0) (f_s_ShortestZero_fr0 l1 g2 s) (done (klOf f_s_ShortestZero_F 0)) = f_s_ShortestZero_k0 l1 g2 s.1 s.2 (fun s => some (.norm, f_s_ShortestZero_fr0 l1 g2 s)) (fun e => some (f_s_ShortestZero_x0_1 l1 g2 e)) := by kernel_rfl
theorem f_s_ShortestZero_l0 (l1 : List Sc) (g2 : List Sc) : ∀ s r, loopL (f_s_ShortestZero_r0 l1 g2) s = some r → LS Try.prog f_s_ShortestZero_F (bodyOf Try.f99 0) (f_s_ShortestZero_fr0 l1 g2 s) (enX (f_s_ShortestZero_x0_1 l1 g2) (f_s_ShortestZero_x0_2 l1 g2) r) :=
  loop_true E0ok f_s_ShortestZero_Mt (noL_true) f_s_ShortestZero_o (fun _ h => by cases h) (fun _ h => by cases h) (fun s => (f_s_ShortestZero_e0 l1 g2 s).trans (f_s_ShortestZero_p0 l1 g2 s _ _ (fun e => some (f_s_ShortestZero_x0_2 l1 g2 e))))
def f_s_ShortestZero_t0 (σ : List AV) : Option (Bool × Bool × (X × List AV) × (X × List AV)) := match dec f_s_ShortestZero_h0 σ with
  | some [.l l1, .l g2, .l best6, .i code7] => some (isOne (loopL (f_s_ShortestZero_r0 l1 g2) (best6, code7)), true, f_s_ShortestZero_x0_1 l1 g2 (getOne [] (loopL (f_s_ShortestZero_r0 l1 g2) (best6, code7))), (.ret, []))
  | _ => none
theorem f_s_ShortestZero_tt0 : TTrue Try.prog f_s_ShortestZero_F Try.f99 0 (f_s_ShortestZero_t0) := by
  intro σ p r r' h
  unfold f_s_ShortestZero_t0 at h
  split at h
  · rename_i hd
    rw [← dec_enc hd]
    exact row1 (f_s_ShortestZero_l0 _ _ _) h
  · cases h
theorem f_s_ShortestZero_p {R : Type} (g0 : List Sc) (l1 : List Sc) (kR : List Sc × Bool → Option R) : f_s_ShortestZero_k g0 l1 kR = (f_s_ShortestZero_k g0 l1 some).bind kR := by
  simp only [f_s_ShortestZero_k, bl1B, someB]
theorem f_s_ShortestZero_e (g0 : List Sc) (l1 : List Sc) : runFn E0 f_s_ShortestZero_M H0 f_s_ShortestZero_F (asL (addL 0 (f_s_ShortestZero_t0) (noL))) Try.f99 (f_s_ShortestZero_a g0 l1) (f_s_ShortestZero_i g0 l1) = f_s_ShortestZero_k g0 l1 (fun r => some (f_s_ShortestZero_en r)) := by kernel_rfl
theorem f_s_ShortestZero_ok (g0 : List Sc) (l1 : List Sc) (r : List Sc × Bool) (h : f_s_ShortestZero g0 l1 = some r) : CS Try.prog 99 (f_s_ShortestZero_a g0 l1) (f_s_ShortestZero_i g0 l1) (f_s_ShortestZero_en r).1 (f_s_ShortestZero_en r).2 :=
  fn_true (Gk := fun k => f_s_ShortestZero_k g0 l1 k) (en := f_s_ShortestZero_en) Try.func99 E0ok f_s_ShortestZero_Mt (addL_true (f_s_ShortestZero_tt0) (noL_true)) f_s_ShortestZero_o (f_s_ShortestZero_e g0 l1) (f_s_ShortestZero_p g0 l1) h
def f_s_ShortestZero_c : CRow := fun args inh => match dec2 [.p .gr, .p .sl] [] args inh with
  | some ([.l g0, .l l1], []) => some ((f_s_ShortestZero g0 l1).isSome, (f_s_ShortestZero_en ((f_s_ShortestZero g0 l1).getD ([], false))).1, (f_s_ShortestZero_en ((f_s_ShortestZero g0 l1).getD ([], false))).2)
  | _ => none
theorem f_s_ShortestZero_cc : CTrue Try.prog 99 f_s_ShortestZero_c := by
  intro args inh rs out h
  unfold f_s_ShortestZero_c at h
  split at h
  · rename_i hd
    obtain ⟨h1, h2⟩ := dec2_enc hd
    rw [← h1, ← h2]
    exact rowC (f_s_ShortestZero_ok _ _) h
  · cases h

def f_l_sameInts_F : Fi := { nv := 0, nc := 0, m := 0, vt := [], kl := [(0, ([2, 3, 4, 6, 7, 8, 9, 10, 11, 12, 13, 14, 15, 16, 17, 18, 19, 20, 21, 22, 23, 24, 25], [0, 1, 2, 3, 4, 5, 6, 7, 8, 9, 10, 11, 12, 13, 14, 15, 16, 17, 18, 19, 20, 21, 22, 23, 24, 25], [0, 1, 2, 3, 5, 6, 7, 8, 9, 10, 11, 12, 13, 14, 15, 16, 17, 18, 19, 20, 21, 22, 23, 24, 25]))], sk := [], mvs := [], fz := [] }
def f_l_sameInts_a (a0 : List Sc) (b1 : List Sc) : List AV := enc [.p .sl, .p .sl] [.l a0, .l b1]
def f_l_sameInts_i (a0 : List Sc) (b1 : List Sc) : List AV := enc [] []
def f_l_sameInts_en (r : Bool) : List AV × List AV := (enc [.p .boo] [.b r], enc [] [])
def f_l_sameInts_M : Calling := noC
theorem f_l_sameInts_Mt : CallOk Try.prog (f_l_sameInts_M) := noC_true
theorem f_l_sameInts_o : loopsOnce Try.f24 = true := by kernel_rfl
def f_l_sameInts_h0 : List Sh := [.p .sl, .p .sl, .u, .u, .u, .p (.int .i64), .u, .u, .u, .u, .u, .u, .u, .u, .u, .u, .u, .u, .u, .u, .u, .u, .u, .u, .u, .u]
def f_l_sameInts_fr0 (a0 : List Sc) (b1 : List Sc) (s : Int) : List AV := enc f_l_sameInts_h0 [.l a0, .l b1, .i s]
def f_l_sameInts_g0_1 : List Sh := [.u, .u, .u, .u, .u, .u, .u, .u, .u, .u, .u, .u, .u, .u, .u, .u, .u, .u, .u, .u, .u, .u, .u, .u, .u, .u]
def f_l_sameInts_x0_1 (a0 : List Sc) (b1 : List Sc) (e : Unit) : X × List AV := (.out 0, enc f_l_sameInts_g0_1 [])
def f_l_sameInts_g0_2 : List Sh := [.u, .u, .u, .u, .p .boo, .u, .u, .u, .u, .u, .u, .u, .u, .u, .u, .u, .u, .u, .u, .u, .u, .u, .u, .u, .u, .u]
def f_l_sameInts_x0_2 (a0 : List Sc) (b1 : List Sc) (e : Unit) : X × List AV := (.ret, enc f_l_sameInts_g0_2 [.b false])
theorem f_l_sameInts_p0 {R : Type} (a0 : List Sc) (b1 : List Sc) (s : Int) (kN : Int → Option R) (kA : Unit → Option R) (kB : Unit → Option R) : f_l_sameInts_k0 a0 b1 s kN kA kB = (f_l_sameInts_r0 a0 b1 s).bind (Ro.el kN kA kB) := by
  simp only [f_l_sameInts_k0, f_l_sameInts_r0, brB, someB, noneB, Ro.el]
theorem f_l_sameInts_e0 (a0 : List Sc) (b1 : List Sc) (s : Int) : EC E0 f_l_sameInts_M H0 f_l_sameInts_F (asL (noL)) 0 (bodyOf Try.f24 0) (f_l_sameInts_fr0 a0 b1 s) (done (klOf f_l_sameInts_F 0)) = f_l_sameInts_k0 a0 b1 s (fun s => some (.norm, f_l_sameInts_fr0 a0 b1 s)) (fun e => some (f_l_sameInts_x0_1 a0 b1 e)) (fun e => some (f_l_sameInts_x0_2 a0 b1 e)) := by kernel_rfl
theorem f_l_sameInts_l0 (a0 : List Sc) (b1 : List Sc) : ∀ s r, loopL (f_l_sameInts_r0 a0 b1) s = some r → LS Try.prog f_l_sameInts_F (bodyOf Try.f24 0) (f_l_sameInts_fr0 a0 b1 s) (enX (f_l_sameInts_x0_1 a0 b1) (f_l_sameInts_x0_2 a0 b1) r) :=
  loop_true E0ok f_l_sameInts_Mt (noL_true) f_l_sameInts_o (fun _ h => by cases h) (fun _ h => by cases h) (fun s => (f_l_sameInts_e0 a0 b1 s).trans (f_l_sameInts_p0 a0 b1 s _ _ (fun e => some (f_l_sameInts_x0_2 a0 b1 e))))
def f_l_sameInts_t0 (σ : List AV) : Option (Bool × Bool × (X × List AV) × (X × List AV)) := match dec f_l_sameInts_h0 σ with
  | some [.l a0, .l b1, .i i5] => some ((loopL (f_l_sameInts_r0 a0 b1) i5).isSome, isOne (loopL (f_l_sameInts_r0 a0 b1) i5), f_l_sameInts_x0_1 a0 b1 (getOne () (loopL (f_l_sameInts_r0 a0 b1) i5)), f_l_sameInts_x0_2 a0 b1 (getTwo () (loopL (f_l_sameInts_r0 a0 b1) i5)))
  | _ => none
theorem f_l_sameInts_tt0 : TTrue Try.prog f_l_sameInts_F Try.f24 0 (f_l_sameInts_t0) := by
  intro σ p r r' h
  unfold f_l_sameInts_t0 at h
  split at h
  · rename_i hd
    rw [← dec_enc hd]
    exact row2 (f_l_sameInts_l0 _ _ _) h
  · cases h
theorem f_l_sameInts_p {R : Type} (a0 : List Sc) (b1 : List Sc) (kR : Bool → Option R) : f_l_sameInts_k a0 b1 kR = (f_l_sameInts_k a0 b1 some).bind kR := by
  simp only [f_l_sameInts_k, brB, blB, someB]
theorem f_l_sameInts_e (a0 : List Sc) (b1 : List Sc) : runFn E0 f_l_sameInts_M H0 f_l_sameInts_F (asL (addL 0 (f_l_sameInts_t0) (noL))) Try.f24 (f_l_sameInts_a a0 b1) (f_l_sameInts_i a0 b1) = f_l_sameInts_k a0 b1 (fun r => some (f_l_sameInts_en r)) := by kernel_rfl
theorem f_l_sameInts_ok (a0 : List Sc) (b1 : List Sc) (r : Bool) (h : f_l_sameInts a0 b1 = some r) : CS Try.prog 24 (f_l_sameInts_a a0 b1) (f_l_sameInts_i a0 b1) (f_l_sameInts_en r).1 (f_l_sameInts_en r).2 :=
  fn_true (Gk := fun k => f_l_sameInts_k a0 b1 k) (en := f_l_sameInts_en) Try.func24 E0ok f_l_sameInts_Mt (addL_true (f_l_sameInts_tt0) (noL_true)) f_l_sameInts_o (f_l_sameInts_e a0 b1) (f_l_sameInts_p a0 b1) h
def f_l_sameInts_c : CRow := fun args inh => match dec2 [.p .sl, .p .sl] [] args inh with
  | some ([.l a0, .l b1], []) => some ((f_l_sameInts a0 b1).isSome, (f_l_sameInts_en ((f_l_sameInts a0 b1).getD false)).1, (f_l_sameInts_en ((f_l_sameInts a0 b1).getD false)).2)
  | _ => none
theorem f_l_sameInts_cc : CTrue Try.prog 24 f_l_sameInts_c := by
  intro args inh rs out h
  unfold f_l_sameInts_c at h
  split at h
  · rename_i hd
    obtain ⟨h1, h2⟩ := dec2_enc hd
    rw [← h1, ← h2]
    exact rowC (f_l_sameInts_ok _ _) h
  · cases h

def f_i_IsZeroSum_F : Fi := { nv := 0, nc := 0, m := 0, vt := [], kl := [], sk := [], mvs := [], fz := [] }
def f_i_IsZeroSum_a (g0 : List Sc) (l1 : List Sc) : List AV := enc [.p .gr, .p .sl] [.l g0, .l l1]
def f_i_IsZeroSum_i (g0 : List Sc) (l1 : List Sc) : List AV := enc [] []
def f_i_IsZeroSum_en (r : Bool) : List AV × List AV := (enc [.p .boo] [.b r], enc [] [])
def f_i_IsZeroSum_M : Calling := addC 104 f_i_IsSequence_c (addC 181 f_i_Group_total_c (noC))
theorem f_i_IsZeroSum_Mt : CallOk Try.prog (f_i_IsZeroSum_M) := addC_true f_i_IsSequence_cc (addC_true f_i_Group_total_cc (noC_true))
theorem f_i_IsZeroSum_o : loopsOnce Try.f75 = true := by kernel_rfl
theorem f_i_IsZeroSum_p {R : Type} (g0 : List Sc) (l1 : List Sc) (kR : Bool → Option R) : f_i_IsZeroSum_k g0 l1 kR = (f_i_IsZeroSum_k g0 l1 some).bind kR := by
  simp only [f_i_IsZeroSum_k, brB, boB, someB]
theorem f_i_IsZeroSum_e (g0 : List Sc) (l1 : List Sc) : runFn E0 f_i_IsZeroSum_M H0 f_i_IsZeroSum_F (asL (noL)) Try.f75 (f_i_IsZeroSum_a g0 l1) (f_i_IsZeroSum_i g0 l1) = f_i_IsZeroSum_k g0 l1 (fun r => some (f_i_IsZeroSum_en r)) := by kernel_rfl
theorem f_i_IsZeroSum_ok (g0 : List Sc) (l1 : List Sc) (r : Bool) (h : f_i_IsZeroSum g0 l1 = some r) : CS Try.prog 75 (f_i_IsZeroSum_a g0 l1) (f_i_IsZeroSum_i g0 l1) (f_i_IsZeroSum_en r).1 (f_i_IsZeroSum_en r).2 :=
  fn_true (Gk := fun k => f_i_IsZeroSum_k g0 l1 k) (en := f_i_IsZeroSum_en) Try.func75 E0ok f_i_IsZeroSum_Mt (noL_true) f_i_IsZeroSum_o (f_i_IsZeroSum_e g0 l1) (f_i_IsZeroSum_p g0 l1) h
def f_i_IsZeroSum_c : CRow := fun args inh => match dec2 [.p .gr, .p .sl] [] args inh with
  | some ([.l g0, .l l1], []) => some ((f_i_IsZeroSum g0 l1).isSome, (f_i_IsZeroSum_en ((f_i_IsZeroSum g0 l1).getD false)).1, (f_i_IsZeroSum_en ((f_i_IsZeroSum g0 l1).getD false)).2)
  | _ => none
theorem f_i_IsZeroSum_cc : CTrue Try.prog 75 f_i_IsZeroSum_c := by
  intro args inh rs out h
  unfold f_i_IsZeroSum_c at h
  split at h
  · rename_i hd
    obtain ⟨h1, h2⟩ := dec2_enc hd
    rw [← h1, ← h2]
    exact rowC (f_i_IsZeroSum_ok _ _) h
  · cases h

def f_i_IsAtom_F : Fi := { nv := 0, nc := 0, m := 0, vt := [], kl := [(0, ([0, 3, 4, 6, 7, 8, 9, 10, 11, 12, 13, 14, 15, 16, 17, 18, 19, 20, 21, 22, 23, 24, 25, 26, 27, 28], [0, 1, 2, 3, 4, 5, 6, 7, 8, 9, 10, 11, 12, 13, 14, 15, 16, 17, 18, 19, 20, 21, 22, 23, 24, 25, 26, 27, 28], [0, 1, 2, 3, 5, 6, 7, 8, 9, 10, 11, 12, 13, 14, 15, 16, 17, 18, 19, 20, 21, 22, 23, 24, 25, 26, 27, 28]))], sk := [], mvs := [], fz := [] }
def f_i_IsAtom_a (g0 : List Sc) (l1 : List Sc) : List AV := enc [.p .gr, .p .sl] [.l g0, .l l1]
def f_i_IsAtom_i (g0 : List Sc) (l1 : List Sc) : List AV := enc [] []
def f_i_IsAtom_en (r : Bool) : List AV × List AV := (enc [.p .boo] [.b r], enc [] [])
def f_i_IsAtom_M : Calling := addC 75 f_i_IsZeroSum_c (addC 173 f_i_part_c (addC 181 f_i_Group_total_c (noC)))
theorem f_i_IsAtom_Mt : CallOk Try.prog (f_i_IsAtom_M) := addC_true f_i_IsZeroSum_cc (addC_true f_i_part_cc (addC_true f_i_Group_total_cc (noC_true)))
theorem f_i_IsAtom_o : loopsOnce Try.f100 = true := by kernel_rfl
def f_i_IsAtom_h0 : List Sh := [.u, .p .sl, .p .el, .u, .u, .p (.int .i64), .u, .u, .u, .u, .u, .u, .u, .u, .u, .u, .u, .u, .u, .u, .u, .u, .u, .u, .u, .u, .u, .u, .u]
def f_i_IsAtom_fr0 (l1 : List Sc) (g2 : List Sc) (s : Int) : List AV := enc f_i_IsAtom_h0 [.l l1, .l g2, .i s]
def f_i_IsAtom_g0_1 : List Sh := [.u, .u, .u, .u, .u, .u, .u, .u, .u, .u, .u, .u, .u, .u, .u, .u, .u, .u, .u, .u, .u, .u, .u, .u, .u, .u, .u, .u, .u]
def f_i_IsAtom_x0_1 (l1 : List Sc) (g2 : List Sc) (e : Unit) : X × List AV := (.out 0, enc f_i_IsAtom_g0_1 [])
def f_i_IsAtom_g0_2 : List Sh := [.u, .u, .u, .u, .p .boo, .u, .u, .u, .u, .u, .u, .u, .u, .u, .u, .u, .u, .u, .u, .u, .u, .u, .u, .u, .u, .u, .u, .u, .u]
def f_i_IsAtom_x0_2 (l1 : List Sc) (g2 : List Sc) (e : Unit) : X × List AV := (.ret, enc f_i_IsAtom_g0_2 [.b false])
theorem f_i_IsAtom_p0 {R : Type} (l1 : List Sc) (g2 : List Sc) (s : Int) (kN : Int → Option R) (kA : Unit → Option R) (kB : Unit → Option R) : f_i_IsAtom_k0 l1 g2 s kN kA kB = (f_i_IsAtom_r0 l1 g2 s).bind (Ro.el kN kA kB) := by
  simp only [f_i_IsAtom_k0, f_i_IsAtom_r0, brB, boB, someB, noneB, Ro.el]
theorem f_i_IsAtom_e0 (l1 : List Sc) (g2 : List Sc) (s : Int) : EC E0 f_i_IsAtom_M H0 f_i_IsAtom_F (asL (noL)) 0 (bodyOf Try.f100 0) (f_i_IsAtom_fr0 l1 g2 s) (done (klOf f_i_IsAtom_F 0)) = f_i_IsAtom_k0 l1 g2 s (fun s => some (.norm, f_i_IsAtom_fr0 l1 g2 s)) (fun e => some (f_i_IsAtom_x0_1 l1 g2 e)) (fun e => some (f_i_IsAtom_x0_2 l1 g2 e)) := by kernel_rfl
theorem f_i_IsAtom_l0 (l1 : List Sc) (g2 : List Sc) : ∀ s r, loopL (f_i_IsAtom_r0 l1 g2) s = some r → LS Try.prog f_i_IsAtom_F (bodyOf Try.f100 0) (f_i_IsAtom_fr0 l1 g2 s) (enX (f_i_IsAtom_x0_1 l1 g2) (f_i_IsAtom_x0_2 l1 g2) r) :=
  loop_true E0ok f_i_IsAtom_Mt (noL_true) f_i_IsAtom_o (fun _ h => by cases h) (fun _ h => by cases h) (fun s => (f_i_IsAtom_e0 l1 g2 s).trans (f_i_IsAtom_p0 l1 g2 s _ _ (fun e => some (f_i_IsAtom_x0_2 l1 g2 e))))
def f_i_IsAtom_t0 (σ : List AV) : Option (Bool × Bool × (X × List AV) × (X × List AV)) := match dec f_i_IsAtom_h0 σ with
  | some [.l l1, .l g2, .i mask5] => some ((loopL (f_i_IsAtom_r0 l1 g2) mask5).isSome, isOne (loopL (f_i_IsAtom_r0 l1 g2) mask5), f_i_IsAtom_x0_1 l1 g2 (getOne () (loopL (f_i_IsAtom_r0 l1 g2) mask5)), f_i_IsAtom_x0_2 l1 g2 (getTwo () (loopL (f_i_IsAtom_r0 l1 g2) mask5)))
  | _ => none
theorem f_i_IsAtom_tt0 : TTrue Try.prog f_i_IsAtom_F Try.f100 0 (f_i_IsAtom_t0) := by
  intro σ p r r' h
  unfold f_i_IsAtom_t0 at h
  split at h
  · rename_i hd
    rw [← dec_enc hd]
    exact row2 (f_i_IsAtom_l0 _ _ _) h
  · cases h
theorem f_i_IsAtom_p {R : Type} (g0 : List Sc) (l1 : List Sc) (kR : Bool → Option R) : f_i_IsAtom_k g0 l1 kR = (f_i_IsAtom_k g0 l1 some).bind kR := by
  simp only [f_i_IsAtom_k, brB, boB, blB, someB]
theorem f_i_IsAtom_e (g0 : List Sc) (l1 : List Sc) : runFn E0 f_i_IsAtom_M H0 f_i_IsAtom_F (asL (addL 0 (f_i_IsAtom_t0) (noL))) Try.f100 (f_i_IsAtom_a g0 l1) (f_i_IsAtom_i g0 l1) = f_i_IsAtom_k g0 l1 (fun r => some (f_i_IsAtom_en r)) := by kernel_rfl
theorem f_i_IsAtom_ok (g0 : List Sc) (l1 : List Sc) (r : Bool) (h : f_i_IsAtom g0 l1 = some r) : CS Try.prog 100 (f_i_IsAtom_a g0 l1) (f_i_IsAtom_i g0 l1) (f_i_IsAtom_en r).1 (f_i_IsAtom_en r).2 :=
  fn_true (Gk := fun k => f_i_IsAtom_k g0 l1 k) (en := f_i_IsAtom_en) Try.func100 E0ok f_i_IsAtom_Mt (addL_true (f_i_IsAtom_tt0) (noL_true)) f_i_IsAtom_o (f_i_IsAtom_e g0 l1) (f_i_IsAtom_p g0 l1) h
def f_i_IsAtom_c : CRow := fun args inh => match dec2 [.p .gr, .p .sl] [] args inh with
  | some ([.l g0, .l l1], []) => some ((f_i_IsAtom g0 l1).isSome, (f_i_IsAtom_en ((f_i_IsAtom g0 l1).getD false)).1, (f_i_IsAtom_en ((f_i_IsAtom g0 l1).getD false)).2)
  | _ => none
theorem f_i_IsAtom_cc : CTrue Try.prog 100 f_i_IsAtom_c := by
  intro args inh rs out h
  unfold f_i_IsAtom_c at h
  split at h
  · rename_i hd
    obtain ⟨h1, h2⟩ := dec2_enc hd
    rw [← h1, ← h2]
    exact rowC (f_i_IsAtom_ok _ _) h
  · cases h

def f_i_Group_shift_F : Fi := { nv := 0, nc := 0, m := 0, vt := [], kl := [(0, ([0, 4, 5, 6, 9, 10, 11, 12, 13, 14, 15, 16, 17, 18, 19, 20, 21, 22, 23, 24, 25, 26, 27], [0, 1, 2, 3, 4, 5, 6, 8, 9, 10, 11, 12, 13, 14, 15, 16, 17, 18, 19, 20, 21, 22, 23, 24, 25, 26, 27], [0, 1, 2, 3, 4, 5, 7, 8, 9, 10, 11, 12, 13, 14, 15, 16, 17, 18, 19, 20, 21, 22, 23, 24, 25, 26, 27]))], sk := [], mvs := [], fz := [] }
def f_i_Group_shift_a (g0 : List Sc) (a1 : Int) (x2 : Int) : List AV := enc [.p .gr, .p (.int .i64), .p (.int .i64)] [.l g0, .i a1, .i x2]
def f_i_Group_shift_i (g0 : List Sc) (a1 : Int) (x2 : Int) : List AV := enc [] []
def f_i_Group_shift_en (r : Int) : List AV × List AV := (enc [.p (.int .i64)] [.i r], enc [] [])
def f_i_Group_shift_M : Calling := addC 155 f_i_Group_add_c (noC)
theorem f_i_Group_shift_Mt : CallOk Try.prog (f_i_Group_shift_M) := addC_true f_i_Group_add_cc (noC_true)
theorem f_i_Group_shift_o : loopsOnce Try.f123 = true := by kernel_rfl
def f_i_Group_shift_h0 : List Sh := [.u, .p (.int .i64), .p (.int .i64), .p .el, .u, .u, .u, .p (.int .i64), .p (.int .i64), .u, .u, .u, .u, .u, .u, .u, .u, .u, .u, .u, .u, .u, .u, .u, .u, .u, .u, .u]
def f_i_Group_shift_fr0 (a1 : Int) (x2 : Int) (g3 : List Sc) (s : Int × Int) : List AV := enc f_i_Group_shift_h0 [.i a1, .i x2, .l g3, .i s.1, .i s.2]
def f_i_Group_shift_g0_1 : List Sh := [.u, .u, .u, .u, .u, .u, .u, .p (.int .i64), .u, .u, .u, .u, .u, .u, .u, .u, .u, .u, .u, .u, .u, .u, .u, .u, .u, .u, .u, .u]
def f_i_Group_shift_x0_1 (a1 : Int) (x2 : Int) (g3 : List Sc) (e : Int) : X × List AV := (.out 0, enc f_i_Group_shift_g0_1 [.i e])
def f_i_Group_shift_x0_2 (a1 : Int) (x2 : Int) (g3 : List Sc) (_e : Unit) : X × List AV := (.ret, [])
theorem f_i_Group_shift_p0 {R : Type} (a1 : Int) (x2 : Int) (g3 : List Sc) (s : Int × Int) (kN : Int × Int → Option R) (kA : Int → Option R) (kB : Unit → Option R) : f_i_Group_shift_k0 a1 x2 g3 s.1 s.2 kN kA = (f_i_Group_shift_r0 a1 x2 g3 s).bind (Ro.el kN kA kB) := by
  simp only [f_i_Group_shift_k0, f_i_Group_shift_r0, brB, boB, someB, noneB, Ro.el]
theorem f_i_Group_shift_e0 (a1 : Int) (x2 : Int) (g3 : List Sc) (s : Int × Int) : EC E0 f_i_Group_shift_M H0 f_i_Group_shift_F (asL (noL)) 0 (bodyOf Try.f123 0) (f_i_Group_shift_fr0 a1 x2 g3 s) (done (klOf f_i_Group_shift_F 0)) = f_i_Group_shift_k0 a1 x2 g3 s.1 s.2 (fun s => some (.norm, f_i_Group_shift_fr0 a1 x2 g3 s)) (fun e => some (f_i_Group_shift_x0_1 a1 x2 g3 e)) := by kernel_rfl
theorem f_i_Group_shift_l0 (a1 : Int) (x2 : Int) (g3 : List Sc) : ∀ s r, loopL (f_i_Group_shift_r0 a1 x2 g3) s = some r → LS Try.prog f_i_Group_shift_F (bodyOf Try.f123 0) (f_i_Group_shift_fr0 a1 x2 g3 s) (enX (f_i_Group_shift_x0_1 a1 x2 g3) (f_i_Group_shift_x0_2 a1 x2 g3) r) :=
  loop_true E0ok f_i_Group_shift_Mt (noL_true) f_i_Group_shift_o (fun _ h => by cases h) (fun _ h => by cases h) (fun s => (f_i_Group_shift_e0 a1 x2 g3 s).trans (f_i_Group_shift_p0 a1 x2 g3 s _ _ (fun e => some (f_i_Group_shift_x0_2 a1 x2 g3 e))))
def f_i_Group_shift_t0 (σ : List AV) : Option (Bool × Bool × (X × List AV) × (X × List AV)) := match dec f_i_Group_shift_h0 σ with
  | some [.i a1, .i x2, .l g3, .i out7, .i y8] => some (isOne (loopL (f_i_Group_shift_r0 a1 x2 g3) (out7, y8)), true, f_i_Group_shift_x0_1 a1 x2 g3 (getOne 0 (loopL (f_i_Group_shift_r0 a1 x2 g3) (out7, y8))), (.ret, []))
  | _ => none
theorem f_i_Group_shift_tt0 : TTrue Try.prog f_i_Group_shift_F Try.f123 0 (f_i_Group_shift_t0) := by
  intro σ p r r' h
  unfold f_i_Group_shift_t0 at h
  split at h
  · rename_i hd
    rw [← dec_enc hd]
    exact row1 (f_i_Group_shift_l0 _ _ _ _) h
  · cases h
theorem f_i_Group_shift_p {R : Type} (g0 : List Sc) (a1 : Int) (x2 : Int) (kR : Int → Option R) : f_i_Group_shift_k g0 a1 x2 kR = (f_i_Group_shift_k g0 a1 x2 some).bind kR := by
  simp only [f_i_Group_shift_k, bl1B, someB]
theorem f_i_Group_shift_e (g0 : List Sc) (a1 : Int) (x2 : Int) : runFn E0 f_i_Group_shift_M H0 f_i_Group_shift_F (asL (addL 0 (f_i_Group_shift_t0) (noL))) Try.f123 (f_i_Group_shift_a g0 a1 x2) (f_i_Group_shift_i g0 a1 x2) = f_i_Group_shift_k g0 a1 x2 (fun r => some (f_i_Group_shift_en r)) := by kernel_rfl
theorem f_i_Group_shift_ok (g0 : List Sc) (a1 : Int) (x2 : Int) (r : Int) (h : f_i_Group_shift g0 a1 x2 = some r) : CS Try.prog 123 (f_i_Group_shift_a g0 a1 x2) (f_i_Group_shift_i g0 a1 x2) (f_i_Group_shift_en r).1 (f_i_Group_shift_en r).2 :=
  fn_true (Gk := fun k => f_i_Group_shift_k g0 a1 x2 k) (en := f_i_Group_shift_en) Try.func123 E0ok f_i_Group_shift_Mt (addL_true (f_i_Group_shift_tt0) (noL_true)) f_i_Group_shift_o (f_i_Group_shift_e g0 a1 x2) (f_i_Group_shift_p g0 a1 x2) h
def f_i_Group_shift_c : CRow := fun args inh => match dec2 [.p .gr, .p (.int .i64), .p (.int .i64)] [] args inh with
  | some ([.l g0, .i a1, .i x2], []) => some ((f_i_Group_shift g0 a1 x2).isSome, (f_i_Group_shift_en ((f_i_Group_shift g0 a1 x2).getD 0)).1, (f_i_Group_shift_en ((f_i_Group_shift g0 a1 x2).getD 0)).2)
  | _ => none
theorem f_i_Group_shift_cc : CTrue Try.prog 123 f_i_Group_shift_c := by
  intro args inh rs out h
  unfold f_i_Group_shift_c at h
  split at h
  · rename_i hd
    obtain ⟨h1, h2⟩ := dec2_enc hd
    rw [← h1, ← h2]
    exact rowC (f_i_Group_shift_ok _ _ _) h
  · cases h

def f_i_Group_subsums_F : Fi := { nv := 0, nc := 0, m := 0, vt := [], kl := [(0, ([0, 1, 3, 4, 6, 7, 11, 12, 13, 14, 15, 16, 17, 18, 19, 20, 21, 22, 23, 24], [0, 1, 2, 3, 4, 6, 7, 8, 9, 10, 11, 12, 13, 14, 15, 16, 17, 18, 19, 20, 21, 22, 23, 24], [0, 1, 2, 3, 5, 6, 7, 8, 9, 10, 11, 12, 13, 14, 15, 16, 17, 18, 19, 20, 21, 22, 23, 24]))], sk := [], mvs := [], fz := [] }
def f_i_Group_subsums_a (g0 : List Sc) (l1 : List Sc) : List AV := enc [.p .gr, .p .sl] [.l g0, .l l1]
def f_i_Group_subsums_i (g0 : List Sc) (l1 : List Sc) : List AV := enc [] []
def f_i_Group_subsums_en (r : Int) : List AV × List AV := (enc [.p (.int .i64)] [.i r], enc [] [])
def f_i_Group_subsums_M : Calling := addC 123 f_i_Group_shift_c (noC)
theorem f_i_Group_subsums_Mt : CallOk Try.prog (f_i_Group_subsums_M) := addC_true f_i_Group_shift_cc (noC_true)
theorem f_i_Group_subsums_o : loopsOnce Try.f192 = true := by kernel_rfl
def f_i_Group_subsums_h0 : List Sh := [.u, .u, .p .el, .u, .u, .p (.int .i64), .u, .u, .p .sl, .p (.int .i64), .p (.int .i64), .u, .u, .u, .u, .u, .u, .u, .u, .u, .u, .u, .u, .u, .u]
def f_i_Group_subsums_fr0 (g2 : List Sc) (t8 : List Sc) (t9 : Int) (s : Int × Int) : List AV := enc f_i_Group_subsums_h0 [.l g2, .i s.1, .l t8, .i t9, .i s.2]
def f_i_Group_subsums_g0_1 : List Sh := [.u, .u, .u, .u, .u, .p (.int .i64), .u, .u, .u, .u, .u, .u, .u, .u, .u, .u, .u, .u, .u, .u, .u, .u, .u, .u, .u]
def f_i_Group_subsums_x0_1 (g2 : List Sc) (t8 : List Sc) (t9 : Int) (e : Int) : X × List AV := (.out 0, enc f_i_Group_subsums_g0_1 [.i e])
def f_i_Group_subsums_x0_2 (g2 : List Sc) (t8 : List Sc) (t9 : Int) (_e : Unit) : X × List AV := (.ret, [])
theorem f_i_Group_subsums_p0 {R : Type} (g2 : List Sc) (t8 : List Sc) (t9 : Int) (s : Int × Int) (kN : Int × Int → Option R) (kA : Int → Option R) (kB : Unit → Option R) : f_i_Group_subsums_k0 g2 t8 t9 s.1 s.2 kN kA = (f_i_Group_subsums_r0 g2 t8 t9 s).bind (Ro.el kN kA kB) := by
  simp only [f_i_Group_subsums_k0, f_i_Group_subsums_r0, brB, boB, someB, noneB, Ro.el]
theorem f_i_Group_subsums_e0 (g2 : List Sc) (t8 : List Sc) (t9 : Int) (s : Int × Int) : EC E0 f_i_Group_subsums_M H0 f_i_Group_subsums_F (asL (noL)) 0 (bodyOf Try.f192 0) (f_i_Group_subsums_fr0 g2 t8 t9 s) (done (klOf f_i_Group_subsums_F 0)) = f_i_Group_subsums_k0 g2 t8 t9 s.1 s.2 (fun s => some (.norm, f_i_Group_subsums_fr0 g2 t8 t9 s)) (fun e => some (f_i_Group_subsums_x0_1 g2 t8 t9 e)) := by kernel_rfl
theorem f_i_Group_subsums_l0 (g2 : List Sc) (t8 : List Sc) (t9 : Int) : ∀ s r, loopL (f_i_Group_subsums_r0 g2 t8 t9) s = some r → LS Try.prog f_i_Group_subsums_F (bodyOf Try.f192 0) (f_i_Group_subsums_fr0 g2 t8 t9 s) (enX (f_i_Group_subsums_x0_1 g2 t8 t9) (f_i_Group_subsums_x0_2 g2 t8 t9) r) :=
  loop_true E0ok f_i_Group_subsums_Mt (noL_true) f_i_Group_subsums_o (fun _ h => by cases h) (fun _ h => by cases h) (fun s => (f_i_Group_subsums_e0 g2 t8 t9 s).trans (f_i_Group_subsums_p0 g2 t8 t9 s _ _ (fun e => some (f_i_Group_subsums_x0_2 g2 t8 t9 e))))
def f_i_Group_subsums_t0 (σ : List AV) : Option (Bool × Bool × (X × List AV) × (X × List AV)) := match dec f_i_Group_subsums_h0 σ with
  | some [.l g2, .i out5, .l t8, .i t9, .i t10] => some (isOne (loopL (f_i_Group_subsums_r0 g2 t8 t9) (out5, t10)), true, f_i_Group_subsums_x0_1 g2 t8 t9 (getOne 0 (loopL (f_i_Group_subsums_r0 g2 t8 t9) (out5, t10))), (.ret, []))
  | _ => none
theorem f_i_Group_subsums_tt0 : TTrue Try.prog f_i_Group_subsums_F Try.f192 0 (f_i_Group_subsums_t0) := by
  intro σ p r r' h
  unfold f_i_Group_subsums_t0 at h
  split at h
  · rename_i hd
    rw [← dec_enc hd]
    exact row1 (f_i_Group_subsums_l0 _ _ _ _) h
  · cases h
theorem f_i_Group_subsums_p {R : Type} (g0 : List Sc) (l1 : List Sc) (kR : Int → Option R) : f_i_Group_subsums_k g0 l1 kR = (f_i_Group_subsums_k g0 l1 some).bind kR := by
  simp only [f_i_Group_subsums_k, bl1B, someB]
theorem f_i_Group_subsums_e (g0 : List Sc) (l1 : List Sc) : runFn E0 f_i_Group_subsums_M H0 f_i_Group_subsums_F (asL (addL 0 (f_i_Group_subsums_t0) (noL))) Try.f192 (f_i_Group_subsums_a g0 l1) (f_i_Group_subsums_i g0 l1) = f_i_Group_subsums_k g0 l1 (fun r => some (f_i_Group_subsums_en r)) := by kernel_rfl
theorem f_i_Group_subsums_ok (g0 : List Sc) (l1 : List Sc) (r : Int) (h : f_i_Group_subsums g0 l1 = some r) : CS Try.prog 192 (f_i_Group_subsums_a g0 l1) (f_i_Group_subsums_i g0 l1) (f_i_Group_subsums_en r).1 (f_i_Group_subsums_en r).2 :=
  fn_true (Gk := fun k => f_i_Group_subsums_k g0 l1 k) (en := f_i_Group_subsums_en) Try.func192 E0ok f_i_Group_subsums_Mt (addL_true (f_i_Group_subsums_tt0) (noL_true)) f_i_Group_subsums_o (f_i_Group_subsums_e g0 l1) (f_i_Group_subsums_p g0 l1) h
def f_i_Group_subsums_c : CRow := fun args inh => match dec2 [.p .gr, .p .sl] [] args inh with
  | some ([.l g0, .l l1], []) => some ((f_i_Group_subsums g0 l1).isSome, (f_i_Group_subsums_en ((f_i_Group_subsums g0 l1).getD 0)).1, (f_i_Group_subsums_en ((f_i_Group_subsums g0 l1).getD 0)).2)
  | _ => none
theorem f_i_Group_subsums_cc : CTrue Try.prog 192 f_i_Group_subsums_c := by
  intro args inh rs out h
  unfold f_i_Group_subsums_c at h
  split at h
  · rename_i hd
    obtain ⟨h1, h2⟩ := dec2_enc hd
    rw [← h1, ← h2]
    exact rowC (f_i_Group_subsums_ok _ _) h
  · cases h

def f_i_IsZeroFree_F : Fi := { nv := 0, nc := 0, m := 0, vt := [], kl := [], sk := [], mvs := [], fz := [] }
def f_i_IsZeroFree_a (g0 : List Sc) (l1 : List Sc) : List AV := enc [.p .gr, .p .sl] [.l g0, .l l1]
def f_i_IsZeroFree_i (g0 : List Sc) (l1 : List Sc) : List AV := enc [] []
def f_i_IsZeroFree_en (r : Bool) : List AV × List AV := (enc [.p .boo] [.b r], enc [] [])
def f_i_IsZeroFree_M : Calling := addC 104 f_i_IsSequence_c (addC 192 f_i_Group_subsums_c (addC 153 f_i_in_c (noC)))
theorem f_i_IsZeroFree_Mt : CallOk Try.prog (f_i_IsZeroFree_M) := addC_true f_i_IsSequence_cc (addC_true f_i_Group_subsums_cc (addC_true f_i_in_cc (noC_true)))
theorem f_i_IsZeroFree_o : loopsOnce Try.f88 = true := by kernel_rfl
theorem f_i_IsZeroFree_p {R : Type} (g0 : List Sc) (l1 : List Sc) (kR : Bool → Option R) : f_i_IsZeroFree_k g0 l1 kR = (f_i_IsZeroFree_k g0 l1 some).bind kR := by
  simp only [f_i_IsZeroFree_k, brB, boB, someB]
theorem f_i_IsZeroFree_e (g0 : List Sc) (l1 : List Sc) : runFn E0 f_i_IsZeroFree_M H0 f_i_IsZeroFree_F (asL (noL)) Try.f88 (f_i_IsZeroFree_a g0 l1) (f_i_IsZeroFree_i g0 l1) = f_i_IsZeroFree_k g0 l1 (fun r => some (f_i_IsZeroFree_en r)) := by kernel_rfl
theorem f_i_IsZeroFree_ok (g0 : List Sc) (l1 : List Sc) (r : Bool) (h : f_i_IsZeroFree g0 l1 = some r) : CS Try.prog 88 (f_i_IsZeroFree_a g0 l1) (f_i_IsZeroFree_i g0 l1) (f_i_IsZeroFree_en r).1 (f_i_IsZeroFree_en r).2 :=
  fn_true (Gk := fun k => f_i_IsZeroFree_k g0 l1 k) (en := f_i_IsZeroFree_en) Try.func88 E0ok f_i_IsZeroFree_Mt (noL_true) f_i_IsZeroFree_o (f_i_IsZeroFree_e g0 l1) (f_i_IsZeroFree_p g0 l1) h
def f_i_IsZeroFree_c : CRow := fun args inh => match dec2 [.p .gr, .p .sl] [] args inh with
  | some ([.l g0, .l l1], []) => some ((f_i_IsZeroFree g0 l1).isSome, (f_i_IsZeroFree_en ((f_i_IsZeroFree g0 l1).getD false)).1, (f_i_IsZeroFree_en ((f_i_IsZeroFree g0 l1).getD false)).2)
  | _ => none
theorem f_i_IsZeroFree_cc : CTrue Try.prog 88 f_i_IsZeroFree_c := by
  intro args inh rs out h
  unfold f_i_IsZeroFree_c at h
  split at h
  · rename_i hd
    obtain ⟨h1, h2⟩ := dec2_enc hd
    rw [← h1, ← h2]
    exact rowC (f_i_IsZeroFree_ok _ _) h
  · cases h

def f_i_SubsumsOf_F : Fi := { nv := 0, nc := 0, m := 0, vt := [], kl := [], sk := [], mvs := [], fz := [] }
def f_i_SubsumsOf_a (g0 : List Sc) (l1 : List Sc) : List AV := enc [.p .gr, .p .sl] [.l g0, .l l1]
def f_i_SubsumsOf_i (g0 : List Sc) (l1 : List Sc) : List AV := enc [] []
def f_i_SubsumsOf_en (r : Int) : List AV × List AV := (enc [.p (.int .i64)] [.i r], enc [] [])
def f_i_SubsumsOf_M : Calling := addC 104 f_i_IsSequence_c (addC 192 f_i_Group_subsums_c (noC))
theorem f_i_SubsumsOf_Mt : CallOk Try.prog (f_i_SubsumsOf_M) := addC_true f_i_IsSequence_cc (addC_true f_i_Group_subsums_cc (noC_true))
theorem f_i_SubsumsOf_o : loopsOnce Try.f102 = true := by kernel_rfl
theorem f_i_SubsumsOf_p {R : Type} (g0 : List Sc) (l1 : List Sc) (kR : Int → Option R) : f_i_SubsumsOf_k g0 l1 kR = (f_i_SubsumsOf_k g0 l1 some).bind kR := by
  simp only [f_i_SubsumsOf_k, brB, boB, someB]
theorem f_i_SubsumsOf_e (g0 : List Sc) (l1 : List Sc) : runFn E0 f_i_SubsumsOf_M H0 f_i_SubsumsOf_F (asL (noL)) Try.f102 (f_i_SubsumsOf_a g0 l1) (f_i_SubsumsOf_i g0 l1) = f_i_SubsumsOf_k g0 l1 (fun r => some (f_i_SubsumsOf_en r)) := by kernel_rfl
theorem f_i_SubsumsOf_ok (g0 : List Sc) (l1 : List Sc) (r : Int) (h : f_i_SubsumsOf g0 l1 = some r) : CS Try.prog 102 (f_i_SubsumsOf_a g0 l1) (f_i_SubsumsOf_i g0 l1) (f_i_SubsumsOf_en r).1 (f_i_SubsumsOf_en r).2 :=
  fn_true (Gk := fun k => f_i_SubsumsOf_k g0 l1 k) (en := f_i_SubsumsOf_en) Try.func102 E0ok f_i_SubsumsOf_Mt (noL_true) f_i_SubsumsOf_o (f_i_SubsumsOf_e g0 l1) (f_i_SubsumsOf_p g0 l1) h
def f_i_SubsumsOf_c : CRow := fun args inh => match dec2 [.p .gr, .p .sl] [] args inh with
  | some ([.l g0, .l l1], []) => some ((f_i_SubsumsOf g0 l1).isSome, (f_i_SubsumsOf_en ((f_i_SubsumsOf g0 l1).getD 0)).1, (f_i_SubsumsOf_en ((f_i_SubsumsOf g0 l1).getD 0)).2)
  | _ => none
theorem f_i_SubsumsOf_cc : CTrue Try.prog 102 f_i_SubsumsOf_c := by
  intro args inh rs out h
  unfold f_i_SubsumsOf_c at h
  split at h
  · rename_i hd
    obtain ⟨h1, h2⟩ := dec2_enc hd
    rw [← h1, ← h2]
    exact rowC (f_i_SubsumsOf_ok _ _) h
  · cases h

def f_s_l3List_F : Fi := { nv := 0, nc := 0, m := 0, vt := [], kl := [(0, ([0, 1, 2, 6, 7, 8, 9, 10, 11, 12, 13, 14, 15, 16, 17, 18, 19, 20, 21], [0, 1, 2, 4, 5, 6, 7, 8, 9, 10, 11, 12, 13, 14, 15, 16, 17, 18, 19, 20, 21], [0, 1, 3, 4, 5, 6, 7, 8, 9, 10, 11, 12, 13, 14, 15, 16, 17, 18, 19, 20, 21]))], sk := [], mvs := [], fz := [] }
def f_s_l3List_a (a0 : Int) : List AV := enc [.p (.int .i64)] [.i a0]
def f_s_l3List_i (a0 : Int) : List AV := enc [] []
def f_s_l3List_en (r : List Sc) : List AV × List AV := (enc [.p (.al 0)] [], enc [.own 3] [.l r])
def f_s_l3List_M : Calling := noC
theorem f_s_l3List_Mt : CallOk Try.prog (f_s_l3List_M) := noC_true
theorem f_s_l3List_o : loopsOnce Try.f136 = true := by kernel_rfl
def f_s_l3List_h0 : List Sh := [.u, .u, .u, .own 3, .p (.int .i64), .p (.int .i64), .u, .u, .u, .u, .u, .u, .u, .u, .u, .u, .u, .u, .u, .u, .u, .u]
def f_s_l3List_fr0 (s : List Sc × Int × Int) : List AV := enc f_s_l3List_h0 [.l s.1, .i s.2.1, .i s.2.2]
def f_s_l3List_g0_1 : List Sh := [.u, .u, .u, .own 3, .u, .u, .u, .u, .u, .u, .u, .u, .u, .u, .u, .u, .u, .u, .u, .u, .u, .u]
def f_s_l3List_x0_1 (e : List Sc) : X × List AV := (.out 0, enc f_s_l3List_g0_1 [.l e])
def f_s_l3List_x0_2 (_e : Unit) : X × List AV := (.ret, [])
theorem f_s_l3List_p0 {R : Type} (s : List Sc × Int × Int) (kN : List Sc × Int × Int → Option R) (kA : List Sc → Option R) (kB : Unit → Option R) : f_s_l3List_k0 s.1 s.2.1 s.2.2 kN kA = (f_s_l3List_r0 s).bind (Ro.el kN kA kB) := by
  simp only [f_s_l3List_k0, f_s_l3List_r0, brB, someB, noneB, Ro.el]
theorem f_s_l3List_e0 (s : List Sc × Int × Int) : EC E0 f_s_l3List_M H0 f_s_l3List_F (asL (noL)) 0 (bodyOf Try.f136 0) (f_s_l3List_fr0 s) (done (klOf f_s_l3List_F 0)) = f_s_l3List_k0 s.1 s.2.1 s.2.2 (fun s => some (.norm, f_s_l3List_fr0 s)) (fun e => some (f_s_l3List_x0_1 e)) := by kernel_rfl
theorem f_s_l3List_l0 : ∀ s r, loopL (f_s_l3List_r0) s = some r → LS Try.prog f_s_l3List_F (bodyOf Try.f136 0) (f_s_l3List_fr0 s) (enX (f_s_l3List_x0_1) (f_s_l3List_x0_2) r) :=
  loop_true E0ok f_s_l3List_Mt (noL_true) f_s_l3List_o (fun _ h => by cases h) (fun _ h => by cases h) (fun s => (f_s_l3List_e0 s).trans (f_s_l3List_p0 s _ _ (fun e => some (f_s_l3List_x0_2 e))))
def f_s_l3List_t0 (σ : List AV) : Option (Bool × Bool × (X × List AV) × (X × List AV)) := match dec f_s_l3List_h0 σ with
  | some [.l out3, .i i4, .i x5] => some (isOne (loopL (f_s_l3List_r0) (out3, i4, x5)), true, f_s_l3List_x0_1 (getOne [] (loopL (f_s_l3List_r0) (out3, i4, x5))), (.ret, []))
  | _ => none
theorem f_s_l3List_tt0 : TTrue Try.prog f_s_l3List_F Try.f136 0 (f_s_l3List_t0) := by
  intro σ p r r' h
  unfold f_s_l3List_t0 at h
  split at h
  · rename_i hd
    rw [← dec_enc hd]
    exact row1 (f_s_l3List_l0 _) h
  · cases h
theorem f_s_l3List_p {R : Type} (a0 : Int) (kR : List Sc → Option R) : f_s_l3List_k a0 kR = (f_s_l3List_k a0 some).bind kR := by
  simp only [f_s_l3List_k, bl1B, someB]
theorem f_s_l3List_e (a0 : Int) : runFn E0 f_s_l3List_M H0 f_s_l3List_F (asL (addL 0 (f_s_l3List_t0) (noL))) Try.f136 (f_s_l3List_a a0) (f_s_l3List_i a0) = f_s_l3List_k a0 (fun r => some (f_s_l3List_en r)) := by kernel_rfl
theorem f_s_l3List_ok (a0 : Int) (r : List Sc) (h : f_s_l3List a0 = some r) : CS Try.prog 136 (f_s_l3List_a a0) (f_s_l3List_i a0) (f_s_l3List_en r).1 (f_s_l3List_en r).2 :=
  fn_true (Gk := fun k => f_s_l3List_k a0 k) (en := f_s_l3List_en) Try.func136 E0ok f_s_l3List_Mt (addL_true (f_s_l3List_tt0) (noL_true)) f_s_l3List_o (f_s_l3List_e a0) (f_s_l3List_p a0) h
def f_s_l3List_c : CRow := fun args inh => match dec2 [.p (.int .i64)] [] args inh with
  | some ([.i a0], []) => some ((f_s_l3List a0).isSome, (f_s_l3List_en ((f_s_l3List a0).getD [])).1, (f_s_l3List_en ((f_s_l3List a0).getD [])).2)
  | _ => none
theorem f_s_l3List_cc : CTrue Try.prog 136 f_s_l3List_c := by
  intro args inh rs out h
  unfold f_s_l3List_c at h
  split at h
  · rename_i hd
    obtain ⟨h1, h2⟩ := dec2_enc hd
    rw [← h1, ← h2]
    exact rowC (f_s_l3List_ok _) h
  · cases h

def f_s_l3Shift_F : Fi := { nv := 0, nc := 0, m := 0, vt := [], kl := [(0, ([0, 1, 4, 5, 6, 10, 11, 12, 13, 14, 15, 16, 17, 18, 19, 20, 21, 22, 23, 24, 25, 26, 27, 28], [0, 1, 2, 3, 4, 5, 6, 8, 9, 10, 11, 12, 13, 14, 15, 16, 17, 18, 19, 20, 21, 22, 23, 24, 25, 26, 27, 28], [0, 1, 2, 3, 4, 5, 7, 8, 9, 10, 11, 12, 13, 14, 15, 16, 17, 18, 19, 20, 21, 22, 23, 24, 25, 26, 27, 28]))], sk := [], mvs := [], fz := [] }
def f_s_l3Shift_a (g0 : List Sc) (a1 : Int) (x2 : Int) : List AV := enc [.p .gr, .p (.int .i64), .p (.int .i64)] [.l g0, .i a1, .i x2]
def f_s_l3Shift_i (g0 : List Sc) (a1 : Int) (x2 : Int) : List AV := enc [] []
def f_s_l3Shift_en (r : Int) : List AV × List AV := (enc [.p (.int .i64)] [.i r], enc [] [])
def f_s_l3Shift_M : Calling := addC 136 f_s_l3List_c (addC 156 f_s_l2Add_c (noC))
theorem f_s_l3Shift_Mt : CallOk Try.prog (f_s_l3Shift_M) := addC_true f_s_l3List_cc (addC_true f_s_l2Add_cc (noC_true))
theorem f_s_l3Shift_o : loopsOnce Try.f141 = true := by kernel_rfl
def f_s_l3Shift_h0 : List Sh := [.u, .u, .p (.int .i64), .p .el, .u, .u, .u, .p (.int .i64), .own 3, .p (.int .i64), .u, .u, .u, .u, .u, .u, .u, .u, .u, .u, .u, .u, .u, .u, .u, .u, .u, .u, .u]
def f_s_l3Shift_fr0 (x2 : Int) (g3 : List Sc) (s : Int × List Sc × Int) : List AV := enc f_s_l3Shift_h0 [.i x2, .l g3, .i s.1, .l s.2.1, .i s.2.2]
def f_s_l3Shift_g0_1 : List Sh := [.u, .u, .u, .u, .u, .u, .u, .p (.int .i64), .u, .u, .u, .u, .u, .u, .u, .u, .u, .u, .u, .u, .u, .u, .u, .u, .u, .u, .u, .u, .u]
def f_s_l3Shift_x0_1 (x2 : Int) (g3 : List Sc) (e : Int) : X × List AV := (.out 0, enc f_s_l3Shift_g0_1 [.i e])
def f_s_l3Shift_x0_2 (x2 : Int) (g3 : List Sc) (_e : Unit) : X × List AV := (.ret, [])
theorem f_s_l3Shift_p0 {R : Type} (x2 : Int) (g3 : List Sc) (s : Int × List Sc × Int) (kN : Int × List Sc × Int → Option R) (kA : Int → Option R) (kB : Unit → Option R) : f_s_l3Shift_k0 x2 g3 s.1 s.2.1 s.2.2 kN kA = (f_s_l3Shift_r0 x2 g3 s).bind (Ro.el kN kA kB) := by
  simp only [f_s_l3Shift_k0, f_s_l3Shift_r0, brB, boB, someB, noneB, Ro.el]
theorem f_s_l3Shift_e0 (x2 : Int) (g3 : List Sc) (s : Int × List Sc × Int) : EC E0 f_s_l3Shift_M H0 f_s_l3Shift_F (asL (noL)) 0 (bodyOf Try.f141 0) (f_s_l3Shift_fr0 x2 g3 s) (done (klOf f_s_l3Shift_F 0)) = f_s_l3Shift_k0 x2 g3 s.1 s.2.1 s.2.2 (fun s => some (.norm, f_s_l3Shift_fr0 x2 g3 s)) (fun e => some (f_s_l3Shift_x0_1 x2 g3 e)) := by kernel_rfl
theorem f_s_l3Shift_l0 (x2 : Int) (g3 : List Sc) : ∀ s r, loopL (f_s_l3Shift_r0 x2 g3) s = some r → LS Try.prog f_s_l3Shift_F (bodyOf Try.f141 0) (f_s_l3Shift_fr0 x2 g3 s) (enX (f_s_l3Shift_x0_1 x2 g3) (f_s_l3Shift_x0_2 x2 g3) r) :=
  loop_true E0ok f_s_l3Shift_Mt (noL_true) f_s_l3Shift_o (fun _ h => by cases h) (fun _ h => by cases h) (fun s => (f_s_l3Shift_e0 x2 g3 s).trans (f_s_l3Shift_p0 x2 g3 s _ _ (fun e => some (f_s_l3Shift_x0_2 x2 g3 e))))
def f_s_l3Shift_t0 (σ : List AV) : Option (Bool × Bool × (X × List AV) × (X × List AV)) := match dec f_s_l3Shift_h0 σ with
  | some [.i x2, .l g3, .i out7, .l l8, .i i9] => some (isOne (loopL (f_s_l3Shift_r0 x2 g3) (out7, l8, i9)), true, f_s_l3Shift_x0_1 x2 g3 (getOne 0 (loopL (f_s_l3Shift_r0 x2 g3) (out7, l8, i9))), (.ret, []))
  | _ => none
theorem f_s_l3Shift_tt0 : TTrue Try.prog f_s_l3Shift_F Try.f141 0 (f_s_l3Shift_t0) := by
  intro σ p r r' h
  unfold f_s_l3Shift_t0 at h
  split at h
  · rename_i hd
    rw [← dec_enc hd]
    exact row1 (f_s_l3Shift_l0 _ _ _) h
  · cases h
theorem f_s_l3Shift_p {R : Type} (g0 : List Sc) (a1 : Int) (x2 : Int) (kR : Int → Option R) : f_s_l3Shift_k g0 a1 x2 kR = (f_s_l3Shift_k g0 a1 x2 some).bind kR := by
  simp only [f_s_l3Shift_k, boB, bl1B, someB]
theorem f_s_l3Shift_e (g0 : List Sc) (a1 : Int) (x2 : Int) : runFn E0 f_s_l3Shift_M H0 f_s_l3Shift_F (asL (addL 0 (f_s_l3Shift_t0) (noL))) Try.f141 (f_s_l3Shift_a g0 a1 x2) (f_s_l3Shift_i g0 a1 x2) = f_s_l3Shift_k g0 a1 x2 (fun r => some (f_s_l3Shift_en r)) := by kernel_rfl
theorem f_s_l3Shift_ok (g0 : List Sc) (a1 : Int) (x2 : Int) (r : Int) (h : f_s_l3Shift g0 a1 x2 = some r) : CS Try.prog 141 (f_s_l3Shift_a g0 a1 x2) (f_s_l3Shift_i g0 a1 x2) (f_s_l3Shift_en r).1 (f_s_l3Shift_en r).2 :=
  fn_true (Gk := fun k => f_s_l3Shift_k g0 a1 x2 k) (en := f_s_l3Shift_en) Try.func141 E0ok f_s_l3Shift_Mt (addL_true (f_s_l3Shift_tt0) (noL_true)) f_s_l3Shift_o (f_s_l3Shift_e g0 a1 x2) (f_s_l3Shift_p g0 a1 x2) h
def f_s_l3Shift_c : CRow := fun args inh => match dec2 [.p .gr, .p (.int .i64), .p (.int .i64)] [] args inh with
  | some ([.l g0, .i a1, .i x2], []) => some ((f_s_l3Shift g0 a1 x2).isSome, (f_s_l3Shift_en ((f_s_l3Shift g0 a1 x2).getD 0)).1, (f_s_l3Shift_en ((f_s_l3Shift g0 a1 x2).getD 0)).2)
  | _ => none
theorem f_s_l3Shift_cc : CTrue Try.prog 141 f_s_l3Shift_c := by
  intro args inh rs out h
  unfold f_s_l3Shift_c at h
  split at h
  · rename_i hd
    obtain ⟨h1, h2⟩ := dec2_enc hd
    rw [← h1, ← h2]
    exact rowC (f_s_l3Shift_ok _ _ _) h
  · cases h

def f_s_l16Subsums_F : Fi := { nv := 0, nc := 0, m := 0, vt := [], kl := [(0, ([0, 3, 4, 7, 8, 9, 10, 11, 12, 13, 14, 15, 16, 17, 18, 19, 20, 21, 22, 23, 24, 25, 26, 27, 28], [0, 1, 2, 3, 4, 6, 7, 8, 9, 10, 11, 12, 13, 14, 15, 16, 17, 18, 19, 20, 21, 22, 23, 24, 25, 26, 27, 28], [0, 1, 2, 3, 5, 6, 7, 8, 9, 10, 11, 12, 13, 14, 15, 16, 17, 18, 19, 20, 21, 22, 23, 24, 25, 26, 27, 28]))], sk := [], mvs := [], fz := [] }
def f_s_l16Subsums_a (g0 : List Sc) (l1 : List Sc) : List AV := enc [.p .gr, .p .sl] [.l g0, .l l1]
def f_s_l16Subsums_i (g0 : List Sc) (l1 : List Sc) : List AV := enc [] []
def f_s_l16Subsums_en (r : Int) : List AV × List AV := (enc [.p (.int .i64)] [.i r], enc [] [])
def f_s_l16Subsums_M : Calling := addC 141 f_s_l3Shift_c (noC)
theorem f_s_l16Subsums_Mt : CallOk Try.prog (f_s_l16Subsums_M) := addC_true f_s_l3Shift_cc (noC_true)
theorem f_s_l16Subsums_o : loopsOnce Try.f196 = true := by kernel_rfl
def f_s_l16Subsums_h0 : List Sh := [.u, .p .sl, .p .el, .u, .u, .p (.int .i64), .p (.int .i64), .u, .u, .u, .u, .u, .u, .u, .u, .u, .u, .u, .u, .u, .u, .u, .u, .u, .u, .u, .u, .u, .u]
def f_s_l16Subsums_fr0 (l1 : List Sc) (g2 : List Sc) (s : Int × Int) : List AV := enc f_s_l16Subsums_h0 [.l l1, .l g2, .i s.1, .i s.2]
def f_s_l16Subsums_g0_1 : List Sh := [.u, .u, .u, .u, .u, .p (.int .i64), .u, .u, .u, .u, .u, .u, .u, .u, .u, .u, .u, .u, .u, .u, .u, .u, .u, .u, .u, .u, .u, .u, .u]
def f_s_l16Subsums_x0_1 (l1 : List Sc) (g2 : List Sc) (e : Int) : X × List AV := (.out 0, enc f_s_l16Subsums_g0_1 [.i e])
def f_s_l16Subsums_x0_2 (l1 : List Sc) (g2 : List Sc) (_e : Unit) : X × List AV := (.ret, [])
theorem f_s_l16Subsums_p0 {R : Type} (l1 : List Sc) (g2 : List Sc) (s : Int × Int) (kN : Int × Int → Option R) (kA : Int → Option R) (kB : Unit → Option R) : f_s_l16Subsums_k0 l1 g2 s.1 s.2 kN kA = (f_s_l16Subsums_r0 l1 g2 s).bind (Ro.el kN kA kB) := by
  simp only [f_s_l16Subsums_k0, f_s_l16Subsums_r0, brB, boB, someB, noneB, Ro.el]
theorem f_s_l16Subsums_e0 (l1 : List Sc) (g2 : List Sc) (s : Int × Int) : EC E0 f_s_l16Subsums_M H0 f_s_l16Subsums_F (asL (noL)) 0 (bodyOf Try.f196 0) (f_s_l16Subsums_fr0 l1 g2 s) (done (klOf f_s_l16Subsums_F 0)) = f_s_l16Subsums_k0 l1 g2 s.1 s.2 (fun s => some (.norm, f_s_l16Subsums_fr0 l1 g2 s)) (fun e => some (f_s_l16Subsums_x0_1 l1 g2 e)) := by kernel_rfl
theorem f_s_l16Subsums_l0 (l1 : List Sc) (g2 : List Sc) : ∀ s r, loopL (f_s_l16Subsums_r0 l1 g2) s = some r → LS Try.prog f_s_l16Subsums_F (bodyOf Try.f196 0) (f_s_l16Subsums_fr0 l1 g2 s) (enX (f_s_l16Subsums_x0_1 l1 g2) (f_s_l16Subsums_x0_2 l1 g2) r) :=
  loop_true E0ok f_s_l16Subsums_Mt (noL_true) f_s_l16Subsums_o (fun _ h => by cases h) (fun _ h => by cases h) (fun s => (f_s_l16Subsums_e0 l1 g2 s).trans (f_s_l16Subsums_p0 l1 g2 s _ _ (fun e => some (f_s_l16Subsums_x0_2 l1 g2 e))))
def f_s_l16Subsums_t0 (σ : List AV) : Option (Bool × Bool × (X × List AV) × (X × List AV)) := match dec f_s_l16Subsums_h0 σ with
  | some [.l l1, .l g2, .i out5, .i i6] => some (isOne (loopL (f_s_l16Subsums_r0 l1 g2) (out5, i6)), true, f_s_l16Subsums_x0_1 l1 g2 (getOne 0 (loopL (f_s_l16Subsums_r0 l1 g2) (out5, i6))), (.ret, []))
  | _ => none
theorem f_s_l16Subsums_tt0 : TTrue Try.prog f_s_l16Subsums_F Try.f196 0 (f_s_l16Subsums_t0) := by
  intro σ p r r' h
  unfold f_s_l16Subsums_t0 at h
  split at h
  · rename_i hd
    rw [← dec_enc hd]
    exact row1 (f_s_l16Subsums_l0 _ _ _) h
  · cases h
theorem f_s_l16Subsums_p {R : Type} (g0 : List Sc) (l1 : List Sc) (kR : Int → Option R) : f_s_l16Subsums_k g0 l1 kR = (f_s_l16Subsums_k g0 l1 some).bind kR := by
  simp only [f_s_l16Subsums_k, bl1B, someB]
theorem f_s_l16Subsums_e (g0 : List Sc) (l1 : List Sc) : runFn E0 f_s_l16Subsums_M H0 f_s_l16Subsums_F (asL (addL 0 (f_s_l16Subsums_t0) (noL))) Try.f196 (f_s_l16Subsums_a g0 l1) (f_s_l16Subsums_i g0 l1) = f_s_l16Subsums_k g0 l1 (fun r => some (f_s_l16Subsums_en r)) := by kernel_rfl
theorem f_s_l16Subsums_ok (g0 : List Sc) (l1 : List Sc) (r : Int) (h : f_s_l16Subsums g0 l1 = some r) : CS Try.prog 196 (f_s_l16Subsums_a g0 l1) (f_s_l16Subsums_i g0 l1) (f_s_l16Subsums_en r).1 (f_s_l16Subsums_en r).2 :=
  fn_true (Gk := fun k => f_s_l16Subsums_k g0 l1 k) (en := f_s_l16Subsums_en) Try.func196 E0ok f_s_l16Subsums_Mt (addL_true (f_s_l16Subsums_tt0) (noL_true)) f_s_l16Subsums_o (f_s_l16Subsums_e g0 l1) (f_s_l16Subsums_p g0 l1) h
def f_s_l16Subsums_c : CRow := fun args inh => match dec2 [.p .gr, .p .sl] [] args inh with
  | some ([.l g0, .l l1], []) => some ((f_s_l16Subsums g0 l1).isSome, (f_s_l16Subsums_en ((f_s_l16Subsums g0 l1).getD 0)).1, (f_s_l16Subsums_en ((f_s_l16Subsums g0 l1).getD 0)).2)
  | _ => none
theorem f_s_l16Subsums_cc : CTrue Try.prog 196 f_s_l16Subsums_c := by
  intro args inh rs out h
  unfold f_s_l16Subsums_c at h
  split at h
  · rename_i hd
    obtain ⟨h1, h2⟩ := dec2_enc hd
    rw [← h1, ← h2]
    exact rowC (f_s_l16Subsums_ok _ _) h
  · cases h

def f_s_SubsumsOf_F : Fi := { nv := 0, nc := 0, m := 0, vt := [], kl := [], sk := [], mvs := [], fz := [] }
def f_s_SubsumsOf_a (g0 : List Sc) (l1 : List Sc) : List AV := enc [.p .gr, .p .sl] [.l g0, .l l1]
def f_s_SubsumsOf_i (g0 : List Sc) (l1 : List Sc) : List AV := enc [] []
def f_s_SubsumsOf_en (r : Int) : List AV × List AV := (enc [.p (.int .i64)] [.i r], enc [] [])
def f_s_SubsumsOf_M : Calling := addC 101 f_s_IsSequence_c (addC 196 f_s_l16Subsums_c (noC))
theorem f_s_SubsumsOf_Mt : CallOk Try.prog (f_s_SubsumsOf_M) := addC_true f_s_IsSequence_cc (addC_true f_s_l16Subsums_cc (noC_true))
theorem f_s_SubsumsOf_o : loopsOnce Try.f103 = true := by kernel_rfl
theorem f_s_SubsumsOf_p {R : Type} (g0 : List Sc) (l1 : List Sc) (kR : Int → Option R) : f_s_SubsumsOf_k g0 l1 kR = (f_s_SubsumsOf_k g0 l1 some).bind kR := by
  simp only [f_s_SubsumsOf_k, brB, boB, someB]
theorem f_s_SubsumsOf_e (g0 : List Sc) (l1 : List Sc) : runFn E0 f_s_SubsumsOf_M H0 f_s_SubsumsOf_F (asL (noL)) Try.f103 (f_s_SubsumsOf_a g0 l1) (f_s_SubsumsOf_i g0 l1) = f_s_SubsumsOf_k g0 l1 (fun r => some (f_s_SubsumsOf_en r)) := by kernel_rfl
theorem f_s_SubsumsOf_ok (g0 : List Sc) (l1 : List Sc) (r : Int) (h : f_s_SubsumsOf g0 l1 = some r) : CS Try.prog 103 (f_s_SubsumsOf_a g0 l1) (f_s_SubsumsOf_i g0 l1) (f_s_SubsumsOf_en r).1 (f_s_SubsumsOf_en r).2 :=
  fn_true (Gk := fun k => f_s_SubsumsOf_k g0 l1 k) (en := f_s_SubsumsOf_en) Try.func103 E0ok f_s_SubsumsOf_Mt (noL_true) f_s_SubsumsOf_o (f_s_SubsumsOf_e g0 l1) (f_s_SubsumsOf_p g0 l1) h
def f_s_SubsumsOf_c : CRow := fun args inh => match dec2 [.p .gr, .p .sl] [] args inh with
  | some ([.l g0, .l l1], []) => some ((f_s_SubsumsOf g0 l1).isSome, (f_s_SubsumsOf_en ((f_s_SubsumsOf g0 l1).getD 0)).1, (f_s_SubsumsOf_en ((f_s_SubsumsOf g0 l1).getD 0)).2)
  | _ => none
theorem f_s_SubsumsOf_cc : CTrue Try.prog 103 f_s_SubsumsOf_c := by
  intro args inh rs out h
  unfold f_s_SubsumsOf_c at h
  split at h
  · rename_i hd
    obtain ⟨h1, h2⟩ := dec2_enc hd
    rw [← h1, ← h2]
    exact rowC (f_s_SubsumsOf_ok _ _) h
  · cases h

def f_i_SumOfSequence_F : Fi := { nv := 0, nc := 0, m := 0, vt := [], kl := [], sk := [], mvs := [], fz := [] }
def f_i_SumOfSequence_a (g0 : List Sc) (l1 : List Sc) : List AV := enc [.p .gr, .p .sl] [.l g0, .l l1]
def f_i_SumOfSequence_i (g0 : List Sc) (l1 : List Sc) : List AV := enc [] []
def f_i_SumOfSequence_en (r : Int) : List AV × List AV := (enc [.p (.int .i64)] [.i r], enc [] [])
def f_i_SumOfSequence_M : Calling := addC 104 f_i_IsSequence_c (addC 181 f_i_Group_total_c (noC))
theorem f_i_SumOfSequence_Mt : CallOk Try.prog (f_i_SumOfSequence_M) := addC_true f_i_IsSequence_cc (addC_true f_i_Group_total_cc (noC_true))
theorem f_i_SumOfSequence_o : loopsOnce Try.f105 = true := by kernel_rfl
theorem f_i_SumOfSequence_p {R : Type} (g0 : List Sc) (l1 : List Sc) (kR : Int → Option R) : f_i_SumOfSequence_k g0 l1 kR = (f_i_SumOfSequence_k g0 l1 some).bind kR := by
  simp only [f_i_SumOfSequence_k, brB, boB, someB]
theorem f_i_SumOfSequence_e (g0 : List Sc) (l1 : List Sc) : runFn E0 f_i_SumOfSequence_M H0 f_i_SumOfSequence_F (asL (noL)) Try.f105 (f_i_SumOfSequence_a g0 l1) (f_i_SumOfSequence_i g0 l1) = f_i_SumOfSequence_k g0 l1 (fun r => some (f_i_SumOfSequence_en r)) := by kernel_rfl
theorem f_i_SumOfSequence_ok (g0 : List Sc) (l1 : List Sc) (r : Int) (h : f_i_SumOfSequence g0 l1 = some r) : CS Try.prog 105 (f_i_SumOfSequence_a g0 l1) (f_i_SumOfSequence_i g0 l1) (f_i_SumOfSequence_en r).1 (f_i_SumOfSequence_en r).2 :=
  fn_true (Gk := fun k => f_i_SumOfSequence_k g0 l1 k) (en := f_i_SumOfSequence_en) Try.func105 E0ok f_i_SumOfSequence_Mt (noL_true) f_i_SumOfSequence_o (f_i_SumOfSequence_e g0 l1) (f_i_SumOfSequence_p g0 l1) h
def f_i_SumOfSequence_c : CRow := fun args inh => match dec2 [.p .gr, .p .sl] [] args inh with
  | some ([.l g0, .l l1], []) => some ((f_i_SumOfSequence g0 l1).isSome, (f_i_SumOfSequence_en ((f_i_SumOfSequence g0 l1).getD 0)).1, (f_i_SumOfSequence_en ((f_i_SumOfSequence g0 l1).getD 0)).2)
  | _ => none
theorem f_i_SumOfSequence_cc : CTrue Try.prog 105 f_i_SumOfSequence_c := by
  intro args inh rs out h
  unfold f_i_SumOfSequence_c at h
  split at h
  · rename_i hd
    obtain ⟨h1, h2⟩ := dec2_enc hd
    rw [← h1, ← h2]
    exact rowC (f_i_SumOfSequence_ok _ _) h
  · cases h

def f_s_SumOfSequence_F : Fi := { nv := 0, nc := 0, m := 0, vt := [], kl := [], sk := [], mvs := [], fz := [] }
def f_s_SumOfSequence_a (g0 : List Sc) (l1 : List Sc) : List AV := enc [.p .gr, .p .sl] [.l g0, .l l1]
def f_s_SumOfSequence_i (g0 : List Sc) (l1 : List Sc) : List AV := enc [] []
def f_s_SumOfSequence_en (r : Int) : List AV × List AV := (enc [.p (.int .i64)] [.i r], enc [] [])
def f_s_SumOfSequence_M : Calling := addC 101 f_s_IsSequence_c (addC 183 f_s_l16Sum_c (noC))
theorem f_s_SumOfSequence_Mt : CallOk Try.prog (f_s_SumOfSequence_M) := addC_true f_s_IsSequence_cc (addC_true f_s_l16Sum_cc (noC_true))
theorem f_s_SumOfSequence_o : loopsOnce Try.f106 = true := by kernel_rfl
theorem f_s_SumOfSequence_p {R : Type} (g0 : List Sc) (l1 : List Sc) (kR : Int → Option R) : f_s_SumOfSequence_k g0 l1 kR = (f_s_SumOfSequence_k g0 l1 some).bind kR := by
  simp only [f_s_SumOfSequence_k, brB, boB, someB]
theorem f_s_SumOfSequence_e (g0 : List Sc) (l1 : List Sc) : runFn E0 f_s_SumOfSequence_M H0 f_s_SumOfSequence_F (asL (noL)) Try.f106 (f_s_SumOfSequence_a g0 l1) (f_s_SumOfSequence_i g0 l1) = f_s_SumOfSequence_k g0 l1 (fun r => some (f_s_SumOfSequence_en r)) := by kernel_rfl
theorem f_s_SumOfSequence_ok (g0 : List Sc) (l1 : List Sc) (r : Int) (h : f_s_SumOfSequence g0 l1 = some r) : CS Try.prog 106 (f_s_SumOfSequence_a g0 l1) (f_s_SumOfSequence_i g0 l1) (f_s_SumOfSequence_en r).1 (f_s_SumOfSequence_en r).2 :=
  fn_true (Gk := fun k => f_s_SumOfSequence_k g0 l1 k) (en := f_s_SumOfSequence_en) Try.func106 E0ok f_s_SumOfSequence_Mt (noL_true) f_s_SumOfSequence_o (f_s_SumOfSequence_e g0 l1) (f_s_SumOfSequence_p g0 l1) h
def f_s_SumOfSequence_c : CRow := fun args inh => match dec2 [.p .gr, .p .sl] [] args inh with
  | some ([.l g0, .l l1], []) => some ((f_s_SumOfSequence g0 l1).isSome, (f_s_SumOfSequence_en ((f_s_SumOfSequence g0 l1).getD 0)).1, (f_s_SumOfSequence_en ((f_s_SumOfSequence g0 l1).getD 0)).2)
  | _ => none
theorem f_s_SumOfSequence_cc : CTrue Try.prog 106 f_s_SumOfSequence_c := by
  intro args inh rs out h
  unfold f_s_SumOfSequence_c at h
  split at h
  · rename_i hd
    obtain ⟨h1, h2⟩ := dec2_enc hd
    rw [← h1, ← h2]
    exact rowC (f_s_SumOfSequence_ok _ _) h
  · cases h
end
end Go.Proofs.Ytphbclogflflmaa
