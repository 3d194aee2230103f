/-
  That the program computes just that (printed by gen2.py).
-/
import Derived.Test.YtphbclogflflmaaShal
import Derived.Test.YtphbclogflflmaaRows
import Derived.WalkKit
set_option linter.unusedVariables false
set_option linter.unusedSimpArgs false
namespace Go.Proofs.Ytphbclogflflmaa
open Go Ev
noncomputable section
def E0 : Env := { sl := [(22, 5, .n .u8 0), (24, 3, .n .i64 0), (101, 9, .s ByteArray.empty)], gr := [(26, 24)], sc := [3, 4, 5, 9, 21, 121, 123], bl := [4], ik := [(3, .i64), (5, .u8), (21, .i32), (121, .u32), (123, .u64)], st := [9], one := [3, 4, 5, 9, 21, 121, 123, 22, 24, 101, 1, 23, 28, 29, 30, 31, 32, 34, 36, 37, 38, 40, 42, 43, 45, 47, 48, 49, 51, 52, 53, 54, 56, 57, 58, 59, 60, 61, 63, 64, 66, 67, 68, 69, 70, 71, 72, 73, 74, 75, 76, 77, 78, 79, 80, 81, 82, 83, 85, 86, 87, 88, 89, 90, 91, 92, 93, 94, 95, 96, 97, 98, 99, 100, 102, 103, 104, 109, 110, 111, 112, 113, 116, 117, 118, 119, 120, 122, 125, 126, 127, 129, 132, 133, 139, 142], al := [(3, [.sc (.n .i64 0)]), (4, [.sc (.b false)]), (5, [.sc (.n .u8 0)]), (9, [.sc (.s ByteArray.empty)]), (21, [.sc (.n .i32 0)]), (121, [.sc (.n .u32 0)]), (123, [.sc (.n .u64 0)]), (22, [.sl]), (24, [.sl]), (101, [.sl]), (1, [.fn]), (23, [.fn]), (26, [.sl]), (28, [.fn]), (29, [.fn]), (30, [.fn]), (31, [.fn]), (32, [.fn]), (34, [.fn]), (36, [.fn]), (37, [.fn]), (38, [.fn]), (40, [.fn]), (42, [.fn]), (43, [.fn]), (45, [.fn]), (47, [.fn]), (48, [.fn]), (49, [.fn]), (51, [.fn]), (52, [.fn]), (53, [.fn]), (54, [.fn]), (56, [.fn]), (57, [.fn]), (58, [.fn]), (59, [.fn]), (60, [.fn]), (61, [.fn]), (63, [.fn]), (64, [.fn]), (66, [.fn]), (67, [.fn]), (68, [.fn]), (69, [.fn]), (70, [.fn]), (71, [.fn]), (72, [.fn]), (73, [.fn]), (74, [.fn]), (75, [.fn]), (76, [.fn]), (77, [.fn]), (78, [.fn]), (79, [.fn]), (80, [.fn]), (81, [.fn]), (82, [.fn]), (83, [.fn]), (85, [.fn]), (86, [.fn]), (87, [.fn]), (88, [.fn]), (89, [.fn]), (90, [.fn]), (91, [.fn]), (92, [.fn]), (93, [.fn]), (94, [.fn]), (95, [.fn]), (96, [.fn]), (97, [.fn]), (98, [.fn]), (99, [.fn]), (100, [.fn]), (102, [.fn]), (103, [.fn]), (104, [.fn]), (109, [.fn]), (110, [.fn]), (111, [.fn]), (112, [.fn]), (113, [.fn]), (116, [.fn]), (117, [.fn]), (118, [.fn]), (119, [.fn]), (120, [.fn]), (122, [.fn]), (125, [.fn]), (126, [.fn]), (127, [.fn]), (129, [.fn]), (132, [.fn]), (133, [.fn]), (139, [.fn]), (142, [.fn]), (107, [.sl, .sc (.n .i64 0), .sc (.n .i64 0)])], fd := [(26, 1), (107, 3)], ll := [(108, 24)] }
def H0 : Hints := { md := [(164, [.io, .io]), (177, [.fz]), (187, [.ro, .fz, .ro, .io]), (188, [.fz]), (198, [.io]), (200, [.io, .io]), (163, [.io]), (165, [.io, .ro]), (166, [.io, .ro]), (167, [.io, .ro]), (168, [.io, .ro]), (186, [.io]), (195, [.io, .ro]), (204, [.io]), (205, [.io]), (208, [.io])], soft := [162, 163, 164, 165, 166, 167, 168, 200, 208] }
theorem E0ok : EnvOk Try.prog E0 := okEnv_spec (by kernel_rfl)

def f_l_big_F : Fi := { nv := 0, nc := 0, m := 0, vt := [], kl := [], sk := [], mvs := [], fz := [] }
def f_l_big_a (code0 : List Sc) : List AV := enc [.p .sl] [.l code0]
def f_l_big_i (code0 : List Sc) : List AV := enc [] []
def f_l_big_en (r : Bool) : List AV × List AV := (enc [.p .boo] [.b r], enc [] [])
def f_l_big_M : Calling := noC
theorem f_l_big_Mt : CallOk Try.prog (f_l_big_M) := noC_true
theorem f_l_big_o : loopsOnce Try.f9 = true := by kernel_rfl
theorem f_l_big_p {R : Type} (code0 : List Sc) (kR : Bool → Option R) : f_l_big_k code0 kR = (f_l_big_k code0 some).bind kR := by
  simp only [f_l_big_k, someB]
theorem f_l_big_e (code0 : List Sc) : runFn E0 f_l_big_M H0 f_l_big_F (asL (noL)) Try.f9 (f_l_big_a code0) (f_l_big_i code0) = f_l_big_k code0 (fun r => some (f_l_big_en r)) := by kernel_rfl
theorem f_l_big_ok (code0 : List Sc) (r : Bool) (h : f_l_big code0 = some r) : CS Try.prog 9 (f_l_big_a code0) (f_l_big_i code0) (f_l_big_en r).1 (f_l_big_en r).2 :=
  fn_true (Gk := fun k => f_l_big_k code0 k) (en := f_l_big_en) Try.func9 E0ok f_l_big_Mt (noL_true) f_l_big_o (f_l_big_e code0) (f_l_big_p code0) h
def f_l_big_c : CRow := fun args inh => match dec2 [.p .sl] [] args inh with
  | some ([.l code0], []) => some ((f_l_big code0).isSome, (f_l_big_en ((f_l_big code0).getD false)).1, (f_l_big_en ((f_l_big code0).getD false)).2)
  | _ => none
theorem f_l_big_cc : CTrue Try.prog 9 f_l_big_c := by
  intro args inh rs out h
  unfold f_l_big_c at h
  split at h
  · rename_i hd
    obtain ⟨h1, h2⟩ := dec2_enc hd
    rw [← h1, ← h2]
    exact rowC (f_l_big_ok _) h
  · cases h

def f_s_l1New_F : Fi := { nv := 3, nc := 3, m := 0, vt := [(31, 0)], kl := [(0, ([0, 1, 2, 4, 5, 8, 9, 10, 11, 12, 13, 14, 15, 16, 17, 18, 19, 20, 21, 22, 23, 24, 25, 26, 27, 28, 29, 30, 31, 32, 33, 34], [0, 1, 2, 4, 5, 7, 8, 9, 10, 11, 12, 13, 14, 15, 16, 17, 18, 19, 20, 21, 22, 23, 24, 25, 26, 27, 28, 29, 30, 31, 32, 33, 34], [3, 4, 6, 7, 8, 9, 10, 11, 12, 13, 14, 15, 16, 17, 18, 19, 20, 21, 22, 23, 24, 25, 26, 27, 28, 29, 30, 31, 32, 33, 34]))], sk := [], mvs := [], fz := [] }
def f_s_l1New_a (code0 : List Sc) : List AV := enc [.p .sl] [.l code0]
def f_s_l1New_i (code0 : List Sc) : List AV := enc [] []
def f_s_l1New_en (r : List Sc × Int × Int) : List AV × List AV := (enc [.p (.pt 0 3)] [], enc [.p .sl, .p (.int .i64), .p (.int .i64)] [.l r.1, .i r.2.1, .i r.2.2])
def f_s_l1New_M : Calling := noC
theorem f_s_l1New_Mt : CallOk Try.prog (f_s_l1New_M) := noC_true
theorem f_s_l1New_o : loopsOnce Try.f162 = true := by kernel_rfl
def f_s_l1New_h0 : List Sh := [.u, .u, .u, .p .sl, .u, .u, .p (.int .i64), .p (.int .i64), .u, .u, .u, .u, .u, .u, .u, .u, .u, .u, .u, .u, .u, .u, .u, .u, .u, .u, .u, .u, .u, .u, .u, .u, .u, .u, .u]
def f_s_l1New_fr0 (code0 : List Sc) (s : Int × Int) : List AV := enc f_s_l1New_h0 [.l code0, .i s.1, .i s.2]
def f_s_l1New_g0_1 : List Sh := [.u, .u, .u, .p .sl, .u, .u, .p (.int .i64), .u, .u, .u, .u, .u, .u, .u, .u, .u, .u, .u, .u, .u, .u, .u, .u, .u, .u, .u, .u, .u, .u, .u, .u, .u, .u, .u, .u]
def f_s_l1New_x0_1 (code0 : List Sc) (e : Int) : X × List AV := (.out 0, enc f_s_l1New_g0_1 [.l code0, .i e])
def f_s_l1New_x0_2 (code0 : List Sc) (_e : Unit) : X × List AV := (.ret, [])
theorem f_s_l1New_p0 {R : Type} (code0 : List Sc) (s : Int × Int) (kN : Int × Int → Option R) (kA : Int → Option R) (kB : Unit → Option R) : f_s_l1New_k0 code0 s.1 s.2 kN kA = (f_s_l1New_r0 code0 s).bind (Ro.el kN kA kB) := by
  simp only [f_s_l1New_k0, f_s_l1New_r0, brB, someB, noneB, Ro.el]
theorem f_s_l1New_e0 (code0 : List Sc) (s : Int × Int) : EC E0 f_s_l1New_M H0 f_s_l1New_F (asL (noL)) 0 (bodyOf Try.f162 0) (f_s_l1New_fr0 code0 s) (done (klOf f_s_l1New_F 0)) = f_s_l1New_k0 code0 s.1 s.2 (fun s => some (.norm, f_s_l1New_fr0 code0 s)) (fun e => some (f_s_l1New_x0_1 code0 e)) := by kernel_rfl
theorem f_s_l1New_l0 (code0 : List Sc) : ∀ s r, loopL (f_s_l1New_r0 code0) s = some r → LS Try.prog f_s_l1New_F (bodyOf Try.f162 0) (f_s_l1New_fr0 code0 s) (enX (f_s_l1New_x0_1 code0) (f_s_l1New_x0_2 code0) r) :=
  loop_true E0ok f_s_l1New_Mt (noL_true) f_s_l1New_o (fun _ h => by cases h) (fun _ h => by cases h) (fun s => (f_s_l1New_e0 code0 s).trans (f_s_l1New_p0 code0 s _ _ (fun e => some (f_s_l1New_x0_2 code0 e))))
def f_s_l1New_t0 (σ : List AV) : Option (Bool × Bool × (X × List AV) × (X × List AV)) := match dec f_s_l1New_h0 σ with
  | some [.l code0, .i h3, .i i4] => some (isOne (loopL (f_s_l1New_r0 code0) (h3, i4)), true, f_s_l1New_x0_1 code0 (getOne 0 (loopL (f_s_l1New_r0 code0) (h3, i4))), (.ret, []))
  | _ => none
theorem f_s_l1New_tt0 : TTrue Try.prog f_s_l1New_F Try.f162 0 (f_s_l1New_t0) := by
  intro σ p r r' h
  unfold f_s_l1New_t0 at h
  split at h
  · rename_i hd
    rw [← dec_enc hd]
    exact row1 (f_s_l1New_l0 _ _) h
  · cases h
theorem f_s_l1New_p {R : Type} (code0 : List Sc) (kR : List Sc × Int × Int → Option R) : f_s_l1New_k code0 kR = (f_s_l1New_k code0 some).bind kR := by
  simp only [f_s_l1New_k, bl1B, someB]
theorem f_s_l1New_e (code0 : List Sc) : runFn E0 f_s_l1New_M H0 f_s_l1New_F (asL (addL 0 (f_s_l1New_t0) (noL))) Try.f162 (f_s_l1New_a code0) (f_s_l1New_i code0) = f_s_l1New_k code0 (fun r => some (f_s_l1New_en r)) := by kernel_rfl
theorem f_s_l1New_ok (code0 : List Sc) (r : List Sc × Int × Int) (h : f_s_l1New code0 = some r) : CS Try.prog 162 (f_s_l1New_a code0) (f_s_l1New_i code0) (f_s_l1New_en r).1 (f_s_l1New_en r).2 :=
  fn_true (Gk := fun k => f_s_l1New_k code0 k) (en := f_s_l1New_en) Try.func162 E0ok f_s_l1New_Mt (addL_true (f_s_l1New_tt0) (noL_true)) f_s_l1New_o (f_s_l1New_e code0) (f_s_l1New_p code0) h
def f_s_l1New_c : CRow := fun args inh => match dec2 [.p .sl] [] args inh with
  | some ([.l code0], []) => some ((f_s_l1New code0).isSome, (f_s_l1New_en ((f_s_l1New code0).getD ([], 0, 0))).1, (f_s_l1New_en ((f_s_l1New code0).getD ([], 0, 0))).2)
  | _ => none
theorem f_s_l1New_cc : CTrue Try.prog 162 f_s_l1New_c := by
  intro args inh rs out h
  unfold f_s_l1New_c at h
  split at h
  · rename_i hd
    obtain ⟨h1, h2⟩ := dec2_enc hd
    rw [← h1, ← h2]
    exact rowC (f_s_l1New_ok _) h
  · cases h

def f_s_l1Byte_io_F : Fi := { nv := 3, nc := 3, m := 3, vt := [], kl := [], sk := [], mvs := [], fz := [] }
def f_s_l1Byte_io_a (h0 : List Sc) (h1 : Int) (h2 : Int) : List AV := enc [.p (.pt 0 3)] []
def f_s_l1Byte_io_i (h0 : List Sc) (h1 : Int) (h2 : Int) : List AV := enc [.p .sl, .p (.int .i64), .p (.int .i64)] [.l h0, .i h1, .i h2]
def f_s_l1Byte_io_en (r : Int × List Sc × Int × Int) : List AV × List AV := (enc [.p (.int .i64)] [.i r.1], enc [.p .sl, .p (.int .i64), .p (.int .i64)] [.l r.2.1, .i r.2.2.1, .i r.2.2.2])
def f_s_l1Byte_io_M : Calling := noC
theorem f_s_l1Byte_io_Mt : CallOk Try.prog (f_s_l1Byte_io_M) := noC_true
theorem f_s_l1Byte_io_o : loopsOnce Try.f208 = true := by kernel_rfl
theorem f_s_l1Byte_io_p {R : Type} (h0 : List Sc) (h1 : Int) (h2 : Int) (kR : Int × List Sc × Int × Int → Option R) : f_s_l1Byte_io_k h0 h1 h2 kR = (f_s_l1Byte_io_k h0 h1 h2 some).bind kR := by
  simp only [f_s_l1Byte_io_k, brB, someB, noneB]
theorem f_s_l1Byte_io_e (h0 : List Sc) (h1 : Int) (h2 : Int) : runFn E0 f_s_l1Byte_io_M H0 f_s_l1Byte_io_F (asL (noL)) Try.f208 (f_s_l1Byte_io_a h0 h1 h2) (f_s_l1Byte_io_i h0 h1 h2) = f_s_l1Byte_io_k h0 h1 h2 (fun r => some (f_s_l1Byte_io_en r)) := by kernel_rfl
theorem f_s_l1Byte_io_ok (h0 : List Sc) (h1 : Int) (h2 : Int) (r : Int × List Sc × Int × Int) (h : f_s_l1Byte_io h0 h1 h2 = some r) : CS Try.prog 208 (f_s_l1Byte_io_a h0 h1 h2) (f_s_l1Byte_io_i h0 h1 h2) (f_s_l1Byte_io_en r).1 (f_s_l1Byte_io_en r).2 :=
  fn_true (Gk := fun k => f_s_l1Byte_io_k h0 h1 h2 k) (en := f_s_l1Byte_io_en) Try.func208 E0ok f_s_l1Byte_io_Mt (noL_true) f_s_l1Byte_io_o (f_s_l1Byte_io_e h0 h1 h2) (f_s_l1Byte_io_p h0 h1 h2) h
def f_s_l1Byte_io_c : CRow := fun args inh => match dec2 [.p (.pt 0 3)] [.p .sl, .p (.int .i64), .p (.int .i64)] args inh with
  | some ([], [.l h0, .i h1, .i h2]) => some ((f_s_l1Byte_io h0 h1 h2).isSome, (f_s_l1Byte_io_en ((f_s_l1Byte_io h0 h1 h2).getD (0, [], 0, 0))).1, (f_s_l1Byte_io_en ((f_s_l1Byte_io h0 h1 h2).getD (0, [], 0, 0))).2)
  | _ => none
theorem f_s_l1Byte_io_cc : CTrue Try.prog 208 f_s_l1Byte_io_c := by
  intro args inh rs out h
  unfold f_s_l1Byte_io_c at h
  split at h
  · rename_i hd
    obtain ⟨h1, h2⟩ := dec2_enc hd
    rw [← h1, ← h2]
    exact rowC (f_s_l1Byte_io_ok _ _ _) h
  · cases h

def f_s_l1Below_io_F : Fi := { nv := 3, nc := 3, m := 3, vt := [], kl := [], sk := [], mvs := [], fz := [] }
def f_s_l1Below_io_a (n1 : Int) (h0 : List Sc) (h1 : Int) (h2 : Int) : List AV := enc [.p (.pt 0 3), .p (.int .i64)] [.i n1]
def f_s_l1Below_io_i (n1 : Int) (h0 : List Sc) (h1 : Int) (h2 : Int) : List AV := enc [.p .sl, .p (.int .i64), .p (.int .i64)] [.l h0, .i h1, .i h2]
def f_s_l1Below_io_en (r : Int × List Sc × Int × Int) : List AV × List AV := (enc [.p (.int .i64)] [.i r.1], enc [.p .sl, .p (.int .i64), .p (.int .i64)] [.l r.2.1, .i r.2.2.1, .i r.2.2.2])
def f_s_l1Below_io_M : Calling := addC 208 f_s_l1Byte_io_c (noC)
theorem f_s_l1Below_io_Mt : CallOk Try.prog (f_s_l1Below_io_M) := addC_true f_s_l1Byte_io_cc (noC_true)
theorem f_s_l1Below_io_o : loopsOnce Try.f166 = true := by kernel_rfl
theorem f_s_l1Below_io_p {R : Type} (n1 : Int) (h0 : List Sc) (h1 : Int) (h2 : Int) (kR : Int × List Sc × Int × Int → Option R) : f_s_l1Below_io_k n1 h0 h1 h2 kR = (f_s_l1Below_io_k n1 h0 h1 h2 some).bind kR := by
  simp only [f_s_l1Below_io_k, brB, boB, someB, noneB]
theorem f_s_l1Below_io_e (n1 : Int) (h0 : List Sc) (h1 : Int) (h2 : Int) : runFn E0 f_s_l1Below_io_M H0 f_s_l1Below_io_F (asL (noL)) Try.f166 (f_s_l1Below_io_a n1 h0 h1 h2) (f_s_l1Below_io_i n1 h0 h1 h2) = f_s_l1Below_io_k n1 h0 h1 h2 (fun r => some (f_s_l1Below_io_en r)) := by kernel_rfl
theorem f_s_l1Below_io_ok (n1 : Int) (h0 : List Sc) (h1 : Int) (h2 : Int) (r : Int × List Sc × Int × Int) (h : f_s_l1Below_io n1 h0 h1 h2 = some r) : CS Try.prog 166 (f_s_l1Below_io_a n1 h0 h1 h2) (f_s_l1Below_io_i n1 h0 h1 h2) (f_s_l1Below_io_en r).1 (f_s_l1Below_io_en r).2 :=
  fn_true (Gk := fun k => f_s_l1Below_io_k n1 h0 h1 h2 k) (en := f_s_l1Below_io_en) Try.func166 E0ok f_s_l1Below_io_Mt (noL_true) f_s_l1Below_io_o (f_s_l1Below_io_e n1 h0 h1 h2) (f_s_l1Below_io_p n1 h0 h1 h2) h
def f_s_l1Below_io_c : CRow := fun args inh => match dec2 [.p (.pt 0 3), .p (.int .i64)] [.p .sl, .p (.int .i64), .p (.int .i64)] args inh with
  | some ([.i n1], [.l h0, .i h1, .i h2]) => some ((f_s_l1Below_io n1 h0 h1 h2).isSome, (f_s_l1Below_io_en ((f_s_l1Below_io n1 h0 h1 h2).getD (0, [], 0, 0))).1, (f_s_l1Below_io_en ((f_s_l1Below_io n1 h0 h1 h2).getD (0, [], 0, 0))).2)
  | _ => none
theorem f_s_l1Below_io_cc : CTrue Try.prog 166 f_s_l1Below_io_c := by
  intro args inh rs out h
  unfold f_s_l1Below_io_c at h
  split at h
  · rename_i hd
    obtain ⟨h1, h2⟩ := dec2_enc hd
    rw [← h1, ← h2]
    exact rowC (f_s_l1Below_io_ok _ _ _ _) h
  · cases h

def f_s_l2Draw_io_F : Fi := { nv := 4, nc := 4, m := 3, vt := [(4, 3)], kl := [(0, ([4, 6, 7, 9, 13, 14, 15, 16, 17, 18, 19, 20, 21, 22, 23, 24, 25, 26, 27, 28, 29, 30, 31, 32, 33, 34, 35, 36, 37, 38, 39, 40, 41, 42, 43, 44, 45, 46, 47, 48, 49, 50, 51, 52, 53, 54, 55, 56, 57, 58, 59, 60, 61, 62, 63, 64], [4, 6, 7, 9, 12, 13, 14, 15, 16, 17, 18, 19, 20, 21, 22, 23, 24, 25, 26, 27, 28, 29, 30, 31, 32, 33, 34, 35, 36, 37, 38, 39, 40, 41, 42, 43, 44, 45, 46, 47, 48, 49, 50, 51, 52, 53, 54, 55, 56, 57, 58, 59, 60, 61, 62, 63, 64], [4, 5, 6, 7, 9, 10, 11, 12, 13, 14, 15, 16, 17, 18, 19, 20, 21, 22, 23, 24, 25, 26, 27, 28, 29, 30, 31, 32, 33, 34, 35, 36, 37, 38, 39, 40, 41, 42, 43, 44, 45, 46, 47, 48, 49, 50, 51, 52, 53, 54, 55, 56, 57, 58, 59, 60, 61, 62, 63, 64]))], sk := [], mvs := [], fz := [], fl := [9, 10, 11, 12, 13, 14, 15, 16, 17, 18, 19, 20, 21, 22, 23, 24, 25, 26, 27, 28, 29, 30, 31] }
def f_s_l2Draw_io_a (most1 : Int) (h0 : List Sc) (h1 : Int) (h2 : Int) : List AV := enc [.p (.pt 0 3), .p (.int .i64)] [.i most1]
def f_s_l2Draw_io_i (most1 : Int) (h0 : List Sc) (h1 : Int) (h2 : Int) : List AV := enc [.p .sl, .p (.int .i64), .p (.int .i64)] [.l h0, .i h1, .i h2]
def f_s_l2Draw_io_en (r : List Sc × List Sc × Int × Int) : List AV × List AV := (enc [.p (.go 3)] [], enc [.p .sl, .p (.int .i64), .p (.int .i64), .own 3] [.l r.2.1, .i r.2.2.1, .i r.2.2.2, .l r.1])
def f_s_l2Draw_io_M : Calling := addC 166 f_s_l1Below_io_c (noC)
theorem f_s_l2Draw_io_Mt : CallOk Try.prog (f_s_l2Draw_io_M) := addC_true f_s_l1Below_io_cc (noC_true)
theorem f_s_l2Draw_io_o : loopsOnce Try.f165 = true := by kernel_rfl
def f_s_l2Draw_io_h0 : List Sh := [.p .sl, .p (.int .i64), .p (.int .i64), .p .sl, .u, .p (.int .i64), .u, .u, .p (.pt 3 1), .u, .p .sl, .p (.int .i64), .p (.int .i64), .u, .u, .u, .u, .u, .u, .u, .u, .u, .u, .u, .u, .u, .u, .u, .u, .u, .u, .u, .u, .u, .u, .u, .u, .u, .u, .u, .u, .u, .u, .u, .u, .u, .u, .u, .u, .u, .u, .u, .u, .u, .u, .u, .u, .u, .u, .u, .u, .u, .u, .u, .u]
def f_s_l2Draw_io_fr0 (most1 : Int) (o6 : List Sc) (s : List Sc × Int × Int × List Sc × Int × Int) : List AV := enc f_s_l2Draw_io_h0 [.l s.1, .i s.2.1, .i s.2.2.1, .l s.2.2.2.1, .i most1, .l o6, .i s.2.2.2.2.1, .i s.2.2.2.2.2]
def f_s_l2Draw_io_g0_1 : List Sh := [.p .sl, .p (.int .i64), .p (.int .i64), .p .sl, .u, .p (.int .i64), .u, .u, .p (.pt 3 1), .u, .p .sl, .p (.int .i64), .u, .u, .u, .u, .u, .u, .u, .u, .u, .u, .u, .u, .u, .u, .u, .u, .u, .u, .u, .u, .u, .u, .u, .u, .u, .u, .u, .u, .u, .u, .u, .u, .u, .u, .u, .u, .u, .u, .u, .u, .u, .u, .u, .u, .u, .u, .u, .u, .u, .u, .u, .u, .u]
def f_s_l2Draw_io_x0_1 (most1 : Int) (o6 : List Sc) (e : List Sc × Int × Int × List Sc × Int) : X × List AV := (.out 0, enc f_s_l2Draw_io_g0_1 [.l e.1, .i e.2.1, .i e.2.2.1, .l e.2.2.2.1, .i most1, .l o6, .i e.2.2.2.2])
def f_s_l2Draw_io_x0_2 (most1 : Int) (o6 : List Sc) (_e : Unit) : X × List AV := (.ret, [])
theorem f_s_l2Draw_io_p0 {R : Type} (most1 : Int) (o6 : List Sc) (s : List Sc × Int × Int × List Sc × Int × Int) (kN : List Sc × Int × Int × List Sc × Int × Int → Option R) (kA : List Sc × Int × Int × List Sc × Int → Option R) (kB : Unit → Option R) : f_s_l2Draw_io_k0 most1 o6 s.1 s.2.1 s.2.2.1 s.2.2.2.1 s.2.2.2.2.1 s.2.2.2.2.2 kN kA = (f_s_l2Draw_io_r0 most1 o6 s).bind (Ro.el kN kA kB) := by
  simp only [f_s_l2Draw_io_k0, f_s_l2Draw_io_r0, brB, someB, noneB, Ro.el]
theorem f_s_l2Draw_io_e0 (most1 : Int) (o6 : List Sc) (s : List Sc × Int × Int × List Sc × Int × Int) : EC E0 f_s_l2Draw_io_M H0 f_s_l2Draw_io_F (asL (noL)) 0 (bodyOf Try.f165 0) (f_s_l2Draw_io_fr0 most1 o6 s) (done (klOf f_s_l2Draw_io_F 0)) = f_s_l2Draw_io_k0 most1 o6 s.1 s.2.1 s.2.2.1 s.2.2.2.1 s.2.2.2.2.1 s.2.2.2.2.2 (fun s => some (.norm, f_s_l2Draw_io_fr0 most1 o6 s)) (fun e => some (f_s_l2Draw_io_x0_1 most1 o6 e)) := by kernel_rfl
theorem f_s_l2Draw_io_l0 (most1 : Int) (o6 : List Sc) : ∀ s r, loopL (f_s_l2Draw_io_r0 most1 o6) s = some r → LS Try.prog f_s_l2Draw_io_F (bodyOf Try.f165 0) (f_s_l2Draw_io_fr0 most1 o6 s) (enX (f_s_l2Draw_io_x0_1 most1 o6) (f_s_l2Draw_io_x0_2 most1 o6) r) :=
  loop_true E0ok f_s_l2Draw_io_Mt (noL_true) f_s_l2Draw_io_o (fun _ h => by cases h) (fun _ h => by cases h) (fun s => (f_s_l2Draw_io_e0 most1 o6 s).trans (f_s_l2Draw_io_p0 most1 o6 s _ _ (fun e => some (f_s_l2Draw_io_x0_2 most1 o6 e))))
def f_s_l2Draw_io_t0 (σ : List AV) : Option (Bool × Bool × (X × List AV) × (X × List AV)) := match dec f_s_l2Draw_io_h0 σ with
  | some [.l v0, .i v1, .i v2, .l v3, .i most1, .l o6, .i n7, .i i8] => some (isOne (loopL (f_s_l2Draw_io_r0 most1 o6) (v0, v1, v2, v3, n7, i8)), true, f_s_l2Draw_io_x0_1 most1 o6 (getOne ([], 0, 0, [], 0) (loopL (f_s_l2Draw_io_r0 most1 o6) (v0, v1, v2, v3, n7, i8))), (.ret, []))
  | _ => none
theorem f_s_l2Draw_io_tt0 : TTrue Try.prog f_s_l2Draw_io_F Try.f165 0 (f_s_l2Draw_io_t0) := by
  intro σ p r r' h
  unfold f_s_l2Draw_io_t0 at h
  split at h
  · rename_i hd
    rw [← dec_enc hd]
    exact row1 (f_s_l2Draw_io_l0 _ _ _) h
  · cases h
theorem f_s_l2Draw_io_p {R : Type} (most1 : Int) (h0 : List Sc) (h1 : Int) (h2 : Int) (kR : List Sc × List Sc × Int × Int → Option R) : f_s_l2Draw_io_k most1 h0 h1 h2 kR = (f_s_l2Draw_io_k most1 h0 h1 h2 some).bind kR := by
  simp only [f_s_l2Draw_io_k, brB, boB, bl1B, someB, noneB]
theorem f_s_l2Draw_io_e (most1 : Int) (h0 : List Sc) (h1 : Int) (h2 : Int) : runFn E0 f_s_l2Draw_io_M H0 f_s_l2Draw_io_F (asL (addL 0 (f_s_l2Draw_io_t0) (noL))) Try.f165 (f_s_l2Draw_io_a most1 h0 h1 h2) (f_s_l2Draw_io_i most1 h0 h1 h2) = f_s_l2Draw_io_k most1 h0 h1 h2 (fun r => some (f_s_l2Draw_io_en r)) := by kernel_rfl
theorem f_s_l2Draw_io_ok (most1 : Int) (h0 : List Sc) (h1 : Int) (h2 : Int) (r : List Sc × List Sc × Int × Int) (h : f_s_l2Draw_io most1 h0 h1 h2 = some r) : CS Try.prog 165 (f_s_l2Draw_io_a most1 h0 h1 h2) (f_s_l2Draw_io_i most1 h0 h1 h2) (f_s_l2Draw_io_en r).1 (f_s_l2Draw_io_en r).2 :=
  fn_true (Gk := fun k => f_s_l2Draw_io_k most1 h0 h1 h2 k) (en := f_s_l2Draw_io_en) Try.func165 E0ok f_s_l2Draw_io_Mt (addL_true (f_s_l2Draw_io_tt0) (noL_true)) f_s_l2Draw_io_o (f_s_l2Draw_io_e most1 h0 h1 h2) (f_s_l2Draw_io_p most1 h0 h1 h2) h
def f_s_l2Draw_io_c : CRow := fun args inh => match dec2 [.p (.pt 0 3), .p (.int .i64)] [.p .sl, .p (.int .i64), .p (.int .i64)] args inh with
  | some ([.i most1], [.l h0, .i h1, .i h2]) => some ((f_s_l2Draw_io most1 h0 h1 h2).isSome, (f_s_l2Draw_io_en ((f_s_l2Draw_io most1 h0 h1 h2).getD ([], [], 0, 0))).1, (f_s_l2Draw_io_en ((f_s_l2Draw_io most1 h0 h1 h2).getD ([], [], 0, 0))).2)
  | _ => none
theorem f_s_l2Draw_io_cc : CTrue Try.prog 165 f_s_l2Draw_io_c := by
  intro args inh rs out h
  unfold f_s_l2Draw_io_c at h
  split at h
  · rename_i hd
    obtain ⟨h1, h2⟩ := dec2_enc hd
    rw [← h1, ← h2]
    exact rowC (f_s_l2Draw_io_ok _ _ _ _) h
  · cases h

def f_s_l1PickInt_io_F : Fi := { nv := 3, nc := 3, m := 3, vt := [], kl := [], sk := [], mvs := [], fz := [] }
def f_s_l1PickInt_io_a (list1 : List Sc) (h0 : List Sc) (h1 : Int) (h2 : Int) : List AV := enc [.p (.pt 0 3), .p .sl] [.l list1]
def f_s_l1PickInt_io_i (list1 : List Sc) (h0 : List Sc) (h1 : Int) (h2 : Int) : List AV := enc [.p .sl, .p (.int .i64), .p (.int .i64)] [.l h0, .i h1, .i h2]
def f_s_l1PickInt_io_en (r : Int × List Sc × Int × Int) : List AV × List AV := (enc [.p (.int .i64)] [.i r.1], enc [.p .sl, .p (.int .i64), .p (.int .i64)] [.l r.2.1, .i r.2.2.1, .i r.2.2.2])
def f_s_l1PickInt_io_M : Calling := addC 166 f_s_l1Below_io_c (noC)
theorem f_s_l1PickInt_io_Mt : CallOk Try.prog (f_s_l1PickInt_io_M) := addC_true f_s_l1Below_io_cc (noC_true)
theorem f_s_l1PickInt_io_o : loopsOnce Try.f168 = true := by kernel_rfl
theorem f_s_l1PickInt_io_p {R : Type} (list1 : List Sc) (h0 : List Sc) (h1 : Int) (h2 : Int) (kR : Int × List Sc × Int × Int → Option R) : f_s_l1PickInt_io_k list1 h0 h1 h2 kR = (f_s_l1PickInt_io_k list1 h0 h1 h2 some).bind kR := by
  simp only [f_s_l1PickInt_io_k, brB, boB, someB, noneB]
theorem f_s_l1PickInt_io_e (list1 : List Sc) (h0 : List Sc) (h1 : Int) (h2 : Int) : runFn E0 f_s_l1PickInt_io_M H0 f_s_l1PickInt_io_F (asL (noL)) Try.f168 (f_s_l1PickInt_io_a list1 h0 h1 h2) (f_s_l1PickInt_io_i list1 h0 h1 h2) = f_s_l1PickInt_io_k list1 h0 h1 h2 (fun r => some (f_s_l1PickInt_io_en r)) := by kernel_rfl
theorem f_s_l1PickInt_io_ok (list1 : List Sc) (h0 : List Sc) (h1 : Int) (h2 : Int) (r : Int × List Sc × Int × Int) (h : f_s_l1PickInt_io list1 h0 h1 h2 = some r) : CS Try.prog 168 (f_s_l1PickInt_io_a list1 h0 h1 h2) (f_s_l1PickInt_io_i list1 h0 h1 h2) (f_s_l1PickInt_io_en r).1 (f_s_l1PickInt_io_en r).2 :=
  fn_true (Gk := fun k => f_s_l1PickInt_io_k list1 h0 h1 h2 k) (en := f_s_l1PickInt_io_en) Try.func168 E0ok f_s_l1PickInt_io_Mt (noL_true) f_s_l1PickInt_io_o (f_s_l1PickInt_io_e list1 h0 h1 h2) (f_s_l1PickInt_io_p list1 h0 h1 h2) h
def f_s_l1PickInt_io_c : CRow := fun args inh => match dec2 [.p (.pt 0 3), .p .sl] [.p .sl, .p (.int .i64), .p (.int .i64)] args inh with
  | some ([.l list1], [.l h0, .i h1, .i h2]) => some ((f_s_l1PickInt_io list1 h0 h1 h2).isSome, (f_s_l1PickInt_io_en ((f_s_l1PickInt_io list1 h0 h1 h2).getD (0, [], 0, 0))).1, (f_s_l1PickInt_io_en ((f_s_l1PickInt_io list1 h0 h1 h2).getD (0, [], 0, 0))).2)
  | _ => none
theorem f_s_l1PickInt_io_cc : CTrue Try.prog 168 f_s_l1PickInt_io_c := by
  intro args inh rs out h
  unfold f_s_l1PickInt_io_c at h
  split at h
  · rename_i hd
    obtain ⟨h1, h2⟩ := dec2_enc hd
    rw [← h1, ← h2]
    exact rowC (f_s_l1PickInt_io_ok _ _ _ _) h
  · cases h

def f_s_l2Any_io_F : Fi := { nv := 6, nc := 5, m := 3, vt := [(2, 3), (3, 4), (5, 5)], kl := [], sk := [], mvs := [5], fz := [] }
def f_s_l2Any_io_a (h0 : List Sc) (h1 : Int) (h2 : Int) : List AV := enc [.p (.pt 0 3)] []
def f_s_l2Any_io_i (h0 : List Sc) (h1 : Int) (h2 : Int) : List AV := enc [.p .sl, .p (.int .i64), .p (.int .i64)] [.l h0, .i h1, .i h2]
def f_s_l2Any_io_en (r : List Sc × List Sc × Int × Int) : List AV × List AV := (enc [.p (.go 3)] [], enc [.p .sl, .p (.int .i64), .p (.int .i64), .own 3] [.l r.2.1, .i r.2.2.1, .i r.2.2.2, .l r.1])
def f_s_l2Any_io_M : Calling := addC 165 f_s_l2Draw_io_c (addC 166 f_s_l1Below_io_c (addC 168 f_s_l1PickInt_io_c (noC)))
theorem f_s_l2Any_io_Mt : CallOk Try.prog (f_s_l2Any_io_M) := addC_true f_s_l2Draw_io_cc (addC_true f_s_l1Below_io_cc (addC_true f_s_l1PickInt_io_cc (noC_true)))
theorem f_s_l2Any_io_o : loopsOnce Try.f163 = true := by kernel_rfl
theorem f_s_l2Any_io_p {R : Type} (h0 : List Sc) (h1 : Int) (h2 : Int) (kR : List Sc × List Sc × Int × Int → Option R) : f_s_l2Any_io_k h0 h1 h2 kR = (f_s_l2Any_io_k h0 h1 h2 some).bind kR := by
  simp only [f_s_l2Any_io_k, brB, boB, someB]
theorem f_s_l2Any_io_e (h0 : List Sc) (h1 : Int) (h2 : Int) : runFn E0 f_s_l2Any_io_M H0 f_s_l2Any_io_F (asL (noL)) Try.f163 (f_s_l2Any_io_a h0 h1 h2) (f_s_l2Any_io_i h0 h1 h2) = f_s_l2Any_io_k h0 h1 h2 (fun r => some (f_s_l2Any_io_en r)) := by kernel_rfl
theorem f_s_l2Any_io_ok (h0 : List Sc) (h1 : Int) (h2 : Int) (r : List Sc × List Sc × Int × Int) (h : f_s_l2Any_io h0 h1 h2 = some r) : CS Try.prog 163 (f_s_l2Any_io_a h0 h1 h2) (f_s_l2Any_io_i h0 h1 h2) (f_s_l2Any_io_en r).1 (f_s_l2Any_io_en r).2 :=
  fn_true (Gk := fun k => f_s_l2Any_io_k h0 h1 h2 k) (en := f_s_l2Any_io_en) Try.func163 E0ok f_s_l2Any_io_Mt (noL_true) f_s_l2Any_io_o (f_s_l2Any_io_e h0 h1 h2) (f_s_l2Any_io_p h0 h1 h2) h
def f_s_l2Any_io_c : CRow := fun args inh => match dec2 [.p (.pt 0 3)] [.p .sl, .p (.int .i64), .p (.int .i64)] args inh with
  | some ([], [.l h0, .i h1, .i h2]) => some ((f_s_l2Any_io h0 h1 h2).isSome, (f_s_l2Any_io_en ((f_s_l2Any_io h0 h1 h2).getD ([], [], 0, 0))).1, (f_s_l2Any_io_en ((f_s_l2Any_io h0 h1 h2).getD ([], [], 0, 0))).2)
  | _ => none
theorem f_s_l2Any_io_cc : CTrue Try.prog 163 f_s_l2Any_io_c := by
  intro args inh rs out h
  unfold f_s_l2Any_io_c at h
  split at h
  · rename_i hd
    obtain ⟨h1, h2⟩ := dec2_enc hd
    rw [← h1, ← h2]
    exact rowC (f_s_l2Any_io_ok _ _ _) h
  · cases h

def f_s_l1Once_io_F : Fi := { nv := 3, nc := 3, m := 3, vt := [], kl := [], sk := [], mvs := [], fz := [] }
def f_s_l1Once_io_a (n1 : Int) (h0 : List Sc) (h1 : Int) (h2 : Int) : List AV := enc [.p (.pt 0 3), .p (.int .i64)] [.i n1]
def f_s_l1Once_io_i (n1 : Int) (h0 : List Sc) (h1 : Int) (h2 : Int) : List AV := enc [.p .sl, .p (.int .i64), .p (.int .i64)] [.l h0, .i h1, .i h2]
def f_s_l1Once_io_en (r : Bool × List Sc × Int × Int) : List AV × List AV := (enc [.p .boo] [.b r.1], enc [.p .sl, .p (.int .i64), .p (.int .i64)] [.l r.2.1, .i r.2.2.1, .i r.2.2.2])
def f_s_l1Once_io_M : Calling := addC 166 f_s_l1Below_io_c (noC)
theorem f_s_l1Once_io_Mt : CallOk Try.prog (f_s_l1Once_io_M) := addC_true f_s_l1Below_io_cc (noC_true)
theorem f_s_l1Once_io_o : loopsOnce Try.f167 = true := by kernel_rfl
theorem f_s_l1Once_io_p {R : Type} (n1 : Int) (h0 : List Sc) (h1 : Int) (h2 : Int) (kR : Bool × List Sc × Int × Int → Option R) : f_s_l1Once_io_k n1 h0 h1 h2 kR = (f_s_l1Once_io_k n1 h0 h1 h2 some).bind kR := by
  simp only [f_s_l1Once_io_k, boB, someB]
theorem f_s_l1Once_io_e (n1 : Int) (h0 : List Sc) (h1 : Int) (h2 : Int) : runFn E0 f_s_l1Once_io_M H0 f_s_l1Once_io_F (asL (noL)) Try.f167 (f_s_l1Once_io_a n1 h0 h1 h2) (f_s_l1Once_io_i n1 h0 h1 h2) = f_s_l1Once_io_k n1 h0 h1 h2 (fun r => some (f_s_l1Once_io_en r)) := by kernel_rfl
theorem f_s_l1Once_io_ok (n1 : Int) (h0 : List Sc) (h1 : Int) (h2 : Int) (r : Bool × List Sc × Int × Int) (h : f_s_l1Once_io n1 h0 h1 h2 = some r) : CS Try.prog 167 (f_s_l1Once_io_a n1 h0 h1 h2) (f_s_l1Once_io_i n1 h0 h1 h2) (f_s_l1Once_io_en r).1 (f_s_l1Once_io_en r).2 :=
  fn_true (Gk := fun k => f_s_l1Once_io_k n1 h0 h1 h2 k) (en := f_s_l1Once_io_en) Try.func167 E0ok f_s_l1Once_io_Mt (noL_true) f_s_l1Once_io_o (f_s_l1Once_io_e n1 h0 h1 h2) (f_s_l1Once_io_p n1 h0 h1 h2) h
def f_s_l1Once_io_c : CRow := fun args inh => match dec2 [.p (.pt 0 3), .p (.int .i64)] [.p .sl, .p (.int .i64), .p (.int .i64)] args inh with
  | some ([.i n1], [.l h0, .i h1, .i h2]) => some ((f_s_l1Once_io n1 h0 h1 h2).isSome, (f_s_l1Once_io_en ((f_s_l1Once_io n1 h0 h1 h2).getD (false, [], 0, 0))).1, (f_s_l1Once_io_en ((f_s_l1Once_io n1 h0 h1 h2).getD (false, [], 0, 0))).2)
  | _ => none
theorem f_s_l1Once_io_cc : CTrue Try.prog 167 f_s_l1Once_io_c := by
  intro args inh rs out h
  unfold f_s_l1Once_io_c at h
  split at h
  · rename_i hd
    obtain ⟨h1, h2⟩ := dec2_enc hd
    rw [← h1, ← h2]
    exact rowC (f_s_l1Once_io_ok _ _ _ _) h
  · cases h

def f_s_l1In_F : Fi := { nv := 0, nc := 0, m := 0, vt := [], kl := [], sk := [], mvs := [], fz := [] }
def f_s_l1In_a (x0 : Int) (low1 : Int) (high2 : Int) : List AV := enc [.p (.int .i64), .p (.int .i64), .p (.int .i64)] [.i x0, .i low1, .i high2]
def f_s_l1In_i (x0 : Int) (low1 : Int) (high2 : Int) : List AV := enc [] []
def f_s_l1In_en (r : Bool) : List AV × List AV := (enc [.p .boo] [.b r], enc [] [])
def f_s_l1In_M : Calling := noC
theorem f_s_l1In_Mt : CallOk Try.prog (f_s_l1In_M) := noC_true
theorem f_s_l1In_o : loopsOnce Try.f150 = true := by kernel_rfl
theorem f_s_l1In_p {R : Type} (x0 : Int) (low1 : Int) (high2 : Int) (kR : Bool → Option R) : f_s_l1In_k x0 low1 high2 kR = (f_s_l1In_k x0 low1 high2 some).bind kR := by
  simp only [f_s_l1In_k, brB, someB]
theorem f_s_l1In_e (x0 : Int) (low1 : Int) (high2 : Int) : runFn E0 f_s_l1In_M H0 f_s_l1In_F (asL (noL)) Try.f150 (f_s_l1In_a x0 low1 high2) (f_s_l1In_i x0 low1 high2) = f_s_l1In_k x0 low1 high2 (fun r => some (f_s_l1In_en r)) := by kernel_rfl
theorem f_s_l1In_ok (x0 : Int) (low1 : Int) (high2 : Int) (r : Bool) (h : f_s_l1In x0 low1 high2 = some r) : CS Try.prog 150 (f_s_l1In_a x0 low1 high2) (f_s_l1In_i x0 low1 high2) (f_s_l1In_en r).1 (f_s_l1In_en r).2 :=
  fn_true (Gk := fun k => f_s_l1In_k x0 low1 high2 k) (en := f_s_l1In_en) Try.func150 E0ok f_s_l1In_Mt (noL_true) f_s_l1In_o (f_s_l1In_e x0 low1 high2) (f_s_l1In_p x0 low1 high2) h
def f_s_l1In_c : CRow := fun args inh => match dec2 [.p (.int .i64), .p (.int .i64), .p (.int .i64)] [] args inh with
  | some ([.i x0, .i low1, .i high2], []) => some ((f_s_l1In x0 low1 high2).isSome, (f_s_l1In_en ((f_s_l1In x0 low1 high2).getD false)).1, (f_s_l1In_en ((f_s_l1In x0 low1 high2).getD false)).2)
  | _ => none
theorem f_s_l1In_cc : CTrue Try.prog 150 f_s_l1In_c := by
  intro args inh rs out h
  unfold f_s_l1In_c at h
  split at h
  · rename_i hd
    obtain ⟨h1, h2⟩ := dec2_enc hd
    rw [← h1, ← h2]
    exact rowC (f_s_l1In_ok _ _ _) h
  · cases h

def f_s_IsGroup_F : Fi := { nv := 0, nc := 0, m := 0, vt := [], kl := [(0, ([0, 2, 5, 6, 7, 8, 9, 10, 11, 12, 13, 14, 15, 16, 17, 18, 19, 20, 21, 22, 23, 24, 25, 26, 27, 28, 29, 30, 31], [0, 1, 2, 4, 5, 6, 7, 8, 9, 10, 11, 12, 13, 14, 15, 16, 17, 18, 19, 20, 21, 22, 23, 24, 25, 26, 27, 28, 29, 30, 31], [0, 1, 3, 4, 5, 6, 7, 8, 9, 10, 11, 12, 13, 14, 15, 16, 17, 18, 19, 20, 21, 22, 23, 24, 25, 26, 27, 28, 29, 30, 31]))], sk := [], mvs := [], fz := [] }
def f_s_IsGroup_a (g0 : List Sc) : List AV := enc [.p .gr] [.l g0]
def f_s_IsGroup_i (g0 : List Sc) : List AV := enc [] []
def f_s_IsGroup_en (r : Bool) : List AV × List AV := (enc [.p .boo] [.b r], enc [] [])
def f_s_IsGroup_M : Calling := addC 150 f_s_l1In_c (noC)
theorem f_s_IsGroup_Mt : CallOk Try.prog (f_s_IsGroup_M) := addC_true f_s_l1In_cc (noC_true)
theorem f_s_IsGroup_o : loopsOnce Try.f179 = true := by kernel_rfl
def f_s_IsGroup_h0 : List Sh := [.u, .p .el, .u, .p (.int .i64), .p (.int .i64), .u, .u, .u, .u, .u, .u, .u, .u, .u, .u, .u, .u, .u, .u, .u, .u, .u, .u, .u, .u, .u, .u, .u, .u, .u, .u, .u]
def f_s_IsGroup_fr0 (g1 : List Sc) (s : Int × Int) : List AV := enc f_s_IsGroup_h0 [.l g1, .i s.1, .i s.2]
def f_s_IsGroup_g0_1 : List Sh := [.u, .u, .u, .p (.int .i64), .u, .u, .u, .u, .u, .u, .u, .u, .u, .u, .u, .u, .u, .u, .u, .u, .u, .u, .u, .u, .u, .u, .u, .u, .u, .u, .u, .u]
def f_s_IsGroup_x0_1 (g1 : List Sc) (e : Int) : X × List AV := (.out 0, enc f_s_IsGroup_g0_1 [.i e])
def f_s_IsGroup_g0_2 : List Sh := [.u, .u, .p .boo, .u, .u, .u, .u, .u, .u, .u, .u, .u, .u, .u, .u, .u, .u, .u, .u, .u, .u, .u, .u, .u, .u, .u, .u, .u, .u, .u, .u, .u]
def f_s_IsGroup_x0_2 (g1 : List Sc) (e : Unit) : X × List AV := (.ret, enc f_s_IsGroup_g0_2 [.b false])
theorem f_s_IsGroup_p0 {R : Type} (g1 : List Sc) (s : Int × Int) (kN : Int × Int → Option R) (kA : Int → Option R) (kB : Unit → Option R) : f_s_IsGroup_k0 g1 s.1 s.2 kN kA kB = (f_s_IsGroup_r0 g1 s).bind (Ro.el kN kA kB) := by
  simp only [f_s_IsGroup_k0, f_s_IsGroup_r0, brB, boB, someB, noneB, Ro.el]
theorem f_s_IsGroup_e0 (g1 : List Sc) (s : Int × Int) : EC E0 f_s_IsGroup_M H0 f_s_IsGroup_F (asL (noL)) 0 (bodyOf Try.f179 0) (f_s_IsGroup_fr0 g1 s) (done (klOf f_s_IsGroup_F 0)) = f_s_IsGroup_k0 g1 s.1 s.2 (fun s => some (.norm, f_s_IsGroup_fr0 g1 s)) (fun e => some (f_s_IsGroup_x0_1 g1 e)) (fun e => some (f_s_IsGroup_x0_2 g1 e)) := by kernel_rfl
theorem f_s_IsGroup_l0 (g1 : List Sc) : ∀ s r, loopL (f_s_IsGroup_r0 g1) s = some r → LS Try.prog f_s_IsGroup_F (bodyOf Try.f179 0) (f_s_IsGroup_fr0 g1 s) (enX (f_s_IsGroup_x0_1 g1) (f_s_IsGroup_x0_2 g1) r) :=
  loop_true E0ok f_s_IsGroup_Mt (noL_true) f_s_IsGroup_o (fun _ h => by cases h) (fun _ h => by cases h) (fun s => (f_s_IsGroup_e0 g1 s).trans (f_s_IsGroup_p0 g1 s _ _ (fun e => some (f_s_IsGroup_x0_2 g1 e))))
def f_s_IsGroup_t0 (σ : List AV) : Option (Bool × Bool × (X × List AV) × (X × List AV)) := match dec f_s_IsGroup_h0 σ with
  | some [.l g1, .i n3, .i i4] => some ((loopL (f_s_IsGroup_r0 g1) (n3, i4)).isSome, isOne (loopL (f_s_IsGroup_r0 g1) (n3, i4)), f_s_IsGroup_x0_1 g1 (getOne 0 (loopL (f_s_IsGroup_r0 g1) (n3, i4))), f_s_IsGroup_x0_2 g1 (getTwo () (loopL (f_s_IsGroup_r0 g1) (n3, i4))))
  | _ => none
theorem f_s_IsGroup_tt0 : TTrue Try.prog f_s_IsGroup_F Try.f179 0 (f_s_IsGroup_t0) := by
  intro σ p r r' h
  unfold f_s_IsGroup_t0 at h
  split at h
  · rename_i hd
    rw [← dec_enc hd]
    exact row2 (f_s_IsGroup_l0 _ _) h
  · cases h
theorem f_s_IsGroup_p {R : Type} (g0 : List Sc) (kR : Bool → Option R) : f_s_IsGroup_k g0 kR = (f_s_IsGroup_k g0 some).bind kR := by
  simp only [f_s_IsGroup_k, blB, someB]
theorem f_s_IsGroup_e (g0 : List Sc) : runFn E0 f_s_IsGroup_M H0 f_s_IsGroup_F (asL (addL 0 (f_s_IsGroup_t0) (noL))) Try.f179 (f_s_IsGroup_a g0) (f_s_IsGroup_i g0) = f_s_IsGroup_k g0 (fun r => some (f_s_IsGroup_en r)) := by kernel_rfl
theorem f_s_IsGroup_ok (g0 : List Sc) (r : Bool) (h : f_s_IsGroup g0 = some r) : CS Try.prog 179 (f_s_IsGroup_a g0) (f_s_IsGroup_i g0) (f_s_IsGroup_en r).1 (f_s_IsGroup_en r).2 :=
  fn_true (Gk := fun k => f_s_IsGroup_k g0 k) (en := f_s_IsGroup_en) Try.func179 E0ok f_s_IsGroup_Mt (addL_true (f_s_IsGroup_tt0) (noL_true)) f_s_IsGroup_o (f_s_IsGroup_e g0) (f_s_IsGroup_p g0) h
def f_s_IsGroup_c : CRow := fun args inh => match dec2 [.p .gr] [] args inh with
  | some ([.l g0], []) => some ((f_s_IsGroup g0).isSome, (f_s_IsGroup_en ((f_s_IsGroup g0).getD false)).1, (f_s_IsGroup_en ((f_s_IsGroup g0).getD false)).2)
  | _ => none
theorem f_s_IsGroup_cc : CTrue Try.prog 179 f_s_IsGroup_c := by
  intro args inh rs out h
  unfold f_s_IsGroup_c at h
  split at h
  · rename_i hd
    obtain ⟨h1, h2⟩ := dec2_enc hd
    rw [← h1, ← h2]
    exact rowC (f_s_IsGroup_ok _) h
  · cases h

def f_s_l2Order_F : Fi := { nv := 0, nc := 0, m := 0, vt := [], kl := [(0, ([0, 2, 5, 6, 7, 8, 9, 10, 11, 12, 13, 14, 15, 16, 17, 18, 19], [0, 1, 2, 4, 5, 6, 7, 8, 9, 10, 11, 12, 13, 14, 15, 16, 17, 18, 19], [0, 1, 3, 4, 5, 6, 7, 8, 9, 10, 11, 12, 13, 14, 15, 16, 17, 18, 19]))], sk := [], mvs := [], fz := [] }
def f_s_l2Order_a (g0 : List Sc) : List AV := enc [.p .gr] [.l g0]
def f_s_l2Order_i (g0 : List Sc) : List AV := enc [] []
def f_s_l2Order_en (r : Int) : List AV × List AV := (enc [.p (.int .i64)] [.i r], enc [] [])
def f_s_l2Order_M : Calling := noC
theorem f_s_l2Order_Mt : CallOk Try.prog (f_s_l2Order_M) := noC_true
theorem f_s_l2Order_o : loopsOnce Try.f139 = true := by kernel_rfl
def f_s_l2Order_h0 : List Sh := [.u, .p .el, .u, .p (.int .i64), .p (.int .i64), .u, .u, .u, .u, .u, .u, .u, .u, .u, .u, .u, .u, .u, .u, .u]
def f_s_l2Order_fr0 (g1 : List Sc) (s : Int × Int) : List AV := enc f_s_l2Order_h0 [.l g1, .i s.1, .i s.2]
def f_s_l2Order_g0_1 : List Sh := [.u, .u, .u, .p (.int .i64), .u, .u, .u, .u, .u, .u, .u, .u, .u, .u, .u, .u, .u, .u, .u, .u]
def f_s_l2Order_x0_1 (g1 : List Sc) (e : Int) : X × List AV := (.out 0, enc f_s_l2Order_g0_1 [.i e])
def f_s_l2Order_x0_2 (g1 : List Sc) (_e : Unit) : X × List AV := (.ret, [])
theorem f_s_l2Order_p0 {R : Type} (g1 : List Sc) (s : Int × Int) (kN : Int × Int → Option R) (kA : Int → Option R) (kB : Unit → Option R) : f_s_l2Order_k0 g1 s.1 s.2 kN kA = (f_s_l2Order_r0 g1 s).bind (Ro.el kN kA kB) := by
  simp only [f_s_l2Order_k0, f_s_l2Order_r0, brB, someB, noneB, Ro.el]
theorem f_s_l2Order_e0 (g1 : List Sc) (s : Int × Int) : EC E0 f_s_l2Order_M H0 f_s_l2Order_F (asL (noL)) 0 (bodyOf Try.f139 0) (f_s_l2Order_fr0 g1 s) (done (klOf f_s_l2Order_F 0)) = f_s_l2Order_k0 g1 s.1 s.2 (fun s => some (.norm, f_s_l2Order_fr0 g1 s)) (fun e => some (f_s_l2Order_x0_1 g1 e)) := by kernel_rfl
theorem f_s_l2Order_l0 (g1 : List Sc) : ∀ s r, loopL (f_s_l2Order_r0 g1) s = some r → LS Try.prog f_s_l2Order_F (bodyOf Try.f139 0) (f_s_l2Order_fr0 g1 s) (enX (f_s_l2Order_x0_1 g1) (f_s_l2Order_x0_2 g1) r) :=
  loop_true E0ok f_s_l2Order_Mt (noL_true) f_s_l2Order_o (fun _ h => by cases h) (fun _ h => by cases h) (fun s => (f_s_l2Order_e0 g1 s).trans (f_s_l2Order_p0 g1 s _ _ (fun e => some (f_s_l2Order_x0_2 g1 e))))
def f_s_l2Order_t0 (σ : List AV) : Option (Bool × Bool × (X × List AV) × (X × List AV)) := match dec f_s_l2Order_h0 σ with
  | some [.l g1, .i n3, .i i4] => some (isOne (loopL (f_s_l2Order_r0 g1) (n3, i4)), true, f_s_l2Order_x0_1 g1 (getOne 0 (loopL (f_s_l2Order_r0 g1) (n3, i4))), (.ret, []))
  | _ => none
theorem f_s_l2Order_tt0 : TTrue Try.prog f_s_l2Order_F Try.f139 0 (f_s_l2Order_t0) := by
  intro σ p r r' h
  unfold f_s_l2Order_t0 at h
  split at h
  · rename_i hd
    rw [← dec_enc hd]
    exact row1 (f_s_l2Order_l0 _ _) h
  · cases h
theorem f_s_l2Order_p {R : Type} (g0 : List Sc) (kR : Int → Option R) : f_s_l2Order_k g0 kR = (f_s_l2Order_k g0 some).bind kR := by
  simp only [f_s_l2Order_k, bl1B, someB]
theorem f_s_l2Order_e (g0 : List Sc) : runFn E0 f_s_l2Order_M H0 f_s_l2Order_F (asL (addL 0 (f_s_l2Order_t0) (noL))) Try.f139 (f_s_l2Order_a g0) (f_s_l2Order_i g0) = f_s_l2Order_k g0 (fun r => some (f_s_l2Order_en r)) := by kernel_rfl
theorem f_s_l2Order_ok (g0 : List Sc) (r : Int) (h : f_s_l2Order g0 = some r) : CS Try.prog 139 (f_s_l2Order_a g0) (f_s_l2Order_i g0) (f_s_l2Order_en r).1 (f_s_l2Order_en r).2 :=
  fn_true (Gk := fun k => f_s_l2Order_k g0 k) (en := f_s_l2Order_en) Try.func139 E0ok f_s_l2Order_Mt (addL_true (f_s_l2Order_tt0) (noL_true)) f_s_l2Order_o (f_s_l2Order_e g0) (f_s_l2Order_p g0) h
def f_s_l2Order_c : CRow := fun args inh => match dec2 [.p .gr] [] args inh with
  | some ([.l g0], []) => some ((f_s_l2Order g0).isSome, (f_s_l2Order_en ((f_s_l2Order g0).getD 0)).1, (f_s_l2Order_en ((f_s_l2Order g0).getD 0)).2)
  | _ => none
theorem f_s_l2Order_cc : CTrue Try.prog 139 f_s_l2Order_c := by
  intro args inh rs out h
  unfold f_s_l2Order_c at h
  split at h
  · rename_i hd
    obtain ⟨h1, h2⟩ := dec2_enc hd
    rw [← h1, ← h2]
    exact rowC (f_s_l2Order_ok _) h
  · cases h

def f_s_OrderOf_F : Fi := { nv := 0, nc := 0, m := 0, vt := [], kl := [], sk := [], mvs := [], fz := [] }
def f_s_OrderOf_a (g0 : List Sc) : List AV := enc [.p .gr] [.l g0]
def f_s_OrderOf_i (g0 : List Sc) : List AV := enc [] []
def f_s_OrderOf_en (r : Int) : List AV × List AV := (enc [.p (.int .i64)] [.i r], enc [] [])
def f_s_OrderOf_M : Calling := addC 179 f_s_IsGroup_c (addC 139 f_s_l2Order_c (noC))
theorem f_s_OrderOf_Mt : CallOk Try.prog (f_s_OrderOf_M) := addC_true f_s_IsGroup_cc (addC_true f_s_l2Order_cc (noC_true))
theorem f_s_OrderOf_o : loopsOnce Try.f72 = true := by kernel_rfl
theorem f_s_OrderOf_p {R : Type} (g0 : List Sc) (kR : Int → Option R) : f_s_OrderOf_k g0 kR = (f_s_OrderOf_k g0 some).bind kR := by
  simp only [f_s_OrderOf_k, brB, boB, someB]
theorem f_s_OrderOf_e (g0 : List Sc) : runFn E0 f_s_OrderOf_M H0 f_s_OrderOf_F (asL (noL)) Try.f72 (f_s_OrderOf_a g0) (f_s_OrderOf_i g0) = f_s_OrderOf_k g0 (fun r => some (f_s_OrderOf_en r)) := by kernel_rfl
theorem f_s_OrderOf_ok (g0 : List Sc) (r : Int) (h : f_s_OrderOf g0 = some r) : CS Try.prog 72 (f_s_OrderOf_a g0) (f_s_OrderOf_i g0) (f_s_OrderOf_en r).1 (f_s_OrderOf_en r).2 :=
  fn_true (Gk := fun k => f_s_OrderOf_k g0 k) (en := f_s_OrderOf_en) Try.func72 E0ok f_s_OrderOf_Mt (noL_true) f_s_OrderOf_o (f_s_OrderOf_e g0) (f_s_OrderOf_p g0) h
def f_s_OrderOf_c : CRow := fun args inh => match dec2 [.p .gr] [] args inh with
  | some ([.l g0], []) => some ((f_s_OrderOf g0).isSome, (f_s_OrderOf_en ((f_s_OrderOf g0).getD 0)).1, (f_s_OrderOf_en ((f_s_OrderOf g0).getD 0)).2)
  | _ => none
theorem f_s_OrderOf_cc : CTrue Try.prog 72 f_s_OrderOf_c := by
  intro args inh rs out h
  unfold f_s_OrderOf_c at h
  split at h
  · rename_i hd
    obtain ⟨h1, h2⟩ := dec2_enc hd
    rw [← h1, ← h2]
    exact rowC (f_s_OrderOf_ok _) h
  · cases h

def f_s_l2Element_io_F : Fi := { nv := 5, nc := 5, m := 4, vt := [(3, 4)], kl := [], sk := [], mvs := [], fz := [] }
def f_s_l2Element_io_a (h0 : List Sc) (h1 : Int) (h2 : Int) (h3 : List Sc) : List AV := enc [.p (.pt 0 3), .p (.go 3)] []
def f_s_l2Element_io_i (h0 : List Sc) (h1 : Int) (h2 : Int) (h3 : List Sc) : List AV := enc [.p .sl, .p (.int .i64), .p (.int .i64), .own 3] [.l h0, .i h1, .i h2, .l h3]
def f_s_l2Element_io_en (r : Int × List Sc × Int × Int × List Sc) : List AV × List AV := (enc [.p (.int .i64)] [.i r.1], enc [.p .sl, .p (.int .i64), .p (.int .i64), .own 3] [.l r.2.1, .i r.2.2.1, .i r.2.2.2.1, .l r.2.2.2.2])
def f_s_l2Element_io_M : Calling := addC 167 f_s_l1Once_io_c (addC 168 f_s_l1PickInt_io_c (addC 72 f_s_OrderOf_c (addC 166 f_s_l1Below_io_c (noC))))
theorem f_s_l2Element_io_Mt : CallOk Try.prog (f_s_l2Element_io_M) := addC_true f_s_l1Once_io_cc (addC_true f_s_l1PickInt_io_cc (addC_true f_s_OrderOf_cc (addC_true f_s_l1Below_io_cc (noC_true))))
theorem f_s_l2Element_io_o : loopsOnce Try.f200 = true := by kernel_rfl
theorem f_s_l2Element_io_p {R : Type} (h0 : List Sc) (h1 : Int) (h2 : Int) (h3 : List Sc) (kR : Int × List Sc × Int × Int × List Sc → Option R) : f_s_l2Element_io_k h0 h1 h2 h3 kR = (f_s_l2Element_io_k h0 h1 h2 h3 some).bind kR := by
  simp only [f_s_l2Element_io_k, brB, boB, someB]
theorem f_s_l2Element_io_e (h0 : List Sc) (h1 : Int) (h2 : Int) (h3 : List Sc) : runFn E0 f_s_l2Element_io_M H0 f_s_l2Element_io_F (asL (noL)) Try.f200 (f_s_l2Element_io_a h0 h1 h2 h3) (f_s_l2Element_io_i h0 h1 h2 h3) = f_s_l2Element_io_k h0 h1 h2 h3 (fun r => some (f_s_l2Element_io_en r)) := by kernel_rfl
theorem f_s_l2Element_io_ok (h0 : List Sc) (h1 : Int) (h2 : Int) (h3 : List Sc) (r : Int × List Sc × Int × Int × List Sc) (h : f_s_l2Element_io h0 h1 h2 h3 = some r) : CS Try.prog 200 (f_s_l2Element_io_a h0 h1 h2 h3) (f_s_l2Element_io_i h0 h1 h2 h3) (f_s_l2Element_io_en r).1 (f_s_l2Element_io_en r).2 :=
  fn_true (Gk := fun k => f_s_l2Element_io_k h0 h1 h2 h3 k) (en := f_s_l2Element_io_en) Try.func200 E0ok f_s_l2Element_io_Mt (noL_true) f_s_l2Element_io_o (f_s_l2Element_io_e h0 h1 h2 h3) (f_s_l2Element_io_p h0 h1 h2 h3) h
def f_s_l2Element_io_c : CRow := fun args inh => match dec2 [.p (.pt 0 3), .p (.go 3)] [.p .sl, .p (.int .i64), .p (.int .i64), .own 3] args inh with
  | some ([], [.l h0, .i h1, .i h2, .l h3]) => some ((f_s_l2Element_io h0 h1 h2 h3).isSome, (f_s_l2Element_io_en ((f_s_l2Element_io h0 h1 h2 h3).getD (0, [], 0, 0, []))).1, (f_s_l2Element_io_en ((f_s_l2Element_io h0 h1 h2 h3).getD (0, [], 0, 0, []))).2)
  | _ => none
theorem f_s_l2Element_io_cc : CTrue Try.prog 200 f_s_l2Element_io_c := by
  intro args inh rs out h
  unfold f_s_l2Element_io_c at h
  split at h
  · rename_i hd
    obtain ⟨h1, h2⟩ := dec2_enc hd
    rw [← h1, ← h2]
    exact rowC (f_s_l2Element_io_ok _ _ _ _) h
  · cases h

def f_s_l14Draw_F : Fi := { nv := 6, nc := 5, m := 0, vt := [(2, 0), (6, 1), (11, 2), (13, 5)], kl := [(0, ([5, 6, 7, 9, 10, 16, 17, 18, 19, 20, 21, 22, 23, 24, 25, 26, 27, 28, 29, 30, 31, 32, 33, 34, 35, 36, 37, 38, 39, 40, 41, 42, 43, 44, 45, 46, 47], [5, 6, 7, 9, 10, 15, 16, 17, 18, 19, 20, 21, 22, 23, 24, 25, 26, 27, 28, 29, 30, 31, 32, 33, 34, 35, 36, 37, 38, 39, 40, 41, 42, 43, 44, 45, 46, 47], [1, 2, 3, 4, 5, 6, 7, 11, 12, 13, 14, 15, 16, 17, 18, 19, 20, 21, 22, 23, 24, 25, 26, 27, 28, 29, 30, 31, 32, 33, 34, 35, 36, 37, 38, 39, 40, 41, 42, 43, 44, 45, 46, 47]))], sk := [], mvs := [5], fz := [] }
def f_s_l14Draw_a (code0 : List Sc) : List AV := enc [.p .sl] [.l code0]
def f_s_l14Draw_i (code0 : List Sc) : List AV := enc [] []
def f_s_l14Draw_en (r : List Sc × List Sc × List Sc) : List AV × List AV := (enc [.p (.go 0), .p (.al 1), .p (.al 2)] [], enc [.own 3, .own 3, .own 3] [.l r.1, .l r.2.1, .l r.2.2])
def f_s_l14Draw_M : Calling := addC 162 f_s_l1New_c (addC 163 f_s_l2Any_io_c (addC 166 f_s_l1Below_io_c (addC 200 f_s_l2Element_io_c (addC 168 f_s_l1PickInt_io_c (addC 167 f_s_l1Once_io_c (noC))))))
theorem f_s_l14Draw_Mt : CallOk Try.prog (f_s_l14Draw_M) := addC_true f_s_l1New_cc (addC_true f_s_l2Any_io_cc (addC_true f_s_l1Below_io_cc (addC_true f_s_l2Element_io_cc (addC_true f_s_l1PickInt_io_cc (addC_true f_s_l1Once_io_cc (noC_true))))))
theorem f_s_l14Draw_o : loopsOnce Try.f145 = true := by kernel_rfl
def f_s_l14Draw_h0 : List Sh := [.p .sl, .own 3, .p .sl, .p (.int .i64), .p (.int .i64), .u, .u, .u, .p (.pt 0 1), .u, .u, .p (.pt 2 3), .p (.pt 1 1), .own 3, .own 3, .p (.int .i64), .u, .u, .u, .u, .u, .u, .u, .u, .u, .u, .u, .u, .u, .u, .u, .u, .u, .u, .u, .u, .u, .u, .u, .u, .u, .u, .u, .u, .u, .u, .u, .u]
def f_s_l14Draw_fr0 (s : List Sc × List Sc × List Sc × Int × Int × List Sc × List Sc × Int) : List AV := enc f_s_l14Draw_h0 [.l s.1, .l s.2.1, .l s.2.2.1, .i s.2.2.2.1, .i s.2.2.2.2.1, .l s.2.2.2.2.2.1, .l s.2.2.2.2.2.2.1, .i s.2.2.2.2.2.2.2]
def f_s_l14Draw_g0_1 : List Sh := [.p .sl, .own 3, .p .sl, .p (.int .i64), .p (.int .i64), .u, .u, .u, .p (.pt 0 1), .u, .u, .p (.pt 2 3), .p (.pt 1 1), .own 3, .own 3, .u, .u, .u, .u, .u, .u, .u, .u, .u, .u, .u, .u, .u, .u, .u, .u, .u, .u, .u, .u, .u, .u, .u, .u, .u, .u, .u, .u, .u, .u, .u, .u, .u]
def f_s_l14Draw_x0_1 (e : List Sc × List Sc × List Sc × Int × Int × List Sc × List Sc) : X × List AV := (.out 0, enc f_s_l14Draw_g0_1 [.l e.1, .l e.2.1, .l e.2.2.1, .i e.2.2.2.1, .i e.2.2.2.2.1, .l e.2.2.2.2.2.1, .l e.2.2.2.2.2.2])
def f_s_l14Draw_x0_2 (_e : Unit) : X × List AV := (.ret, [])
theorem f_s_l14Draw_p0 {R : Type} (s : List Sc × List Sc × List Sc × Int × Int × List Sc × List Sc × Int) (kN : List Sc × List Sc × List Sc × Int × Int × List Sc × List Sc × Int → Option R) (kA : List Sc × List Sc × List Sc × Int × Int × List Sc × List Sc → Option R) (kB : Unit → Option R) : f_s_l14Draw_k0 s.1 s.2.1 s.2.2.1 s.2.2.2.1 s.2.2.2.2.1 s.2.2.2.2.2.1 s.2.2.2.2.2.2.1 s.2.2.2.2.2.2.2 kN kA = (f_s_l14Draw_r0 s).bind (Ro.el kN kA kB) := by
  simp only [f_s_l14Draw_k0, f_s_l14Draw_r0, brB, boB, someB, noneB, Ro.el]
theorem f_s_l14Draw_e0 (s : List Sc × List Sc × List Sc × Int × Int × List Sc × List Sc × Int) : EC E0 f_s_l14Draw_M H0 f_s_l14Draw_F (asL (noL)) 0 (bodyOf Try.f145 0) (f_s_l14Draw_fr0 s) (done (klOf f_s_l14Draw_F 0)) = f_s_l14Draw_k0 s.1 s.2.1 s.2.2.1 s.2.2.2.1 s.2.2.2.2.1 s.2.2.2.2.2.1 s.2.2.2.2.2.2.1 s.2.2.2.2.2.2.2 (fun s => some (.norm, f_s_l14Draw_fr0 s)) (fun e => some (f_s_l14Draw_x0_1 e)) := by kernel_rfl
theorem f_s_l14Draw_l0 : ∀ s r, loopL (f_s_l14Draw_r0) s = some r → LS Try.prog f_s_l14Draw_F (bodyOf Try.f145 0) (f_s_l14Draw_fr0 s) (enX (f_s_l14Draw_x0_1) (f_s_l14Draw_x0_2) r) :=
  loop_true E0ok f_s_l14Draw_Mt (noL_true) f_s_l14Draw_o (fun _ h => by cases h) (fun _ h => by cases h) (fun s => (f_s_l14Draw_e0 s).trans (f_s_l14Draw_p0 s _ _ (fun e => some (f_s_l14Draw_x0_2 e))))
def f_s_l14Draw_t0 (σ : List AV) : Option (Bool × Bool × (X × List AV) × (X × List AV)) := match dec f_s_l14Draw_h0 σ with
  | some [.l v0, .l v1, .l v2, .i v3, .i v4, .l p7, .l q8, .i n9] => some (isOne (loopL (f_s_l14Draw_r0) (v0, v1, v2, v3, v4, p7, q8, n9)), true, f_s_l14Draw_x0_1 (getOne ([], [], [], 0, 0, [], []) (loopL (f_s_l14Draw_r0) (v0, v1, v2, v3, v4, p7, q8, n9))), (.ret, []))
  | _ => none
theorem f_s_l14Draw_tt0 : TTrue Try.prog f_s_l14Draw_F Try.f145 0 (f_s_l14Draw_t0) := by
  intro σ p r r' h
  unfold f_s_l14Draw_t0 at h
  split at h
  · rename_i hd
    rw [← dec_enc hd]
    exact row1 (f_s_l14Draw_l0 _) h
  · cases h
theorem f_s_l14Draw_p {R : Type} (code0 : List Sc) (kR : List Sc × List Sc × List Sc → Option R) : f_s_l14Draw_k code0 kR = (f_s_l14Draw_k code0 some).bind kR := by
  simp only [f_s_l14Draw_k, brB, boB, bl1B, someB, noneB]
theorem f_s_l14Draw_e (code0 : List Sc) : runFn E0 f_s_l14Draw_M H0 f_s_l14Draw_F (asL (addL 0 (f_s_l14Draw_t0) (noL))) Try.f145 (f_s_l14Draw_a code0) (f_s_l14Draw_i code0) = f_s_l14Draw_k code0 (fun r => some (f_s_l14Draw_en r)) := by kernel_rfl
theorem f_s_l14Draw_ok (code0 : List Sc) (r : List Sc × List Sc × List Sc) (h : f_s_l14Draw code0 = some r) : CS Try.prog 145 (f_s_l14Draw_a code0) (f_s_l14Draw_i code0) (f_s_l14Draw_en r).1 (f_s_l14Draw_en r).2 :=
  fn_true (Gk := fun k => f_s_l14Draw_k code0 k) (en := f_s_l14Draw_en) Try.func145 E0ok f_s_l14Draw_Mt (addL_true (f_s_l14Draw_tt0) (noL_true)) f_s_l14Draw_o (f_s_l14Draw_e code0) (f_s_l14Draw_p code0) h
def f_s_l14Draw_c : CRow := fun args inh => match dec2 [.p .sl] [] args inh with
  | some ([.l code0], []) => some ((f_s_l14Draw code0).isSome, (f_s_l14Draw_en ((f_s_l14Draw code0).getD ([], [], []))).1, (f_s_l14Draw_en ((f_s_l14Draw code0).getD ([], [], []))).2)
  | _ => none
theorem f_s_l14Draw_cc : CTrue Try.prog 145 f_s_l14Draw_c := by
  intro args inh rs out h
  unfold f_s_l14Draw_c at h
  split at h
  · rename_i hd
    obtain ⟨h1, h2⟩ := dec2_enc hd
    rw [← h1, ← h2]
    exact rowC (f_s_l14Draw_ok _) h
  · cases h

def f_s_l2Is_F : Fi := { nv := 0, nc := 0, m := 0, vt := [], kl := [], sk := [], mvs := [], fz := [] }
def f_s_l2Is_a (g0 : List Sc) (x1 : Int) : List AV := enc [.p .gr, .p (.int .i64)] [.l g0, .i x1]
def f_s_l2Is_i (g0 : List Sc) (x1 : Int) : List AV := enc [] []
def f_s_l2Is_en (r : Bool) : List AV × List AV := (enc [.p .boo] [.b r], enc [] [])
def f_s_l2Is_M : Calling := addC 72 f_s_OrderOf_c (noC)
theorem f_s_l2Is_Mt : CallOk Try.prog (f_s_l2Is_M) := addC_true f_s_OrderOf_cc (noC_true)
theorem f_s_l2Is_o : loopsOnce Try.f148 = true := by kernel_rfl
theorem f_s_l2Is_p {R : Type} (g0 : List Sc) (x1 : Int) (kR : Bool → Option R) : f_s_l2Is_k g0 x1 kR = (f_s_l2Is_k g0 x1 some).bind kR := by
  simp only [f_s_l2Is_k, brB, boB, someB]
theorem f_s_l2Is_e (g0 : List Sc) (x1 : Int) : runFn E0 f_s_l2Is_M H0 f_s_l2Is_F (asL (noL)) Try.f148 (f_s_l2Is_a g0 x1) (f_s_l2Is_i g0 x1) = f_s_l2Is_k g0 x1 (fun r => some (f_s_l2Is_en r)) := by kernel_rfl
theorem f_s_l2Is_ok (g0 : List Sc) (x1 : Int) (r : Bool) (h : f_s_l2Is g0 x1 = some r) : CS Try.prog 148 (f_s_l2Is_a g0 x1) (f_s_l2Is_i g0 x1) (f_s_l2Is_en r).1 (f_s_l2Is_en r).2 :=
  fn_true (Gk := fun k => f_s_l2Is_k g0 x1 k) (en := f_s_l2Is_en) Try.func148 E0ok f_s_l2Is_Mt (noL_true) f_s_l2Is_o (f_s_l2Is_e g0 x1) (f_s_l2Is_p g0 x1) h
def f_s_l2Is_c : CRow := fun args inh => match dec2 [.p .gr, .p (.int .i64)] [] args inh with
  | some ([.l g0, .i x1], []) => some ((f_s_l2Is g0 x1).isSome, (f_s_l2Is_en ((f_s_l2Is g0 x1).getD false)).1, (f_s_l2Is_en ((f_s_l2Is g0 x1).getD false)).2)
  | _ => none
theorem f_s_l2Is_cc : CTrue Try.prog 148 f_s_l2Is_c := by
  intro args inh rs out h
  unfold f_s_l2Is_c at h
  split at h
  · rename_i hd
    obtain ⟨h1, h2⟩ := dec2_enc hd
    rw [← h1, ← h2]
    exact rowC (f_s_l2Is_ok _ _) h
  · cases h

def f_s_l14Fine_F : Fi := { nv := 0, nc := 0, m := 0, vt := [], kl := [(0, ([0, 4, 5, 6, 8, 9, 10, 11, 12, 13, 14, 15, 16, 17, 18, 19, 20, 21, 22, 23, 24, 25, 26, 27, 28, 29, 30, 31, 32, 33, 34, 35, 36, 37, 38, 39, 40, 41, 42, 43, 44, 45, 46, 47, 48], [0, 4, 5, 6, 7, 8, 9, 10, 11, 12, 13, 14, 15, 16, 17, 18, 19, 20, 21, 22, 23, 24, 25, 26, 27, 28, 29, 30, 31, 32, 33, 34, 35, 36, 37, 38, 39, 40, 41, 42, 43, 44, 45, 46, 47, 48], [0, 1, 2, 3, 4, 5, 7, 8, 9, 10, 11, 12, 13, 14, 15, 16, 17, 18, 19, 20, 21, 22, 23, 24, 25, 26, 27, 28, 29, 30, 31, 32, 33, 34, 35, 36, 37, 38, 39, 40, 41, 42, 43, 44, 45, 46, 47, 48]))], sk := [], mvs := [], fz := [] }
def f_s_l14Fine_a (g0 : List Sc) (steps1 : List Sc) (sizes2 : List Sc) : List AV := enc [.p .gr, .p .sl, .p .sl] [.l g0, .l steps1, .l sizes2]
def f_s_l14Fine_i (g0 : List Sc) (steps1 : List Sc) (sizes2 : List Sc) : List AV := enc [] []
def f_s_l14Fine_en (r : Bool) : List AV × List AV := (enc [.p .boo] [.b r], enc [] [])
def f_s_l14Fine_M : Calling := addC 148 f_s_l2Is_c (addC 150 f_s_l1In_c (addC 179 f_s_IsGroup_c (noC)))
theorem f_s_l14Fine_Mt : CallOk Try.prog (f_s_l14Fine_M) := addC_true f_s_l2Is_cc (addC_true f_s_l1In_cc (addC_true f_s_IsGroup_cc (noC_true)))
theorem f_s_l14Fine_o : loopsOnce Try.f146 = true := by kernel_rfl
def f_s_l14Fine_h0 : List Sh := [.u, .p .sl, .p .sl, .p .el, .u, .u, .u, .p (.int .i64), .u, .u, .u, .u, .u, .u, .u, .u, .u, .u, .u, .u, .u, .u, .u, .u, .u, .u, .u, .u, .u, .u, .u, .u, .u, .u, .u, .u, .u, .u, .u, .u, .u, .u, .u, .u, .u, .u, .u, .u, .u]
def f_s_l14Fine_fr0 (steps1 : List Sc) (sizes2 : List Sc) (g3 : List Sc) (s : Int) : List AV := enc f_s_l14Fine_h0 [.l steps1, .l sizes2, .l g3, .i s]
def f_s_l14Fine_g0_1 : List Sh := [.u, .p .sl, .p .sl, .p .el, .u, .u, .u, .u, .u, .u, .u, .u, .u, .u, .u, .u, .u, .u, .u, .u, .u, .u, .u, .u, .u, .u, .u, .u, .u, .u, .u, .u, .u, .u, .u, .u, .u, .u, .u, .u, .u, .u, .u, .u, .u, .u, .u, .u, .u]
def f_s_l14Fine_x0_1 (steps1 : List Sc) (sizes2 : List Sc) (g3 : List Sc) (e : Unit) : X × List AV := (.out 0, enc f_s_l14Fine_g0_1 [.l steps1, .l sizes2, .l g3])
def f_s_l14Fine_g0_2 : List Sh := [.u, .u, .u, .u, .u, .u, .p .boo, .u, .u, .u, .u, .u, .u, .u, .u, .u, .u, .u, .u, .u, .u, .u, .u, .u, .u, .u, .u, .u, .u, .u, .u, .u, .u, .u, .u, .u, .u, .u, .u, .u, .u, .u, .u, .u, .u, .u, .u, .u, .u]
def f_s_l14Fine_x0_2 (steps1 : List Sc) (sizes2 : List Sc) (g3 : List Sc) (e : Unit) : X × List AV := (.ret, enc f_s_l14Fine_g0_2 [.b false])
theorem f_s_l14Fine_p0 {R : Type} (steps1 : List Sc) (sizes2 : List Sc) (g3 : List Sc) (s : Int) (kN : Int → Option R) (kA : Unit → Option R) (kB : Unit → Option R) : f_s_l14Fine_k0 steps1 sizes2 g3 s kN kA kB = (f_s_l14Fine_r0 steps1 sizes2 g3 s).bind (Ro.el kN kA kB) := by
  simp only [f_s_l14Fine_k0, f_s_l14Fine_r0, brB, boB, someB, noneB, Ro.el]
theorem f_s_l14Fine_e0 (steps1 : List Sc) (sizes2 : List Sc) (g3 : List Sc) (s : Int) : EC E0 f_s_l14Fine_M H0 f_s_l14Fine_F (asL (noL)) 0 (bodyOf Try.f146 0) (f_s_l14Fine_fr0 steps1 sizes2 g3 s) (done (klOf f_s_l14Fine_F 0)) = f_s_l14Fine_k0 steps1 sizes2 g3 s (fun s => some (.norm, f_s_l14Fine_fr0 steps1 sizes2 g3 s)) (fun e => some (f_s_l14Fine_x0_1 steps1 sizes2 g3 e)) (fun e => some (f_s_l14Fine_x0_2 steps1 sizes2 g3 e)) := by kernel_rfl
theorem f_s_l14Fine_l0 (steps1 : List Sc) (sizes2 : List Sc) (g3 : List Sc) : ∀ s r, loopL (f_s_l14Fine_r0 steps1 sizes2 g3) s = some r → LS Try.prog f_s_l14Fine_F (bodyOf Try.f146 0) (f_s_l14Fine_fr0 steps1 sizes2 g3 s) (enX (f_s_l14Fine_x0_1 steps1 sizes2 g3) (f_s_l14Fine_x0_2 steps1 sizes2 g3) r) :=
  loop_true E0ok f_s_l14Fine_Mt (noL_true) f_s_l14Fine_o (fun _ h => by cases h) (fun _ h => by cases h) (fun s => (f_s_l14Fine_e0 steps1 sizes2 g3 s).trans (f_s_l14Fine_p0 steps1 sizes2 g3 s _ _ (fun e => some (f_s_l14Fine_x0_2 steps1 sizes2 g3 e))))
def f_s_l14Fine_t0 (σ : List AV) : Option (Bool × Bool × (X × List AV) × (X × List AV)) := match dec f_s_l14Fine_h0 σ with
  | some [.l steps1, .l sizes2, .l g3, .i i7] => some ((loopL (f_s_l14Fine_r0 steps1 sizes2 g3) i7).isSome, isOne (loopL (f_s_l14Fine_r0 steps1 sizes2 g3) i7), f_s_l14Fine_x0_1 steps1 sizes2 g3 (getOne () (loopL (f_s_l14Fine_r0 steps1 sizes2 g3) i7)), f_s_l14Fine_x0_2 steps1 sizes2 g3 (getTwo () (loopL (f_s_l14Fine_r0 steps1 sizes2 g3) i7)))
  | _ => none
theorem f_s_l14Fine_tt0 : TTrue Try.prog f_s_l14Fine_F Try.f146 0 (f_s_l14Fine_t0) := by
  intro σ p r r' h
  unfold f_s_l14Fine_t0 at h
  split at h
  · rename_i hd
    rw [← dec_enc hd]
    exact row2 (f_s_l14Fine_l0 _ _ _ _) h
  · cases h
theorem f_s_l14Fine_p {R : Type} (g0 : List Sc) (steps1 : List Sc) (sizes2 : List Sc) (kR : Bool → Option R) : f_s_l14Fine_k g0 steps1 sizes2 kR = (f_s_l14Fine_k g0 steps1 sizes2 some).bind kR := by
  simp only [f_s_l14Fine_k, brB, boB, blB, someB]
theorem f_s_l14Fine_e (g0 : List Sc) (steps1 : List Sc) (sizes2 : List Sc) : runFn E0 f_s_l14Fine_M H0 f_s_l14Fine_F (asL (addL 0 (f_s_l14Fine_t0) (noL))) Try.f146 (f_s_l14Fine_a g0 steps1 sizes2) (f_s_l14Fine_i g0 steps1 sizes2) = f_s_l14Fine_k g0 steps1 sizes2 (fun r => some (f_s_l14Fine_en r)) := by kernel_rfl
theorem f_s_l14Fine_ok (g0 : List Sc) (steps1 : List Sc) (sizes2 : List Sc) (r : Bool) (h : f_s_l14Fine g0 steps1 sizes2 = some r) : CS Try.prog 146 (f_s_l14Fine_a g0 steps1 sizes2) (f_s_l14Fine_i g0 steps1 sizes2) (f_s_l14Fine_en r).1 (f_s_l14Fine_en r).2 :=
  fn_true (Gk := fun k => f_s_l14Fine_k g0 steps1 sizes2 k) (en := f_s_l14Fine_en) Try.func146 E0ok f_s_l14Fine_Mt (addL_true (f_s_l14Fine_tt0) (noL_true)) f_s_l14Fine_o (f_s_l14Fine_e g0 steps1 sizes2) (f_s_l14Fine_p g0 steps1 sizes2) h
def f_s_l14Fine_c : CRow := fun args inh => match dec2 [.p .gr, .p .sl, .p .sl] [] args inh with
  | some ([.l g0, .l steps1, .l sizes2], []) => some ((f_s_l14Fine g0 steps1 sizes2).isSome, (f_s_l14Fine_en ((f_s_l14Fine g0 steps1 sizes2).getD false)).1, (f_s_l14Fine_en ((f_s_l14Fine g0 steps1 sizes2).getD false)).2)
  | _ => none
theorem f_s_l14Fine_cc : CTrue Try.prog 146 f_s_l14Fine_c := by
  intro args inh rs out h
  unfold f_s_l14Fine_c at h
  split at h
  · rename_i hd
    obtain ⟨h1, h2⟩ := dec2_enc hd
    rw [← h1, ← h2]
    exact rowC (f_s_l14Fine_ok _ _ _) h
  · cases h

def f_s_l2Add_F : Fi := { nv := 0, nc := 0, m := 0, vt := [], kl := [(0, ([0, 4, 5, 6, 10, 11, 12, 13, 14, 15, 16, 17, 18, 19, 20, 21, 22, 23, 24, 25, 26, 27, 28, 29, 30, 31, 32, 33, 34, 35, 36, 37, 38, 39, 40, 41, 42, 43, 44, 45], [0, 1, 2, 3, 4, 5, 6, 8, 9, 10, 11, 12, 13, 14, 15, 16, 17, 18, 19, 20, 21, 22, 23, 24, 25, 26, 27, 28, 29, 30, 31, 32, 33, 34, 35, 36, 37, 38, 39, 40, 41, 42, 43, 44, 45], [0, 1, 2, 3, 4, 5, 7, 8, 9, 10, 11, 12, 13, 14, 15, 16, 17, 18, 19, 20, 21, 22, 23, 24, 25, 26, 27, 28, 29, 30, 31, 32, 33, 34, 35, 36, 37, 38, 39, 40, 41, 42, 43, 44, 45]))], sk := [], mvs := [], fz := [] }
def f_s_l2Add_a (g0 : List Sc) (x1 : Int) (y2 : Int) : List AV := enc [.p .gr, .p (.int .i64), .p (.int .i64)] [.l g0, .i x1, .i y2]
def f_s_l2Add_i (g0 : List Sc) (x1 : Int) (y2 : Int) : List AV := enc [] []
def f_s_l2Add_en (r : Int) : List AV × List AV := (enc [.p (.int .i64)] [.i r], enc [] [])
def f_s_l2Add_M : Calling := noC
theorem f_s_l2Add_Mt : CallOk Try.prog (f_s_l2Add_M) := noC_true
theorem f_s_l2Add_o : loopsOnce Try.f156 = true := by kernel_rfl
def f_s_l2Add_h0 : List Sh := [.u, .p (.int .i64), .p (.int .i64), .p .el, .u, .u, .u, .p (.int .i64), .p (.int .i64), .p (.int .i64), .u, .u, .u, .u, .u, .u, .u, .u, .u, .u, .u, .u, .u, .u, .u, .u, .u, .u, .u, .u, .u, .u, .u, .u, .u, .u, .u, .u, .u, .u, .u, .u, .u, .u, .u, .u]
def f_s_l2Add_fr0 (g3 : List Sc) (s : Int × Int × Int × Int × Int) : List AV := enc f_s_l2Add_h0 [.i s.1, .i s.2.1, .l g3, .i s.2.2.1, .i s.2.2.2.1, .i s.2.2.2.2]
def f_s_l2Add_g0_1 : List Sh := [.u, .u, .u, .u, .u, .u, .u, .p (.int .i64), .u, .u, .u, .u, .u, .u, .u, .u, .u, .u, .u, .u, .u, .u, .u, .u, .u, .u, .u, .u, .u, .u, .u, .u, .u, .u, .u, .u, .u, .u, .u, .u, .u, .u, .u, .u, .u, .u]
def f_s_l2Add_x0_1 (g3 : List Sc) (e : Int) : X × List AV := (.out 0, enc f_s_l2Add_g0_1 [.i e])
def f_s_l2Add_x0_2 (g3 : List Sc) (_e : Unit) : X × List AV := (.ret, [])
theorem f_s_l2Add_p0 {R : Type} (g3 : List Sc) (s : Int × Int × Int × Int × Int) (kN : Int × Int × Int × Int × Int → Option R) (kA : Int → Option R) (kB : Unit → Option R) : f_s_l2Add_k0 g3 s.1 s.2.1 s.2.2.1 s.2.2.2.1 s.2.2.2.2 kN kA = (f_s_l2Add_r0 g3 s).bind (Ro.el kN kA kB) := by
  simp only [f_s_l2Add_k0, f_s_l2Add_r0, brB, someB, noneB, Ro.el]
theorem f_s_l2Add_e0 (g3 : List Sc) (s : Int × Int × Int × Int × Int) : EC E0 f_s_l2Add_M H0 f_s_l2Add_F (asL (noL)) 0 (bodyOf Try.f156 0) (f_s_l2Add_fr0 g3 s) (done (klOf f_s_l2Add_F 0)) = f_s_l2Add_k0 g3 s.1 s.2.1 s.2.2.1 s.2.2.2.1 s.2.2.2.2 (fun s => some (.norm, f_s_l2Add_fr0 g3 s)) (fun e => some (f_s_l2Add_x0_1 g3 e)) := by kernel_rfl
theorem f_s_l2Add_l0 (g3 : List Sc) : ∀ s r, loopL (f_s_l2Add_r0 g3) s = some r → LS Try.prog f_s_l2Add_F (bodyOf Try.f156 0) (f_s_l2Add_fr0 g3 s) (enX (f_s_l2Add_x0_1 g3) (f_s_l2Add_x0_2 g3) r) :=
  loop_true E0ok f_s_l2Add_Mt (noL_true) f_s_l2Add_o (fun _ h => by cases h) (fun _ h => by cases h) (fun s => (f_s_l2Add_e0 g3 s).trans (f_s_l2Add_p0 g3 s _ _ (fun e => some (f_s_l2Add_x0_2 g3 e))))
def f_s_l2Add_t0 (σ : List AV) : Option (Bool × Bool × (X × List AV) × (X × List AV)) := match dec f_s_l2Add_h0 σ with
  | some [.i x1, .i y2, .l g3, .i z7, .i step8, .i i9] => some (isOne (loopL (f_s_l2Add_r0 g3) (x1, y2, z7, step8, i9)), true, f_s_l2Add_x0_1 g3 (getOne 0 (loopL (f_s_l2Add_r0 g3) (x1, y2, z7, step8, i9))), (.ret, []))
  | _ => none
theorem f_s_l2Add_tt0 : TTrue Try.prog f_s_l2Add_F Try.f156 0 (f_s_l2Add_t0) := by
  intro σ p r r' h
  unfold f_s_l2Add_t0 at h
  split at h
  · rename_i hd
    rw [← dec_enc hd]
    exact row1 (f_s_l2Add_l0 _ _) h
  · cases h
theorem f_s_l2Add_p {R : Type} (g0 : List Sc) (x1 : Int) (y2 : Int) (kR : Int → Option R) : f_s_l2Add_k g0 x1 y2 kR = (f_s_l2Add_k g0 x1 y2 some).bind kR := by
  simp only [f_s_l2Add_k, bl1B, someB]
theorem f_s_l2Add_e (g0 : List Sc) (x1 : Int) (y2 : Int) : runFn E0 f_s_l2Add_M H0 f_s_l2Add_F (asL (addL 0 (f_s_l2Add_t0) (noL))) Try.f156 (f_s_l2Add_a g0 x1 y2) (f_s_l2Add_i g0 x1 y2) = f_s_l2Add_k g0 x1 y2 (fun r => some (f_s_l2Add_en r)) := by kernel_rfl
theorem f_s_l2Add_ok (g0 : List Sc) (x1 : Int) (y2 : Int) (r : Int) (h : f_s_l2Add g0 x1 y2 = some r) : CS Try.prog 156 (f_s_l2Add_a g0 x1 y2) (f_s_l2Add_i g0 x1 y2) (f_s_l2Add_en r).1 (f_s_l2Add_en r).2 :=
  fn_true (Gk := fun k => f_s_l2Add_k g0 x1 y2 k) (en := f_s_l2Add_en) Try.func156 E0ok f_s_l2Add_Mt (addL_true (f_s_l2Add_tt0) (noL_true)) f_s_l2Add_o (f_s_l2Add_e g0 x1 y2) (f_s_l2Add_p g0 x1 y2) h
def f_s_l2Add_c : CRow := fun args inh => match dec2 [.p .gr, .p (.int .i64), .p (.int .i64)] [] args inh with
  | some ([.l g0, .i x1, .i y2], []) => some ((f_s_l2Add g0 x1 y2).isSome, (f_s_l2Add_en ((f_s_l2Add g0 x1 y2).getD 0)).1, (f_s_l2Add_en ((f_s_l2Add g0 x1 y2).getD 0)).2)
  | _ => none
theorem f_s_l2Add_cc : CTrue Try.prog 156 f_s_l2Add_c := by
  intro args inh rs out h
  unfold f_s_l2Add_c at h
  split at h
  · rename_i hd
    obtain ⟨h1, h2⟩ := dec2_enc hd
    rw [← h1, ← h2]
    exact rowC (f_s_l2Add_ok _ _ _) h
  · cases h

def f_s_l10Progression_F : Fi := { nv := 0, nc := 0, m := 0, vt := [], kl := [(0, ([0, 1, 5, 6, 7, 8, 12, 13, 14, 15, 16, 17, 18, 19, 20, 21, 22, 23, 24, 25, 26], [0, 1, 2, 3, 4, 5, 6, 7, 8, 10, 11, 12, 13, 14, 15, 16, 17, 18, 19, 20, 21, 22, 23, 24, 25, 26], [0, 1, 2, 3, 4, 5, 6, 7, 9, 10, 11, 12, 13, 14, 15, 16, 17, 18, 19, 20, 21, 22, 23, 24, 25, 26]))], sk := [], mvs := [], fz := [] }
def f_s_l10Progression_a (g0 : List Sc) (start1 : Int) (step2 : Int) (n3 : Int) : List AV := enc [.p .gr, .p (.int .i64), .p (.int .i64), .p (.int .i64)] [.l g0, .i start1, .i step2, .i n3]
def f_s_l10Progression_i (g0 : List Sc) (start1 : Int) (step2 : Int) (n3 : Int) : List AV := enc [] []
def f_s_l10Progression_en (r : Int) : List AV × List AV := (enc [.p (.int .i64)] [.i r], enc [] [])
def f_s_l10Progression_M : Calling := addC 156 f_s_l2Add_c (noC)
theorem f_s_l10Progression_Mt : CallOk Try.prog (f_s_l10Progression_M) := addC_true f_s_l2Add_cc (noC_true)
theorem f_s_l10Progression_o : loopsOnce Try.f140 = true := by kernel_rfl
def f_s_l10Progression_h0 : List Sh := [.u, .u, .p (.int .i64), .p (.int .i64), .p .el, .u, .u, .u, .u, .p (.int .i64), .p (.int .i64), .p (.int .i64), .u, .u, .u, .u, .u, .u, .u, .u, .u, .u, .u, .u, .u, .u, .u]
def f_s_l10Progression_fr0 (step2 : Int) (n3 : Int) (g4 : List Sc) (s : Int × Int × Int) : List AV := enc f_s_l10Progression_h0 [.i step2, .i n3, .l g4, .i s.1, .i s.2.1, .i s.2.2]
def f_s_l10Progression_g0_1 : List Sh := [.u, .u, .u, .u, .u, .u, .u, .u, .u, .p (.int .i64), .u, .u, .u, .u, .u, .u, .u, .u, .u, .u, .u, .u, .u, .u, .u, .u, .u]
def f_s_l10Progression_x0_1 (step2 : Int) (n3 : Int) (g4 : List Sc) (e : Int) : X × List AV := (.out 0, enc f_s_l10Progression_g0_1 [.i e])
def f_s_l10Progression_x0_2 (step2 : Int) (n3 : Int) (g4 : List Sc) (_e : Unit) : X × List AV := (.ret, [])
theorem f_s_l10Progression_p0 {R : Type} (step2 : Int) (n3 : Int) (g4 : List Sc) (s : Int × Int × Int) (kN : Int × Int × Int → Option R) (kA : Int → Option R) (kB : Unit → Option R) : f_s_l10Progression_k0 step2 n3 g4 s.1 s.2.1 s.2.2 kN kA = (f_s_l10Progression_r0 step2 n3 g4 s).bind (Ro.el kN kA kB) := by
  simp only [f_s_l10Progression_k0, f_s_l10Progression_r0, brB, boB, someB, noneB, Ro.el]
theorem f_s_l10Progression_e0 (step2 : Int) (n3 : Int) (g4 : List Sc) (s : Int × Int × Int) : EC E0 f_s_l10Progression_M H0 f_s_l10Progression_F (asL (noL)) 0 (bodyOf Try.f140 0) (f_s_l10Progression_fr0 step2 n3 g4 s) (done (klOf f_s_l10Progression_F 0)) = f_s_l10Progression_k0 step2 n3 g4 s.1 s.2.1 s.2.2 (fun s => some (.norm, f_s_l10Progression_fr0 step2 n3 g4 s)) (fun e => some (f_s_l10Progression_x0_1 step2 n3 g4 e)) := by kernel_rfl
theorem f_s_l10Progression_l0 (step2 : Int) (n3 : Int) (g4 : List Sc) : ∀ s r, loopL (f_s_l10Progression_r0 step2 n3 g4) s = some r → LS Try.prog f_s_l10Progression_F (bodyOf Try.f140 0) (f_s_l10Progression_fr0 step2 n3 g4 s) (enX (f_s_l10Progression_x0_1 step2 n3 g4) (f_s_l10Progression_x0_2 step2 n3 g4) r) :=
  loop_true E0ok f_s_l10Progression_Mt (noL_true) f_s_l10Progression_o (fun _ h => by cases h) (fun _ h => by cases h) (fun s => (f_s_l10Progression_e0 step2 n3 g4 s).trans (f_s_l10Progression_p0 step2 n3 g4 s _ _ (fun e => some (f_s_l10Progression_x0_2 step2 n3 g4 e))))
def f_s_l10Progression_t0 (σ : List AV) : Option (Bool × Bool × (X × List AV) × (X × List AV)) := match dec f_s_l10Progression_h0 σ with
  | some [.i step2, .i n3, .l g4, .i out9, .i x10, .i i11] => some (isOne (loopL (f_s_l10Progression_r0 step2 n3 g4) (out9, x10, i11)), true, f_s_l10Progression_x0_1 step2 n3 g4 (getOne 0 (loopL (f_s_l10Progression_r0 step2 n3 g4) (out9, x10, i11))), (.ret, []))
  | _ => none
theorem f_s_l10Progression_tt0 : TTrue Try.prog f_s_l10Progression_F Try.f140 0 (f_s_l10Progression_t0) := by
  intro σ p r r' h
  unfold f_s_l10Progression_t0 at h
  split at h
  · rename_i hd
    rw [← dec_enc hd]
    exact row1 (f_s_l10Progression_l0 _ _ _ _) h
  · cases h
theorem f_s_l10Progression_p {R : Type} (g0 : List Sc) (start1 : Int) (step2 : Int) (n3 : Int) (kR : Int → Option R) : f_s_l10Progression_k g0 start1 step2 n3 kR = (f_s_l10Progression_k g0 start1 step2 n3 some).bind kR := by
  simp only [f_s_l10Progression_k, bl1B, someB]
theorem f_s_l10Progression_e (g0 : List Sc) (start1 : Int) (step2 : Int) (n3 : Int) : runFn E0 f_s_l10Progression_M H0 f_s_l10Progression_F (asL (addL 0 (f_s_l10Progression_t0) (noL))) Try.f140 (f_s_l10Progression_a g0 start1 step2 n3) (f_s_l10Progression_i g0 start1 step2 n3) = f_s_l10Progression_k g0 start1 step2 n3 (fun r => some (f_s_l10Progression_en r)) := by kernel_rfl
theorem f_s_l10Progression_ok (g0 : List Sc) (start1 : Int) (step2 : Int) (n3 : Int) (r : Int) (h : f_s_l10Progression g0 start1 step2 n3 = some r) : CS Try.prog 140 (f_s_l10Progression_a g0 start1 step2 n3) (f_s_l10Progression_i g0 start1 step2 n3) (f_s_l10Progression_en r).1 (f_s_l10Progression_en r).2 :=
  fn_true (Gk := fun k => f_s_l10Progression_k g0 start1 step2 n3 k) (en := f_s_l10Progression_en) Try.func140 E0ok f_s_l10Progression_Mt (addL_true (f_s_l10Progression_tt0) (noL_true)) f_s_l10Progression_o (f_s_l10Progression_e g0 start1 step2 n3) (f_s_l10Progression_p g0 start1 step2 n3) h
def f_s_l10Progression_c : CRow := fun args inh => match dec2 [.p .gr, .p (.int .i64), .p (.int .i64), .p (.int .i64)] [] args inh with
  | some ([.l g0, .i start1, .i step2, .i n3], []) => some ((f_s_l10Progression g0 start1 step2 n3).isSome, (f_s_l10Progression_en ((f_s_l10Progression g0 start1 step2 n3).getD 0)).1, (f_s_l10Progression_en ((f_s_l10Progression g0 start1 step2 n3).getD 0)).2)
  | _ => none
theorem f_s_l10Progression_cc : CTrue Try.prog 140 f_s_l10Progression_c := by
  intro args inh rs out h
  unfold f_s_l10Progression_c at h
  split at h
  · rename_i hd
    obtain ⟨h1, h2⟩ := dec2_enc hd
    rw [← h1, ← h2]
    exact rowC (f_s_l10Progression_ok _ _ _ _) h
  · cases h

def f_s_l3List_F : Fi := { nv := 0, nc := 0, m := 0, vt := [], kl := [(0, ([0, 1, 2, 6, 7, 8, 9, 10, 11, 12, 13, 14, 15, 16, 17, 18, 19, 20, 21], [0, 1, 2, 4, 5, 6, 7, 8, 9, 10, 11, 12, 13, 14, 15, 16, 17, 18, 19, 20, 21], [0, 1, 3, 4, 5, 6, 7, 8, 9, 10, 11, 12, 13, 14, 15, 16, 17, 18, 19, 20, 21]))], sk := [], mvs := [], fz := [] }
def f_s_l3List_a (a0 : Int) : List AV := enc [.p (.int .i64)] [.i a0]
def f_s_l3List_i (a0 : Int) : List AV := enc [] []
def f_s_l3List_en (r : List Sc) : List AV × List AV := (enc [.p (.al 0)] [], enc [.own 3] [.l r])
def f_s_l3List_M : Calling := noC
theorem f_s_l3List_Mt : CallOk Try.prog (f_s_l3List_M) := noC_true
theorem f_s_l3List_o : loopsOnce Try.f136 = true := by kernel_rfl
def f_s_l3List_h0 : List Sh := [.u, .u, .u, .own 3, .p (.int .i64), .p (.int .i64), .u, .u, .u, .u, .u, .u, .u, .u, .u, .u, .u, .u, .u, .u, .u, .u]
def f_s_l3List_fr0 (s : List Sc × Int × Int) : List AV := enc f_s_l3List_h0 [.l s.1, .i s.2.1, .i s.2.2]
def f_s_l3List_g0_1 : List Sh := [.u, .u, .u, .own 3, .u, .u, .u, .u, .u, .u, .u, .u, .u, .u, .u, .u, .u, .u, .u, .u, .u, .u]
def f_s_l3List_x0_1 (e : List Sc) : X × List AV := (.out 0, enc f_s_l3List_g0_1 [.l e])
def f_s_l3List_x0_2 (_e : Unit) : X × List AV := (.ret, [])
theorem f_s_l3List_p0 {R : Type} (s : List Sc × Int × Int) (kN : List Sc × Int × Int → Option R) (kA : List Sc → Option R) (kB : Unit → Option R) : f_s_l3List_k0 s.1 s.2.1 s.2.2 kN kA = (f_s_l3List_r0 s).bind (Ro.el kN kA kB) := by
  simp only [f_s_l3List_k0, f_s_l3List_r0, brB, someB, noneB, Ro.el]
theorem f_s_l3List_e0 (s : List Sc × Int × Int) : EC E0 f_s_l3List_M H0 f_s_l3List_F (asL (noL)) 0 (bodyOf Try.f136 0) (f_s_l3List_fr0 s) (done (klOf f_s_l3List_F 0)) = f_s_l3List_k0 s.1 s.2.1 s.2.2 (fun s => some (.norm, f_s_l3List_fr0 s)) (fun e => some (f_s_l3List_x0_1 e)) := by kernel_rfl
theorem f_s_l3List_l0 : ∀ s r, loopL (f_s_l3List_r0) s = some r → LS Try.prog f_s_l3List_F (bodyOf Try.f136 0) (f_s_l3List_fr0 s) (enX (f_s_l3List_x0_1) (f_s_l3List_x0_2) r) :=
  loop_true E0ok f_s_l3List_Mt (noL_true) f_s_l3List_o (fun _ h => by cases h) (fun _ h => by cases h) (fun s => (f_s_l3List_e0 s).trans (f_s_l3List_p0 s _ _ (fun e => some (f_s_l3List_x0_2 e))))
def f_s_l3List_t0 (σ : List AV) : Option (Bool × Bool × (X × List AV) × (X × List AV)) := match dec f_s_l3List_h0 σ with
  | some [.l out3, .i i4, .i x5] => some (isOne (loopL (f_s_l3List_r0) (out3, i4, x5)), true, f_s_l3List_x0_1 (getOne [] (loopL (f_s_l3List_r0) (out3, i4, x5))), (.ret, []))
  | _ => none
theorem f_s_l3List_tt0 : TTrue Try.prog f_s_l3List_F Try.f136 0 (f_s_l3List_t0) := by
  intro σ p r r' h
  unfold f_s_l3List_t0 at h
  split at h
  · rename_i hd
    rw [← dec_enc hd]
    exact row1 (f_s_l3List_l0 _) h
  · cases h
theorem f_s_l3List_p {R : Type} (a0 : Int) (kR : List Sc → Option R) : f_s_l3List_k a0 kR = (f_s_l3List_k a0 some).bind kR := by
  simp only [f_s_l3List_k, bl1B, someB]
theorem f_s_l3List_e (a0 : Int) : runFn E0 f_s_l3List_M H0 f_s_l3List_F (asL (addL 0 (f_s_l3List_t0) (noL))) Try.f136 (f_s_l3List_a a0) (f_s_l3List_i a0) = f_s_l3List_k a0 (fun r => some (f_s_l3List_en r)) := by kernel_rfl
theorem f_s_l3List_ok (a0 : Int) (r : List Sc) (h : f_s_l3List a0 = some r) : CS Try.prog 136 (f_s_l3List_a a0) (f_s_l3List_i a0) (f_s_l3List_en r).1 (f_s_l3List_en r).2 :=
  fn_true (Gk := fun k => f_s_l3List_k a0 k) (en := f_s_l3List_en) Try.func136 E0ok f_s_l3List_Mt (addL_true (f_s_l3List_tt0) (noL_true)) f_s_l3List_o (f_s_l3List_e a0) (f_s_l3List_p a0) h
def f_s_l3List_c : CRow := fun args inh => match dec2 [.p (.int .i64)] [] args inh with
  | some ([.i a0], []) => some ((f_s_l3List a0).isSome, (f_s_l3List_en ((f_s_l3List a0).getD [])).1, (f_s_l3List_en ((f_s_l3List a0).getD [])).2)
  | _ => none
theorem f_s_l3List_cc : CTrue Try.prog 136 f_s_l3List_c := by
  intro args inh rs out h
  unfold f_s_l3List_c at h
  split at h
  · rename_i hd
    obtain ⟨h1, h2⟩ := dec2_enc hd
    rw [← h1, ← h2]
    exact rowC (f_s_l3List_ok _) h
  · cases h

def f_s_l3Shift_F : Fi := { nv := 0, nc := 0, m := 0, vt := [], kl := [(0, ([0, 1, 4, 5, 6, 10, 11, 12, 13, 14, 15, 16, 17, 18, 19, 20, 21, 22, 23, 24, 25, 26, 27, 28], [0, 1, 2, 3, 4, 5, 6, 8, 9, 10, 11, 12, 13, 14, 15, 16, 17, 18, 19, 20, 21, 22, 23, 24, 25, 26, 27, 28], [0, 1, 2, 3, 4, 5, 7, 8, 9, 10, 11, 12, 13, 14, 15, 16, 17, 18, 19, 20, 21, 22, 23, 24, 25, 26, 27, 28]))], sk := [], mvs := [], fz := [] }
def f_s_l3Shift_a (g0 : List Sc) (a1 : Int) (x2 : Int) : List AV := enc [.p .gr, .p (.int .i64), .p (.int .i64)] [.l g0, .i a1, .i x2]
def f_s_l3Shift_i (g0 : List Sc) (a1 : Int) (x2 : Int) : List AV := enc [] []
def f_s_l3Shift_en (r : Int) : List AV × List AV := (enc [.p (.int .i64)] [.i r], enc [] [])
def f_s_l3Shift_M : Calling := addC 136 f_s_l3List_c (addC 156 f_s_l2Add_c (noC))
theorem f_s_l3Shift_Mt : CallOk Try.prog (f_s_l3Shift_M) := addC_true f_s_l3List_cc (addC_true f_s_l2Add_cc (noC_true))
theorem f_s_l3Shift_o : loopsOnce Try.f141 = true := by kernel_rfl
def f_s_l3Shift_h0 : List Sh := [.u, .u, .p (.int .i64), .p .el, .u, .u, .u, .p (.int .i64), .own 3, .p (.int .i64), .u, .u, .u, .u, .u, .u, .u, .u, .u, .u, .u, .u, .u, .u, .u, .u, .u, .u, .u]
def f_s_l3Shift_fr0 (x2 : Int) (g3 : List Sc) (s : Int × List Sc × Int) : List AV := enc f_s_l3Shift_h0 [.i x2, .l g3, .i s.1, .l s.2.1, .i s.2.2]
def f_s_l3Shift_g0_1 : List Sh := [.u, .u, .u, .u, .u, .u, .u, .p (.int .i64), .u, .u, .u, .u, .u, .u, .u, .u, .u, .u, .u, .u, .u, .u, .u, .u, .u, .u, .u, .u, .u]
def f_s_l3Shift_x0_1 (x2 : Int) (g3 : List Sc) (e : Int) : X × List AV := (.out 0, enc f_s_l3Shift_g0_1 [.i e])
def f_s_l3Shift_x0_2 (x2 : Int) (g3 : List Sc) (_e : Unit) : X × List AV := (.ret, [])
theorem f_s_l3Shift_p0 {R : Type} (x2 : Int) (g3 : List Sc) (s : Int × List Sc × Int) (kN : Int × List Sc × Int → Option R) (kA : Int → Option R) (kB : Unit → Option R) : f_s_l3Shift_k0 x2 g3 s.1 s.2.1 s.2.2 kN kA = (f_s_l3Shift_r0 x2 g3 s).bind (Ro.el kN kA kB) := by
  simp only [f_s_l3Shift_k0, f_s_l3Shift_r0, brB, boB, someB, noneB, Ro.el]
theorem f_s_l3Shift_e0 (x2 : Int) (g3 : List Sc) (s : Int × List Sc × Int) : EC E0 f_s_l3Shift_M H0 f_s_l3Shift_F (asL (noL)) 0 (bodyOf Try.f141 0) (f_s_l3Shift_fr0 x2 g3 s) (done (klOf f_s_l3Shift_F 0)) = f_s_l3Shift_k0 x2 g3 s.1 s.2.1 s.2.2 (fun s => some (.norm, f_s_l3Shift_fr0 x2 g3 s)) (fun e => some (f_s_l3Shift_x0_1 x2 g3 e)) := by kernel_rfl
theorem f_s_l3Shift_l0 (x2 : Int) (g3 : List Sc) : ∀ s r, loopL (f_s_l3Shift_r0 x2 g3) s = some r → LS Try.prog f_s_l3Shift_F (bodyOf Try.f141 0) (f_s_l3Shift_fr0 x2 g3 s) (enX (f_s_l3Shift_x0_1 x2 g3) (f_s_l3Shift_x0_2 x2 g3) r) :=
  loop_true E0ok f_s_l3Shift_Mt (noL_true) f_s_l3Shift_o (fun _ h => by cases h) (fun _ h => by cases h) (fun s => (f_s_l3Shift_e0 x2 g3 s).trans (f_s_l3Shift_p0 x2 g3 s _ _ (fun e => some (f_s_l3Shift_x0_2 x2 g3 e))))
def f_s_l3Shift_t0 (σ : List AV) : Option (Bool × Bool × (X × List AV) × (X × List AV)) := match dec f_s_l3Shift_h0 σ with
  | some [.i x2, .l g3, .i out7, .l l8, .i i9] => some (isOne (loopL (f_s_l3Shift_r0 x2 g3) (out7, l8, i9)), true, f_s_l3Shift_x0_1 x2 g3 (getOne 0 (loopL (f_s_l3Shift_r0 x2 g3) (out7, l8, i9))), (.ret, []))
  | _ => none
theorem f_s_l3Shift_tt0 : TTrue Try.prog f_s_l3Shift_F Try.f141 0 (f_s_l3Shift_t0) := by
  intro σ p r r' h
  unfold f_s_l3Shift_t0 at h
  split at h
  · rename_i hd
    rw [← dec_enc hd]
    exact row1 (f_s_l3Shift_l0 _ _ _) h
  · cases h
theorem f_s_l3Shift_p {R : Type} (g0 : List Sc) (a1 : Int) (x2 : Int) (kR : Int → Option R) : f_s_l3Shift_k g0 a1 x2 kR = (f_s_l3Shift_k g0 a1 x2 some).bind kR := by
  simp only [f_s_l3Shift_k, boB, bl1B, someB]
theorem f_s_l3Shift_e (g0 : List Sc) (a1 : Int) (x2 : Int) : runFn E0 f_s_l3Shift_M H0 f_s_l3Shift_F (asL (addL 0 (f_s_l3Shift_t0) (noL))) Try.f141 (f_s_l3Shift_a g0 a1 x2) (f_s_l3Shift_i g0 a1 x2) = f_s_l3Shift_k g0 a1 x2 (fun r => some (f_s_l3Shift_en r)) := by kernel_rfl
theorem f_s_l3Shift_ok (g0 : List Sc) (a1 : Int) (x2 : Int) (r : Int) (h : f_s_l3Shift g0 a1 x2 = some r) : CS Try.prog 141 (f_s_l3Shift_a g0 a1 x2) (f_s_l3Shift_i g0 a1 x2) (f_s_l3Shift_en r).1 (f_s_l3Shift_en r).2 :=
  fn_true (Gk := fun k => f_s_l3Shift_k g0 a1 x2 k) (en := f_s_l3Shift_en) Try.func141 E0ok f_s_l3Shift_Mt (addL_true (f_s_l3Shift_tt0) (noL_true)) f_s_l3Shift_o (f_s_l3Shift_e g0 a1 x2) (f_s_l3Shift_p g0 a1 x2) h
def f_s_l3Shift_c : CRow := fun args inh => match dec2 [.p .gr, .p (.int .i64), .p (.int .i64)] [] args inh with
  | some ([.l g0, .i a1, .i x2], []) => some ((f_s_l3Shift g0 a1 x2).isSome, (f_s_l3Shift_en ((f_s_l3Shift g0 a1 x2).getD 0)).1, (f_s_l3Shift_en ((f_s_l3Shift g0 a1 x2).getD 0)).2)
  | _ => none
theorem f_s_l3Shift_cc : CTrue Try.prog 141 f_s_l3Shift_c := by
  intro args inh rs out h
  unfold f_s_l3Shift_c at h
  split at h
  · rename_i hd
    obtain ⟨h1, h2⟩ := dec2_enc hd
    rw [← h1, ← h2]
    exact rowC (f_s_l3Shift_ok _ _ _) h
  · cases h

def f_s_l4Sum_F : Fi := { nv := 0, nc := 0, m := 0, vt := [], kl := [(0, ([0, 2, 4, 5, 6, 10, 11, 12, 13, 14, 15, 16, 17, 18, 19, 20, 21, 22, 23, 24, 25, 26, 27], [0, 1, 2, 3, 4, 5, 6, 8, 9, 10, 11, 12, 13, 14, 15, 16, 17, 18, 19, 20, 21, 22, 23, 24, 25, 26, 27], [0, 1, 2, 3, 4, 5, 7, 8, 9, 10, 11, 12, 13, 14, 15, 16, 17, 18, 19, 20, 21, 22, 23, 24, 25, 26, 27]))], sk := [], mvs := [], fz := [] }
def f_s_l4Sum_a (g0 : List Sc) (a1 : Int) (b2 : Int) : List AV := enc [.p .gr, .p (.int .i64), .p (.int .i64)] [.l g0, .i a1, .i b2]
def f_s_l4Sum_i (g0 : List Sc) (a1 : Int) (b2 : Int) : List AV := enc [] []
def f_s_l4Sum_en (r : Int) : List AV × List AV := (enc [.p (.int .i64)] [.i r], enc [] [])
def f_s_l4Sum_M : Calling := addC 136 f_s_l3List_c (addC 141 f_s_l3Shift_c (noC))
theorem f_s_l4Sum_Mt : CallOk Try.prog (f_s_l4Sum_M) := addC_true f_s_l3List_cc (addC_true f_s_l3Shift_cc (noC_true))
theorem f_s_l4Sum_o : loopsOnce Try.f135 = true := by kernel_rfl
def f_s_l4Sum_h0 : List Sh := [.u, .p (.int .i64), .u, .p .el, .u, .u, .u, .p (.int .i64), .own 3, .p (.int .i64), .u, .u, .u, .u, .u, .u, .u, .u, .u, .u, .u, .u, .u, .u, .u, .u, .u, .u]
def f_s_l4Sum_fr0 (a1 : Int) (g3 : List Sc) (s : Int × List Sc × Int) : List AV := enc f_s_l4Sum_h0 [.i a1, .l g3, .i s.1, .l s.2.1, .i s.2.2]
def f_s_l4Sum_g0_1 : List Sh := [.u, .u, .u, .u, .u, .u, .u, .p (.int .i64), .u, .u, .u, .u, .u, .u, .u, .u, .u, .u, .u, .u, .u, .u, .u, .u, .u, .u, .u, .u]
def f_s_l4Sum_x0_1 (a1 : Int) (g3 : List Sc) (e : Int) : X × List AV := (.out 0, enc f_s_l4Sum_g0_1 [.i e])
def f_s_l4Sum_x0_2 (a1 : Int) (g3 : List Sc) (_e : Unit) : X × List AV := (.ret, [])
theorem f_s_l4Sum_p0 {R : Type} (a1 : Int) (g3 : List Sc) (s : Int × List Sc × Int) (kN : Int × List Sc × Int → Option R) (kA : Int → Option R) (kB : Unit → Option R) : f_s_l4Sum_k0 a1 g3 s.1 s.2.1 s.2.2 kN kA = (f_s_l4Sum_r0 a1 g3 s).bind (Ro.el kN kA kB) := by
  simp only [f_s_l4Sum_k0, f_s_l4Sum_r0, brB, boB, someB, noneB, Ro.el]
theorem f_s_l4Sum_e0 (a1 : Int) (g3 : List Sc) (s : Int × List Sc × Int) : EC E0 f_s_l4Sum_M H0 f_s_l4Sum_F (asL (noL)) 0 (bodyOf Try.f135 0) (f_s_l4Sum_fr0 a1 g3 s) (done (klOf f_s_l4Sum_F 0)) = f_s_l4Sum_k0 a1 g3 s.1 s.2.1 s.2.2 (fun s => some (.norm, f_s_l4Sum_fr0 a1 g3 s)) (fun e => some (f_s_l4Sum_x0_1 a1 g3 e)) := by kernel_rfl
theorem f_s_l4Sum_l0 (a1 : Int) (g3 : List Sc) : ∀ s r, loopL (f_s_l4Sum_r0 a1 g3) s = some r → LS Try.prog f_s_l4Sum_F (bodyOf Try.f135 0) (f_s_l4Sum_fr0 a1 g3 s) (enX (f_s_l4Sum_x0_1 a1 g3) (f_s_l4Sum_x0_2 a1 g3) r) :=
  loop_true E0ok f_s_l4Sum_Mt (noL_true) f_s_l4Sum_o (fun _ h => by cases h) (fun _ h => by cases h) (fun s => (f_s_l4Sum_e0 a1 g3 s).trans (f_s_l4Sum_p0 a1 g3 s _ _ (fun e => some (f_s_l4Sum_x0_2 a1 g3 e))))
def f_s_l4Sum_t0 (σ : List AV) : Option (Bool × Bool × (X × List AV) × (X × List AV)) := match dec f_s_l4Sum_h0 σ with
  | some [.i a1, .l g3, .i out7, .l l8, .i i9] => some (isOne (loopL (f_s_l4Sum_r0 a1 g3) (out7, l8, i9)), true, f_s_l4Sum_x0_1 a1 g3 (getOne 0 (loopL (f_s_l4Sum_r0 a1 g3) (out7, l8, i9))), (.ret, []))
  | _ => none
theorem f_s_l4Sum_tt0 : TTrue Try.prog f_s_l4Sum_F Try.f135 0 (f_s_l4Sum_t0) := by
  intro σ p r r' h
  unfold f_s_l4Sum_t0 at h
  split at h
  · rename_i hd
    rw [← dec_enc hd]
    exact row1 (f_s_l4Sum_l0 _ _ _) h
  · cases h
theorem f_s_l4Sum_p {R : Type} (g0 : List Sc) (a1 : Int) (b2 : Int) (kR : Int → Option R) : f_s_l4Sum_k g0 a1 b2 kR = (f_s_l4Sum_k g0 a1 b2 some).bind kR := by
  simp only [f_s_l4Sum_k, boB, bl1B, someB]
theorem f_s_l4Sum_e (g0 : List Sc) (a1 : Int) (b2 : Int) : runFn E0 f_s_l4Sum_M H0 f_s_l4Sum_F (asL (addL 0 (f_s_l4Sum_t0) (noL))) Try.f135 (f_s_l4Sum_a g0 a1 b2) (f_s_l4Sum_i g0 a1 b2) = f_s_l4Sum_k g0 a1 b2 (fun r => some (f_s_l4Sum_en r)) := by kernel_rfl
theorem f_s_l4Sum_ok (g0 : List Sc) (a1 : Int) (b2 : Int) (r : Int) (h : f_s_l4Sum g0 a1 b2 = some r) : CS Try.prog 135 (f_s_l4Sum_a g0 a1 b2) (f_s_l4Sum_i g0 a1 b2) (f_s_l4Sum_en r).1 (f_s_l4Sum_en r).2 :=
  fn_true (Gk := fun k => f_s_l4Sum_k g0 a1 b2 k) (en := f_s_l4Sum_en) Try.func135 E0ok f_s_l4Sum_Mt (addL_true (f_s_l4Sum_tt0) (noL_true)) f_s_l4Sum_o (f_s_l4Sum_e g0 a1 b2) (f_s_l4Sum_p g0 a1 b2) h
def f_s_l4Sum_c : CRow := fun args inh => match dec2 [.p .gr, .p (.int .i64), .p (.int .i64)] [] args inh with
  | some ([.l g0, .i a1, .i b2], []) => some ((f_s_l4Sum g0 a1 b2).isSome, (f_s_l4Sum_en ((f_s_l4Sum g0 a1 b2).getD 0)).1, (f_s_l4Sum_en ((f_s_l4Sum g0 a1 b2).getD 0)).2)
  | _ => none
theorem f_s_l4Sum_cc : CTrue Try.prog 135 f_s_l4Sum_c := by
  intro args inh rs out h
  unfold f_s_l4Sum_c at h
  split at h
  · rename_i hd
    obtain ⟨h1, h2⟩ := dec2_enc hd
    rw [← h1, ← h2]
    exact rowC (f_s_l4Sum_ok _ _ _) h
  · cases h

def f_s_l14Box_F : Fi := { nv := 0, nc := 0, m := 0, vt := [], kl := [(0, ([0, 4, 5, 6, 9, 10, 11, 12, 13, 14, 15, 16, 17, 18, 19, 20, 21, 22, 23, 24, 25, 26, 27, 28], [0, 1, 2, 3, 4, 5, 6, 8, 9, 10, 11, 12, 13, 14, 15, 16, 17, 18, 19, 20, 21, 22, 23, 24, 25, 26, 27, 28], [0, 1, 2, 3, 4, 5, 7, 8, 9, 10, 11, 12, 13, 14, 15, 16, 17, 18, 19, 20, 21, 22, 23, 24, 25, 26, 27, 28]))], sk := [], mvs := [], fz := [] }
def f_s_l14Box_a (g0 : List Sc) (steps1 : List Sc) (sizes2 : List Sc) : List AV := enc [.p .gr, .p .sl, .p .sl] [.l g0, .l steps1, .l sizes2]
def f_s_l14Box_i (g0 : List Sc) (steps1 : List Sc) (sizes2 : List Sc) : List AV := enc [] []
def f_s_l14Box_en (r : Int) : List AV × List AV := (enc [.p (.int .i64)] [.i r], enc [] [])
def f_s_l14Box_M : Calling := addC 140 f_s_l10Progression_c (addC 135 f_s_l4Sum_c (noC))
theorem f_s_l14Box_Mt : CallOk Try.prog (f_s_l14Box_M) := addC_true f_s_l10Progression_cc (addC_true f_s_l4Sum_cc (noC_true))
theorem f_s_l14Box_o : loopsOnce Try.f147 = true := by kernel_rfl
def f_s_l14Box_h0 : List Sh := [.u, .p .sl, .p .sl, .p .el, .u, .u, .u, .p (.int .i64), .p (.int .i64), .u, .u, .u, .u, .u, .u, .u, .u, .u, .u, .u, .u, .u, .u, .u, .u, .u, .u, .u, .u]
def f_s_l14Box_fr0 (steps1 : List Sc) (sizes2 : List Sc) (g3 : List Sc) (s : Int × Int) : List AV := enc f_s_l14Box_h0 [.l steps1, .l sizes2, .l g3, .i s.1, .i s.2]
def f_s_l14Box_g0_1 : List Sh := [.u, .u, .u, .u, .u, .u, .u, .p (.int .i64), .u, .u, .u, .u, .u, .u, .u, .u, .u, .u, .u, .u, .u, .u, .u, .u, .u, .u, .u, .u, .u]
def f_s_l14Box_x0_1 (steps1 : List Sc) (sizes2 : List Sc) (g3 : List Sc) (e : Int) : X × List AV := (.out 0, enc f_s_l14Box_g0_1 [.i e])
def f_s_l14Box_x0_2 (steps1 : List Sc) (sizes2 : List Sc) (g3 : List Sc) (_e : Unit) : X × List AV := (.ret, [])
theorem f_s_l14Box_p0 {R : Type} (steps1 : List Sc) (sizes2 : List Sc) (g3 : List Sc) (s : Int × Int) (kN : Int × Int → Option R) (kA : Int → Option R) (kB : Unit → Option R) : f_s_l14Box_k0 steps1 sizes2 g3 s.1 s.2 kN kA = (f_s_l14Box_r0 steps1 sizes2 g3 s).bind (Ro.el kN kA kB) := by
  simp only [f_s_l14Box_k0, f_s_l14Box_r0, brB, boB, someB, noneB, Ro.el]
theorem f_s_l14Box_e0 (steps1 : List Sc) (sizes2 : List Sc) (g3 : List Sc) (s : Int × Int) : EC E0 f_s_l14Box_M H0 f_s_l14Box_F (asL (noL)) 0 (bodyOf Try.f147 0) (f_s_l14Box_fr0 steps1 sizes2 g3 s) (done (klOf f_s_l14Box_F 0)) = f_s_l14Box_k0 steps1 sizes2 g3 s.1 s.2 (fun s => some (.norm, f_s_l14Box_fr0 steps1 sizes2 g3 s)) (fun e => some (f_s_l14Box_x0_1 steps1 sizes2 g3 e)) := by kernel_rfl
theorem f_s_l14Box_l0 (steps1 : List Sc) (sizes2 : List Sc) (g3 : List Sc) : ∀ s r, loopL (f_s_l14Box_r0 steps1 sizes2 g3) s = some r → LS Try.prog f_s_l14Box_F (bodyOf Try.f147 0) (f_s_l14Box_fr0 steps1 sizes2 g3 s) (enX (f_s_l14Box_x0_1 steps1 sizes2 g3) (f_s_l14Box_x0_2 steps1 sizes2 g3) r) :=
  loop_true E0ok f_s_l14Box_Mt (noL_true) f_s_l14Box_o (fun _ h => by cases h) (fun _ h => by cases h) (fun s => (f_s_l14Box_e0 steps1 sizes2 g3 s).trans (f_s_l14Box_p0 steps1 sizes2 g3 s _ _ (fun e => some (f_s_l14Box_x0_2 steps1 sizes2 g3 e))))
def f_s_l14Box_t0 (σ : List AV) : Option (Bool × Bool × (X × List AV) × (X × List AV)) := match dec f_s_l14Box_h0 σ with
  | some [.l steps1, .l sizes2, .l g3, .i out7, .i i8] => some (isOne (loopL (f_s_l14Box_r0 steps1 sizes2 g3) (out7, i8)), true, f_s_l14Box_x0_1 steps1 sizes2 g3 (getOne 0 (loopL (f_s_l14Box_r0 steps1 sizes2 g3) (out7, i8))), (.ret, []))
  | _ => none
theorem f_s_l14Box_tt0 : TTrue Try.prog f_s_l14Box_F Try.f147 0 (f_s_l14Box_t0) := by
  intro σ p r r' h
  unfold f_s_l14Box_t0 at h
  split at h
  · rename_i hd
    rw [← dec_enc hd]
    exact row1 (f_s_l14Box_l0 _ _ _ _) h
  · cases h
theorem f_s_l14Box_p {R : Type} (g0 : List Sc) (steps1 : List Sc) (sizes2 : List Sc) (kR : Int → Option R) : f_s_l14Box_k g0 steps1 sizes2 kR = (f_s_l14Box_k g0 steps1 sizes2 some).bind kR := by
  simp only [f_s_l14Box_k, bl1B, someB]
theorem f_s_l14Box_e (g0 : List Sc) (steps1 : List Sc) (sizes2 : List Sc) : runFn E0 f_s_l14Box_M H0 f_s_l14Box_F (asL (addL 0 (f_s_l14Box_t0) (noL))) Try.f147 (f_s_l14Box_a g0 steps1 sizes2) (f_s_l14Box_i g0 steps1 sizes2) = f_s_l14Box_k g0 steps1 sizes2 (fun r => some (f_s_l14Box_en r)) := by kernel_rfl
theorem f_s_l14Box_ok (g0 : List Sc) (steps1 : List Sc) (sizes2 : List Sc) (r : Int) (h : f_s_l14Box g0 steps1 sizes2 = some r) : CS Try.prog 147 (f_s_l14Box_a g0 steps1 sizes2) (f_s_l14Box_i g0 steps1 sizes2) (f_s_l14Box_en r).1 (f_s_l14Box_en r).2 :=
  fn_true (Gk := fun k => f_s_l14Box_k g0 steps1 sizes2 k) (en := f_s_l14Box_en) Try.func147 E0ok f_s_l14Box_Mt (addL_true (f_s_l14Box_tt0) (noL_true)) f_s_l14Box_o (f_s_l14Box_e g0 steps1 sizes2) (f_s_l14Box_p g0 steps1 sizes2) h
def f_s_l14Box_c : CRow := fun args inh => match dec2 [.p .gr, .p .sl, .p .sl] [] args inh with
  | some ([.l g0, .l steps1, .l sizes2], []) => some ((f_s_l14Box g0 steps1 sizes2).isSome, (f_s_l14Box_en ((f_s_l14Box g0 steps1 sizes2).getD 0)).1, (f_s_l14Box_en ((f_s_l14Box g0 steps1 sizes2).getD 0)).2)
  | _ => none
theorem f_s_l14Box_cc : CTrue Try.prog 147 f_s_l14Box_c := by
  intro args inh rs out h
  unfold f_s_l14Box_c at h
  split at h
  · rename_i hd
    obtain ⟨h1, h2⟩ := dec2_enc hd
    rw [← h1, ← h2]
    exact rowC (f_s_l14Box_ok _ _ _) h
  · cases h

def f_s_BoxOf_F : Fi := { nv := 0, nc := 0, m := 0, vt := [], kl := [], sk := [], mvs := [], fz := [] }
def f_s_BoxOf_a (g0 : List Sc) (steps1 : List Sc) (sizes2 : List Sc) : List AV := enc [.p .gr, .p .sl, .p .sl] [.l g0, .l steps1, .l sizes2]
def f_s_BoxOf_i (g0 : List Sc) (steps1 : List Sc) (sizes2 : List Sc) : List AV := enc [] []
def f_s_BoxOf_en (r : Int × Bool) : List AV × List AV := (enc [.p (.int .i64), .p .boo] [.i r.1, .b r.2], enc [] [])
def f_s_BoxOf_M : Calling := addC 146 f_s_l14Fine_c (addC 147 f_s_l14Box_c (noC))
theorem f_s_BoxOf_Mt : CallOk Try.prog (f_s_BoxOf_M) := addC_true f_s_l14Fine_cc (addC_true f_s_l14Box_cc (noC_true))
theorem f_s_BoxOf_o : loopsOnce Try.f35 = true := by kernel_rfl
theorem f_s_BoxOf_p {R : Type} (g0 : List Sc) (steps1 : List Sc) (sizes2 : List Sc) (kR : Int × Bool → Option R) : f_s_BoxOf_k g0 steps1 sizes2 kR = (f_s_BoxOf_k g0 steps1 sizes2 some).bind kR := by
  simp only [f_s_BoxOf_k, brB, boB, someB]
theorem f_s_BoxOf_e (g0 : List Sc) (steps1 : List Sc) (sizes2 : List Sc) : runFn E0 f_s_BoxOf_M H0 f_s_BoxOf_F (asL (noL)) Try.f35 (f_s_BoxOf_a g0 steps1 sizes2) (f_s_BoxOf_i g0 steps1 sizes2) = f_s_BoxOf_k g0 steps1 sizes2 (fun r => some (f_s_BoxOf_en r)) := by kernel_rfl
theorem f_s_BoxOf_ok (g0 : List Sc) (steps1 : List Sc) (sizes2 : List Sc) (r : Int × Bool) (h : f_s_BoxOf g0 steps1 sizes2 = some r) : CS Try.prog 35 (f_s_BoxOf_a g0 steps1 sizes2) (f_s_BoxOf_i g0 steps1 sizes2) (f_s_BoxOf_en r).1 (f_s_BoxOf_en r).2 :=
  fn_true (Gk := fun k => f_s_BoxOf_k g0 steps1 sizes2 k) (en := f_s_BoxOf_en) Try.func35 E0ok f_s_BoxOf_Mt (noL_true) f_s_BoxOf_o (f_s_BoxOf_e g0 steps1 sizes2) (f_s_BoxOf_p g0 steps1 sizes2) h
def f_s_BoxOf_c : CRow := fun args inh => match dec2 [.p .gr, .p .sl, .p .sl] [] args inh with
  | some ([.l g0, .l steps1, .l sizes2], []) => some ((f_s_BoxOf g0 steps1 sizes2).isSome, (f_s_BoxOf_en ((f_s_BoxOf g0 steps1 sizes2).getD (0, false))).1, (f_s_BoxOf_en ((f_s_BoxOf g0 steps1 sizes2).getD (0, false))).2)
  | _ => none
theorem f_s_BoxOf_cc : CTrue Try.prog 35 f_s_BoxOf_c := by
  intro args inh rs out h
  unfold f_s_BoxOf_c at h
  split at h
  · rename_i hd
    obtain ⟨h1, h2⟩ := dec2_enc hd
    rw [← h1, ← h2]
    exact rowC (f_s_BoxOf_ok _ _ _) h
  · cases h

def f_s_IsSet_F : Fi := { nv := 0, nc := 0, m := 0, vt := [], kl := [], sk := [], mvs := [], fz := [] }
def f_s_IsSet_a (g0 : List Sc) (a1 : Int) : List AV := enc [.p .gr, .p (.int .i64)] [.l g0, .i a1]
def f_s_IsSet_i (g0 : List Sc) (a1 : Int) : List AV := enc [] []
def f_s_IsSet_en (r : Bool) : List AV × List AV := (enc [.p .boo] [.b r], enc [] [])
def f_s_IsSet_M : Calling := addC 179 f_s_IsGroup_c (addC 139 f_s_l2Order_c (addC 150 f_s_l1In_c (noC)))
theorem f_s_IsSet_Mt : CallOk Try.prog (f_s_IsSet_M) := addC_true f_s_IsGroup_cc (addC_true f_s_l2Order_cc (addC_true f_s_l1In_cc (noC_true)))
theorem f_s_IsSet_o : loopsOnce Try.f124 = true := by kernel_rfl
theorem f_s_IsSet_p {R : Type} (g0 : List Sc) (a1 : Int) (kR : Bool → Option R) : f_s_IsSet_k g0 a1 kR = (f_s_IsSet_k g0 a1 some).bind kR := by
  simp only [f_s_IsSet_k, brB, boB, someB, noneB]
theorem f_s_IsSet_e (g0 : List Sc) (a1 : Int) : runFn E0 f_s_IsSet_M H0 f_s_IsSet_F (asL (noL)) Try.f124 (f_s_IsSet_a g0 a1) (f_s_IsSet_i g0 a1) = f_s_IsSet_k g0 a1 (fun r => some (f_s_IsSet_en r)) := by kernel_rfl
theorem f_s_IsSet_ok (g0 : List Sc) (a1 : Int) (r : Bool) (h : f_s_IsSet g0 a1 = some r) : CS Try.prog 124 (f_s_IsSet_a g0 a1) (f_s_IsSet_i g0 a1) (f_s_IsSet_en r).1 (f_s_IsSet_en r).2 :=
  fn_true (Gk := fun k => f_s_IsSet_k g0 a1 k) (en := f_s_IsSet_en) Try.func124 E0ok f_s_IsSet_Mt (noL_true) f_s_IsSet_o (f_s_IsSet_e g0 a1) (f_s_IsSet_p g0 a1) h
def f_s_IsSet_c : CRow := fun args inh => match dec2 [.p .gr, .p (.int .i64)] [] args inh with
  | some ([.l g0, .i a1], []) => some ((f_s_IsSet g0 a1).isSome, (f_s_IsSet_en ((f_s_IsSet g0 a1).getD false)).1, (f_s_IsSet_en ((f_s_IsSet g0 a1).getD false)).2)
  | _ => none
theorem f_s_IsSet_cc : CTrue Try.prog 124 f_s_IsSet_c := by
  intro args inh rs out h
  unfold f_s_IsSet_c at h
  split at h
  · rename_i hd
    obtain ⟨h1, h2⟩ := dec2_enc hd
    rw [← h1, ← h2]
    exact rowC (f_s_IsSet_ok _ _) h
  · cases h

def f_s_ShiftSet_F : Fi := { nv := 0, nc := 0, m := 0, vt := [], kl := [], sk := [], mvs := [], fz := [] }
def f_s_ShiftSet_a (g0 : List Sc) (a1 : Int) (x2 : Int) : List AV := enc [.p .gr, .p (.int .i64), .p (.int .i64)] [.l g0, .i a1, .i x2]
def f_s_ShiftSet_i (g0 : List Sc) (a1 : Int) (x2 : Int) : List AV := enc [] []
def f_s_ShiftSet_en (r : Int) : List AV × List AV := (enc [.p (.int .i64)] [.i r], enc [] [])
def f_s_ShiftSet_M : Calling := addC 124 f_s_IsSet_c (addC 148 f_s_l2Is_c (addC 141 f_s_l3Shift_c (noC)))
theorem f_s_ShiftSet_Mt : CallOk Try.prog (f_s_ShiftSet_M) := addC_true f_s_IsSet_cc (addC_true f_s_l2Is_cc (addC_true f_s_l3Shift_cc (noC_true)))
theorem f_s_ShiftSet_o : loopsOnce Try.f207 = true := by kernel_rfl
theorem f_s_ShiftSet_p {R : Type} (g0 : List Sc) (a1 : Int) (x2 : Int) (kR : Int → Option R) : f_s_ShiftSet_k g0 a1 x2 kR = (f_s_ShiftSet_k g0 a1 x2 some).bind kR := by
  simp only [f_s_ShiftSet_k, brB, boB, someB]
theorem f_s_ShiftSet_e (g0 : List Sc) (a1 : Int) (x2 : Int) : runFn E0 f_s_ShiftSet_M H0 f_s_ShiftSet_F (asL (noL)) Try.f207 (f_s_ShiftSet_a g0 a1 x2) (f_s_ShiftSet_i g0 a1 x2) = f_s_ShiftSet_k g0 a1 x2 (fun r => some (f_s_ShiftSet_en r)) := by kernel_rfl
theorem f_s_ShiftSet_ok (g0 : List Sc) (a1 : Int) (x2 : Int) (r : Int) (h : f_s_ShiftSet g0 a1 x2 = some r) : CS Try.prog 207 (f_s_ShiftSet_a g0 a1 x2) (f_s_ShiftSet_i g0 a1 x2) (f_s_ShiftSet_en r).1 (f_s_ShiftSet_en r).2 :=
  fn_true (Gk := fun k => f_s_ShiftSet_k g0 a1 x2 k) (en := f_s_ShiftSet_en) Try.func207 E0ok f_s_ShiftSet_Mt (noL_true) f_s_ShiftSet_o (f_s_ShiftSet_e g0 a1 x2) (f_s_ShiftSet_p g0 a1 x2) h
def f_s_ShiftSet_c : CRow := fun args inh => match dec2 [.p .gr, .p (.int .i64), .p (.int .i64)] [] args inh with
  | some ([.l g0, .i a1, .i x2], []) => some ((f_s_ShiftSet g0 a1 x2).isSome, (f_s_ShiftSet_en ((f_s_ShiftSet g0 a1 x2).getD 0)).1, (f_s_ShiftSet_en ((f_s_ShiftSet g0 a1 x2).getD 0)).2)
  | _ => none
theorem f_s_ShiftSet_cc : CTrue Try.prog 207 f_s_ShiftSet_c := by
  intro args inh rs out h
  unfold f_s_ShiftSet_c at h
  split at h
  · rename_i hd
    obtain ⟨h1, h2⟩ := dec2_enc hd
    rw [← h1, ← h2]
    exact rowC (f_s_ShiftSet_ok _ _ _) h
  · cases h

def f_s_l3Set_io_F : Fi := { nv := 5, nc := 5, m := 4, vt := [(3, 4)], kl := [(0, ([4, 6, 7, 8, 9, 13, 14, 15, 16, 17, 18, 19, 20, 21, 22, 23, 24, 25, 26, 27, 28, 29, 30, 31, 32, 33, 34, 35, 36, 37, 38, 39, 40], [4, 6, 7, 8, 9, 12, 13, 14, 15, 16, 17, 18, 19, 20, 21, 22, 23, 24, 25, 26, 27, 28, 29, 30, 31, 32, 33, 34, 35, 36, 37, 38, 39, 40], [4, 5, 6, 7, 8, 10, 11, 12, 13, 14, 15, 16, 17, 18, 19, 20, 21, 22, 23, 24, 25, 26, 27, 28, 29, 30, 31, 32, 33, 34, 35, 36, 37, 38, 39, 40]))], sk := [], mvs := [], fz := [] }
def f_s_l3Set_io_a (h0 : List Sc) (h1 : Int) (h2 : Int) (h3 : List Sc) : List AV := enc [.p (.pt 0 3), .p (.go 3)] []
def f_s_l3Set_io_i (h0 : List Sc) (h1 : Int) (h2 : Int) (h3 : List Sc) : List AV := enc [.p .sl, .p (.int .i64), .p (.int .i64), .own 3] [.l h0, .i h1, .i h2, .l h3]
def f_s_l3Set_io_en (r : Int × List Sc × Int × Int × List Sc) : List AV × List AV := (enc [.p (.int .i64)] [.i r.1], enc [.p .sl, .p (.int .i64), .p (.int .i64), .own 3] [.l r.2.1, .i r.2.2.1, .i r.2.2.2.1, .l r.2.2.2.2])
def f_s_l3Set_io_M : Calling := addC 72 f_s_OrderOf_c (addC 166 f_s_l1Below_io_c (addC 168 f_s_l1PickInt_io_c (noC)))
theorem f_s_l3Set_io_Mt : CallOk Try.prog (f_s_l3Set_io_M) := addC_true f_s_OrderOf_cc (addC_true f_s_l1Below_io_cc (addC_true f_s_l1PickInt_io_cc (noC_true)))
theorem f_s_l3Set_io_o : loopsOnce Try.f164 = true := by kernel_rfl
def f_s_l3Set_io_h0 : List Sh := [.p .sl, .p (.int .i64), .p (.int .i64), .own 3, .u, .p (.pt 0 3), .u, .u, .u, .u, .p (.int .i64), .p (.int .i64), .p (.int .i64), .u, .u, .u, .u, .u, .u, .u, .u, .u, .u, .u, .u, .u, .u, .u, .u, .u, .u, .u, .u, .u, .u, .u, .u, .u, .u, .u, .u]
def f_s_l3Set_io_fr0 (n5 : Int) (s : List Sc × Int × Int × List Sc × Int × Int) : List AV := enc f_s_l3Set_io_h0 [.l s.1, .i s.2.1, .i s.2.2.1, .l s.2.2.2.1, .i n5, .i s.2.2.2.2.1, .i s.2.2.2.2.2]
def f_s_l3Set_io_g0_1 : List Sh := [.p .sl, .p (.int .i64), .p (.int .i64), .own 3, .u, .p (.pt 0 3), .u, .u, .u, .u, .p (.int .i64), .p (.int .i64), .u, .u, .u, .u, .u, .u, .u, .u, .u, .u, .u, .u, .u, .u, .u, .u, .u, .u, .u, .u, .u, .u, .u, .u, .u, .u, .u, .u, .u]
def f_s_l3Set_io_x0_1 (n5 : Int) (e : List Sc × Int × Int × List Sc × Int) : X × List AV := (.out 0, enc f_s_l3Set_io_g0_1 [.l e.1, .i e.2.1, .i e.2.2.1, .l e.2.2.2.1, .i n5, .i e.2.2.2.2])
def f_s_l3Set_io_x0_2 (n5 : Int) (_e : Unit) : X × List AV := (.ret, [])
theorem f_s_l3Set_io_p0 {R : Type} (n5 : Int) (s : List Sc × Int × Int × List Sc × Int × Int) (kN : List Sc × Int × Int × List Sc × Int × Int → Option R) (kA : List Sc × Int × Int × List Sc × Int → Option R) (kB : Unit → Option R) : f_s_l3Set_io_k0 n5 s.1 s.2.1 s.2.2.1 s.2.2.2.1 s.2.2.2.2.1 s.2.2.2.2.2 kN kA = (f_s_l3Set_io_r0 n5 s).bind (Ro.el kN kA kB) := by
  simp only [f_s_l3Set_io_k0, f_s_l3Set_io_r0, brB, boB, someB, noneB, Ro.el]
theorem f_s_l3Set_io_e0 (n5 : Int) (s : List Sc × Int × Int × List Sc × Int × Int) : EC E0 f_s_l3Set_io_M H0 f_s_l3Set_io_F (asL (noL)) 0 (bodyOf Try.f164 0) (f_s_l3Set_io_fr0 n5 s) (done (klOf f_s_l3Set_io_F 0)) = f_s_l3Set_io_k0 n5 s.1 s.2.1 s.2.2.1 s.2.2.2.1 s.2.2.2.2.1 s.2.2.2.2.2 (fun s => some (.norm, f_s_l3Set_io_fr0 n5 s)) (fun e => some (f_s_l3Set_io_x0_1 n5 e)) := by kernel_rfl
theorem f_s_l3Set_io_l0 (n5 : Int) : ∀ s r, loopL (f_s_l3Set_io_r0 n5) s = some r → LS Try.prog f_s_l3Set_io_F (bodyOf Try.f164 0) (f_s_l3Set_io_fr0 n5 s) (enX (f_s_l3Set_io_x0_1 n5) (f_s_l3Set_io_x0_2 n5) r) :=
  loop_true E0ok f_s_l3Set_io_Mt (noL_true) f_s_l3Set_io_o (fun _ h => by cases h) (fun _ h => by cases h) (fun s => (f_s_l3Set_io_e0 n5 s).trans (f_s_l3Set_io_p0 n5 s _ _ (fun e => some (f_s_l3Set_io_x0_2 n5 e))))
def f_s_l3Set_io_t0 (σ : List AV) : Option (Bool × Bool × (X × List AV) × (X × List AV)) := match dec f_s_l3Set_io_h0 σ with
  | some [.l v0, .i v1, .i v2, .l v3, .i n5, .i a6, .i k7] => some (isOne (loopL (f_s_l3Set_io_r0 n5) (v0, v1, v2, v3, a6, k7)), true, f_s_l3Set_io_x0_1 n5 (getOne ([], 0, 0, [], 0) (loopL (f_s_l3Set_io_r0 n5) (v0, v1, v2, v3, a6, k7))), (.ret, []))
  | _ => none
theorem f_s_l3Set_io_tt0 : TTrue Try.prog f_s_l3Set_io_F Try.f164 0 (f_s_l3Set_io_t0) := by
  intro σ p r r' h
  unfold f_s_l3Set_io_t0 at h
  split at h
  · rename_i hd
    rw [← dec_enc hd]
    exact row1 (f_s_l3Set_io_l0 _ _) h
  · cases h
theorem f_s_l3Set_io_p {R : Type} (h0 : List Sc) (h1 : Int) (h2 : Int) (h3 : List Sc) (kR : Int × List Sc × Int × Int × List Sc → Option R) : f_s_l3Set_io_k h0 h1 h2 h3 kR = (f_s_l3Set_io_k h0 h1 h2 h3 some).bind kR := by
  simp only [f_s_l3Set_io_k, brB, boB, bl1B, someB, noneB]
theorem f_s_l3Set_io_e (h0 : List Sc) (h1 : Int) (h2 : Int) (h3 : List Sc) : runFn E0 f_s_l3Set_io_M H0 f_s_l3Set_io_F (asL (addL 0 (f_s_l3Set_io_t0) (noL))) Try.f164 (f_s_l3Set_io_a h0 h1 h2 h3) (f_s_l3Set_io_i h0 h1 h2 h3) = f_s_l3Set_io_k h0 h1 h2 h3 (fun r => some (f_s_l3Set_io_en r)) := by kernel_rfl
theorem f_s_l3Set_io_ok (h0 : List Sc) (h1 : Int) (h2 : Int) (h3 : List Sc) (r : Int × List Sc × Int × Int × List Sc) (h : f_s_l3Set_io h0 h1 h2 h3 = some r) : CS Try.prog 164 (f_s_l3Set_io_a h0 h1 h2 h3) (f_s_l3Set_io_i h0 h1 h2 h3) (f_s_l3Set_io_en r).1 (f_s_l3Set_io_en r).2 :=
  fn_true (Gk := fun k => f_s_l3Set_io_k h0 h1 h2 h3 k) (en := f_s_l3Set_io_en) Try.func164 E0ok f_s_l3Set_io_Mt (addL_true (f_s_l3Set_io_tt0) (noL_true)) f_s_l3Set_io_o (f_s_l3Set_io_e h0 h1 h2 h3) (f_s_l3Set_io_p h0 h1 h2 h3) h
def f_s_l3Set_io_c : CRow := fun args inh => match dec2 [.p (.pt 0 3), .p (.go 3)] [.p .sl, .p (.int .i64), .p (.int .i64), .own 3] args inh with
  | some ([], [.l h0, .i h1, .i h2, .l h3]) => some ((f_s_l3Set_io h0 h1 h2 h3).isSome, (f_s_l3Set_io_en ((f_s_l3Set_io h0 h1 h2 h3).getD (0, [], 0, 0, []))).1, (f_s_l3Set_io_en ((f_s_l3Set_io h0 h1 h2 h3).getD (0, [], 0, 0, []))).2)
  | _ => none
theorem f_s_l3Set_io_cc : CTrue Try.prog 164 f_s_l3Set_io_c := by
  intro args inh rs out h
  unfold f_s_l3Set_io_c at h
  split at h
  · rename_i hd
    obtain ⟨h1, h2⟩ := dec2_enc hd
    rw [← h1, ← h2]
    exact rowC (f_s_l3Set_io_ok _ _ _ _) h
  · cases h

def f_s_l14Set_F : Fi := { nv := 8, nc := 5, m := 0, vt := [(2, 0), (5, 1), (11, 2), (14, 5)], kl := [(100005, ([5, 6, 7, 8, 9, 11, 14, 15, 17, 18, 19, 20, 21, 22, 23, 24, 25, 26, 27, 28, 29, 30, 31, 32, 33, 34, 35, 36, 37, 38, 39, 40, 41, 42, 43, 44, 45, 46, 47, 48, 49, 50, 51], [1, 2, 3, 4, 5, 6, 7, 8, 9, 12, 13, 14, 15, 16, 17, 18, 19, 20, 21, 22, 23, 24, 25, 26, 27, 28, 29, 30, 31, 32, 33, 34, 35, 36, 37, 38, 39, 40, 41, 42, 43, 44, 45, 46, 47, 48, 49, 50, 51], [])), (100006, ([5, 6, 7, 8, 9, 11, 14, 15, 16, 17, 18, 19, 20, 21, 22, 23, 24, 25, 26, 27, 28, 29, 30, 31, 32, 33, 34, 35, 36, 37, 38, 39, 40, 41, 42, 43, 44, 45, 46, 47, 48, 49, 50, 51], [1, 2, 3, 4, 5, 6, 7, 8, 9, 12, 13, 14, 15, 16, 17, 18, 19, 20, 21, 22, 23, 24, 25, 26, 27, 28, 29, 30, 31, 32, 33, 34, 35, 36, 37, 38, 39, 40, 41, 42, 43, 44, 45, 46, 47, 48, 49, 50, 51], []))], sk := [], mvs := [5, 6, 7], fz := [], tb := [5, 6] }
def f_s_l14Set_a (code0 : List Sc) : List AV := enc [.p .sl] [.l code0]
def f_s_l14Set_i (code0 : List Sc) : List AV := enc [] []
def f_s_l14Set_en (r : List Sc × Int) : List AV × List AV := (enc [.p (.go 0), .p (.int .i64)] [.i r.2], enc [.own 3] [.l r.1])
def f_s_l14Set_M : Calling := addC 162 f_s_l1New_c (addC 145 f_s_l14Draw_c (addC 35 f_s_BoxOf_c (addC 167 f_s_l1Once_io_c (addC 72 f_s_OrderOf_c (addC 166 f_s_l1Below_io_c (addC 207 f_s_ShiftSet_c (addC 164 f_s_l3Set_io_c (noC))))))))
theorem f_s_l14Set_Mt : CallOk Try.prog (f_s_l14Set_M) := addC_true f_s_l1New_cc (addC_true f_s_l14Draw_cc (addC_true f_s_BoxOf_cc (addC_true f_s_l1Once_io_cc (addC_true f_s_OrderOf_cc (addC_true f_s_l1Below_io_cc (addC_true f_s_ShiftSet_cc (addC_true f_s_l3Set_io_cc (noC_true))))))))
theorem f_s_l14Set_o : loopsOnce Try.f137 = true := by kernel_rfl
def f_s_l14Set_hg5 : List Sh := [.p .sl, .own 3, .p .sl, .p (.int .i64), .p (.int .i64), .u, .u, .u, .u, .u, .p (.pt 0 1), .u, .p (.pt 2 3), .p (.pt 1 1), .u, .u, .p (.int .i64), .u, .u, .u, .u, .u, .u, .u, .u, .u, .u, .u, .u, .u, .u, .u, .u, .u, .u, .u, .u, .u, .u, .u, .u, .u, .u, .u, .u, .u, .u, .u, .u, .u, .u, .u]
def f_s_l14Set_frg5 (v0 : List Sc) (v1 : List Sc) (v2 : List Sc) (v3 : Int) (v4 : Int) (t8 : Int) : List AV := enc f_s_l14Set_hg5 [.l v0, .l v1, .l v2, .i v3, .i v4, .i t8]
def f_s_l14Set_xg5 (v0 : List Sc) (v1 : List Sc) (v2 : List Sc) (v3 : Int) (v4 : Int) (t8 : Int) (e : Int) : X × List AV := (.norm, enc [.own 3, .u, .u, .u, .u, .u, .u, .u, .u, .u, .p (.pt 0 1), .p (.int .i64), .u, .u, .u, .u, .u, .u, .u, .u, .u, .u, .u, .u, .u, .u, .u, .u, .u, .u, .u, .u, .u, .u, .u, .u, .u, .u, .u, .u, .u, .u, .u, .u, .u, .u, .u, .u, .u, .u, .u, .u] [.l v1, .i e])
theorem f_s_l14Set_pg5 {R : Type} (v0 : List Sc) (v1 : List Sc) (v2 : List Sc) (v3 : Int) (v4 : Int) (t8 : Int) (kA : Int → Option R) : f_s_l14Set_g5_k v0 v1 v2 v3 v4 t8 kA = (f_s_l14Set_g5 v0 v1 v2 v3 v4 t8).bind kA := by
  simp only [f_s_l14Set_g5_k, f_s_l14Set_g5, boB, someB]
theorem f_s_l14Set_bg5 : bodyOf Try.f137 100005 = .region 5 (opsAt (bodyOf Try.f137 100005)) true := by kernel_rfl
def f_s_l14Set_Dg5 : List (Array Bool) := [#[false, false, false, false, false, false, false, false, false, false, false], #[true, false, false, false, false, false, false, false, false, false, false], #[false, true, false, false, false, false, false, false, false, false, false], #[false, false, true, false, false, false, false, false, false, false, false], #[false, false, false, true, false, false, false, false, false, false, false], #[false, false, false, false, true, false, false, false, false, false, false], #[true, true, false, false, false, false, false, false, false, false, false], #[true, false, true, false, false, false, false, false, false, false, false], #[true, false, false, true, false, false, false, false, false, false, false], #[true, false, false, false, true, false, false, false, false, false, false], #[false, true, true, false, false, false, false, false, false, false, false], #[false, true, false, true, false, false, false, false, false, false, false], #[false, true, false, false, true, false, false, false, false, false, false], #[false, false, true, true, false, false, false, false, false, false, false], #[false, false, true, false, true, false, false, false, false, false, false], #[false, false, false, true, true, false, false, false, false, false, false], #[false, false, false, false, true, true, false, false, false, false, false], #[true, true, true, false, false, false, false, false, false, false, false], #[true, true, false, true, false, false, false, false, false, false, false], #[true, true, false, false, true, false, false, false, false, false, false], #[true, false, true, true, false, false, false, false, false, false, false], #[true, false, true, false, true, false, false, false, false, false, false], #[true, false, false, true, true, false, false, false, false, false, false], #[true, false, false, false, true, true, false, false, false, false, false], #[false, true, true, true, false, false, false, false, false, false, false], #[false, true, true, false, true, false, false, false, false, false, false], #[false, true, false, true, true, false, false, false, false, false, false], #[false, true, false, false, true, true, false, false, false, false, false], #[false, false, true, true, true, false, false, false, false, false, false], #[false, false, true, false, true, true, false, false, false, false, false], #[false, false, false, true, true, true, false, false, false, false, false], #[false, false, false, false, true, true, true, false, false, false, false], #[true, true, true, true, false, false, false, false, false, false, false], #[true, true, true, false, true, false, false, false, false, false, false], #[true, true, false, true, true, false, false, false, false, false, false], #[true, true, false, false, true, true, false, false, false, false, false], #[true, false, true, true, true, false, false, false, false, false, false], #[true, false, true, false, true, true, false, false, false, false, false], #[true, false, false, true, true, true, false, false, false, false, false], #[true, false, false, false, true, true, true, false, false, false, false], #[false, true, true, true, true, false, false, false, false, false, false], #[false, true, true, false, true, true, false, false, false, false, false], #[false, true, false, true, true, true, false, false, false, false, false], #[false, true, false, false, true, true, true, false, false, false, false], #[false, false, true, true, true, true, false, false, false, false, false], #[false, false, true, false, true, true, true, false, false, false, false], #[false, false, false, true, true, true, true, false, false, false, false], #[true, true, true, true, true, false, false, false, false, false, false], #[true, true, true, false, true, true, false, false, false, false, false], #[true, true, false, true, true, true, false, false, false, false, false], #[true, true, false, false, true, true, true, false, false, false, false], #[true, false, true, true, true, true, false, false, false, false, false], #[true, false, true, false, true, true, true, false, false, false, false], #[true, false, false, true, true, true, true, false, false, false, false], #[false, true, true, true, true, true, false, false, false, false, false], #[false, true, true, false, true, true, true, false, false, false, false], #[false, true, false, true, true, true, true, false, false, false, false], #[false, false, true, true, true, true, true, false, false, false, false], #[false, false, false, true, true, true, true, true, false, false, false], #[true, true, true, true, true, true, false, false, false, false, false], #[true, true, true, false, true, true, true, false, false, false, false], #[true, true, false, true, true, true, true, false, false, false, false], #[true, false, true, true, true, true, true, false, false, false, false], #[true, false, false, true, true, true, true, true, false, false, false], #[false, true, true, true, true, true, true, false, false, false, false], #[false, true, false, true, true, true, true, true, false, false, false], #[false, false, true, true, true, true, true, true, false, false, false], #[true, true, true, true, true, true, true, false, false, false, false], #[true, true, false, true, true, true, true, true, false, false, false], #[true, false, true, true, true, true, true, true, false, false, false], #[false, true, true, true, true, true, true, true, false, false, false], #[true, true, true, true, true, true, true, true, false, false, false], #[false, true, true, true, true, true, true, true, true, false, false], #[true, true, true, true, true, true, true, true, true, false, false], #[true, true, true, true, true, true, true, true, true, true, false], #[true, true, true, true, true, true, true, true, true, true, true]]
theorem f_s_l14Set_cg5 : closedB (opsAt (bodyOf Try.f137 100005)) f_s_l14Set_Dg5 = true := by kernel_rfl
def f_s_l14Set_sg5_0 (v0 : List Sc) (v1 : List Sc) (v2 : List Sc) (v3 : Int) (v4 : Int) (t8 : Int) (fr : List AV) : Option (List AV) :=
  some (setAll [] fr)
def f_s_l14Set_sg5_1 (v0 : List Sc) (v1 : List Sc) (v2 : List Sc) (v3 : Int) (v4 : Int) (t8 : Int) (fr : List AV) : Option (List AV) :=
  some (setAll [(39, .p (.go 1))] fr)
def f_s_l14Set_sg5_2 (v0 : List Sc) (v1 : List Sc) (v2 : List Sc) (v3 : Int) (v4 : Int) (t8 : Int) (fr : List AV) : Option (List AV) :=
  some (setAll [(40, .p (.go 1))] fr)
def f_s_l14Set_sg5_4 (v0 : List Sc) (v1 : List Sc) (v2 : List Sc) (v3 : Int) (v4 : Int) (t8 : Int) (fr : List AV) : Option (List AV) :=
  some (setAll [(41, .p (.sc (Sc.n .i64 t8)))] fr)
def f_s_l14Set_sg5_8 (v0 : List Sc) (v1 : List Sc) (v2 : List Sc) (v3 : Int) (v4 : Int) (t8 : Int) (fr : List AV) : Option (List AV) :=
  some (setAll [(42, .p (.pt 2 3))] fr)
def f_s_l14Set_sg5_16 (v0 : List Sc) (v1 : List Sc) (v2 : List Sc) (v3 : Int) (v4 : Int) (t8 : Int) (fr : List AV) : Option (List AV) :=
  some (setAll [(43, .p (.go 1))] fr)
def f_s_l14Set_sg5_3 (v0 : List Sc) (v1 : List Sc) (v2 : List Sc) (v3 : Int) (v4 : Int) (t8 : Int) (fr : List AV) : Option (List AV) :=
  some (setAll [(39, .p (.go 1)), (40, .p (.go 1))] fr)
def f_s_l14Set_sg5_5 (v0 : List Sc) (v1 : List Sc) (v2 : List Sc) (v3 : Int) (v4 : Int) (t8 : Int) (fr : List AV) : Option (List AV) :=
  some (setAll [(39, .p (.go 1)), (41, .p (.sc (Sc.n .i64 t8)))] fr)
def f_s_l14Set_sg5_9 (v0 : List Sc) (v1 : List Sc) (v2 : List Sc) (v3 : Int) (v4 : Int) (t8 : Int) (fr : List AV) : Option (List AV) :=
  some (setAll [(39, .p (.go 1)), (42, .p (.pt 2 3))] fr)
def f_s_l14Set_sg5_17 (v0 : List Sc) (v1 : List Sc) (v2 : List Sc) (v3 : Int) (v4 : Int) (t8 : Int) (fr : List AV) : Option (List AV) :=
  some (setAll [(39, .p (.go 1)), (43, .p (.go 1))] fr)
def f_s_l14Set_sg5_6 (v0 : List Sc) (v1 : List Sc) (v2 : List Sc) (v3 : Int) (v4 : Int) (t8 : Int) (fr : List AV) : Option (List AV) :=
  some (setAll [(40, .p (.go 1)), (41, .p (.sc (Sc.n .i64 t8)))] fr)
def f_s_l14Set_sg5_10 (v0 : List Sc) (v1 : List Sc) (v2 : List Sc) (v3 : Int) (v4 : Int) (t8 : Int) (fr : List AV) : Option (List AV) :=
  some (setAll [(40, .p (.go 1)), (42, .p (.pt 2 3))] fr)
def f_s_l14Set_sg5_18 (v0 : List Sc) (v1 : List Sc) (v2 : List Sc) (v3 : Int) (v4 : Int) (t8 : Int) (fr : List AV) : Option (List AV) :=
  some (setAll [(40, .p (.go 1)), (43, .p (.go 1))] fr)
def f_s_l14Set_sg5_12 (v0 : List Sc) (v1 : List Sc) (v2 : List Sc) (v3 : Int) (v4 : Int) (t8 : Int) (fr : List AV) : Option (List AV) :=
  some (setAll [(41, .p (.sc (Sc.n .i64 t8))), (42, .p (.pt 2 3))] fr)
def f_s_l14Set_sg5_20 (v0 : List Sc) (v1 : List Sc) (v2 : List Sc) (v3 : Int) (v4 : Int) (t8 : Int) (fr : List AV) : Option (List AV) :=
  some (setAll [(41, .p (.sc (Sc.n .i64 t8))), (43, .p (.go 1))] fr)
def f_s_l14Set_sg5_24 (v0 : List Sc) (v1 : List Sc) (v2 : List Sc) (v3 : Int) (v4 : Int) (t8 : Int) (fr : List AV) : Option (List AV) :=
  some (setAll [(42, .p (.pt 2 3)), (43, .p (.go 1))] fr)
def f_s_l14Set_sg5_48 (v0 : List Sc) (v1 : List Sc) (v2 : List Sc) (v3 : Int) (v4 : Int) (t8 : Int) (fr : List AV) : Option (List AV) :=
  bo (f_s_OrderOf v1) 0 fun r8 =>
  some (setAll [(43, .p (.go 1)), (44, .p (.sc (Sc.n .i64 r8)))] fr)
def f_s_l14Set_sg5_7 (v0 : List Sc) (v1 : List Sc) (v2 : List Sc) (v3 : Int) (v4 : Int) (t8 : Int) (fr : List AV) : Option (List AV) :=
  some (setAll [(39, .p (.go 1)), (40, .p (.go 1)), (41, .p (.sc (Sc.n .i64 t8)))] fr)
def f_s_l14Set_sg5_11 (v0 : List Sc) (v1 : List Sc) (v2 : List Sc) (v3 : Int) (v4 : Int) (t8 : Int) (fr : List AV) : Option (List AV) :=
  some (setAll [(39, .p (.go 1)), (40, .p (.go 1)), (42, .p (.pt 2 3))] fr)
def f_s_l14Set_sg5_19 (v0 : List Sc) (v1 : List Sc) (v2 : List Sc) (v3 : Int) (v4 : Int) (t8 : Int) (fr : List AV) : Option (List AV) :=
  some (setAll [(39, .p (.go 1)), (40, .p (.go 1)), (43, .p (.go 1))] fr)
def f_s_l14Set_sg5_13 (v0 : List Sc) (v1 : List Sc) (v2 : List Sc) (v3 : Int) (v4 : Int) (t8 : Int) (fr : List AV) : Option (List AV) :=
  some (setAll [(39, .p (.go 1)), (41, .p (.sc (Sc.n .i64 t8))), (42, .p (.pt 2 3))] fr)
def f_s_l14Set_sg5_21 (v0 : List Sc) (v1 : List Sc) (v2 : List Sc) (v3 : Int) (v4 : Int) (t8 : Int) (fr : List AV) : Option (List AV) :=
  some (setAll [(39, .p (.go 1)), (41, .p (.sc (Sc.n .i64 t8))), (43, .p (.go 1))] fr)
def f_s_l14Set_sg5_25 (v0 : List Sc) (v1 : List Sc) (v2 : List Sc) (v3 : Int) (v4 : Int) (t8 : Int) (fr : List AV) : Option (List AV) :=
  some (setAll [(39, .p (.go 1)), (42, .p (.pt 2 3)), (43, .p (.go 1))] fr)
def f_s_l14Set_sg5_49 (v0 : List Sc) (v1 : List Sc) (v2 : List Sc) (v3 : Int) (v4 : Int) (t8 : Int) (fr : List AV) : Option (List AV) :=
  bo (f_s_OrderOf v1) 0 fun r9 =>
  some (setAll [(39, .p (.go 1)), (43, .p (.go 1)), (44, .p (.sc (Sc.n .i64 r9)))] fr)
def f_s_l14Set_sg5_14 (v0 : List Sc) (v1 : List Sc) (v2 : List Sc) (v3 : Int) (v4 : Int) (t8 : Int) (fr : List AV) : Option (List AV) :=
  some (setAll [(40, .p (.go 1)), (41, .p (.sc (Sc.n .i64 t8))), (42, .p (.pt 2 3))] fr)
def f_s_l14Set_sg5_22 (v0 : List Sc) (v1 : List Sc) (v2 : List Sc) (v3 : Int) (v4 : Int) (t8 : Int) (fr : List AV) : Option (List AV) :=
  some (setAll [(40, .p (.go 1)), (41, .p (.sc (Sc.n .i64 t8))), (43, .p (.go 1))] fr)
def f_s_l14Set_sg5_26 (v0 : List Sc) (v1 : List Sc) (v2 : List Sc) (v3 : Int) (v4 : Int) (t8 : Int) (fr : List AV) : Option (List AV) :=
  some (setAll [(40, .p (.go 1)), (42, .p (.pt 2 3)), (43, .p (.go 1))] fr)
def f_s_l14Set_sg5_50 (v0 : List Sc) (v1 : List Sc) (v2 : List Sc) (v3 : Int) (v4 : Int) (t8 : Int) (fr : List AV) : Option (List AV) :=
  bo (f_s_OrderOf v1) 0 fun r10 =>
  some (setAll [(40, .p (.go 1)), (43, .p (.go 1)), (44, .p (.sc (Sc.n .i64 r10)))] fr)
def f_s_l14Set_sg5_28 (v0 : List Sc) (v1 : List Sc) (v2 : List Sc) (v3 : Int) (v4 : Int) (t8 : Int) (fr : List AV) : Option (List AV) :=
  some (setAll [(41, .p (.sc (Sc.n .i64 t8))), (42, .p (.pt 2 3)), (43, .p (.go 1))] fr)
def f_s_l14Set_sg5_52 (v0 : List Sc) (v1 : List Sc) (v2 : List Sc) (v3 : Int) (v4 : Int) (t8 : Int) (fr : List AV) : Option (List AV) :=
  bo (f_s_OrderOf v1) 0 fun r11 =>
  some (setAll [(41, .p (.sc (Sc.n .i64 t8))), (43, .p (.go 1)), (44, .p (.sc (Sc.n .i64 r11)))] fr)
def f_s_l14Set_sg5_56 (v0 : List Sc) (v1 : List Sc) (v2 : List Sc) (v3 : Int) (v4 : Int) (t8 : Int) (fr : List AV) : Option (List AV) :=
  bo (f_s_OrderOf v1) 0 fun r12 =>
  some (setAll [(42, .p (.pt 2 3)), (43, .p (.go 1)), (44, .p (.sc (Sc.n .i64 r12)))] fr)
def f_s_l14Set_sg5_112 (v0 : List Sc) (v1 : List Sc) (v2 : List Sc) (v3 : Int) (v4 : Int) (t8 : Int) (fr : List AV) : Option (List AV) :=
  bo (f_s_OrderOf v1) 0 fun r13 =>
  some (setAll [(43, .p (.go 1)), (44, .p (.sc (Sc.n .i64 r13))), (45, .p (.sc (Sc.n .i64 (if r13 > 1 then r13 else 1))))] fr)
def f_s_l14Set_sg5_15 (v0 : List Sc) (v1 : List Sc) (v2 : List Sc) (v3 : Int) (v4 : Int) (t8 : Int) (fr : List AV) : Option (List AV) :=
  some (setAll [(39, .p (.go 1)), (40, .p (.go 1)), (41, .p (.sc (Sc.n .i64 t8))), (42, .p (.pt 2 3))] fr)
def f_s_l14Set_sg5_23 (v0 : List Sc) (v1 : List Sc) (v2 : List Sc) (v3 : Int) (v4 : Int) (t8 : Int) (fr : List AV) : Option (List AV) :=
  some (setAll [(39, .p (.go 1)), (40, .p (.go 1)), (41, .p (.sc (Sc.n .i64 t8))), (43, .p (.go 1))] fr)
def f_s_l14Set_sg5_27 (v0 : List Sc) (v1 : List Sc) (v2 : List Sc) (v3 : Int) (v4 : Int) (t8 : Int) (fr : List AV) : Option (List AV) :=
  some (setAll [(39, .p (.go 1)), (40, .p (.go 1)), (42, .p (.pt 2 3)), (43, .p (.go 1))] fr)
def f_s_l14Set_sg5_51 (v0 : List Sc) (v1 : List Sc) (v2 : List Sc) (v3 : Int) (v4 : Int) (t8 : Int) (fr : List AV) : Option (List AV) :=
  bo (f_s_OrderOf v1) 0 fun r14 =>
  some (setAll [(39, .p (.go 1)), (40, .p (.go 1)), (43, .p (.go 1)), (44, .p (.sc (Sc.n .i64 r14)))] fr)
def f_s_l14Set_sg5_29 (v0 : List Sc) (v1 : List Sc) (v2 : List Sc) (v3 : Int) (v4 : Int) (t8 : Int) (fr : List AV) : Option (List AV) :=
  some (setAll [(39, .p (.go 1)), (41, .p (.sc (Sc.n .i64 t8))), (42, .p (.pt 2 3)), (43, .p (.go 1))] fr)
def f_s_l14Set_sg5_53 (v0 : List Sc) (v1 : List Sc) (v2 : List Sc) (v3 : Int) (v4 : Int) (t8 : Int) (fr : List AV) : Option (List AV) :=
  bo (f_s_OrderOf v1) 0 fun r15 =>
  some (setAll [(39, .p (.go 1)), (41, .p (.sc (Sc.n .i64 t8))), (43, .p (.go 1)), (44, .p (.sc (Sc.n .i64 r15)))] fr)
def f_s_l14Set_sg5_57 (v0 : List Sc) (v1 : List Sc) (v2 : List Sc) (v3 : Int) (v4 : Int) (t8 : Int) (fr : List AV) : Option (List AV) :=
  bo (f_s_OrderOf v1) 0 fun r16 =>
  some (setAll [(39, .p (.go 1)), (42, .p (.pt 2 3)), (43, .p (.go 1)), (44, .p (.sc (Sc.n .i64 r16)))] fr)
def f_s_l14Set_sg5_113 (v0 : List Sc) (v1 : List Sc) (v2 : List Sc) (v3 : Int) (v4 : Int) (t8 : Int) (fr : List AV) : Option (List AV) :=
  bo (f_s_OrderOf v1) 0 fun r17 =>
  some (setAll [(39, .p (.go 1)), (43, .p (.go 1)), (44, .p (.sc (Sc.n .i64 r17))), (45, .p (.sc (Sc.n .i64 (if r17 > 1 then r17 else 1))))] fr)
def f_s_l14Set_sg5_30 (v0 : List Sc) (v1 : List Sc) (v2 : List Sc) (v3 : Int) (v4 : Int) (t8 : Int) (fr : List AV) : Option (List AV) :=
  some (setAll [(40, .p (.go 1)), (41, .p (.sc (Sc.n .i64 t8))), (42, .p (.pt 2 3)), (43, .p (.go 1))] fr)
def f_s_l14Set_sg5_54 (v0 : List Sc) (v1 : List Sc) (v2 : List Sc) (v3 : Int) (v4 : Int) (t8 : Int) (fr : List AV) : Option (List AV) :=
  bo (f_s_OrderOf v1) 0 fun r18 =>
  some (setAll [(40, .p (.go 1)), (41, .p (.sc (Sc.n .i64 t8))), (43, .p (.go 1)), (44, .p (.sc (Sc.n .i64 r18)))] fr)
def f_s_l14Set_sg5_58 (v0 : List Sc) (v1 : List Sc) (v2 : List Sc) (v3 : Int) (v4 : Int) (t8 : Int) (fr : List AV) : Option (List AV) :=
  bo (f_s_OrderOf v1) 0 fun r19 =>
  some (setAll [(40, .p (.go 1)), (42, .p (.pt 2 3)), (43, .p (.go 1)), (44, .p (.sc (Sc.n .i64 r19)))] fr)
def f_s_l14Set_sg5_114 (v0 : List Sc) (v1 : List Sc) (v2 : List Sc) (v3 : Int) (v4 : Int) (t8 : Int) (fr : List AV) : Option (List AV) :=
  bo (f_s_OrderOf v1) 0 fun r20 =>
  some (setAll [(40, .p (.go 1)), (43, .p (.go 1)), (44, .p (.sc (Sc.n .i64 r20))), (45, .p (.sc (Sc.n .i64 (if r20 > 1 then r20 else 1))))] fr)
def f_s_l14Set_sg5_60 (v0 : List Sc) (v1 : List Sc) (v2 : List Sc) (v3 : Int) (v4 : Int) (t8 : Int) (fr : List AV) : Option (List AV) :=
  bo (f_s_OrderOf v1) 0 fun r21 =>
  some (setAll [(41, .p (.sc (Sc.n .i64 t8))), (42, .p (.pt 2 3)), (43, .p (.go 1)), (44, .p (.sc (Sc.n .i64 r21)))] fr)
def f_s_l14Set_sg5_116 (v0 : List Sc) (v1 : List Sc) (v2 : List Sc) (v3 : Int) (v4 : Int) (t8 : Int) (fr : List AV) : Option (List AV) :=
  bo (f_s_OrderOf v1) 0 fun r22 =>
  some (setAll [(41, .p (.sc (Sc.n .i64 t8))), (43, .p (.go 1)), (44, .p (.sc (Sc.n .i64 r22))), (45, .p (.sc (Sc.n .i64 (if r22 > 1 then r22 else 1))))] fr)
def f_s_l14Set_sg5_120 (v0 : List Sc) (v1 : List Sc) (v2 : List Sc) (v3 : Int) (v4 : Int) (t8 : Int) (fr : List AV) : Option (List AV) :=
  bo (f_s_OrderOf v1) 0 fun r23 =>
  some (setAll [(42, .p (.pt 2 3)), (43, .p (.go 1)), (44, .p (.sc (Sc.n .i64 r23))), (45, .p (.sc (Sc.n .i64 (if r23 > 1 then r23 else 1))))] fr)
def f_s_l14Set_sg5_31 (v0 : List Sc) (v1 : List Sc) (v2 : List Sc) (v3 : Int) (v4 : Int) (t8 : Int) (fr : List AV) : Option (List AV) :=
  some (setAll [(39, .p (.go 1)), (40, .p (.go 1)), (41, .p (.sc (Sc.n .i64 t8))), (42, .p (.pt 2 3)), (43, .p (.go 1))] fr)
def f_s_l14Set_sg5_55 (v0 : List Sc) (v1 : List Sc) (v2 : List Sc) (v3 : Int) (v4 : Int) (t8 : Int) (fr : List AV) : Option (List AV) :=
  bo (f_s_OrderOf v1) 0 fun r24 =>
  some (setAll [(39, .p (.go 1)), (40, .p (.go 1)), (41, .p (.sc (Sc.n .i64 t8))), (43, .p (.go 1)), (44, .p (.sc (Sc.n .i64 r24)))] fr)
def f_s_l14Set_sg5_59 (v0 : List Sc) (v1 : List Sc) (v2 : List Sc) (v3 : Int) (v4 : Int) (t8 : Int) (fr : List AV) : Option (List AV) :=
  bo (f_s_OrderOf v1) 0 fun r25 =>
  some (setAll [(39, .p (.go 1)), (40, .p (.go 1)), (42, .p (.pt 2 3)), (43, .p (.go 1)), (44, .p (.sc (Sc.n .i64 r25)))] fr)
def f_s_l14Set_sg5_115 (v0 : List Sc) (v1 : List Sc) (v2 : List Sc) (v3 : Int) (v4 : Int) (t8 : Int) (fr : List AV) : Option (List AV) :=
  bo (f_s_OrderOf v1) 0 fun r26 =>
  some (setAll [(39, .p (.go 1)), (40, .p (.go 1)), (43, .p (.go 1)), (44, .p (.sc (Sc.n .i64 r26))), (45, .p (.sc (Sc.n .i64 (if r26 > 1 then r26 else 1))))] fr)
def f_s_l14Set_sg5_61 (v0 : List Sc) (v1 : List Sc) (v2 : List Sc) (v3 : Int) (v4 : Int) (t8 : Int) (fr : List AV) : Option (List AV) :=
  bo (f_s_OrderOf v1) 0 fun r27 =>
  some (setAll [(39, .p (.go 1)), (41, .p (.sc (Sc.n .i64 t8))), (42, .p (.pt 2 3)), (43, .p (.go 1)), (44, .p (.sc (Sc.n .i64 r27)))] fr)
def f_s_l14Set_sg5_117 (v0 : List Sc) (v1 : List Sc) (v2 : List Sc) (v3 : Int) (v4 : Int) (t8 : Int) (fr : List AV) : Option (List AV) :=
  bo (f_s_OrderOf v1) 0 fun r28 =>
  some (setAll [(39, .p (.go 1)), (41, .p (.sc (Sc.n .i64 t8))), (43, .p (.go 1)), (44, .p (.sc (Sc.n .i64 r28))), (45, .p (.sc (Sc.n .i64 (if r28 > 1 then r28 else 1))))] fr)
def f_s_l14Set_sg5_121 (v0 : List Sc) (v1 : List Sc) (v2 : List Sc) (v3 : Int) (v4 : Int) (t8 : Int) (fr : List AV) : Option (List AV) :=
  bo (f_s_OrderOf v1) 0 fun r29 =>
  some (setAll [(39, .p (.go 1)), (42, .p (.pt 2 3)), (43, .p (.go 1)), (44, .p (.sc (Sc.n .i64 r29))), (45, .p (.sc (Sc.n .i64 (if r29 > 1 then r29 else 1))))] fr)
def f_s_l14Set_sg5_62 (v0 : List Sc) (v1 : List Sc) (v2 : List Sc) (v3 : Int) (v4 : Int) (t8 : Int) (fr : List AV) : Option (List AV) :=
  bo (f_s_OrderOf v1) 0 fun r30 =>
  some (setAll [(40, .p (.go 1)), (41, .p (.sc (Sc.n .i64 t8))), (42, .p (.pt 2 3)), (43, .p (.go 1)), (44, .p (.sc (Sc.n .i64 r30)))] fr)
def f_s_l14Set_sg5_118 (v0 : List Sc) (v1 : List Sc) (v2 : List Sc) (v3 : Int) (v4 : Int) (t8 : Int) (fr : List AV) : Option (List AV) :=
  bo (f_s_OrderOf v1) 0 fun r31 =>
  some (setAll [(40, .p (.go 1)), (41, .p (.sc (Sc.n .i64 t8))), (43, .p (.go 1)), (44, .p (.sc (Sc.n .i64 r31))), (45, .p (.sc (Sc.n .i64 (if r31 > 1 then r31 else 1))))] fr)
def f_s_l14Set_sg5_122 (v0 : List Sc) (v1 : List Sc) (v2 : List Sc) (v3 : Int) (v4 : Int) (t8 : Int) (fr : List AV) : Option (List AV) :=
  bo (f_s_OrderOf v1) 0 fun r32 =>
  some (setAll [(40, .p (.go 1)), (42, .p (.pt 2 3)), (43, .p (.go 1)), (44, .p (.sc (Sc.n .i64 r32))), (45, .p (.sc (Sc.n .i64 (if r32 > 1 then r32 else 1))))] fr)
def f_s_l14Set_sg5_124 (v0 : List Sc) (v1 : List Sc) (v2 : List Sc) (v3 : Int) (v4 : Int) (t8 : Int) (fr : List AV) : Option (List AV) :=
  bo (f_s_OrderOf v1) 0 fun r33 =>
  some (setAll [(41, .p (.sc (Sc.n .i64 t8))), (42, .p (.pt 2 3)), (43, .p (.go 1)), (44, .p (.sc (Sc.n .i64 r33))), (45, .p (.sc (Sc.n .i64 (if r33 > 1 then r33 else 1))))] fr)
def f_s_l14Set_sg5_248 (v0 : List Sc) (v1 : List Sc) (v2 : List Sc) (v3 : Int) (v4 : Int) (t8 : Int) (fr : List AV) : Option (List AV) :=
  bo (f_s_OrderOf v1) 0 fun r34 =>
  bo (f_s_l1Below_io (if r34 > 1 then r34 else 1) v2 v3 v4) (0, [], 0, 0) fun r35 =>
  some (setAll [(2, .p (.sl r35.2.1)), (3, .p (.sc (Sc.n .i64 r35.2.2.1))), (4, .p (.sc (Sc.n .i64 r35.2.2.2))), (42, .p (.pt 2 3)), (43, .p (.go 1)), (44, .p (.sc (Sc.n .i64 r34))), (45, .p (.sc (Sc.n .i64 (if r34 > 1 then r34 else 1)))), (46, .p (.sc (Sc.n .i64 r35.1)))] fr)
def f_s_l14Set_sg5_63 (v0 : List Sc) (v1 : List Sc) (v2 : List Sc) (v3 : Int) (v4 : Int) (t8 : Int) (fr : List AV) : Option (List AV) :=
  bo (f_s_OrderOf v1) 0 fun r36 =>
  some (setAll [(39, .p (.go 1)), (40, .p (.go 1)), (41, .p (.sc (Sc.n .i64 t8))), (42, .p (.pt 2 3)), (43, .p (.go 1)), (44, .p (.sc (Sc.n .i64 r36)))] fr)
def f_s_l14Set_sg5_119 (v0 : List Sc) (v1 : List Sc) (v2 : List Sc) (v3 : Int) (v4 : Int) (t8 : Int) (fr : List AV) : Option (List AV) :=
  bo (f_s_OrderOf v1) 0 fun r37 =>
  some (setAll [(39, .p (.go 1)), (40, .p (.go 1)), (41, .p (.sc (Sc.n .i64 t8))), (43, .p (.go 1)), (44, .p (.sc (Sc.n .i64 r37))), (45, .p (.sc (Sc.n .i64 (if r37 > 1 then r37 else 1))))] fr)
def f_s_l14Set_sg5_123 (v0 : List Sc) (v1 : List Sc) (v2 : List Sc) (v3 : Int) (v4 : Int) (t8 : Int) (fr : List AV) : Option (List AV) :=
  bo (f_s_OrderOf v1) 0 fun r38 =>
  some (setAll [(39, .p (.go 1)), (40, .p (.go 1)), (42, .p (.pt 2 3)), (43, .p (.go 1)), (44, .p (.sc (Sc.n .i64 r38))), (45, .p (.sc (Sc.n .i64 (if r38 > 1 then r38 else 1))))] fr)
def f_s_l14Set_sg5_125 (v0 : List Sc) (v1 : List Sc) (v2 : List Sc) (v3 : Int) (v4 : Int) (t8 : Int) (fr : List AV) : Option (List AV) :=
  bo (f_s_OrderOf v1) 0 fun r39 =>
  some (setAll [(39, .p (.go 1)), (41, .p (.sc (Sc.n .i64 t8))), (42, .p (.pt 2 3)), (43, .p (.go 1)), (44, .p (.sc (Sc.n .i64 r39))), (45, .p (.sc (Sc.n .i64 (if r39 > 1 then r39 else 1))))] fr)
def f_s_l14Set_sg5_249 (v0 : List Sc) (v1 : List Sc) (v2 : List Sc) (v3 : Int) (v4 : Int) (t8 : Int) (fr : List AV) : Option (List AV) :=
  bo (f_s_OrderOf v1) 0 fun r40 =>
  bo (f_s_l1Below_io (if r40 > 1 then r40 else 1) v2 v3 v4) (0, [], 0, 0) fun r41 =>
  some (setAll [(2, .p (.sl r41.2.1)), (3, .p (.sc (Sc.n .i64 r41.2.2.1))), (4, .p (.sc (Sc.n .i64 r41.2.2.2))), (39, .p (.go 1)), (42, .p (.pt 2 3)), (43, .p (.go 1)), (44, .p (.sc (Sc.n .i64 r40))), (45, .p (.sc (Sc.n .i64 (if r40 > 1 then r40 else 1)))), (46, .p (.sc (Sc.n .i64 r41.1)))] fr)
def f_s_l14Set_sg5_126 (v0 : List Sc) (v1 : List Sc) (v2 : List Sc) (v3 : Int) (v4 : Int) (t8 : Int) (fr : List AV) : Option (List AV) :=
  bo (f_s_OrderOf v1) 0 fun r42 =>
  some (setAll [(40, .p (.go 1)), (41, .p (.sc (Sc.n .i64 t8))), (42, .p (.pt 2 3)), (43, .p (.go 1)), (44, .p (.sc (Sc.n .i64 r42))), (45, .p (.sc (Sc.n .i64 (if r42 > 1 then r42 else 1))))] fr)
def f_s_l14Set_sg5_250 (v0 : List Sc) (v1 : List Sc) (v2 : List Sc) (v3 : Int) (v4 : Int) (t8 : Int) (fr : List AV) : Option (List AV) :=
  bo (f_s_OrderOf v1) 0 fun r43 =>
  bo (f_s_l1Below_io (if r43 > 1 then r43 else 1) v2 v3 v4) (0, [], 0, 0) fun r44 =>
  some (setAll [(2, .p (.sl r44.2.1)), (3, .p (.sc (Sc.n .i64 r44.2.2.1))), (4, .p (.sc (Sc.n .i64 r44.2.2.2))), (40, .p (.go 1)), (42, .p (.pt 2 3)), (43, .p (.go 1)), (44, .p (.sc (Sc.n .i64 r43))), (45, .p (.sc (Sc.n .i64 (if r43 > 1 then r43 else 1)))), (46, .p (.sc (Sc.n .i64 r44.1)))] fr)
def f_s_l14Set_sg5_252 (v0 : List Sc) (v1 : List Sc) (v2 : List Sc) (v3 : Int) (v4 : Int) (t8 : Int) (fr : List AV) : Option (List AV) :=
  bo (f_s_OrderOf v1) 0 fun r45 =>
  bo (f_s_l1Below_io (if r45 > 1 then r45 else 1) v2 v3 v4) (0, [], 0, 0) fun r46 =>
  some (setAll [(2, .p (.sl r46.2.1)), (3, .p (.sc (Sc.n .i64 r46.2.2.1))), (4, .p (.sc (Sc.n .i64 r46.2.2.2))), (41, .p (.sc (Sc.n .i64 t8))), (42, .p (.pt 2 3)), (43, .p (.go 1)), (44, .p (.sc (Sc.n .i64 r45))), (45, .p (.sc (Sc.n .i64 (if r45 > 1 then r45 else 1)))), (46, .p (.sc (Sc.n .i64 r46.1)))] fr)
def f_s_l14Set_sg5_127 (v0 : List Sc) (v1 : List Sc) (v2 : List Sc) (v3 : Int) (v4 : Int) (t8 : Int) (fr : List AV) : Option (List AV) :=
  bo (f_s_OrderOf v1) 0 fun r47 =>
  some (setAll [(39, .p (.go 1)), (40, .p (.go 1)), (41, .p (.sc (Sc.n .i64 t8))), (42, .p (.pt 2 3)), (43, .p (.go 1)), (44, .p (.sc (Sc.n .i64 r47))), (45, .p (.sc (Sc.n .i64 (if r47 > 1 then r47 else 1))))] fr)
def f_s_l14Set_sg5_251 (v0 : List Sc) (v1 : List Sc) (v2 : List Sc) (v3 : Int) (v4 : Int) (t8 : Int) (fr : List AV) : Option (List AV) :=
  bo (f_s_OrderOf v1) 0 fun r48 =>
  bo (f_s_l1Below_io (if r48 > 1 then r48 else 1) v2 v3 v4) (0, [], 0, 0) fun r49 =>
  some (setAll [(2, .p (.sl r49.2.1)), (3, .p (.sc (Sc.n .i64 r49.2.2.1))), (4, .p (.sc (Sc.n .i64 r49.2.2.2))), (39, .p (.go 1)), (40, .p (.go 1)), (42, .p (.pt 2 3)), (43, .p (.go 1)), (44, .p (.sc (Sc.n .i64 r48))), (45, .p (.sc (Sc.n .i64 (if r48 > 1 then r48 else 1)))), (46, .p (.sc (Sc.n .i64 r49.1)))] fr)
def f_s_l14Set_sg5_253 (v0 : List Sc) (v1 : List Sc) (v2 : List Sc) (v3 : Int) (v4 : Int) (t8 : Int) (fr : List AV) : Option (List AV) :=
  bo (f_s_OrderOf v1) 0 fun r50 =>
  bo (f_s_l1Below_io (if r50 > 1 then r50 else 1) v2 v3 v4) (0, [], 0, 0) fun r51 =>
  some (setAll [(2, .p (.sl r51.2.1)), (3, .p (.sc (Sc.n .i64 r51.2.2.1))), (4, .p (.sc (Sc.n .i64 r51.2.2.2))), (39, .p (.go 1)), (41, .p (.sc (Sc.n .i64 t8))), (42, .p (.pt 2 3)), (43, .p (.go 1)), (44, .p (.sc (Sc.n .i64 r50))), (45, .p (.sc (Sc.n .i64 (if r50 > 1 then r50 else 1)))), (46, .p (.sc (Sc.n .i64 r51.1)))] fr)
def f_s_l14Set_sg5_254 (v0 : List Sc) (v1 : List Sc) (v2 : List Sc) (v3 : Int) (v4 : Int) (t8 : Int) (fr : List AV) : Option (List AV) :=
  bo (f_s_OrderOf v1) 0 fun r52 =>
  bo (f_s_l1Below_io (if r52 > 1 then r52 else 1) v2 v3 v4) (0, [], 0, 0) fun r53 =>
  some (setAll [(2, .p (.sl r53.2.1)), (3, .p (.sc (Sc.n .i64 r53.2.2.1))), (4, .p (.sc (Sc.n .i64 r53.2.2.2))), (40, .p (.go 1)), (41, .p (.sc (Sc.n .i64 t8))), (42, .p (.pt 2 3)), (43, .p (.go 1)), (44, .p (.sc (Sc.n .i64 r52))), (45, .p (.sc (Sc.n .i64 (if r52 > 1 then r52 else 1)))), (46, .p (.sc (Sc.n .i64 r53.1)))] fr)
def f_s_l14Set_sg5_255 (v0 : List Sc) (v1 : List Sc) (v2 : List Sc) (v3 : Int) (v4 : Int) (t8 : Int) (fr : List AV) : Option (List AV) :=
  bo (f_s_OrderOf v1) 0 fun r54 =>
  bo (f_s_l1Below_io (if r54 > 1 then r54 else 1) v2 v3 v4) (0, [], 0, 0) fun r55 =>
  some (setAll [(2, .p (.sl r55.2.1)), (3, .p (.sc (Sc.n .i64 r55.2.2.1))), (4, .p (.sc (Sc.n .i64 r55.2.2.2))), (39, .p (.go 1)), (40, .p (.go 1)), (41, .p (.sc (Sc.n .i64 t8))), (42, .p (.pt 2 3)), (43, .p (.go 1)), (44, .p (.sc (Sc.n .i64 r54))), (45, .p (.sc (Sc.n .i64 (if r54 > 1 then r54 else 1)))), (46, .p (.sc (Sc.n .i64 r55.1)))] fr)
def f_s_l14Set_sg5_510 (v0 : List Sc) (v1 : List Sc) (v2 : List Sc) (v3 : Int) (v4 : Int) (t8 : Int) (fr : List AV) : Option (List AV) :=
  bo (f_s_OrderOf v1) 0 fun r56 =>
  bo (f_s_l1Below_io (if r56 > 1 then r56 else 1) v2 v3 v4) (0, [], 0, 0) fun r57 =>
  bo (f_s_ShiftSet v1 t8 r57.1) 0 fun r58 =>
  some (setAll [(2, .p (.sl r57.2.1)), (3, .p (.sc (Sc.n .i64 r57.2.2.1))), (4, .p (.sc (Sc.n .i64 r57.2.2.2))), (40, .p (.go 1)), (41, .p (.sc (Sc.n .i64 t8))), (42, .p (.pt 2 3)), (43, .p (.go 1)), (44, .p (.sc (Sc.n .i64 r56))), (45, .p (.sc (Sc.n .i64 (if r56 > 1 then r56 else 1)))), (46, .p (.sc (Sc.n .i64 r57.1))), (47, .p (.sc (Sc.n .i64 r58)))] fr)
def f_s_l14Set_sg5_511 (v0 : List Sc) (v1 : List Sc) (v2 : List Sc) (v3 : Int) (v4 : Int) (t8 : Int) (fr : List AV) : Option (List AV) :=
  bo (f_s_OrderOf v1) 0 fun r59 =>
  bo (f_s_l1Below_io (if r59 > 1 then r59 else 1) v2 v3 v4) (0, [], 0, 0) fun r60 =>
  bo (f_s_ShiftSet v1 t8 r60.1) 0 fun r61 =>
  some (setAll [(2, .p (.sl r60.2.1)), (3, .p (.sc (Sc.n .i64 r60.2.2.1))), (4, .p (.sc (Sc.n .i64 r60.2.2.2))), (39, .p (.go 1)), (40, .p (.go 1)), (41, .p (.sc (Sc.n .i64 t8))), (42, .p (.pt 2 3)), (43, .p (.go 1)), (44, .p (.sc (Sc.n .i64 r59))), (45, .p (.sc (Sc.n .i64 (if r59 > 1 then r59 else 1)))), (46, .p (.sc (Sc.n .i64 r60.1))), (47, .p (.sc (Sc.n .i64 r61)))] fr)
def f_s_l14Set_sg5_1023 (v0 : List Sc) (v1 : List Sc) (v2 : List Sc) (v3 : Int) (v4 : Int) (t8 : Int) (fr : List AV) : Option (List AV) :=
  bo (f_s_OrderOf v1) 0 fun r62 =>
  bo (f_s_l1Below_io (if r62 > 1 then r62 else 1) v2 v3 v4) (0, [], 0, 0) fun r63 =>
  bo (f_s_ShiftSet v1 t8 r63.1) 0 fun r64 =>
  some (setAll [(0, .own 3 v1), (1, .p (.al 0)), (2, .p (.sl r63.2.1)), (3, .p (.sc (Sc.n .i64 r63.2.2.1))), (4, .p (.sc (Sc.n .i64 r63.2.2.2))), (39, .p (.go 0)), (40, .p (.go 0)), (41, .p (.sc (Sc.n .i64 t8))), (42, .p (.pt 2 3)), (43, .p (.go 0)), (44, .p (.sc (Sc.n .i64 r62))), (45, .p (.sc (Sc.n .i64 (if r62 > 1 then r62 else 1)))), (46, .p (.sc (Sc.n .i64 r63.1))), (47, .p (.sc (Sc.n .i64 r64)))] fr)
def f_s_l14Set_sg5_2047 (v0 : List Sc) (v1 : List Sc) (v2 : List Sc) (v3 : Int) (v4 : Int) (t8 : Int) (fr : List AV) : Option (List AV) :=
  bo (f_s_OrderOf v1) 0 fun r65 =>
  bo (f_s_l1Below_io (if r65 > 1 then r65 else 1) v2 v3 v4) (0, [], 0, 0) fun r66 =>
  bo (f_s_ShiftSet v1 t8 r66.1) 0 fun r67 =>
  some (setAll [(0, .own 3 v1), (1, .p (.al 0)), (2, .p (.sl r66.2.1)), (3, .p (.sc (Sc.n .i64 r66.2.2.1))), (4, .p (.sc (Sc.n .i64 r66.2.2.2))), (11, .p (.sc (Sc.n .i64 r67))), (39, .p (.go 0)), (40, .p (.go 0)), (41, .p (.sc (Sc.n .i64 t8))), (42, .p (.pt 2 3)), (43, .p (.go 0)), (44, .p (.sc (Sc.n .i64 r65))), (45, .p (.sc (Sc.n .i64 (if r65 > 1 then r65 else 1)))), (46, .p (.sc (Sc.n .i64 r66.1))), (47, .p (.sc (Sc.n .i64 r67)))] fr)
def f_s_l14Set_Eg5 (v0 : List Sc) (v1 : List Sc) (v2 : List Sc) (v3 : Int) (v4 : Int) (t8 : Int) (fr : List AV) : List (Option (List AV)) := [f_s_l14Set_sg5_1 v0 v1 v2 v3 v4 t8 fr, f_s_l14Set_sg5_2 v0 v1 v2 v3 v4 t8 fr, f_s_l14Set_sg5_4 v0 v1 v2 v3 v4 t8 fr, f_s_l14Set_sg5_8 v0 v1 v2 v3 v4 t8 fr, f_s_l14Set_sg5_16 v0 v1 v2 v3 v4 t8 fr, f_s_l14Set_sg5_3 v0 v1 v2 v3 v4 t8 fr, f_s_l14Set_sg5_5 v0 v1 v2 v3 v4 t8 fr, f_s_l14Set_sg5_9 v0 v1 v2 v3 v4 t8 fr, f_s_l14Set_sg5_17 v0 v1 v2 v3 v4 t8 fr, f_s_l14Set_sg5_3 v0 v1 v2 v3 v4 t8 fr, f_s_l14Set_sg5_6 v0 v1 v2 v3 v4 t8 fr, f_s_l14Set_sg5_10 v0 v1 v2 v3 v4 t8 fr, f_s_l14Set_sg5_18 v0 v1 v2 v3 v4 t8 fr, f_s_l14Set_sg5_5 v0 v1 v2 v3 v4 t8 fr, f_s_l14Set_sg5_6 v0 v1 v2 v3 v4 t8 fr, f_s_l14Set_sg5_12 v0 v1 v2 v3 v4 t8 fr, f_s_l14Set_sg5_20 v0 v1 v2 v3 v4 t8 fr, f_s_l14Set_sg5_9 v0 v1 v2 v3 v4 t8 fr, f_s_l14Set_sg5_10 v0 v1 v2 v3 v4 t8 fr, f_s_l14Set_sg5_12 v0 v1 v2 v3 v4 t8 fr, f_s_l14Set_sg5_24 v0 v1 v2 v3 v4 t8 fr, f_s_l14Set_sg5_17 v0 v1 v2 v3 v4 t8 fr, f_s_l14Set_sg5_18 v0 v1 v2 v3 v4 t8 fr, f_s_l14Set_sg5_20 v0 v1 v2 v3 v4 t8 fr, f_s_l14Set_sg5_24 v0 v1 v2 v3 v4 t8 fr, f_s_l14Set_sg5_48 v0 v1 v2 v3 v4 t8 fr, f_s_l14Set_sg5_7 v0 v1 v2 v3 v4 t8 fr, f_s_l14Set_sg5_11 v0 v1 v2 v3 v4 t8 fr, f_s_l14Set_sg5_19 v0 v1 v2 v3 v4 t8 fr, f_s_l14Set_sg5_7 v0 v1 v2 v3 v4 t8 fr, f_s_l14Set_sg5_13 v0 v1 v2 v3 v4 t8 fr, f_s_l14Set_sg5_21 v0 v1 v2 v3 v4 t8 fr, f_s_l14Set_sg5_11 v0 v1 v2 v3 v4 t8 fr, f_s_l14Set_sg5_13 v0 v1 v2 v3 v4 t8 fr, f_s_l14Set_sg5_25 v0 v1 v2 v3 v4 t8 fr, f_s_l14Set_sg5_19 v0 v1 v2 v3 v4 t8 fr, f_s_l14Set_sg5_21 v0 v1 v2 v3 v4 t8 fr, f_s_l14Set_sg5_25 v0 v1 v2 v3 v4 t8 fr, f_s_l14Set_sg5_49 v0 v1 v2 v3 v4 t8 fr, f_s_l14Set_sg5_7 v0 v1 v2 v3 v4 t8 fr, f_s_l14Set_sg5_14 v0 v1 v2 v3 v4 t8 fr, f_s_l14Set_sg5_22 v0 v1 v2 v3 v4 t8 fr, f_s_l14Set_sg5_11 v0 v1 v2 v3 v4 t8 fr, f_s_l14Set_sg5_14 v0 v1 v2 v3 v4 t8 fr, f_s_l14Set_sg5_26 v0 v1 v2 v3 v4 t8 fr, f_s_l14Set_sg5_19 v0 v1 v2 v3 v4 t8 fr, f_s_l14Set_sg5_22 v0 v1 v2 v3 v4 t8 fr, f_s_l14Set_sg5_26 v0 v1 v2 v3 v4 t8 fr, f_s_l14Set_sg5_50 v0 v1 v2 v3 v4 t8 fr, f_s_l14Set_sg5_13 v0 v1 v2 v3 v4 t8 fr, f_s_l14Set_sg5_14 v0 v1 v2 v3 v4 t8 fr, f_s_l14Set_sg5_28 v0 v1 v2 v3 v4 t8 fr, f_s_l14Set_sg5_21 v0 v1 v2 v3 v4 t8 fr, f_s_l14Set_sg5_22 v0 v1 v2 v3 v4 t8 fr, f_s_l14Set_sg5_28 v0 v1 v2 v3 v4 t8 fr, f_s_l14Set_sg5_52 v0 v1 v2 v3 v4 t8 fr, f_s_l14Set_sg5_25 v0 v1 v2 v3 v4 t8 fr, f_s_l14Set_sg5_26 v0 v1 v2 v3 v4 t8 fr, f_s_l14Set_sg5_28 v0 v1 v2 v3 v4 t8 fr, f_s_l14Set_sg5_56 v0 v1 v2 v3 v4 t8 fr, f_s_l14Set_sg5_49 v0 v1 v2 v3 v4 t8 fr, f_s_l14Set_sg5_50 v0 v1 v2 v3 v4 t8 fr, f_s_l14Set_sg5_52 v0 v1 v2 v3 v4 t8 fr, f_s_l14Set_sg5_56 v0 v1 v2 v3 v4 t8 fr, f_s_l14Set_sg5_112 v0 v1 v2 v3 v4 t8 fr, f_s_l14Set_sg5_15 v0 v1 v2 v3 v4 t8 fr, f_s_l14Set_sg5_23 v0 v1 v2 v3 v4 t8 fr, f_s_l14Set_sg5_15 v0 v1 v2 v3 v4 t8 fr, f_s_l14Set_sg5_27 v0 v1 v2 v3 v4 t8 fr, f_s_l14Set_sg5_23 v0 v1 v2 v3 v4 t8 fr, f_s_l14Set_sg5_27 v0 v1 v2 v3 v4 t8 fr, f_s_l14Set_sg5_51 v0 v1 v2 v3 v4 t8 fr, f_s_l14Set_sg5_15 v0 v1 v2 v3 v4 t8 fr, f_s_l14Set_sg5_29 v0 v1 v2 v3 v4 t8 fr, f_s_l14Set_sg5_23 v0 v1 v2 v3 v4 t8 fr, f_s_l14Set_sg5_29 v0 v1 v2 v3 v4 t8 fr, f_s_l14Set_sg5_53 v0 v1 v2 v3 v4 t8 fr, f_s_l14Set_sg5_27 v0 v1 v2 v3 v4 t8 fr, f_s_l14Set_sg5_29 v0 v1 v2 v3 v4 t8 fr, f_s_l14Set_sg5_57 v0 v1 v2 v3 v4 t8 fr, f_s_l14Set_sg5_51 v0 v1 v2 v3 v4 t8 fr, f_s_l14Set_sg5_53 v0 v1 v2 v3 v4 t8 fr, f_s_l14Set_sg5_57 v0 v1 v2 v3 v4 t8 fr, f_s_l14Set_sg5_113 v0 v1 v2 v3 v4 t8 fr, f_s_l14Set_sg5_15 v0 v1 v2 v3 v4 t8 fr, f_s_l14Set_sg5_30 v0 v1 v2 v3 v4 t8 fr, f_s_l14Set_sg5_23 v0 v1 v2 v3 v4 t8 fr, f_s_l14Set_sg5_30 v0 v1 v2 v3 v4 t8 fr, f_s_l14Set_sg5_54 v0 v1 v2 v3 v4 t8 fr, f_s_l14Set_sg5_27 v0 v1 v2 v3 v4 t8 fr, f_s_l14Set_sg5_30 v0 v1 v2 v3 v4 t8 fr, f_s_l14Set_sg5_58 v0 v1 v2 v3 v4 t8 fr, f_s_l14Set_sg5_51 v0 v1 v2 v3 v4 t8 fr, f_s_l14Set_sg5_54 v0 v1 v2 v3 v4 t8 fr, f_s_l14Set_sg5_58 v0 v1 v2 v3 v4 t8 fr, f_s_l14Set_sg5_114 v0 v1 v2 v3 v4 t8 fr, f_s_l14Set_sg5_29 v0 v1 v2 v3 v4 t8 fr, f_s_l14Set_sg5_30 v0 v1 v2 v3 v4 t8 fr, f_s_l14Set_sg5_60 v0 v1 v2 v3 v4 t8 fr, f_s_l14Set_sg5_53 v0 v1 v2 v3 v4 t8 fr, f_s_l14Set_sg5_54 v0 v1 v2 v3 v4 t8 fr, f_s_l14Set_sg5_60 v0 v1 v2 v3 v4 t8 fr, f_s_l14Set_sg5_116 v0 v1 v2 v3 v4 t8 fr, f_s_l14Set_sg5_57 v0 v1 v2 v3 v4 t8 fr, f_s_l14Set_sg5_58 v0 v1 v2 v3 v4 t8 fr, f_s_l14Set_sg5_60 v0 v1 v2 v3 v4 t8 fr, f_s_l14Set_sg5_120 v0 v1 v2 v3 v4 t8 fr, f_s_l14Set_sg5_113 v0 v1 v2 v3 v4 t8 fr, f_s_l14Set_sg5_114 v0 v1 v2 v3 v4 t8 fr, f_s_l14Set_sg5_116 v0 v1 v2 v3 v4 t8 fr, f_s_l14Set_sg5_120 v0 v1 v2 v3 v4 t8 fr, f_s_l14Set_sg5_31 v0 v1 v2 v3 v4 t8 fr, f_s_l14Set_sg5_31 v0 v1 v2 v3 v4 t8 fr, f_s_l14Set_sg5_55 v0 v1 v2 v3 v4 t8 fr, f_s_l14Set_sg5_31 v0 v1 v2 v3 v4 t8 fr, f_s_l14Set_sg5_59 v0 v1 v2 v3 v4 t8 fr, f_s_l14Set_sg5_55 v0 v1 v2 v3 v4 t8 fr, f_s_l14Set_sg5_59 v0 v1 v2 v3 v4 t8 fr, f_s_l14Set_sg5_115 v0 v1 v2 v3 v4 t8 fr, f_s_l14Set_sg5_31 v0 v1 v2 v3 v4 t8 fr, f_s_l14Set_sg5_61 v0 v1 v2 v3 v4 t8 fr, f_s_l14Set_sg5_55 v0 v1 v2 v3 v4 t8 fr, f_s_l14Set_sg5_61 v0 v1 v2 v3 v4 t8 fr, f_s_l14Set_sg5_117 v0 v1 v2 v3 v4 t8 fr, f_s_l14Set_sg5_59 v0 v1 v2 v3 v4 t8 fr, f_s_l14Set_sg5_61 v0 v1 v2 v3 v4 t8 fr, f_s_l14Set_sg5_121 v0 v1 v2 v3 v4 t8 fr, f_s_l14Set_sg5_115 v0 v1 v2 v3 v4 t8 fr, f_s_l14Set_sg5_117 v0 v1 v2 v3 v4 t8 fr, f_s_l14Set_sg5_121 v0 v1 v2 v3 v4 t8 fr, f_s_l14Set_sg5_31 v0 v1 v2 v3 v4 t8 fr, f_s_l14Set_sg5_62 v0 v1 v2 v3 v4 t8 fr, f_s_l14Set_sg5_55 v0 v1 v2 v3 v4 t8 fr, f_s_l14Set_sg5_62 v0 v1 v2 v3 v4 t8 fr, f_s_l14Set_sg5_118 v0 v1 v2 v3 v4 t8 fr, f_s_l14Set_sg5_59 v0 v1 v2 v3 v4 t8 fr, f_s_l14Set_sg5_62 v0 v1 v2 v3 v4 t8 fr, f_s_l14Set_sg5_122 v0 v1 v2 v3 v4 t8 fr, f_s_l14Set_sg5_115 v0 v1 v2 v3 v4 t8 fr, f_s_l14Set_sg5_118 v0 v1 v2 v3 v4 t8 fr, f_s_l14Set_sg5_122 v0 v1 v2 v3 v4 t8 fr, f_s_l14Set_sg5_61 v0 v1 v2 v3 v4 t8 fr, f_s_l14Set_sg5_62 v0 v1 v2 v3 v4 t8 fr, f_s_l14Set_sg5_124 v0 v1 v2 v3 v4 t8 fr, f_s_l14Set_sg5_117 v0 v1 v2 v3 v4 t8 fr, f_s_l14Set_sg5_118 v0 v1 v2 v3 v4 t8 fr, f_s_l14Set_sg5_124 v0 v1 v2 v3 v4 t8 fr, f_s_l14Set_sg5_121 v0 v1 v2 v3 v4 t8 fr, f_s_l14Set_sg5_122 v0 v1 v2 v3 v4 t8 fr, f_s_l14Set_sg5_124 v0 v1 v2 v3 v4 t8 fr, f_s_l14Set_sg5_248 v0 v1 v2 v3 v4 t8 fr, f_s_l14Set_sg5_63 v0 v1 v2 v3 v4 t8 fr, f_s_l14Set_sg5_63 v0 v1 v2 v3 v4 t8 fr, f_s_l14Set_sg5_119 v0 v1 v2 v3 v4 t8 fr, f_s_l14Set_sg5_63 v0 v1 v2 v3 v4 t8 fr, f_s_l14Set_sg5_123 v0 v1 v2 v3 v4 t8 fr, f_s_l14Set_sg5_119 v0 v1 v2 v3 v4 t8 fr, f_s_l14Set_sg5_123 v0 v1 v2 v3 v4 t8 fr, f_s_l14Set_sg5_63 v0 v1 v2 v3 v4 t8 fr, f_s_l14Set_sg5_125 v0 v1 v2 v3 v4 t8 fr, f_s_l14Set_sg5_119 v0 v1 v2 v3 v4 t8 fr, f_s_l14Set_sg5_125 v0 v1 v2 v3 v4 t8 fr, f_s_l14Set_sg5_123 v0 v1 v2 v3 v4 t8 fr, f_s_l14Set_sg5_125 v0 v1 v2 v3 v4 t8 fr, f_s_l14Set_sg5_249 v0 v1 v2 v3 v4 t8 fr, f_s_l14Set_sg5_63 v0 v1 v2 v3 v4 t8 fr, f_s_l14Set_sg5_126 v0 v1 v2 v3 v4 t8 fr, f_s_l14Set_sg5_119 v0 v1 v2 v3 v4 t8 fr, f_s_l14Set_sg5_126 v0 v1 v2 v3 v4 t8 fr, f_s_l14Set_sg5_123 v0 v1 v2 v3 v4 t8 fr, f_s_l14Set_sg5_126 v0 v1 v2 v3 v4 t8 fr, f_s_l14Set_sg5_250 v0 v1 v2 v3 v4 t8 fr, f_s_l14Set_sg5_125 v0 v1 v2 v3 v4 t8 fr, f_s_l14Set_sg5_126 v0 v1 v2 v3 v4 t8 fr, f_s_l14Set_sg5_252 v0 v1 v2 v3 v4 t8 fr, f_s_l14Set_sg5_249 v0 v1 v2 v3 v4 t8 fr, f_s_l14Set_sg5_250 v0 v1 v2 v3 v4 t8 fr, f_s_l14Set_sg5_252 v0 v1 v2 v3 v4 t8 fr, f_s_l14Set_sg5_127 v0 v1 v2 v3 v4 t8 fr, f_s_l14Set_sg5_127 v0 v1 v2 v3 v4 t8 fr, f_s_l14Set_sg5_127 v0 v1 v2 v3 v4 t8 fr, f_s_l14Set_sg5_251 v0 v1 v2 v3 v4 t8 fr, f_s_l14Set_sg5_127 v0 v1 v2 v3 v4 t8 fr, f_s_l14Set_sg5_253 v0 v1 v2 v3 v4 t8 fr, f_s_l14Set_sg5_251 v0 v1 v2 v3 v4 t8 fr, f_s_l14Set_sg5_253 v0 v1 v2 v3 v4 t8 fr, f_s_l14Set_sg5_127 v0 v1 v2 v3 v4 t8 fr, f_s_l14Set_sg5_254 v0 v1 v2 v3 v4 t8 fr, f_s_l14Set_sg5_251 v0 v1 v2 v3 v4 t8 fr, f_s_l14Set_sg5_254 v0 v1 v2 v3 v4 t8 fr, f_s_l14Set_sg5_253 v0 v1 v2 v3 v4 t8 fr, f_s_l14Set_sg5_254 v0 v1 v2 v3 v4 t8 fr, f_s_l14Set_sg5_255 v0 v1 v2 v3 v4 t8 fr, f_s_l14Set_sg5_255 v0 v1 v2 v3 v4 t8 fr, f_s_l14Set_sg5_255 v0 v1 v2 v3 v4 t8 fr, f_s_l14Set_sg5_255 v0 v1 v2 v3 v4 t8 fr, f_s_l14Set_sg5_510 v0 v1 v2 v3 v4 t8 fr, f_s_l14Set_sg5_511 v0 v1 v2 v3 v4 t8 fr, f_s_l14Set_sg5_511 v0 v1 v2 v3 v4 t8 fr, f_s_l14Set_sg5_1023 v0 v1 v2 v3 v4 t8 fr, f_s_l14Set_sg5_2047 v0 v1 v2 v3 v4 t8 fr]
theorem f_s_l14Set_dLg5 (v0 : List Sc) (v1 : List Sc) (v2 : List Sc) (v3 : Int) (v4 : Int) (t8 : Int) : edgeL E0 f_s_l14Set_M H0 f_s_l14Set_F (opsAt (bodyOf Try.f137 100005)) f_s_l14Set_Dg5 (f_s_l14Set_frg5 v0 v1 v2 v3 v4 t8) = f_s_l14Set_Eg5 v0 v1 v2 v3 v4 t8 (f_s_l14Set_frg5 v0 v1 v2 v3 v4 t8) := by kernel_rfl
theorem f_s_l14Set_dRg5 (v0 : List Sc) (v1 : List Sc) (v2 : List Sc) (v3 : Int) (v4 : Int) (t8 : Int) : edgeR E0 f_s_l14Set_M H0 f_s_l14Set_F (opsAt (bodyOf Try.f137 100005)) f_s_l14Set_Dg5 (f_s_l14Set_frg5 v0 v1 v2 v3 v4 t8) = f_s_l14Set_Eg5 v0 v1 v2 v3 v4 t8 (f_s_l14Set_frg5 v0 v1 v2 v3 v4 t8) := by kernel_rfl
theorem f_s_l14Set_dg5 (v0 : List Sc) (v1 : List Sc) (v2 : List Sc) (v3 : Int) (v4 : Int) (t8 : Int) : edgeL E0 f_s_l14Set_M H0 f_s_l14Set_F (opsAt (bodyOf Try.f137 100005)) f_s_l14Set_Dg5 (f_s_l14Set_frg5 v0 v1 v2 v3 v4 t8) = edgeR E0 f_s_l14Set_M H0 f_s_l14Set_F (opsAt (bodyOf Try.f137 100005)) f_s_l14Set_Dg5 (f_s_l14Set_frg5 v0 v1 v2 v3 v4 t8) := (f_s_l14Set_dLg5 v0 v1 v2 v3 v4 t8).trans (f_s_l14Set_dRg5 v0 v1 v2 v3 v4 t8).symm
theorem f_s_l14Set_eg5 (v0 : List Sc) (v1 : List Sc) (v2 : List Sc) (v3 : Int) (v4 : Int) (t8 : Int) : goL E0 f_s_l14Set_M H0 f_s_l14Set_F (opsAt (bodyOf Try.f137 100005)) (Array.replicate (opsAt (bodyOf Try.f137 100005)).size true) (opsAt (bodyOf Try.f137 100005)).toList 0 (f_s_l14Set_frg5 v0 v1 v2 v3 v4 t8) (fun s => some (X.norm, clear (klOf f_s_l14Set_F 100005).2.1 s)) = f_s_l14Set_g5_k v0 v1 v2 v3 v4 t8 (fun e => some (f_s_l14Set_xg5 v0 v1 v2 v3 v4 t8 e)) := by kernel_rfl
theorem f_s_l14Set_lg5 (v0 : List Sc) (v1 : List Sc) (v2 : List Sc) (v3 : Int) (v4 : Int) (t8 : Int) (r : Int) (h : f_s_l14Set_g5 v0 v1 v2 v3 v4 t8 = some r) : LS Try.prog f_s_l14Set_F (bodyOf Try.f137 100005) (f_s_l14Set_frg5 v0 v1 v2 v3 v4 t8) (f_s_l14Set_xg5 v0 v1 v2 v3 v4 t8 r) :=
  region_true (S := Unit) (id := 5) (G := fun _ => f_s_l14Set_g5 v0 v1 v2 v3 v4 t8) (Gk := fun _ k => f_s_l14Set_g5_k v0 v1 v2 v3 v4 t8 k) (fr := fun _ => f_s_l14Set_frg5 v0 v1 v2 v3 v4 t8) (f1 := fun e => f_s_l14Set_xg5 v0 v1 v2 v3 v4 t8 e) E0ok f_s_l14Set_Mt f_s_l14Set_bg5 f_s_l14Set_cg5 (fun _ => f_s_l14Set_dg5 v0 v1 v2 v3 v4 t8) (fun _ => rfl) (fun _ => f_s_l14Set_eg5 v0 v1 v2 v3 v4 t8) (fun _ k => f_s_l14Set_pg5 v0 v1 v2 v3 v4 t8 k) () r h
def f_s_l14Set_tg5 (σ : List AV) : Option (Bool × Bool × (X × List AV) × (X × List AV)) := match dec f_s_l14Set_hg5 σ with
  | some [.l v0, .l v1, .l v2, .i v3, .i v4, .i t8] => some ((f_s_l14Set_g5 v0 v1 v2 v3 v4 t8).isSome, true, f_s_l14Set_xg5 v0 v1 v2 v3 v4 t8 ((f_s_l14Set_g5 v0 v1 v2 v3 v4 t8).getD 0), (.ret, []))
  | _ => none
theorem f_s_l14Set_ttg5 : TTrue Try.prog f_s_l14Set_F Try.f137 100005 f_s_l14Set_tg5 := by
  intro σ p r r' h
  unfold f_s_l14Set_tg5 at h
  split at h
  · rename_i hd
    rw [← dec_enc hd]
    exact rowR (f_s_l14Set_lg5 _ _ _ _ _ _) h
  · cases h
def f_s_l14Set_hg6 : List Sh := [.p .sl, .own 3, .p .sl, .p (.int .i64), .p (.int .i64), .u, .u, .u, .u, .u, .p (.pt 0 1), .u, .p (.pt 2 3), .p (.pt 1 1), .u, .u, .u, .u, .u, .u, .u, .u, .u, .u, .u, .u, .u, .u, .u, .u, .u, .u, .u, .u, .u, .u, .u, .u, .u, .u, .u, .u, .u, .u, .u, .u, .u, .u, .u, .u, .u, .u]
def f_s_l14Set_frg6 (v0 : List Sc) (v1 : List Sc) (v2 : List Sc) (v3 : Int) (v4 : Int) : List AV := enc f_s_l14Set_hg6 [.l v0, .l v1, .l v2, .i v3, .i v4]
def f_s_l14Set_xg6 (v0 : List Sc) (v1 : List Sc) (v2 : List Sc) (v3 : Int) (v4 : Int) (e : List Sc × Int) : X × List AV := (.norm, enc [.own 3, .u, .u, .u, .u, .u, .u, .u, .u, .u, .p (.pt 0 1), .p (.int .i64), .u, .u, .u, .u, .u, .u, .u, .u, .u, .u, .u, .u, .u, .u, .u, .u, .u, .u, .u, .u, .u, .u, .u, .u, .u, .u, .u, .u, .u, .u, .u, .u, .u, .u, .u, .u, .u, .u, .u, .u] [.l e.1, .i e.2])
theorem f_s_l14Set_pg6 {R : Type} (v0 : List Sc) (v1 : List Sc) (v2 : List Sc) (v3 : Int) (v4 : Int) (kA : List Sc × Int → Option R) : f_s_l14Set_g6_k v0 v1 v2 v3 v4 kA = (f_s_l14Set_g6 v0 v1 v2 v3 v4).bind kA := by
  simp only [f_s_l14Set_g6_k, f_s_l14Set_g6, boB, someB]
theorem f_s_l14Set_bg6 : bodyOf Try.f137 100006 = .region 6 (opsAt (bodyOf Try.f137 100006)) true := by kernel_rfl
def f_s_l14Set_Dg6 : List (Array Bool) := [#[false, false, false, false, false, false], #[true, false, false, false, false, false], #[false, true, false, false, false, false], #[false, false, true, false, false, false], #[true, true, false, false, false, false], #[true, false, true, false, false, false], #[false, true, true, false, false, false], #[true, true, true, false, false, false], #[false, true, true, true, false, false], #[true, true, true, true, false, false], #[true, true, true, true, true, false], #[true, true, true, true, true, true]]
theorem f_s_l14Set_cg6 : closedB (opsAt (bodyOf Try.f137 100006)) f_s_l14Set_Dg6 = true := by kernel_rfl
def f_s_l14Set_sg6_0 (v0 : List Sc) (v1 : List Sc) (v2 : List Sc) (v3 : Int) (v4 : Int) (fr : List AV) : Option (List AV) :=
  some (setAll [] fr)
def f_s_l14Set_sg6_1 (v0 : List Sc) (v1 : List Sc) (v2 : List Sc) (v3 : Int) (v4 : Int) (fr : List AV) : Option (List AV) :=
  some (setAll [(48, .p (.go 1))] fr)
def f_s_l14Set_sg6_2 (v0 : List Sc) (v1 : List Sc) (v2 : List Sc) (v3 : Int) (v4 : Int) (fr : List AV) : Option (List AV) :=
  some (setAll [(49, .p (.pt 2 3))] fr)
def f_s_l14Set_sg6_4 (v0 : List Sc) (v1 : List Sc) (v2 : List Sc) (v3 : Int) (v4 : Int) (fr : List AV) : Option (List AV) :=
  some (setAll [(50, .p (.go 1))] fr)
def f_s_l14Set_sg6_3 (v0 : List Sc) (v1 : List Sc) (v2 : List Sc) (v3 : Int) (v4 : Int) (fr : List AV) : Option (List AV) :=
  some (setAll [(48, .p (.go 1)), (49, .p (.pt 2 3))] fr)
def f_s_l14Set_sg6_5 (v0 : List Sc) (v1 : List Sc) (v2 : List Sc) (v3 : Int) (v4 : Int) (fr : List AV) : Option (List AV) :=
  some (setAll [(48, .p (.go 1)), (50, .p (.go 1))] fr)
def f_s_l14Set_sg6_6 (v0 : List Sc) (v1 : List Sc) (v2 : List Sc) (v3 : Int) (v4 : Int) (fr : List AV) : Option (List AV) :=
  some (setAll [(49, .p (.pt 2 3)), (50, .p (.go 1))] fr)
def f_s_l14Set_sg6_7 (v0 : List Sc) (v1 : List Sc) (v2 : List Sc) (v3 : Int) (v4 : Int) (fr : List AV) : Option (List AV) :=
  some (setAll [(48, .p (.go 1)), (49, .p (.pt 2 3)), (50, .p (.go 1))] fr)
def f_s_l14Set_sg6_14 (v0 : List Sc) (v1 : List Sc) (v2 : List Sc) (v3 : Int) (v4 : Int) (fr : List AV) : Option (List AV) :=
  bo (f_s_l3Set_io v2 v3 v4 v1) (0, [], 0, 0, []) fun r70 =>
  some (setAll [(1, .own 3 r70.2.2.2.2), (2, .p (.sl r70.2.1)), (3, .p (.sc (Sc.n .i64 r70.2.2.1))), (4, .p (.sc (Sc.n .i64 r70.2.2.2.1))), (49, .p (.pt 2 3)), (50, .p (.go 1)), (51, .p (.sc (Sc.n .i64 r70.1)))] fr)
def f_s_l14Set_sg6_15 (v0 : List Sc) (v1 : List Sc) (v2 : List Sc) (v3 : Int) (v4 : Int) (fr : List AV) : Option (List AV) :=
  bo (f_s_l3Set_io v2 v3 v4 v1) (0, [], 0, 0, []) fun r71 =>
  some (setAll [(1, .own 3 r71.2.2.2.2), (2, .p (.sl r71.2.1)), (3, .p (.sc (Sc.n .i64 r71.2.2.1))), (4, .p (.sc (Sc.n .i64 r71.2.2.2.1))), (48, .p (.go 1)), (49, .p (.pt 2 3)), (50, .p (.go 1)), (51, .p (.sc (Sc.n .i64 r71.1)))] fr)
def f_s_l14Set_sg6_31 (v0 : List Sc) (v1 : List Sc) (v2 : List Sc) (v3 : Int) (v4 : Int) (fr : List AV) : Option (List AV) :=
  bo (f_s_l3Set_io v2 v3 v4 v1) (0, [], 0, 0, []) fun r72 =>
  some (setAll [(0, .own 3 r72.2.2.2.2), (1, .p (.al 0)), (2, .p (.sl r72.2.1)), (3, .p (.sc (Sc.n .i64 r72.2.2.1))), (4, .p (.sc (Sc.n .i64 r72.2.2.2.1))), (48, .p (.go 0)), (49, .p (.pt 2 3)), (50, .p (.go 0)), (51, .p (.sc (Sc.n .i64 r72.1)))] fr)
def f_s_l14Set_sg6_63 (v0 : List Sc) (v1 : List Sc) (v2 : List Sc) (v3 : Int) (v4 : Int) (fr : List AV) : Option (List AV) :=
  bo (f_s_l3Set_io v2 v3 v4 v1) (0, [], 0, 0, []) fun r73 =>
  some (setAll [(0, .own 3 r73.2.2.2.2), (1, .p (.al 0)), (2, .p (.sl r73.2.1)), (3, .p (.sc (Sc.n .i64 r73.2.2.1))), (4, .p (.sc (Sc.n .i64 r73.2.2.2.1))), (11, .p (.sc (Sc.n .i64 r73.1))), (48, .p (.go 0)), (49, .p (.pt 2 3)), (50, .p (.go 0)), (51, .p (.sc (Sc.n .i64 r73.1)))] fr)
def f_s_l14Set_Eg6 (v0 : List Sc) (v1 : List Sc) (v2 : List Sc) (v3 : Int) (v4 : Int) (fr : List AV) : List (Option (List AV)) := [f_s_l14Set_sg6_1 v0 v1 v2 v3 v4 fr, f_s_l14Set_sg6_2 v0 v1 v2 v3 v4 fr, f_s_l14Set_sg6_4 v0 v1 v2 v3 v4 fr, f_s_l14Set_sg6_3 v0 v1 v2 v3 v4 fr, f_s_l14Set_sg6_5 v0 v1 v2 v3 v4 fr, f_s_l14Set_sg6_3 v0 v1 v2 v3 v4 fr, f_s_l14Set_sg6_6 v0 v1 v2 v3 v4 fr, f_s_l14Set_sg6_5 v0 v1 v2 v3 v4 fr, f_s_l14Set_sg6_6 v0 v1 v2 v3 v4 fr, f_s_l14Set_sg6_7 v0 v1 v2 v3 v4 fr, f_s_l14Set_sg6_7 v0 v1 v2 v3 v4 fr, f_s_l14Set_sg6_7 v0 v1 v2 v3 v4 fr, f_s_l14Set_sg6_14 v0 v1 v2 v3 v4 fr, f_s_l14Set_sg6_15 v0 v1 v2 v3 v4 fr, f_s_l14Set_sg6_15 v0 v1 v2 v3 v4 fr, f_s_l14Set_sg6_31 v0 v1 v2 v3 v4 fr, f_s_l14Set_sg6_63 v0 v1 v2 v3 v4 fr]
theorem f_s_l14Set_dLg6 (v0 : List Sc) (v1 : List Sc) (v2 : List Sc) (v3 : Int) (v4 : Int) : edgeL E0 f_s_l14Set_M H0 f_s_l14Set_F (opsAt (bodyOf Try.f137 100006)) f_s_l14Set_Dg6 (f_s_l14Set_frg6 v0 v1 v2 v3 v4) = f_s_l14Set_Eg6 v0 v1 v2 v3 v4 (f_s_l14Set_frg6 v0 v1 v2 v3 v4) := by kernel_rfl
theorem f_s_l14Set_dRg6 (v0 : List Sc) (v1 : List Sc) (v2 : List Sc) (v3 : Int) (v4 : Int) : edgeR E0 f_s_l14Set_M H0 f_s_l14Set_F (opsAt (bodyOf Try.f137 100006)) f_s_l14Set_Dg6 (f_s_l14Set_frg6 v0 v1 v2 v3 v4) = f_s_l14Set_Eg6 v0 v1 v2 v3 v4 (f_s_l14Set_frg6 v0 v1 v2 v3 v4) := by kernel_rfl
theorem f_s_l14Set_dg6 (v0 : List Sc) (v1 : List Sc) (v2 : List Sc) (v3 : Int) (v4 : Int) : edgeL E0 f_s_l14Set_M H0 f_s_l14Set_F (opsAt (bodyOf Try.f137 100006)) f_s_l14Set_Dg6 (f_s_l14Set_frg6 v0 v1 v2 v3 v4) = edgeR E0 f_s_l14Set_M H0 f_s_l14Set_F (opsAt (bodyOf Try.f137 100006)) f_s_l14Set_Dg6 (f_s_l14Set_frg6 v0 v1 v2 v3 v4) := (f_s_l14Set_dLg6 v0 v1 v2 v3 v4).trans (f_s_l14Set_dRg6 v0 v1 v2 v3 v4).symm
theorem f_s_l14Set_eg6 (v0 : List Sc) (v1 : List Sc) (v2 : List Sc) (v3 : Int) (v4 : Int) : goL E0 f_s_l14Set_M H0 f_s_l14Set_F (opsAt (bodyOf Try.f137 100006)) (Array.replicate (opsAt (bodyOf Try.f137 100006)).size true) (opsAt (bodyOf Try.f137 100006)).toList 0 (f_s_l14Set_frg6 v0 v1 v2 v3 v4) (fun s => some (X.norm, clear (klOf f_s_l14Set_F 100006).2.1 s)) = f_s_l14Set_g6_k v0 v1 v2 v3 v4 (fun e => some (f_s_l14Set_xg6 v0 v1 v2 v3 v4 e)) := by kernel_rfl
theorem f_s_l14Set_lg6 (v0 : List Sc) (v1 : List Sc) (v2 : List Sc) (v3 : Int) (v4 : Int) (r : List Sc × Int) (h : f_s_l14Set_g6 v0 v1 v2 v3 v4 = some r) : LS Try.prog f_s_l14Set_F (bodyOf Try.f137 100006) (f_s_l14Set_frg6 v0 v1 v2 v3 v4) (f_s_l14Set_xg6 v0 v1 v2 v3 v4 r) :=
  region_true (S := Unit) (id := 6) (G := fun _ => f_s_l14Set_g6 v0 v1 v2 v3 v4) (Gk := fun _ k => f_s_l14Set_g6_k v0 v1 v2 v3 v4 k) (fr := fun _ => f_s_l14Set_frg6 v0 v1 v2 v3 v4) (f1 := fun e => f_s_l14Set_xg6 v0 v1 v2 v3 v4 e) E0ok f_s_l14Set_Mt f_s_l14Set_bg6 f_s_l14Set_cg6 (fun _ => f_s_l14Set_dg6 v0 v1 v2 v3 v4) (fun _ => rfl) (fun _ => f_s_l14Set_eg6 v0 v1 v2 v3 v4) (fun _ k => f_s_l14Set_pg6 v0 v1 v2 v3 v4 k) () r h
def f_s_l14Set_tg6 (σ : List AV) : Option (Bool × Bool × (X × List AV) × (X × List AV)) := match dec f_s_l14Set_hg6 σ with
  | some [.l v0, .l v1, .l v2, .i v3, .i v4] => some ((f_s_l14Set_g6 v0 v1 v2 v3 v4).isSome, true, f_s_l14Set_xg6 v0 v1 v2 v3 v4 ((f_s_l14Set_g6 v0 v1 v2 v3 v4).getD ([], 0)), (.ret, []))
  | _ => none
theorem f_s_l14Set_ttg6 : TTrue Try.prog f_s_l14Set_F Try.f137 100006 f_s_l14Set_tg6 := by
  intro σ p r r' h
  unfold f_s_l14Set_tg6 at h
  split at h
  · rename_i hd
    rw [← dec_enc hd]
    exact rowR (f_s_l14Set_lg6 _ _ _ _ _) h
  · cases h
theorem f_s_l14Set_p {R : Type} (code0 : List Sc) (kR : List Sc × Int → Option R) : f_s_l14Set_k code0 kR = (f_s_l14Set_k code0 some).bind kR := by
  simp only [f_s_l14Set_k, brB, boB, someB]
theorem f_s_l14Set_e (code0 : List Sc) : runFn E0 f_s_l14Set_M H0 f_s_l14Set_F (asL (addL 100006 f_s_l14Set_tg6 (addL 100005 f_s_l14Set_tg5 (noL)))) Try.f137 (f_s_l14Set_a code0) (f_s_l14Set_i code0) = f_s_l14Set_k code0 (fun r => some (f_s_l14Set_en r)) := by kernel_rfl
theorem f_s_l14Set_ok (code0 : List Sc) (r : List Sc × Int) (h : f_s_l14Set code0 = some r) : CS Try.prog 137 (f_s_l14Set_a code0) (f_s_l14Set_i code0) (f_s_l14Set_en r).1 (f_s_l14Set_en r).2 :=
  fn_true (Gk := fun k => f_s_l14Set_k code0 k) (en := f_s_l14Set_en) Try.func137 E0ok f_s_l14Set_Mt (addL_true f_s_l14Set_ttg6 (addL_true f_s_l14Set_ttg5 (noL_true))) f_s_l14Set_o (f_s_l14Set_e code0) (f_s_l14Set_p code0) h
def f_s_l14Set_c : CRow := fun args inh => match dec2 [.p .sl] [] args inh with
  | some ([.l code0], []) => some ((f_s_l14Set code0).isSome, (f_s_l14Set_en ((f_s_l14Set code0).getD ([], 0))).1, (f_s_l14Set_en ((f_s_l14Set code0).getD ([], 0))).2)
  | _ => none
theorem f_s_l14Set_cc : CTrue Try.prog 137 f_s_l14Set_c := by
  intro args inh rs out h
  unfold f_s_l14Set_c at h
  split at h
  · rename_i hd
    obtain ⟨h1, h2⟩ := dec2_enc hd
    rw [← h1, ← h2]
    exact rowC (f_s_l14Set_ok _) h
  · cases h

def f_s_DrawFindBox_F : Fi := { nv := 3, nc := 2, m := 0, vt := [(2, 0), (4, 1), (8, 2)], kl := [], sk := [], mvs := [2], fz := [] }
def f_s_DrawFindBox_a (code0 : List Sc) : List AV := enc [.p .sl] [.l code0]
def f_s_DrawFindBox_i (code0 : List Sc) : List AV := enc [] []
def f_s_DrawFindBox_en (r : List Sc × Int) : List AV × List AV := (enc [.p (.go 0), .p (.int .i64)] [.i r.2], enc [.own 3] [.l r.1])
def f_s_DrawFindBox_M : Calling := addC 137 f_s_l14Set_c (noC)
theorem f_s_DrawFindBox_Mt : CallOk Try.prog (f_s_DrawFindBox_M) := addC_true f_s_l14Set_cc (noC_true)
theorem f_s_DrawFindBox_o : loopsOnce Try.f28 = true := by kernel_rfl
theorem f_s_DrawFindBox_p {R : Type} (code0 : List Sc) (kR : List Sc × Int → Option R) : f_s_DrawFindBox_k code0 kR = (f_s_DrawFindBox_k code0 some).bind kR := by
  simp only [f_s_DrawFindBox_k, boB, someB]
theorem f_s_DrawFindBox_e (code0 : List Sc) : runFn E0 f_s_DrawFindBox_M H0 f_s_DrawFindBox_F (asL (noL)) Try.f28 (f_s_DrawFindBox_a code0) (f_s_DrawFindBox_i code0) = f_s_DrawFindBox_k code0 (fun r => some (f_s_DrawFindBox_en r)) := by kernel_rfl
theorem f_s_DrawFindBox_ok (code0 : List Sc) (r : List Sc × Int) (h : f_s_DrawFindBox code0 = some r) : CS Try.prog 28 (f_s_DrawFindBox_a code0) (f_s_DrawFindBox_i code0) (f_s_DrawFindBox_en r).1 (f_s_DrawFindBox_en r).2 :=
  fn_true (Gk := fun k => f_s_DrawFindBox_k code0 k) (en := f_s_DrawFindBox_en) Try.func28 E0ok f_s_DrawFindBox_Mt (noL_true) f_s_DrawFindBox_o (f_s_DrawFindBox_e code0) (f_s_DrawFindBox_p code0) h
def f_s_DrawFindBox_c : CRow := fun args inh => match dec2 [.p .sl] [] args inh with
  | some ([.l code0], []) => some ((f_s_DrawFindBox code0).isSome, (f_s_DrawFindBox_en ((f_s_DrawFindBox code0).getD ([], 0))).1, (f_s_DrawFindBox_en ((f_s_DrawFindBox code0).getD ([], 0))).2)
  | _ => none
theorem f_s_DrawFindBox_cc : CTrue Try.prog 28 f_s_DrawFindBox_c := by
  intro args inh rs out h
  unfold f_s_DrawFindBox_c at h
  split at h
  · rename_i hd
    obtain ⟨h1, h2⟩ := dec2_enc hd
    rw [← h1, ← h2]
    exact rowC (f_s_DrawFindBox_ok _) h
  · cases h

def f_i_within_F : Fi := { nv := 0, nc := 0, m := 0, vt := [], kl := [], sk := [], mvs := [], fz := [] }
def f_i_within_a (x0 : Int) (lo1 : Int) (hi2 : Int) : List AV := enc [.p (.int .i64), .p (.int .i64), .p (.int .i64)] [.i x0, .i lo1, .i hi2]
def f_i_within_i (x0 : Int) (lo1 : Int) (hi2 : Int) : List AV := enc [] []
def f_i_within_en (r : Bool) : List AV × List AV := (enc [.p .boo] [.b r], enc [] [])
def f_i_within_M : Calling := noC
theorem f_i_within_Mt : CallOk Try.prog (f_i_within_M) := noC_true
theorem f_i_within_o : loopsOnce Try.f144 = true := by kernel_rfl
theorem f_i_within_p {R : Type} (x0 : Int) (lo1 : Int) (hi2 : Int) (kR : Bool → Option R) : f_i_within_k x0 lo1 hi2 kR = (f_i_within_k x0 lo1 hi2 some).bind kR := by
  simp only [f_i_within_k, brB, someB]
theorem f_i_within_e (x0 : Int) (lo1 : Int) (hi2 : Int) : runFn E0 f_i_within_M H0 f_i_within_F (asL (noL)) Try.f144 (f_i_within_a x0 lo1 hi2) (f_i_within_i x0 lo1 hi2) = f_i_within_k x0 lo1 hi2 (fun r => some (f_i_within_en r)) := by kernel_rfl
theorem f_i_within_ok (x0 : Int) (lo1 : Int) (hi2 : Int) (r : Bool) (h : f_i_within x0 lo1 hi2 = some r) : CS Try.prog 144 (f_i_within_a x0 lo1 hi2) (f_i_within_i x0 lo1 hi2) (f_i_within_en r).1 (f_i_within_en r).2 :=
  fn_true (Gk := fun k => f_i_within_k x0 lo1 hi2 k) (en := f_i_within_en) Try.func144 E0ok f_i_within_Mt (noL_true) f_i_within_o (f_i_within_e x0 lo1 hi2) (f_i_within_p x0 lo1 hi2) h
def f_i_within_c : CRow := fun args inh => match dec2 [.p (.int .i64), .p (.int .i64), .p (.int .i64)] [] args inh with
  | some ([.i x0, .i lo1, .i hi2], []) => some ((f_i_within x0 lo1 hi2).isSome, (f_i_within_en ((f_i_within x0 lo1 hi2).getD false)).1, (f_i_within_en ((f_i_within x0 lo1 hi2).getD false)).2)
  | _ => none
theorem f_i_within_cc : CTrue Try.prog 144 f_i_within_c := by
  intro args inh rs out h
  unfold f_i_within_c at h
  split at h
  · rename_i hd
    obtain ⟨h1, h2⟩ := dec2_enc hd
    rw [← h1, ← h2]
    exact rowC (f_i_within_ok _ _ _) h
  · cases h

def f_i_IsGroup_F : Fi := { nv := 0, nc := 0, m := 0, vt := [], kl := [(0, ([0, 1, 2, 4, 5, 6, 7, 8, 9, 10, 14, 15, 16, 17, 18, 19, 20, 21, 22, 23, 24, 25], [0, 1, 2, 4, 5, 6, 7, 8, 9, 10, 11, 12, 13, 14, 15, 16, 17, 18, 19, 20, 21, 22, 23, 24, 25], [0, 1, 3, 4, 5, 6, 7, 8, 9, 10, 11, 12, 13, 14, 15, 16, 17, 18, 19, 20, 21, 22, 23, 24, 25]))], sk := [], mvs := [], fz := [] }
def f_i_IsGroup_a (g0 : List Sc) : List AV := enc [.p .gr] [.l g0]
def f_i_IsGroup_i (g0 : List Sc) : List AV := enc [] []
def f_i_IsGroup_en (r : Bool) : List AV × List AV := (enc [.p .boo] [.b r], enc [] [])
def f_i_IsGroup_M : Calling := addC 144 f_i_within_c (noC)
theorem f_i_IsGroup_Mt : CallOk Try.prog (f_i_IsGroup_M) := addC_true f_i_within_cc (noC_true)
theorem f_i_IsGroup_o : loopsOnce Try.f142 = true := by kernel_rfl
def f_i_IsGroup_h0 : List Sh := [.u, .u, .u, .p (.int .i64), .u, .u, .u, .u, .u, .u, .u, .p .sl, .p (.int .i64), .p (.int .i64), .u, .u, .u, .u, .u, .u, .u, .u, .u, .u, .u, .u]
def f_i_IsGroup_fr0 (t11 : List Sc) (t12 : Int) (s : Int × Int) : List AV := enc f_i_IsGroup_h0 [.i s.1, .l t11, .i t12, .i s.2]
def f_i_IsGroup_g0_1 : List Sh := [.u, .u, .u, .p (.int .i64), .u, .u, .u, .u, .u, .u, .u, .u, .u, .u, .u, .u, .u, .u, .u, .u, .u, .u, .u, .u, .u, .u]
def f_i_IsGroup_x0_1 (t11 : List Sc) (t12 : Int) (e : Int) : X × List AV := (.out 0, enc f_i_IsGroup_g0_1 [.i e])
def f_i_IsGroup_g0_2 : List Sh := [.u, .u, .p .boo, .u, .u, .u, .u, .u, .u, .u, .u, .u, .u, .u, .u, .u, .u, .u, .u, .u, .u, .u, .u, .u, .u, .u]
def f_i_IsGroup_x0_2 (t11 : List Sc) (t12 : Int) (e : Unit) : X × List AV := (.ret, enc f_i_IsGroup_g0_2 [.b false])
theorem f_i_IsGroup_p0 {R : Type} (t11 : List Sc) (t12 : Int) (s : Int × Int) (kN : Int × Int → Option R) (kA : Int → Option R) (kB : Unit → Option R) : f_i_IsGroup_k0 t11 t12 s.1 s.2 kN kA kB = (f_i_IsGroup_r0 t11 t12 s).bind (Ro.el kN kA kB) := by
  simp only [f_i_IsGroup_k0, f_i_IsGroup_r0, brB, boB, someB, noneB, Ro.el]
theorem f_i_IsGroup_e0 (t11 : List Sc) (t12 : Int) (s : Int × Int) : EC E0 f_i_IsGroup_M H0 f_i_IsGroup_F (asL (noL)) 0 (bodyOf Try.f142 0) (f_i_IsGroup_fr0 t11 t12 s) (done (klOf f_i_IsGroup_F 0)) = f_i_IsGroup_k0 t11 t12 s.1 s.2 (fun s => some (.norm, f_i_IsGroup_fr0 t11 t12 s)) (fun e => some (f_i_IsGroup_x0_1 t11 t12 e)) (fun e => some (f_i_IsGroup_x0_2 t11 t12 e)) := by kernel_rfl
theorem f_i_IsGroup_l0 (t11 : List Sc) (t12 : Int) : ∀ s r, loopL (f_i_IsGroup_r0 t11 t12) s = some r → LS Try.prog f_i_IsGroup_F (bodyOf Try.f142 0) (f_i_IsGroup_fr0 t11 t12 s) (enX (f_i_IsGroup_x0_1 t11 t12) (f_i_IsGroup_x0_2 t11 t12) r) :=
  loop_true E0ok f_i_IsGroup_Mt (noL_true) f_i_IsGroup_o (fun _ h => by cases h) (fun _ h => by cases h) (fun s => (f_i_IsGroup_e0 t11 t12 s).trans (f_i_IsGroup_p0 t11 t12 s _ _ (fun e => some (f_i_IsGroup_x0_2 t11 t12 e))))
def f_i_IsGroup_t0 (σ : List AV) : Option (Bool × Bool × (X × List AV) × (X × List AV)) := match dec f_i_IsGroup_h0 σ with
  | some [.i n3, .l t11, .i t12, .i t13] => some ((loopL (f_i_IsGroup_r0 t11 t12) (n3, t13)).isSome, isOne (loopL (f_i_IsGroup_r0 t11 t12) (n3, t13)), f_i_IsGroup_x0_1 t11 t12 (getOne 0 (loopL (f_i_IsGroup_r0 t11 t12) (n3, t13))), f_i_IsGroup_x0_2 t11 t12 (getTwo () (loopL (f_i_IsGroup_r0 t11 t12) (n3, t13))))
  | _ => none
theorem f_i_IsGroup_tt0 : TTrue Try.prog f_i_IsGroup_F Try.f142 0 (f_i_IsGroup_t0) := by
  intro σ p r r' h
  unfold f_i_IsGroup_t0 at h
  split at h
  · rename_i hd
    rw [← dec_enc hd]
    exact row2 (f_i_IsGroup_l0 _ _ _) h
  · cases h
theorem f_i_IsGroup_p {R : Type} (g0 : List Sc) (kR : Bool → Option R) : f_i_IsGroup_k g0 kR = (f_i_IsGroup_k g0 some).bind kR := by
  simp only [f_i_IsGroup_k, brB, blB, someB]
theorem f_i_IsGroup_e (g0 : List Sc) : runFn E0 f_i_IsGroup_M H0 f_i_IsGroup_F (asL (addL 0 (f_i_IsGroup_t0) (noL))) Try.f142 (f_i_IsGroup_a g0) (f_i_IsGroup_i g0) = f_i_IsGroup_k g0 (fun r => some (f_i_IsGroup_en r)) := by kernel_rfl
theorem f_i_IsGroup_ok (g0 : List Sc) (r : Bool) (h : f_i_IsGroup g0 = some r) : CS Try.prog 142 (f_i_IsGroup_a g0) (f_i_IsGroup_i g0) (f_i_IsGroup_en r).1 (f_i_IsGroup_en r).2 :=
  fn_true (Gk := fun k => f_i_IsGroup_k g0 k) (en := f_i_IsGroup_en) Try.func142 E0ok f_i_IsGroup_Mt (addL_true (f_i_IsGroup_tt0) (noL_true)) f_i_IsGroup_o (f_i_IsGroup_e g0) (f_i_IsGroup_p g0) h
def f_i_IsGroup_c : CRow := fun args inh => match dec2 [.p .gr] [] args inh with
  | some ([.l g0], []) => some ((f_i_IsGroup g0).isSome, (f_i_IsGroup_en ((f_i_IsGroup g0).getD false)).1, (f_i_IsGroup_en ((f_i_IsGroup g0).getD false)).2)
  | _ => none
theorem f_i_IsGroup_cc : CTrue Try.prog 142 f_i_IsGroup_c := by
  intro args inh rs out h
  unfold f_i_IsGroup_c at h
  split at h
  · rename_i hd
    obtain ⟨h1, h2⟩ := dec2_enc hd
    rw [← h1, ← h2]
    exact rowC (f_i_IsGroup_ok _) h
  · cases h

def f_i_OrderOf_F : Fi := { nv := 0, nc := 0, m := 0, vt := [], kl := [(0, ([0, 1, 2, 4, 5, 6, 7, 8, 9, 13, 14, 15, 16, 17, 18, 19, 20], [0, 1, 2, 4, 5, 6, 7, 8, 9, 10, 11, 12, 13, 14, 15, 16, 17, 18, 19, 20], [0, 1, 3, 4, 5, 6, 7, 8, 9, 10, 11, 12, 13, 14, 15, 16, 17, 18, 19, 20]))], sk := [], mvs := [], fz := [] }
def f_i_OrderOf_a (g0 : List Sc) : List AV := enc [.p .gr] [.l g0]
def f_i_OrderOf_i (g0 : List Sc) : List AV := enc [] []
def f_i_OrderOf_en (r : Int) : List AV × List AV := (enc [.p (.int .i64)] [.i r], enc [] [])
def f_i_OrderOf_M : Calling := addC 142 f_i_IsGroup_c (noC)
theorem f_i_OrderOf_Mt : CallOk Try.prog (f_i_OrderOf_M) := addC_true f_i_IsGroup_cc (noC_true)
theorem f_i_OrderOf_o : loopsOnce Try.f122 = true := by kernel_rfl
def f_i_OrderOf_h0 : List Sh := [.u, .u, .u, .p (.int .i64), .u, .u, .u, .u, .u, .u, .p .sl, .p (.int .i64), .p (.int .i64), .u, .u, .u, .u, .u, .u, .u, .u]
def f_i_OrderOf_fr0 (t10 : List Sc) (t11 : Int) (s : Int × Int) : List AV := enc f_i_OrderOf_h0 [.i s.1, .l t10, .i t11, .i s.2]
def f_i_OrderOf_g0_1 : List Sh := [.u, .u, .u, .p (.int .i64), .u, .u, .u, .u, .u, .u, .u, .u, .u, .u, .u, .u, .u, .u, .u, .u, .u]
def f_i_OrderOf_x0_1 (t10 : List Sc) (t11 : Int) (e : Int) : X × List AV := (.out 0, enc f_i_OrderOf_g0_1 [.i e])
def f_i_OrderOf_x0_2 (t10 : List Sc) (t11 : Int) (_e : Unit) : X × List AV := (.ret, [])
theorem f_i_OrderOf_p0 {R : Type} (t10 : List Sc) (t11 : Int) (s : Int × Int) (kN : Int × Int → Option R) (kA : Int → Option R) (kB : Unit → Option R) : f_i_OrderOf_k0 t10 t11 s.1 s.2 kN kA = (f_i_OrderOf_r0 t10 t11 s).bind (Ro.el kN kA kB) := by
  simp only [f_i_OrderOf_k0, f_i_OrderOf_r0, brB, someB, noneB, Ro.el]
theorem f_i_OrderOf_e0 (t10 : List Sc) (t11 : Int) (s : Int × Int) : EC E0 f_i_OrderOf_M H0 f_i_OrderOf_F (asL (noL)) 0 (bodyOf Try.f122 0) (f_i_OrderOf_fr0 t10 t11 s) (done (klOf f_i_OrderOf_F 0)) = f_i_OrderOf_k0 t10 t11 s.1 s.2 (fun s => some (.norm, f_i_OrderOf_fr0 t10 t11 s)) (fun e => some (f_i_OrderOf_x0_1 t10 t11 e)) := by kernel_rfl
theorem f_i_OrderOf_l0 (t10 : List Sc) (t11 : Int) : ∀ s r, loopL (f_i_OrderOf_r0 t10 t11) s = some r → LS Try.prog f_i_OrderOf_F (bodyOf Try.f122 0) (f_i_OrderOf_fr0 t10 t11 s) (enX (f_i_OrderOf_x0_1 t10 t11) (f_i_OrderOf_x0_2 t10 t11) r) :=
  loop_true E0ok f_i_OrderOf_Mt (noL_true) f_i_OrderOf_o (fun _ h => by cases h) (fun _ h => by cases h) (fun s => (f_i_OrderOf_e0 t10 t11 s).trans (f_i_OrderOf_p0 t10 t11 s _ _ (fun e => some (f_i_OrderOf_x0_2 t10 t11 e))))
def f_i_OrderOf_t0 (σ : List AV) : Option (Bool × Bool × (X × List AV) × (X × List AV)) := match dec f_i_OrderOf_h0 σ with
  | some [.i n3, .l t10, .i t11, .i t12] => some (isOne (loopL (f_i_OrderOf_r0 t10 t11) (n3, t12)), true, f_i_OrderOf_x0_1 t10 t11 (getOne 0 (loopL (f_i_OrderOf_r0 t10 t11) (n3, t12))), (.ret, []))
  | _ => none
theorem f_i_OrderOf_tt0 : TTrue Try.prog f_i_OrderOf_F Try.f122 0 (f_i_OrderOf_t0) := by
  intro σ p r r' h
  unfold f_i_OrderOf_t0 at h
  split at h
  · rename_i hd
    rw [← dec_enc hd]
    exact row1 (f_i_OrderOf_l0 _ _ _) h
  · cases h
theorem f_i_OrderOf_p {R : Type} (g0 : List Sc) (kR : Int → Option R) : f_i_OrderOf_k g0 kR = (f_i_OrderOf_k g0 some).bind kR := by
  simp only [f_i_OrderOf_k, brB, boB, bl1B, someB]
theorem f_i_OrderOf_e (g0 : List Sc) : runFn E0 f_i_OrderOf_M H0 f_i_OrderOf_F (asL (addL 0 (f_i_OrderOf_t0) (noL))) Try.f122 (f_i_OrderOf_a g0) (f_i_OrderOf_i g0) = f_i_OrderOf_k g0 (fun r => some (f_i_OrderOf_en r)) := by kernel_rfl
theorem f_i_OrderOf_ok (g0 : List Sc) (r : Int) (h : f_i_OrderOf g0 = some r) : CS Try.prog 122 (f_i_OrderOf_a g0) (f_i_OrderOf_i g0) (f_i_OrderOf_en r).1 (f_i_OrderOf_en r).2 :=
  fn_true (Gk := fun k => f_i_OrderOf_k g0 k) (en := f_i_OrderOf_en) Try.func122 E0ok f_i_OrderOf_Mt (addL_true (f_i_OrderOf_tt0) (noL_true)) f_i_OrderOf_o (f_i_OrderOf_e g0) (f_i_OrderOf_p g0) h
def f_i_OrderOf_c : CRow := fun args inh => match dec2 [.p .gr] [] args inh with
  | some ([.l g0], []) => some ((f_i_OrderOf g0).isSome, (f_i_OrderOf_en ((f_i_OrderOf g0).getD 0)).1, (f_i_OrderOf_en ((f_i_OrderOf g0).getD 0)).2)
  | _ => none
theorem f_i_OrderOf_cc : CTrue Try.prog 122 f_i_OrderOf_c := by
  intro args inh rs out h
  unfold f_i_OrderOf_c at h
  split at h
  · rename_i hd
    obtain ⟨h1, h2⟩ := dec2_enc hd
    rw [← h1, ← h2]
    exact rowC (f_i_OrderOf_ok _) h
  · cases h

def f_i_IsSet_F : Fi := { nv := 0, nc := 0, m := 0, vt := [], kl := [], sk := [], mvs := [], fz := [] }
def f_i_IsSet_a (g0 : List Sc) (a1 : Int) : List AV := enc [.p .gr, .p (.int .i64)] [.l g0, .i a1]
def f_i_IsSet_i (g0 : List Sc) (a1 : Int) : List AV := enc [] []
def f_i_IsSet_en (r : Bool) : List AV × List AV := (enc [.p .boo] [.b r], enc [] [])
def f_i_IsSet_M : Calling := addC 142 f_i_IsGroup_c (addC 122 f_i_OrderOf_c (noC))
theorem f_i_IsSet_Mt : CallOk Try.prog (f_i_IsSet_M) := addC_true f_i_IsGroup_cc (addC_true f_i_OrderOf_cc (noC_true))
theorem f_i_IsSet_o : loopsOnce Try.f121 = true := by kernel_rfl
theorem f_i_IsSet_p {R : Type} (g0 : List Sc) (a1 : Int) (kR : Bool → Option R) : f_i_IsSet_k g0 a1 kR = (f_i_IsSet_k g0 a1 some).bind kR := by
  simp only [f_i_IsSet_k, brB, boB, someB, noneB]
theorem f_i_IsSet_e (g0 : List Sc) (a1 : Int) : runFn E0 f_i_IsSet_M H0 f_i_IsSet_F (asL (noL)) Try.f121 (f_i_IsSet_a g0 a1) (f_i_IsSet_i g0 a1) = f_i_IsSet_k g0 a1 (fun r => some (f_i_IsSet_en r)) := by kernel_rfl
theorem f_i_IsSet_ok (g0 : List Sc) (a1 : Int) (r : Bool) (h : f_i_IsSet g0 a1 = some r) : CS Try.prog 121 (f_i_IsSet_a g0 a1) (f_i_IsSet_i g0 a1) (f_i_IsSet_en r).1 (f_i_IsSet_en r).2 :=
  fn_true (Gk := fun k => f_i_IsSet_k g0 a1 k) (en := f_i_IsSet_en) Try.func121 E0ok f_i_IsSet_Mt (noL_true) f_i_IsSet_o (f_i_IsSet_e g0 a1) (f_i_IsSet_p g0 a1) h
def f_i_IsSet_c : CRow := fun args inh => match dec2 [.p .gr, .p (.int .i64)] [] args inh with
  | some ([.l g0, .i a1], []) => some ((f_i_IsSet g0 a1).isSome, (f_i_IsSet_en ((f_i_IsSet g0 a1).getD false)).1, (f_i_IsSet_en ((f_i_IsSet g0 a1).getD false)).2)
  | _ => none
theorem f_i_IsSet_cc : CTrue Try.prog 121 f_i_IsSet_c := by
  intro args inh rs out h
  unfold f_i_IsSet_c at h
  split at h
  · rename_i hd
    obtain ⟨h1, h2⟩ := dec2_enc hd
    rw [← h1, ← h2]
    exact rowC (f_i_IsSet_ok _ _) h
  · cases h

def f_i_bits_F : Fi := { nv := 0, nc := 0, m := 0, vt := [], kl := [(0, ([1, 2, 4, 5, 6, 7, 8, 9, 10, 11, 12], [0, 1, 2, 4, 5, 6, 7, 8, 9, 10, 11, 12], [0, 1, 3, 4, 5, 6, 7, 8, 9, 10, 11, 12]))], sk := [], mvs := [], fz := [] }
def f_i_bits_a (a0 : Int) : List AV := enc [.p (.int .i64)] [.i a0]
def f_i_bits_i (a0 : Int) : List AV := enc [] []
def f_i_bits_en (r : Int) : List AV × List AV := (enc [.p (.int .i64)] [.i r], enc [] [])
def f_i_bits_M : Calling := noC
theorem f_i_bits_Mt : CallOk Try.prog (f_i_bits_M) := noC_true
theorem f_i_bits_o : loopsOnce Try.f126 = true := by kernel_rfl
def f_i_bits_h0 : List Sh := [.p (.int .i64), .u, .u, .p (.int .i64), .u, .u, .u, .u, .u, .u, .u, .u, .u]
def f_i_bits_fr0 (s : Int × Int) : List AV := enc f_i_bits_h0 [.i s.1, .i s.2]
def f_i_bits_g0_1 : List Sh := [.u, .u, .u, .p (.int .i64), .u, .u, .u, .u, .u, .u, .u, .u, .u]
def f_i_bits_x0_1 (e : Int) : X × List AV := (.out 0, enc f_i_bits_g0_1 [.i e])
def f_i_bits_x0_2 (_e : Unit) : X × List AV := (.ret, [])
theorem f_i_bits_p0 {R : Type} (s : Int × Int) (kN : Int × Int → Option R) (kA : Int → Option R) (kB : Unit → Option R) : f_i_bits_k0 s.1 s.2 kN kA = (f_i_bits_r0 s).bind (Ro.el kN kA kB) := by
  simp only [f_i_bits_k0, f_i_bits_r0, brB, someB, Ro.el]
theorem f_i_bits_e0 (s : Int × Int) : EC E0 f_i_bits_M H0 f_i_bits_F (asL (noL)) 0 (bodyOf Try.f126 0) (f_i_bits_fr0 s) (done (klOf f_i_bits_F 0)) = f_i_bits_k0 s.1 s.2 (fun s => some (.norm, f_i_bits_fr0 s)) (fun e => some (f_i_bits_x0_1 e)) := by kernel_rfl
theorem f_i_bits_l0 : ∀ s r, loopL (f_i_bits_r0) s = some r → LS Try.prog f_i_bits_F (bodyOf Try.f126 0) (f_i_bits_fr0 s) (enX (f_i_bits_x0_1) (f_i_bits_x0_2) r) :=
  loop_true E0ok f_i_bits_Mt (noL_true) f_i_bits_o (fun _ h => by cases h) (fun _ h => by cases h) (fun s => (f_i_bits_e0 s).trans (f_i_bits_p0 s _ _ (fun e => some (f_i_bits_x0_2 e))))
def f_i_bits_t0 (σ : List AV) : Option (Bool × Bool × (X × List AV) × (X × List AV)) := match dec f_i_bits_h0 σ with
  | some [.i a0, .i n3] => some (isOne (loopL (f_i_bits_r0) (a0, n3)), true, f_i_bits_x0_1 (getOne 0 (loopL (f_i_bits_r0) (a0, n3))), (.ret, []))
  | _ => none
theorem f_i_bits_tt0 : TTrue Try.prog f_i_bits_F Try.f126 0 (f_i_bits_t0) := by
  intro σ p r r' h
  unfold f_i_bits_t0 at h
  split at h
  · rename_i hd
    rw [← dec_enc hd]
    exact row1 (f_i_bits_l0 _) h
  · cases h
theorem f_i_bits_p {R : Type} (a0 : Int) (kR : Int → Option R) : f_i_bits_k a0 kR = (f_i_bits_k a0 some).bind kR := by
  simp only [f_i_bits_k, bl1B, someB]
theorem f_i_bits_e (a0 : Int) : runFn E0 f_i_bits_M H0 f_i_bits_F (asL (addL 0 (f_i_bits_t0) (noL))) Try.f126 (f_i_bits_a a0) (f_i_bits_i a0) = f_i_bits_k a0 (fun r => some (f_i_bits_en r)) := by kernel_rfl
theorem f_i_bits_ok (a0 : Int) (r : Int) (h : f_i_bits a0 = some r) : CS Try.prog 126 (f_i_bits_a a0) (f_i_bits_i a0) (f_i_bits_en r).1 (f_i_bits_en r).2 :=
  fn_true (Gk := fun k => f_i_bits_k a0 k) (en := f_i_bits_en) Try.func126 E0ok f_i_bits_Mt (addL_true (f_i_bits_tt0) (noL_true)) f_i_bits_o (f_i_bits_e a0) (f_i_bits_p a0) h
def f_i_bits_c : CRow := fun args inh => match dec2 [.p (.int .i64)] [] args inh with
  | some ([.i a0], []) => some ((f_i_bits a0).isSome, (f_i_bits_en ((f_i_bits a0).getD 0)).1, (f_i_bits_en ((f_i_bits a0).getD 0)).2)
  | _ => none
theorem f_i_bits_cc : CTrue Try.prog 126 f_i_bits_c := by
  intro args inh rs out h
  unfold f_i_bits_c at h
  split at h
  · rename_i hd
    obtain ⟨h1, h2⟩ := dec2_enc hd
    rw [← h1, ← h2]
    exact rowC (f_i_bits_ok _) h
  · cases h

def f_i_Group_add_F : Fi := { nv := 0, nc := 0, m := 0, vt := [], kl := [(0, ([0, 3, 4, 5, 6, 9, 10, 11, 15, 16, 17, 18, 19, 20, 21, 22, 23, 24, 25, 26, 27, 28, 29, 30, 31, 32, 33, 34, 35, 36, 37, 38, 39, 40, 41], [0, 1, 2, 3, 4, 5, 6, 8, 9, 10, 11, 12, 13, 14, 15, 16, 17, 18, 19, 20, 21, 22, 23, 24, 25, 26, 27, 28, 29, 30, 31, 32, 33, 34, 35, 36, 37, 38, 39, 40, 41], [0, 1, 2, 3, 4, 5, 7, 8, 9, 10, 11, 12, 13, 14, 15, 16, 17, 18, 19, 20, 21, 22, 23, 24, 25, 26, 27, 28, 29, 30, 31, 32, 33, 34, 35, 36, 37, 38, 39, 40, 41]))], sk := [], mvs := [], fz := [] }
def f_i_Group_add_a (g0 : List Sc) (x1 : Int) (y2 : Int) : List AV := enc [.p .gr, .p (.int .i64), .p (.int .i64)] [.l g0, .i x1, .i y2]
def f_i_Group_add_i (g0 : List Sc) (x1 : Int) (y2 : Int) : List AV := enc [] []
def f_i_Group_add_en (r : Int) : List AV × List AV := (enc [.p (.int .i64)] [.i r], enc [] [])
def f_i_Group_add_M : Calling := noC
theorem f_i_Group_add_Mt : CallOk Try.prog (f_i_Group_add_M) := noC_true
theorem f_i_Group_add_o : loopsOnce Try.f155 = true := by kernel_rfl
def f_i_Group_add_h0 : List Sh := [.u, .p (.int .i64), .p (.int .i64), .u, .u, .u, .u, .p (.int .i64), .p (.int .i64), .u, .u, .u, .p .sl, .p (.int .i64), .p (.int .i64), .u, .u, .u, .u, .u, .u, .u, .u, .u, .u, .u, .u, .u, .u, .u, .u, .u, .u, .u, .u, .u, .u, .u, .u, .u, .u, .u]
def f_i_Group_add_fr0 (t12 : List Sc) (t13 : Int) (s : Int × Int × Int × Int × Int) : List AV := enc f_i_Group_add_h0 [.i s.1, .i s.2.1, .i s.2.2.1, .i s.2.2.2.1, .l t12, .i t13, .i s.2.2.2.2]
def f_i_Group_add_g0_1 : List Sh := [.u, .u, .u, .u, .u, .u, .u, .p (.int .i64), .u, .u, .u, .u, .u, .u, .u, .u, .u, .u, .u, .u, .u, .u, .u, .u, .u, .u, .u, .u, .u, .u, .u, .u, .u, .u, .u, .u, .u, .u, .u, .u, .u, .u]
def f_i_Group_add_x0_1 (t12 : List Sc) (t13 : Int) (e : Int) : X × List AV := (.out 0, enc f_i_Group_add_g0_1 [.i e])
def f_i_Group_add_x0_2 (t12 : List Sc) (t13 : Int) (_e : Unit) : X × List AV := (.ret, [])
theorem f_i_Group_add_p0 {R : Type} (t12 : List Sc) (t13 : Int) (s : Int × Int × Int × Int × Int) (kN : Int × Int × Int × Int × Int → Option R) (kA : Int → Option R) (kB : Unit → Option R) : f_i_Group_add_k0 t12 t13 s.1 s.2.1 s.2.2.1 s.2.2.2.1 s.2.2.2.2 kN kA = (f_i_Group_add_r0 t12 t13 s).bind (Ro.el kN kA kB) := by
  simp only [f_i_Group_add_k0, f_i_Group_add_r0, brB, someB, noneB, Ro.el]
theorem f_i_Group_add_e0 (t12 : List Sc) (t13 : Int) (s : Int × Int × Int × Int × Int) : EC E0 f_i_Group_add_M H0 f_i_Group_add_F (asL (noL)) 0 (bodyOf Try.f155 0) (f_i_Group_add_fr0 t12 t13 s) (done (klOf f_i_Group_add_F 0)) = f_i_Group_add_k0 t12 t13 s.1 s.2.1 s.2.2.1 s.2.2.2.1 s.2.2.2.2 (fun s => some (.norm, f_i_Group_add_fr0 t12 t13 s)) (fun e => some (f_i_Group_add_x0_1 t12 t13 e)) := by kernel_rfl
theorem f_i_Group_add_l0 (t12 : List Sc) (t13 : Int) : ∀ s r, loopL (f_i_Group_add_r0 t12 t13) s = some r → LS Try.prog f_i_Group_add_F (bodyOf Try.f155 0) (f_i_Group_add_fr0 t12 t13 s) (enX (f_i_Group_add_x0_1 t12 t13) (f_i_Group_add_x0_2 t12 t13) r) :=
  loop_true E0ok f_i_Group_add_Mt (noL_true) f_i_Group_add_o (fun _ h => by cases h) (fun _ h => by cases h) (fun s => (f_i_Group_add_e0 t12 t13 s).trans (f_i_Group_add_p0 t12 t13 s _ _ (fun e => some (f_i_Group_add_x0_2 t12 t13 e))))
def f_i_Group_add_t0 (σ : List AV) : Option (Bool × Bool × (X × List AV) × (X × List AV)) := match dec f_i_Group_add_h0 σ with
  | some [.i x1, .i y2, .i sum7, .i unit8, .l t12, .i t13, .i t14] => some (isOne (loopL (f_i_Group_add_r0 t12 t13) (x1, y2, sum7, unit8, t14)), true, f_i_Group_add_x0_1 t12 t13 (getOne 0 (loopL (f_i_Group_add_r0 t12 t13) (x1, y2, sum7, unit8, t14))), (.ret, []))
  | _ => none
theorem f_i_Group_add_tt0 : TTrue Try.prog f_i_Group_add_F Try.f155 0 (f_i_Group_add_t0) := by
  intro σ p r r' h
  unfold f_i_Group_add_t0 at h
  split at h
  · rename_i hd
    rw [← dec_enc hd]
    exact row1 (f_i_Group_add_l0 _ _ _) h
  · cases h
theorem f_i_Group_add_p {R : Type} (g0 : List Sc) (x1 : Int) (y2 : Int) (kR : Int → Option R) : f_i_Group_add_k g0 x1 y2 kR = (f_i_Group_add_k g0 x1 y2 some).bind kR := by
  simp only [f_i_Group_add_k, bl1B, someB]
theorem f_i_Group_add_e (g0 : List Sc) (x1 : Int) (y2 : Int) : runFn E0 f_i_Group_add_M H0 f_i_Group_add_F (asL (addL 0 (f_i_Group_add_t0) (noL))) Try.f155 (f_i_Group_add_a g0 x1 y2) (f_i_Group_add_i g0 x1 y2) = f_i_Group_add_k g0 x1 y2 (fun r => some (f_i_Group_add_en r)) := by kernel_rfl
theorem f_i_Group_add_ok (g0 : List Sc) (x1 : Int) (y2 : Int) (r : Int) (h : f_i_Group_add g0 x1 y2 = some r) : CS Try.prog 155 (f_i_Group_add_a g0 x1 y2) (f_i_Group_add_i g0 x1 y2) (f_i_Group_add_en r).1 (f_i_Group_add_en r).2 :=
  fn_true (Gk := fun k => f_i_Group_add_k g0 x1 y2 k) (en := f_i_Group_add_en) Try.func155 E0ok f_i_Group_add_Mt (addL_true (f_i_Group_add_tt0) (noL_true)) f_i_Group_add_o (f_i_Group_add_e g0 x1 y2) (f_i_Group_add_p g0 x1 y2) h
def f_i_Group_add_c : CRow := fun args inh => match dec2 [.p .gr, .p (.int .i64), .p (.int .i64)] [] args inh with
  | some ([.l g0, .i x1, .i y2], []) => some ((f_i_Group_add g0 x1 y2).isSome, (f_i_Group_add_en ((f_i_Group_add g0 x1 y2).getD 0)).1, (f_i_Group_add_en ((f_i_Group_add g0 x1 y2).getD 0)).2)
  | _ => none
theorem f_i_Group_add_cc : CTrue Try.prog 155 f_i_Group_add_c := by
  intro args inh rs out h
  unfold f_i_Group_add_c at h
  split at h
  · rename_i hd
    obtain ⟨h1, h2⟩ := dec2_enc hd
    rw [← h1, ← h2]
    exact rowC (f_i_Group_add_ok _ _ _) h
  · cases h

def f_i_Group_progression_F : Fi := { nv := 0, nc := 0, m := 0, vt := [], kl := [(0, ([0, 3, 5, 6, 7, 8, 12, 13, 14, 15, 16, 17, 18, 19, 20, 21, 22], [0, 1, 2, 3, 4, 5, 6, 7, 8, 10, 11, 12, 13, 14, 15, 16, 17, 18, 19, 20, 21, 22], [0, 1, 2, 3, 4, 5, 6, 7, 9, 10, 11, 12, 13, 14, 15, 16, 17, 18, 19, 20, 21, 22]))], sk := [], mvs := [], fz := [] }
def f_i_Group_progression_a (g0 : List Sc) (start1 : Int) (step2 : Int) (n3 : Int) : List AV := enc [.p .gr, .p (.int .i64), .p (.int .i64), .p (.int .i64)] [.l g0, .i start1, .i step2, .i n3]
def f_i_Group_progression_i (g0 : List Sc) (start1 : Int) (step2 : Int) (n3 : Int) : List AV := enc [] []
def f_i_Group_progression_en (r : Int) : List AV × List AV := (enc [.p (.int .i64)] [.i r], enc [] [])
def f_i_Group_progression_M : Calling := addC 155 f_i_Group_add_c (noC)
theorem f_i_Group_progression_Mt : CallOk Try.prog (f_i_Group_progression_M) := addC_true f_i_Group_add_cc (noC_true)
theorem f_i_Group_progression_o : loopsOnce Try.f138 = true := by kernel_rfl
def f_i_Group_progression_h0 : List Sh := [.u, .p (.int .i64), .p (.int .i64), .u, .p .el, .u, .u, .u, .u, .p (.int .i64), .p (.int .i64), .p (.int .i64), .u, .u, .u, .u, .u, .u, .u, .u, .u, .u, .u]
def f_i_Group_progression_fr0 (step2 : Int) (g4 : List Sc) (t10 : Int) (s : Int × Int × Int) : List AV := enc f_i_Group_progression_h0 [.i s.1, .i step2, .l g4, .i s.2.1, .i t10, .i s.2.2]
def f_i_Group_progression_g0_1 : List Sh := [.u, .u, .u, .u, .u, .u, .u, .u, .u, .p (.int .i64), .u, .u, .u, .u, .u, .u, .u, .u, .u, .u, .u, .u, .u]
def f_i_Group_progression_x0_1 (step2 : Int) (g4 : List Sc) (t10 : Int) (e : Int) : X × List AV := (.out 0, enc f_i_Group_progression_g0_1 [.i e])
def f_i_Group_progression_x0_2 (step2 : Int) (g4 : List Sc) (t10 : Int) (_e : Unit) : X × List AV := (.ret, [])
theorem f_i_Group_progression_p0 {R : Type} (step2 : Int) (g4 : List Sc) (t10 : Int) (s : Int × Int × Int) (kN : Int × Int × Int → Option R) (kA : Int → Option R) (kB : Unit → Option R) : f_i_Group_progression_k0 step2 g4 t10 s.1 s.2.1 s.2.2 kN kA = (f_i_Group_progression_r0 step2 g4 t10 s).bind (Ro.el kN kA kB) := by
  simp only [f_i_Group_progression_k0, f_i_Group_progression_r0, brB, boB, someB, noneB, Ro.el]
theorem f_i_Group_progression_e0 (step2 : Int) (g4 : List Sc) (t10 : Int) (s : Int × Int × Int) : EC E0 f_i_Group_progression_M H0 f_i_Group_progression_F (asL (noL)) 0 (bodyOf Try.f138 0) (f_i_Group_progression_fr0 step2 g4 t10 s) (done (klOf f_i_Group_progression_F 0)) = f_i_Group_progression_k0 step2 g4 t10 s.1 s.2.1 s.2.2 (fun s => some (.norm, f_i_Group_progression_fr0 step2 g4 t10 s)) (fun e => some (f_i_Group_progression_x0_1 step2 g4 t10 e)) := by kernel_rfl
theorem f_i_Group_progression_l0 (step2 : Int) (g4 : List Sc) (t10 : Int) : ∀ s r, loopL (f_i_Group_progression_r0 step2 g4 t10) s = some r → LS Try.prog f_i_Group_progression_F (bodyOf Try.f138 0) (f_i_Group_progression_fr0 step2 g4 t10 s) (enX (f_i_Group_progression_x0_1 step2 g4 t10) (f_i_Group_progression_x0_2 step2 g4 t10) r) :=
  loop_true E0ok f_i_Group_progression_Mt (noL_true) f_i_Group_progression_o (fun _ h => by cases h) (fun _ h => by cases h) (fun s => (f_i_Group_progression_e0 step2 g4 t10 s).trans (f_i_Group_progression_p0 step2 g4 t10 s _ _ (fun e => some (f_i_Group_progression_x0_2 step2 g4 t10 e))))
def f_i_Group_progression_t0 (σ : List AV) : Option (Bool × Bool × (X × List AV) × (X × List AV)) := match dec f_i_Group_progression_h0 σ with
  | some [.i start1, .i step2, .l g4, .i out9, .i t10, .i t11] => some (isOne (loopL (f_i_Group_progression_r0 step2 g4 t10) (start1, out9, t11)), true, f_i_Group_progression_x0_1 step2 g4 t10 (getOne 0 (loopL (f_i_Group_progression_r0 step2 g4 t10) (start1, out9, t11))), (.ret, []))
  | _ => none
theorem f_i_Group_progression_tt0 : TTrue Try.prog f_i_Group_progression_F Try.f138 0 (f_i_Group_progression_t0) := by
  intro σ p r r' h
  unfold f_i_Group_progression_t0 at h
  split at h
  · rename_i hd
    rw [← dec_enc hd]
    exact row1 (f_i_Group_progression_l0 _ _ _ _) h
  · cases h
theorem f_i_Group_progression_p {R : Type} (g0 : List Sc) (start1 : Int) (step2 : Int) (n3 : Int) (kR : Int → Option R) : f_i_Group_progression_k g0 start1 step2 n3 kR = (f_i_Group_progression_k g0 start1 step2 n3 some).bind kR := by
  simp only [f_i_Group_progression_k, bl1B, someB]
theorem f_i_Group_progression_e (g0 : List Sc) (start1 : Int) (step2 : Int) (n3 : Int) : runFn E0 f_i_Group_progression_M H0 f_i_Group_progression_F (asL (addL 0 (f_i_Group_progression_t0) (noL))) Try.f138 (f_i_Group_progression_a g0 start1 step2 n3) (f_i_Group_progression_i g0 start1 step2 n3) = f_i_Group_progression_k g0 start1 step2 n3 (fun r => some (f_i_Group_progression_en r)) := by kernel_rfl
theorem f_i_Group_progression_ok (g0 : List Sc) (start1 : Int) (step2 : Int) (n3 : Int) (r : Int) (h : f_i_Group_progression g0 start1 step2 n3 = some r) : CS Try.prog 138 (f_i_Group_progression_a g0 start1 step2 n3) (f_i_Group_progression_i g0 start1 step2 n3) (f_i_Group_progression_en r).1 (f_i_Group_progression_en r).2 :=
  fn_true (Gk := fun k => f_i_Group_progression_k g0 start1 step2 n3 k) (en := f_i_Group_progression_en) Try.func138 E0ok f_i_Group_progression_Mt (addL_true (f_i_Group_progression_tt0) (noL_true)) f_i_Group_progression_o (f_i_Group_progression_e g0 start1 step2 n3) (f_i_Group_progression_p g0 start1 step2 n3) h
def f_i_Group_progression_c : CRow := fun args inh => match dec2 [.p .gr, .p (.int .i64), .p (.int .i64), .p (.int .i64)] [] args inh with
  | some ([.l g0, .i start1, .i step2, .i n3], []) => some ((f_i_Group_progression g0 start1 step2 n3).isSome, (f_i_Group_progression_en ((f_i_Group_progression g0 start1 step2 n3).getD 0)).1, (f_i_Group_progression_en ((f_i_Group_progression g0 start1 step2 n3).getD 0)).2)
  | _ => none
theorem f_i_Group_progression_cc : CTrue Try.prog 138 f_i_Group_progression_c := by
  intro args inh rs out h
  unfold f_i_Group_progression_c at h
  split at h
  · rename_i hd
    obtain ⟨h1, h2⟩ := dec2_enc hd
    rw [← h1, ← h2]
    exact rowC (f_i_Group_progression_ok _ _ _ _) h
  · cases h

def f_i_members_F : Fi := { nv := 0, nc := 0, m := 0, vt := [], kl := [(0, ([1, 2, 5, 6, 7, 8, 9, 10, 11, 12, 13, 14, 15, 16, 17, 18, 19, 20, 21], [0, 1, 2, 4, 5, 6, 7, 8, 9, 10, 11, 12, 13, 14, 15, 16, 17, 18, 19, 20, 21], [0, 1, 3, 4, 5, 6, 7, 8, 9, 10, 11, 12, 13, 14, 15, 16, 17, 18, 19, 20, 21]))], sk := [], mvs := [], fz := [] }
def f_i_members_a (a0 : Int) : List AV := enc [.p (.int .i64)] [.i a0]
def f_i_members_i (a0 : Int) : List AV := enc [] []
def f_i_members_en (r : List Sc) : List AV × List AV := (enc [.p (.al 0)] [], enc [.own 3] [.l r])
def f_i_members_M : Calling := noC
theorem f_i_members_Mt : CallOk Try.prog (f_i_members_M) := noC_true
theorem f_i_members_o : loopsOnce Try.f130 = true := by kernel_rfl
def f_i_members_h0 : List Sh := [.p (.int .i64), .u, .u, .own 3, .p (.int .i64), .u, .u, .u, .u, .u, .u, .u, .u, .u, .u, .u, .u, .u, .u, .u, .u, .u]
def f_i_members_fr0 (a0 : Int) (s : List Sc × Int) : List AV := enc f_i_members_h0 [.i a0, .l s.1, .i s.2]
def f_i_members_g0_1 : List Sh := [.u, .u, .u, .own 3, .u, .u, .u, .u, .u, .u, .u, .u, .u, .u, .u, .u, .u, .u, .u, .u, .u, .u]
def f_i_members_x0_1 (a0 : Int) (e : List Sc) : X × List AV := (.out 0, enc f_i_members_g0_1 [.l e])
def f_i_members_x0_2 (a0 : Int) (_e : Unit) : X × List AV := (.ret, [])
theorem f_i_members_p0 {R : Type} (a0 : Int) (s : List Sc × Int) (kN : List Sc × Int → Option R) (kA : List Sc → Option R) (kB : Unit → Option R) : f_i_members_k0 a0 s.1 s.2 kN kA = (f_i_members_r0 a0 s).bind (Ro.el kN kA kB) := by
  simp only [f_i_members_k0, f_i_members_r0, brB, someB, noneB, Ro.el]
theorem f_i_members_e0 (a0 : Int) (s : List Sc × Int) : EC E0 f_i_members_M H0 f_i_members_F (asL (noL)) 0 (bodyOf Try.f130 0) (f_i_members_fr0 a0 s) (done (klOf f_i_members_F 0)) = f_i_members_k0 a0 s.1 s.2 (fun s => some (.norm, f_i_members_fr0 a0 s)) (fun e => some (f_i_members_x0_1 a0 e)) := by kernel_rfl
theorem f_i_members_l0 (a0 : Int) : ∀ s r, loopL (f_i_members_r0 a0) s = some r → LS Try.prog f_i_members_F (bodyOf Try.f130 0) (f_i_members_fr0 a0 s) (enX (f_i_members_x0_1 a0) (f_i_members_x0_2 a0) r) :=
  loop_true E0ok f_i_members_Mt (noL_true) f_i_members_o (fun _ h => by cases h) (fun _ h => by cases h) (fun s => (f_i_members_e0 a0 s).trans (f_i_members_p0 a0 s _ _ (fun e => some (f_i_members_x0_2 a0 e))))
def f_i_members_t0 (σ : List AV) : Option (Bool × Bool × (X × List AV) × (X × List AV)) := match dec f_i_members_h0 σ with
  | some [.i a0, .l out3, .i x4] => some (isOne (loopL (f_i_members_r0 a0) (out3, x4)), true, f_i_members_x0_1 a0 (getOne [] (loopL (f_i_members_r0 a0) (out3, x4))), (.ret, []))
  | _ => none
theorem f_i_members_tt0 : TTrue Try.prog f_i_members_F Try.f130 0 (f_i_members_t0) := by
  intro σ p r r' h
  unfold f_i_members_t0 at h
  split at h
  · rename_i hd
    rw [← dec_enc hd]
    exact row1 (f_i_members_l0 _ _) h
  · cases h
theorem f_i_members_p {R : Type} (a0 : Int) (kR : List Sc → Option R) : f_i_members_k a0 kR = (f_i_members_k a0 some).bind kR := by
  simp only [f_i_members_k, bl1B, someB]
theorem f_i_members_e (a0 : Int) : runFn E0 f_i_members_M H0 f_i_members_F (asL (addL 0 (f_i_members_t0) (noL))) Try.f130 (f_i_members_a a0) (f_i_members_i a0) = f_i_members_k a0 (fun r => some (f_i_members_en r)) := by kernel_rfl
theorem f_i_members_ok (a0 : Int) (r : List Sc) (h : f_i_members a0 = some r) : CS Try.prog 130 (f_i_members_a a0) (f_i_members_i a0) (f_i_members_en r).1 (f_i_members_en r).2 :=
  fn_true (Gk := fun k => f_i_members_k a0 k) (en := f_i_members_en) Try.func130 E0ok f_i_members_Mt (addL_true (f_i_members_tt0) (noL_true)) f_i_members_o (f_i_members_e a0) (f_i_members_p a0) h
def f_i_members_c : CRow := fun args inh => match dec2 [.p (.int .i64)] [] args inh with
  | some ([.i a0], []) => some ((f_i_members a0).isSome, (f_i_members_en ((f_i_members a0).getD [])).1, (f_i_members_en ((f_i_members a0).getD [])).2)
  | _ => none
theorem f_i_members_cc : CTrue Try.prog 130 f_i_members_c := by
  intro args inh rs out h
  unfold f_i_members_c at h
  split at h
  · rename_i hd
    obtain ⟨h1, h2⟩ := dec2_enc hd
    rw [← h1, ← h2]
    exact rowC (f_i_members_ok _) h
  · cases h

def f_i_Group_shift_F : Fi := { nv := 0, nc := 0, m := 0, vt := [], kl := [(0, ([0, 4, 5, 6, 9, 10, 11, 12, 13, 14, 15, 16, 17, 18, 19, 20, 21, 22, 23, 24, 25, 26, 27], [0, 1, 2, 3, 4, 5, 6, 8, 9, 10, 11, 12, 13, 14, 15, 16, 17, 18, 19, 20, 21, 22, 23, 24, 25, 26, 27], [0, 1, 2, 3, 4, 5, 7, 8, 9, 10, 11, 12, 13, 14, 15, 16, 17, 18, 19, 20, 21, 22, 23, 24, 25, 26, 27]))], sk := [], mvs := [], fz := [] }
def f_i_Group_shift_a (g0 : List Sc) (a1 : Int) (x2 : Int) : List AV := enc [.p .gr, .p (.int .i64), .p (.int .i64)] [.l g0, .i a1, .i x2]
def f_i_Group_shift_i (g0 : List Sc) (a1 : Int) (x2 : Int) : List AV := enc [] []
def f_i_Group_shift_en (r : Int) : List AV × List AV := (enc [.p (.int .i64)] [.i r], enc [] [])
def f_i_Group_shift_M : Calling := addC 155 f_i_Group_add_c (noC)
theorem f_i_Group_shift_Mt : CallOk Try.prog (f_i_Group_shift_M) := addC_true f_i_Group_add_cc (noC_true)
theorem f_i_Group_shift_o : loopsOnce Try.f123 = true := by kernel_rfl
def f_i_Group_shift_h0 : List Sh := [.u, .p (.int .i64), .p (.int .i64), .p .el, .u, .u, .u, .p (.int .i64), .p (.int .i64), .u, .u, .u, .u, .u, .u, .u, .u, .u, .u, .u, .u, .u, .u, .u, .u, .u, .u, .u]
def f_i_Group_shift_fr0 (a1 : Int) (x2 : Int) (g3 : List Sc) (s : Int × Int) : List AV := enc f_i_Group_shift_h0 [.i a1, .i x2, .l g3, .i s.1, .i s.2]
def f_i_Group_shift_g0_1 : List Sh := [.u, .u, .u, .u, .u, .u, .u, .p (.int .i64), .u, .u, .u, .u, .u, .u, .u, .u, .u, .u, .u, .u, .u, .u, .u, .u, .u, .u, .u, .u]
def f_i_Group_shift_x0_1 (a1 : Int) (x2 : Int) (g3 : List Sc) (e : Int) : X × List AV := (.out 0, enc f_i_Group_shift_g0_1 [.i e])
def f_i_Group_shift_x0_2 (a1 : Int) (x2 : Int) (g3 : List Sc) (_e : Unit) : X × List AV := (.ret, [])
theorem f_i_Group_shift_p0 {R : Type} (a1 : Int) (x2 : Int) (g3 : List Sc) (s : Int × Int) (kN : Int × Int → Option R) (kA : Int → Option R) (kB : Unit → Option R) : f_i_Group_shift_k0 a1 x2 g3 s.1 s.2 kN kA = (f_i_Group_shift_r0 a1 x2 g3 s).bind (Ro.el kN kA kB) := by
  simp only [f_i_Group_shift_k0, f_i_Group_shift_r0, brB, boB, someB, noneB, Ro.el]
theorem f_i_Group_shift_e0 (a1 : Int) (x2 : Int) (g3 : List Sc) (s : Int × Int) : EC E0 f_i_Group_shift_M H0 f_i_Group_shift_F (asL (noL)) 0 (bodyOf Try.f123 0) (f_i_Group_shift_fr0 a1 x2 g3 s) (done (klOf f_i_Group_shift_F 0)) = f_i_Group_shift_k0 a1 x2 g3 s.1 s.2 (fun s => some (.norm, f_i_Group_shift_fr0 a1 x2 g3 s)) (fun e => some (f_i_Group_shift_x0_1 a1 x2 g3 e)) := by kernel_rfl
theorem f_i_Group_shift_l0 (a1 : Int) (x2 : Int) (g3 : List Sc) : ∀ s r, loopL (f_i_Group_shift_r0 a1 x2 g3) s = some r → LS Try.prog f_i_Group_shift_F (bodyOf Try.f123 0) (f_i_Group_shift_fr0 a1 x2 g3 s) (enX (f_i_Group_shift_x0_1 a1 x2 g3) (f_i_Group_shift_x0_2 a1 x2 g3) r) :=
  loop_true E0ok f_i_Group_shift_Mt (noL_true) f_i_Group_shift_o (fun _ h => by cases h) (fun _ h => by cases h) (fun s => (f_i_Group_shift_e0 a1 x2 g3 s).trans (f_i_Group_shift_p0 a1 x2 g3 s _ _ (fun e => some (f_i_Group_shift_x0_2 a1 x2 g3 e))))
def f_i_Group_shift_t0 (σ : List AV) : Option (Bool × Bool × (X × List AV) × (X × List AV)) := match dec f_i_Group_shift_h0 σ with
  | some [.i a1, .i x2, .l g3, .i out7, .i y8] => some (isOne (loopL (f_i_Group_shift_r0 a1 x2 g3) (out7, y8)), true, f_i_Group_shift_x0_1 a1 x2 g3 (getOne 0 (loopL (f_i_Group_shift_r0 a1 x2 g3) (out7, y8))), (.ret, []))
  | _ => none
theorem f_i_Group_shift_tt0 : TTrue Try.prog f_i_Group_shift_F Try.f123 0 (f_i_Group_shift_t0) := by
  intro σ p r r' h
  unfold f_i_Group_shift_t0 at h
  split at h
  · rename_i hd
    rw [← dec_enc hd]
    exact row1 (f_i_Group_shift_l0 _ _ _ _) h
  · cases h
theorem f_i_Group_shift_p {R : Type} (g0 : List Sc) (a1 : Int) (x2 : Int) (kR : Int → Option R) : f_i_Group_shift_k g0 a1 x2 kR = (f_i_Group_shift_k g0 a1 x2 some).bind kR := by
  simp only [f_i_Group_shift_k, bl1B, someB]
theorem f_i_Group_shift_e (g0 : List Sc) (a1 : Int) (x2 : Int) : runFn E0 f_i_Group_shift_M H0 f_i_Group_shift_F (asL (addL 0 (f_i_Group_shift_t0) (noL))) Try.f123 (f_i_Group_shift_a g0 a1 x2) (f_i_Group_shift_i g0 a1 x2) = f_i_Group_shift_k g0 a1 x2 (fun r => some (f_i_Group_shift_en r)) := by kernel_rfl
theorem f_i_Group_shift_ok (g0 : List Sc) (a1 : Int) (x2 : Int) (r : Int) (h : f_i_Group_shift g0 a1 x2 = some r) : CS Try.prog 123 (f_i_Group_shift_a g0 a1 x2) (f_i_Group_shift_i g0 a1 x2) (f_i_Group_shift_en r).1 (f_i_Group_shift_en r).2 :=
  fn_true (Gk := fun k => f_i_Group_shift_k g0 a1 x2 k) (en := f_i_Group_shift_en) Try.func123 E0ok f_i_Group_shift_Mt (addL_true (f_i_Group_shift_tt0) (noL_true)) f_i_Group_shift_o (f_i_Group_shift_e g0 a1 x2) (f_i_Group_shift_p g0 a1 x2) h
def f_i_Group_shift_c : CRow := fun args inh => match dec2 [.p .gr, .p (.int .i64), .p (.int .i64)] [] args inh with
  | some ([.l g0, .i a1, .i x2], []) => some ((f_i_Group_shift g0 a1 x2).isSome, (f_i_Group_shift_en ((f_i_Group_shift g0 a1 x2).getD 0)).1, (f_i_Group_shift_en ((f_i_Group_shift g0 a1 x2).getD 0)).2)
  | _ => none
theorem f_i_Group_shift_cc : CTrue Try.prog 123 f_i_Group_shift_c := by
  intro args inh rs out h
  unfold f_i_Group_shift_c at h
  split at h
  · rename_i hd
    obtain ⟨h1, h2⟩ := dec2_enc hd
    rw [← h1, ← h2]
    exact rowC (f_i_Group_shift_ok _ _ _) h
  · cases h

def f_i_Group_sum_F : Fi := { nv := 0, nc := 0, m := 0, vt := [], kl := [(0, ([0, 1, 4, 5, 6, 8, 9, 10, 14, 15, 16, 17, 18, 19, 20, 21, 22, 23, 24], [0, 1, 2, 3, 4, 5, 6, 8, 9, 10, 11, 12, 13, 14, 15, 16, 17, 18, 19, 20, 21, 22, 23, 24], [0, 1, 2, 3, 4, 5, 7, 8, 9, 10, 11, 12, 13, 14, 15, 16, 17, 18, 19, 20, 21, 22, 23, 24]))], sk := [], mvs := [], fz := [] }
def f_i_Group_sum_a (g0 : List Sc) (a1 : Int) (b2 : Int) : List AV := enc [.p .gr, .p (.int .i64), .p (.int .i64)] [.l g0, .i a1, .i b2]
def f_i_Group_sum_i (g0 : List Sc) (a1 : Int) (b2 : Int) : List AV := enc [] []
def f_i_Group_sum_en (r : Int) : List AV × List AV := (enc [.p (.int .i64)] [.i r], enc [] [])
def f_i_Group_sum_M : Calling := addC 130 f_i_members_c (addC 123 f_i_Group_shift_c (noC))
theorem f_i_Group_sum_Mt : CallOk Try.prog (f_i_Group_sum_M) := addC_true f_i_members_cc (addC_true f_i_Group_shift_cc (noC_true))
theorem f_i_Group_sum_o : loopsOnce Try.f128 = true := by kernel_rfl
def f_i_Group_sum_h0 : List Sh := [.u, .u, .p (.int .i64), .p .el, .u, .u, .u, .p (.int .i64), .u, .u, .u, .own 3, .p (.int .i64), .p (.int .i64), .u, .u, .u, .u, .u, .u, .u, .u, .u, .u, .u]
def f_i_Group_sum_fr0 (b2 : Int) (g3 : List Sc) (t12 : Int) (s : Int × List Sc × Int) : List AV := enc f_i_Group_sum_h0 [.i b2, .l g3, .i s.1, .l s.2.1, .i t12, .i s.2.2]
def f_i_Group_sum_g0_1 : List Sh := [.u, .u, .u, .u, .u, .u, .u, .p (.int .i64), .u, .u, .u, .u, .u, .u, .u, .u, .u, .u, .u, .u, .u, .u, .u, .u, .u]
def f_i_Group_sum_x0_1 (b2 : Int) (g3 : List Sc) (t12 : Int) (e : Int) : X × List AV := (.out 0, enc f_i_Group_sum_g0_1 [.i e])
def f_i_Group_sum_x0_2 (b2 : Int) (g3 : List Sc) (t12 : Int) (_e : Unit) : X × List AV := (.ret, [])
theorem f_i_Group_sum_p0 {R : Type} (b2 : Int) (g3 : List Sc) (t12 : Int) (s : Int × List Sc × Int) (kN : Int × List Sc × Int → Option R) (kA : Int → Option R) (kB : Unit → Option R) : f_i_Group_sum_k0 b2 g3 t12 s.1 s.2.1 s.2.2 kN kA = (f_i_Group_sum_r0 b2 g3 t12 s).bind (Ro.el kN kA kB) := by
  simp only [f_i_Group_sum_k0, f_i_Group_sum_r0, brB, boB, someB, noneB, Ro.el]
theorem f_i_Group_sum_e0 (b2 : Int) (g3 : List Sc) (t12 : Int) (s : Int × List Sc × Int) : EC E0 f_i_Group_sum_M H0 f_i_Group_sum_F (asL (noL)) 0 (bodyOf Try.f128 0) (f_i_Group_sum_fr0 b2 g3 t12 s) (done (klOf f_i_Group_sum_F 0)) = f_i_Group_sum_k0 b2 g3 t12 s.1 s.2.1 s.2.2 (fun s => some (.norm, f_i_Group_sum_fr0 b2 g3 t12 s)) (fun e => some (f_i_Group_sum_x0_1 b2 g3 t12 e)) := by kernel_rfl
theorem f_i_Group_sum_l0 (b2 : Int) (g3 : List Sc) (t12 : Int) : ∀ s r, loopL (f_i_Group_sum_r0 b2 g3 t12) s = some r → LS Try.prog f_i_Group_sum_F (bodyOf Try.f128 0) (f_i_Group_sum_fr0 b2 g3 t12 s) (enX (f_i_Group_sum_x0_1 b2 g3 t12) (f_i_Group_sum_x0_2 b2 g3 t12) r) :=
  loop_true E0ok f_i_Group_sum_Mt (noL_true) f_i_Group_sum_o (fun _ h => by cases h) (fun _ h => by cases h) (fun s => (f_i_Group_sum_e0 b2 g3 t12 s).trans (f_i_Group_sum_p0 b2 g3 t12 s _ _ (fun e => some (f_i_Group_sum_x0_2 b2 g3 t12 e))))
def f_i_Group_sum_t0 (σ : List AV) : Option (Bool × Bool × (X × List AV) × (X × List AV)) := match dec f_i_Group_sum_h0 σ with
  | some [.i b2, .l g3, .i out7, .l t11, .i t12, .i t13] => some (isOne (loopL (f_i_Group_sum_r0 b2 g3 t12) (out7, t11, t13)), true, f_i_Group_sum_x0_1 b2 g3 t12 (getOne 0 (loopL (f_i_Group_sum_r0 b2 g3 t12) (out7, t11, t13))), (.ret, []))
  | _ => none
theorem f_i_Group_sum_tt0 : TTrue Try.prog f_i_Group_sum_F Try.f128 0 (f_i_Group_sum_t0) := by
  intro σ p r r' h
  unfold f_i_Group_sum_t0 at h
  split at h
  · rename_i hd
    rw [← dec_enc hd]
    exact row1 (f_i_Group_sum_l0 _ _ _ _) h
  · cases h
theorem f_i_Group_sum_p {R : Type} (g0 : List Sc) (a1 : Int) (b2 : Int) (kR : Int → Option R) : f_i_Group_sum_k g0 a1 b2 kR = (f_i_Group_sum_k g0 a1 b2 some).bind kR := by
  simp only [f_i_Group_sum_k, boB, bl1B, someB]
theorem f_i_Group_sum_e (g0 : List Sc) (a1 : Int) (b2 : Int) : runFn E0 f_i_Group_sum_M H0 f_i_Group_sum_F (asL (addL 0 (f_i_Group_sum_t0) (noL))) Try.f128 (f_i_Group_sum_a g0 a1 b2) (f_i_Group_sum_i g0 a1 b2) = f_i_Group_sum_k g0 a1 b2 (fun r => some (f_i_Group_sum_en r)) := by kernel_rfl
theorem f_i_Group_sum_ok (g0 : List Sc) (a1 : Int) (b2 : Int) (r : Int) (h : f_i_Group_sum g0 a1 b2 = some r) : CS Try.prog 128 (f_i_Group_sum_a g0 a1 b2) (f_i_Group_sum_i g0 a1 b2) (f_i_Group_sum_en r).1 (f_i_Group_sum_en r).2 :=
  fn_true (Gk := fun k => f_i_Group_sum_k g0 a1 b2 k) (en := f_i_Group_sum_en) Try.func128 E0ok f_i_Group_sum_Mt (addL_true (f_i_Group_sum_tt0) (noL_true)) f_i_Group_sum_o (f_i_Group_sum_e g0 a1 b2) (f_i_Group_sum_p g0 a1 b2) h
def f_i_Group_sum_c : CRow := fun args inh => match dec2 [.p .gr, .p (.int .i64), .p (.int .i64)] [] args inh with
  | some ([.l g0, .i a1, .i b2], []) => some ((f_i_Group_sum g0 a1 b2).isSome, (f_i_Group_sum_en ((f_i_Group_sum g0 a1 b2).getD 0)).1, (f_i_Group_sum_en ((f_i_Group_sum g0 a1 b2).getD 0)).2)
  | _ => none
theorem f_i_Group_sum_cc : CTrue Try.prog 128 f_i_Group_sum_c := by
  intro args inh rs out h
  unfold f_i_Group_sum_c at h
  split at h
  · rename_i hd
    obtain ⟨h1, h2⟩ := dec2_enc hd
    rw [← h1, ← h2]
    exact rowC (f_i_Group_sum_ok _ _ _) h
  · cases h
end
end Go.Proofs.Ytphbclogflflmaa
