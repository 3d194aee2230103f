/-
  That the program computes just that (printed by gen2.py).
-/
import Derived.Test.YtonjcafobhpfdaaShal
import Derived.Test.YtonjcafobhpfdaaRows
import Derived.WalkKit
set_option linter.unusedVariables false
set_option linter.unusedSimpArgs false
namespace Go.Proofs.Ytonjcafobhpfdaa
open Go Ev
noncomputable section
def E0 : Env := { sl := [(22, 5, .n .u8 0), (24, 3, .n .i64 0)], gr := [(26, 24)], sc := [3, 4, 5, 9, 21, 78], bl := [4], ik := [(3, .i64), (5, .u8), (21, .i32), (78, .u32)], st := [9], one := [3, 4, 5, 9, 21, 78, 22, 24, 1, 23, 28, 29, 30, 31, 33, 34, 35, 36, 37, 38, 39, 41, 42, 43, 44, 45, 46, 47, 48, 49, 51, 52, 53, 54, 55, 56, 58, 59, 60, 61, 62, 65, 67, 69, 70, 71, 77, 81], al := [(3, [.sc (.n .i64 0)]), (4, [.sc (.b false)]), (5, [.sc (.n .u8 0)]), (9, [.sc (.s ByteArray.empty)]), (21, [.sc (.n .i32 0)]), (78, [.sc (.n .u32 0)]), (22, [.sl]), (24, [.sl]), (1, [.fn]), (23, [.fn]), (26, [.sl]), (28, [.fn]), (29, [.fn]), (30, [.fn]), (31, [.fn]), (33, [.fn]), (34, [.fn]), (35, [.fn]), (36, [.fn]), (37, [.fn]), (38, [.fn]), (39, [.fn]), (41, [.fn]), (42, [.fn]), (43, [.fn]), (44, [.fn]), (45, [.fn]), (46, [.fn]), (47, [.fn]), (48, [.fn]), (49, [.fn]), (51, [.fn]), (52, [.fn]), (53, [.fn]), (54, [.fn]), (55, [.fn]), (56, [.fn]), (58, [.fn]), (59, [.fn]), (60, [.fn]), (61, [.fn]), (62, [.fn]), (65, [.fn]), (67, [.fn]), (69, [.fn]), (70, [.fn]), (71, [.fn]), (77, [.fn]), (81, [.fn]), (64, [.sl, .sc (.n .i64 0), .sc (.n .i64 0)])], fd := [(26, 1), (64, 3)], ll := [(68, 24)] }
def H0 : Hints := { md := [(64, [.io]), (65, [.io, .ro]), (70, [.io]), (76, [.io]), (77, [.io, .ro]), (78, [.io, .ro]), (79, [.io, .ro]), (80, [.io, .ro]), (83, [.io, .ro]), (88, [.io])], soft := [5, 12, 21, 23, 26, 37, 46, 55, 57, 63, 64, 65, 70, 74, 76, 77, 78, 79, 80, 83, 84, 88, 89] }
theorem E0ok : EnvOk Try.prog E0 := okEnv_spec (by kernel_rfl)

def f_l_big_F : Fi := { nv := 0, nc := 0, m := 0, vt := [], kl := [], sk := [], mvs := [], fz := [] }
def f_l_big_a (code0 : List Sc) : List AV := enc [.p .sl] [.l code0]
def f_l_big_i (code0 : List Sc) : List AV := enc [] []
def f_l_big_en (r : Bool) : List AV × List AV := (enc [.p .boo] [.b r], enc [] [])
def f_l_big_M : Calling := noC
theorem f_l_big_Mt : CallOk Try.prog (f_l_big_M) := noC_true
theorem f_l_big_o : loopsOnce Try.f4 = true := by kernel_rfl
theorem f_l_big_p {R : Type} (code0 : List Sc) (kR : Bool → Option R) : f_l_big_k code0 kR = (f_l_big_k code0 some).bind kR := by
  simp only [f_l_big_k, someB]
theorem f_l_big_e (code0 : List Sc) : runFn E0 f_l_big_M H0 f_l_big_F (asL (noL)) Try.f4 (f_l_big_a code0) (f_l_big_i code0) = f_l_big_k code0 (fun r => some (f_l_big_en r)) := by kernel_rfl
theorem f_l_big_ok (code0 : List Sc) (r : Bool) (h : f_l_big code0 = some r) : CS Try.prog 4 (f_l_big_a code0) (f_l_big_i code0) (f_l_big_en r).1 (f_l_big_en r).2 :=
  fn_true (Gk := fun k => f_l_big_k code0 k) (en := f_l_big_en) Try.func4 E0ok f_l_big_Mt (noL_true) f_l_big_o (f_l_big_e code0) (f_l_big_p code0) h
def f_l_big_c : CRow := fun args inh => match dec2 [.p .sl] [] args inh with
  | some ([.l code0], []) => some ((f_l_big code0).isSome, (f_l_big_en ((f_l_big code0).getD false)).1, (f_l_big_en ((f_l_big code0).getD false)).2)
  | _ => none
theorem f_l_big_cc : CTrue Try.prog 4 f_l_big_c := by
  intro args inh rs out h
  unfold f_l_big_c at h
  split at h
  · rename_i hd
    obtain ⟨h1, h2⟩ := dec2_enc hd
    rw [← h1, ← h2]
    exact rowC (f_l_big_ok _) h
  · cases h

def f_s_l1New_F : Fi := { nv := 3, nc := 3, m := 0, vt := [(31, 0)], kl := [(0, ([0, 1, 2, 4, 5, 8, 9, 10, 11, 12, 13, 14, 15, 16, 17, 18, 19, 20, 21, 22, 23, 24, 25, 26, 27, 28, 29, 30, 31, 32, 33, 34], [0, 1, 2, 4, 5, 7, 8, 9, 10, 11, 12, 13, 14, 15, 16, 17, 18, 19, 20, 21, 22, 23, 24, 25, 26, 27, 28, 29, 30, 31, 32, 33, 34], [3, 4, 6, 7, 8, 9, 10, 11, 12, 13, 14, 15, 16, 17, 18, 19, 20, 21, 22, 23, 24, 25, 26, 27, 28, 29, 30, 31, 32, 33, 34]))], sk := [], mvs := [], fz := [] }
def f_s_l1New_a (code0 : List Sc) : List AV := enc [.p .sl] [.l code0]
def f_s_l1New_i (code0 : List Sc) : List AV := enc [] []
def f_s_l1New_en (r : List Sc × Int × Int) : List AV × List AV := (enc [.p (.pt 0 3)] [], enc [.p .sl, .p (.int .i64), .p (.int .i64)] [.l r.1, .i r.2.1, .i r.2.2])
def f_s_l1New_M : Calling := noC
theorem f_s_l1New_Mt : CallOk Try.prog (f_s_l1New_M) := noC_true
theorem f_s_l1New_o : loopsOnce Try.f63 = true := by kernel_rfl
def f_s_l1New_h0 : List Sh := [.u, .u, .u, .p .sl, .u, .u, .p (.int .i64), .p (.int .i64), .u, .u, .u, .u, .u, .u, .u, .u, .u, .u, .u, .u, .u, .u, .u, .u, .u, .u, .u, .u, .u, .u, .u, .u, .u, .u, .u]
def f_s_l1New_fr0 (code0 : List Sc) (s : Int × Int) : List AV := enc f_s_l1New_h0 [.l code0, .i s.1, .i s.2]
def f_s_l1New_g0_1 : List Sh := [.u, .u, .u, .p .sl, .u, .u, .p (.int .i64), .u, .u, .u, .u, .u, .u, .u, .u, .u, .u, .u, .u, .u, .u, .u, .u, .u, .u, .u, .u, .u, .u, .u, .u, .u, .u, .u, .u]
def f_s_l1New_x0_1 (code0 : List Sc) (e : Int) : X × List AV := (.out 0, enc f_s_l1New_g0_1 [.l code0, .i e])
def f_s_l1New_x0_2 (code0 : List Sc) (_e : Unit) : X × List AV := (.ret, [])
theorem f_s_l1New_p0 {R : Type} (code0 : List Sc) (s : Int × Int) (kN : Int × Int → Option R) (kA : Int → Option R) (kB : Unit → Option R) : f_s_l1New_k0 code0 s.1 s.2 kN kA = (f_s_l1New_r0 code0 s).bind (Ro.el kN kA kB) := by
  simp only [f_s_l1New_k0, f_s_l1New_r0, brB, someB, noneB, Ro.el]
theorem f_s_l1New_e0 (code0 : List Sc) (s : Int × Int) : EC E0 f_s_l1New_M H0 f_s_l1New_F (asL (noL)) 0 (bodyOf Try.f63 0) (f_s_l1New_fr0 code0 s) (done (klOf f_s_l1New_F 0)) = f_s_l1New_k0 code0 s.1 s.2 (fun s => some (.norm, f_s_l1New_fr0 code0 s)) (fun e => some (f_s_l1New_x0_1 code0 e)) := by kernel_rfl
theorem f_s_l1New_l0 (code0 : List Sc) : ∀ s r, loopL (f_s_l1New_r0 code0) s = some r → LS Try.prog f_s_l1New_F (bodyOf Try.f63 0) (f_s_l1New_fr0 code0 s) (enX (f_s_l1New_x0_1 code0) (f_s_l1New_x0_2 code0) r) :=
  loop_true E0ok f_s_l1New_Mt (noL_true) f_s_l1New_o (fun _ h => by cases h) (fun _ h => by cases h) (fun s => (f_s_l1New_e0 code0 s).trans (f_s_l1New_p0 code0 s _ _ (fun e => some (f_s_l1New_x0_2 code0 e))))
def f_s_l1New_t0 (σ : List AV) : Option (Bool × Bool × (X × List AV) × (X × List AV)) := match dec f_s_l1New_h0 σ with
  | some [.l code0, .i h3, .i i4] => some (isOne (loopL (f_s_l1New_r0 code0) (h3, i4)), true, f_s_l1New_x0_1 code0 (getOne 0 (loopL (f_s_l1New_r0 code0) (h3, i4))), (.ret, []))
  | _ => none
theorem f_s_l1New_tt0 : TTrue Try.prog f_s_l1New_F Try.f63 0 (f_s_l1New_t0) := by
  intro σ p r r' h
  unfold f_s_l1New_t0 at h
  split at h
  · rename_i hd
    rw [← dec_enc hd]
    exact row1 (f_s_l1New_l0 _ _) h
  · cases h
theorem f_s_l1New_p {R : Type} (code0 : List Sc) (kR : List Sc × Int × Int → Option R) : f_s_l1New_k code0 kR = (f_s_l1New_k code0 some).bind kR := by
  simp only [f_s_l1New_k, bl1B, someB]
theorem f_s_l1New_e (code0 : List Sc) : runFn E0 f_s_l1New_M H0 f_s_l1New_F (asL (addL 0 (f_s_l1New_t0) (noL))) Try.f63 (f_s_l1New_a code0) (f_s_l1New_i code0) = f_s_l1New_k code0 (fun r => some (f_s_l1New_en r)) := by kernel_rfl
theorem f_s_l1New_ok (code0 : List Sc) (r : List Sc × Int × Int) (h : f_s_l1New code0 = some r) : CS Try.prog 63 (f_s_l1New_a code0) (f_s_l1New_i code0) (f_s_l1New_en r).1 (f_s_l1New_en r).2 :=
  fn_true (Gk := fun k => f_s_l1New_k code0 k) (en := f_s_l1New_en) Try.func63 E0ok f_s_l1New_Mt (addL_true (f_s_l1New_tt0) (noL_true)) f_s_l1New_o (f_s_l1New_e code0) (f_s_l1New_p code0) h
def f_s_l1New_c : CRow := fun args inh => match dec2 [.p .sl] [] args inh with
  | some ([.l code0], []) => some ((f_s_l1New code0).isSome, (f_s_l1New_en ((f_s_l1New code0).getD ([], 0, 0))).1, (f_s_l1New_en ((f_s_l1New code0).getD ([], 0, 0))).2)
  | _ => none
theorem f_s_l1New_cc : CTrue Try.prog 63 f_s_l1New_c := by
  intro args inh rs out h
  unfold f_s_l1New_c at h
  split at h
  · rename_i hd
    obtain ⟨h1, h2⟩ := dec2_enc hd
    rw [← h1, ← h2]
    exact rowC (f_s_l1New_ok _) h
  · cases h

def f_s_l1Byte_io_F : Fi := { nv := 3, nc := 3, m := 3, vt := [], kl := [], sk := [], mvs := [], fz := [] }
def f_s_l1Byte_io_a (h0 : List Sc) (h1 : Int) (h2 : Int) : List AV := enc [.p (.pt 0 3)] []
def f_s_l1Byte_io_i (h0 : List Sc) (h1 : Int) (h2 : Int) : List AV := enc [.p .sl, .p (.int .i64), .p (.int .i64)] [.l h0, .i h1, .i h2]
def f_s_l1Byte_io_en (r : Int × List Sc × Int × Int) : List AV × List AV := (enc [.p (.int .i64)] [.i r.1], enc [.p .sl, .p (.int .i64), .p (.int .i64)] [.l r.2.1, .i r.2.2.1, .i r.2.2.2])
def f_s_l1Byte_io_M : Calling := noC
theorem f_s_l1Byte_io_Mt : CallOk Try.prog (f_s_l1Byte_io_M) := noC_true
theorem f_s_l1Byte_io_o : loopsOnce Try.f88 = true := by kernel_rfl
theorem f_s_l1Byte_io_p {R : Type} (h0 : List Sc) (h1 : Int) (h2 : Int) (kR : Int × List Sc × Int × Int → Option R) : f_s_l1Byte_io_k h0 h1 h2 kR = (f_s_l1Byte_io_k h0 h1 h2 some).bind kR := by
  simp only [f_s_l1Byte_io_k, brB, someB, noneB]
theorem f_s_l1Byte_io_e (h0 : List Sc) (h1 : Int) (h2 : Int) : runFn E0 f_s_l1Byte_io_M H0 f_s_l1Byte_io_F (asL (noL)) Try.f88 (f_s_l1Byte_io_a h0 h1 h2) (f_s_l1Byte_io_i h0 h1 h2) = f_s_l1Byte_io_k h0 h1 h2 (fun r => some (f_s_l1Byte_io_en r)) := by kernel_rfl
theorem f_s_l1Byte_io_ok (h0 : List Sc) (h1 : Int) (h2 : Int) (r : Int × List Sc × Int × Int) (h : f_s_l1Byte_io h0 h1 h2 = some r) : CS Try.prog 88 (f_s_l1Byte_io_a h0 h1 h2) (f_s_l1Byte_io_i h0 h1 h2) (f_s_l1Byte_io_en r).1 (f_s_l1Byte_io_en r).2 :=
  fn_true (Gk := fun k => f_s_l1Byte_io_k h0 h1 h2 k) (en := f_s_l1Byte_io_en) Try.func88 E0ok f_s_l1Byte_io_Mt (noL_true) f_s_l1Byte_io_o (f_s_l1Byte_io_e h0 h1 h2) (f_s_l1Byte_io_p h0 h1 h2) h
def f_s_l1Byte_io_c : CRow := fun args inh => match dec2 [.p (.pt 0 3)] [.p .sl, .p (.int .i64), .p (.int .i64)] args inh with
  | some ([], [.l h0, .i h1, .i h2]) => some ((f_s_l1Byte_io h0 h1 h2).isSome, (f_s_l1Byte_io_en ((f_s_l1Byte_io h0 h1 h2).getD (0, [], 0, 0))).1, (f_s_l1Byte_io_en ((f_s_l1Byte_io h0 h1 h2).getD (0, [], 0, 0))).2)
  | _ => none
theorem f_s_l1Byte_io_cc : CTrue Try.prog 88 f_s_l1Byte_io_c := by
  intro args inh rs out h
  unfold f_s_l1Byte_io_c at h
  split at h
  · rename_i hd
    obtain ⟨h1, h2⟩ := dec2_enc hd
    rw [← h1, ← h2]
    exact rowC (f_s_l1Byte_io_ok _ _ _) h
  · cases h

def f_s_l1Below_io_F : Fi := { nv := 3, nc := 3, m := 3, vt := [], kl := [], sk := [], mvs := [], fz := [] }
def f_s_l1Below_io_a (n1 : Int) (h0 : List Sc) (h1 : Int) (h2 : Int) : List AV := enc [.p (.pt 0 3), .p (.int .i64)] [.i n1]
def f_s_l1Below_io_i (n1 : Int) (h0 : List Sc) (h1 : Int) (h2 : Int) : List AV := enc [.p .sl, .p (.int .i64), .p (.int .i64)] [.l h0, .i h1, .i h2]
def f_s_l1Below_io_en (r : Int × List Sc × Int × Int) : List AV × List AV := (enc [.p (.int .i64)] [.i r.1], enc [.p .sl, .p (.int .i64), .p (.int .i64)] [.l r.2.1, .i r.2.2.1, .i r.2.2.2])
def f_s_l1Below_io_M : Calling := addC 88 f_s_l1Byte_io_c (noC)
theorem f_s_l1Below_io_Mt : CallOk Try.prog (f_s_l1Below_io_M) := addC_true f_s_l1Byte_io_cc (noC_true)
theorem f_s_l1Below_io_o : loopsOnce Try.f83 = true := by kernel_rfl
theorem f_s_l1Below_io_p {R : Type} (n1 : Int) (h0 : List Sc) (h1 : Int) (h2 : Int) (kR : Int × List Sc × Int × Int → Option R) : f_s_l1Below_io_k n1 h0 h1 h2 kR = (f_s_l1Below_io_k n1 h0 h1 h2 some).bind kR := by
  simp only [f_s_l1Below_io_k, brB, boB, someB, noneB]
theorem f_s_l1Below_io_e (n1 : Int) (h0 : List Sc) (h1 : Int) (h2 : Int) : runFn E0 f_s_l1Below_io_M H0 f_s_l1Below_io_F (asL (noL)) Try.f83 (f_s_l1Below_io_a n1 h0 h1 h2) (f_s_l1Below_io_i n1 h0 h1 h2) = f_s_l1Below_io_k n1 h0 h1 h2 (fun r => some (f_s_l1Below_io_en r)) := by kernel_rfl
theorem f_s_l1Below_io_ok (n1 : Int) (h0 : List Sc) (h1 : Int) (h2 : Int) (r : Int × List Sc × Int × Int) (h : f_s_l1Below_io n1 h0 h1 h2 = some r) : CS Try.prog 83 (f_s_l1Below_io_a n1 h0 h1 h2) (f_s_l1Below_io_i n1 h0 h1 h2) (f_s_l1Below_io_en r).1 (f_s_l1Below_io_en r).2 :=
  fn_true (Gk := fun k => f_s_l1Below_io_k n1 h0 h1 h2 k) (en := f_s_l1Below_io_en) Try.func83 E0ok f_s_l1Below_io_Mt (noL_true) f_s_l1Below_io_o (f_s_l1Below_io_e n1 h0 h1 h2) (f_s_l1Below_io_p n1 h0 h1 h2) h
def f_s_l1Below_io_c : CRow := fun args inh => match dec2 [.p (.pt 0 3), .p (.int .i64)] [.p .sl, .p (.int .i64), .p (.int .i64)] args inh with
  | some ([.i n1], [.l h0, .i h1, .i h2]) => some ((f_s_l1Below_io n1 h0 h1 h2).isSome, (f_s_l1Below_io_en ((f_s_l1Below_io n1 h0 h1 h2).getD (0, [], 0, 0))).1, (f_s_l1Below_io_en ((f_s_l1Below_io n1 h0 h1 h2).getD (0, [], 0, 0))).2)
  | _ => none
theorem f_s_l1Below_io_cc : CTrue Try.prog 83 f_s_l1Below_io_c := by
  intro args inh rs out h
  unfold f_s_l1Below_io_c at h
  split at h
  · rename_i hd
    obtain ⟨h1, h2⟩ := dec2_enc hd
    rw [← h1, ← h2]
    exact rowC (f_s_l1Below_io_ok _ _ _ _) h
  · cases h

def f_s_l2Draw_io_F : Fi := { nv := 4, nc := 4, m := 3, vt := [(4, 3)], kl := [(0, ([4, 6, 7, 9, 13, 14, 15, 16, 17, 18, 19, 20, 21, 22, 23, 24, 25, 26, 27, 28, 29, 30, 31, 32, 33, 34, 35, 36, 37, 38, 39, 40, 41, 42, 43, 44, 45, 46, 47, 48, 49, 50, 51, 52, 53, 54, 55, 56, 57, 58, 59, 60, 61, 62, 63, 64], [4, 6, 7, 9, 12, 13, 14, 15, 16, 17, 18, 19, 20, 21, 22, 23, 24, 25, 26, 27, 28, 29, 30, 31, 32, 33, 34, 35, 36, 37, 38, 39, 40, 41, 42, 43, 44, 45, 46, 47, 48, 49, 50, 51, 52, 53, 54, 55, 56, 57, 58, 59, 60, 61, 62, 63, 64], [4, 5, 6, 7, 9, 10, 11, 12, 13, 14, 15, 16, 17, 18, 19, 20, 21, 22, 23, 24, 25, 26, 27, 28, 29, 30, 31, 32, 33, 34, 35, 36, 37, 38, 39, 40, 41, 42, 43, 44, 45, 46, 47, 48, 49, 50, 51, 52, 53, 54, 55, 56, 57, 58, 59, 60, 61, 62, 63, 64]))], sk := [], mvs := [], fz := [], fl := [9, 10, 11, 12, 13, 14, 15, 16, 17, 18, 19, 20, 21, 22, 23, 24, 25, 26, 27, 28, 29, 30, 31] }
def f_s_l2Draw_io_a (most1 : Int) (h0 : List Sc) (h1 : Int) (h2 : Int) : List AV := enc [.p (.pt 0 3), .p (.int .i64)] [.i most1]
def f_s_l2Draw_io_i (most1 : Int) (h0 : List Sc) (h1 : Int) (h2 : Int) : List AV := enc [.p .sl, .p (.int .i64), .p (.int .i64)] [.l h0, .i h1, .i h2]
def f_s_l2Draw_io_en (r : List Sc × List Sc × Int × Int) : List AV × List AV := (enc [.p (.go 3)] [], enc [.p .sl, .p (.int .i64), .p (.int .i64), .own 3] [.l r.2.1, .i r.2.2.1, .i r.2.2.2, .l r.1])
def f_s_l2Draw_io_M : Calling := addC 83 f_s_l1Below_io_c (noC)
theorem f_s_l2Draw_io_Mt : CallOk Try.prog (f_s_l2Draw_io_M) := addC_true f_s_l1Below_io_cc (noC_true)
theorem f_s_l2Draw_io_o : loopsOnce Try.f77 = true := by kernel_rfl
def f_s_l2Draw_io_h0 : List Sh := [.p .sl, .p (.int .i64), .p (.int .i64), .p .sl, .u, .p (.int .i64), .u, .u, .p (.pt 3 1), .u, .p .sl, .p (.int .i64), .p (.int .i64), .u, .u, .u, .u, .u, .u, .u, .u, .u, .u, .u, .u, .u, .u, .u, .u, .u, .u, .u, .u, .u, .u, .u, .u, .u, .u, .u, .u, .u, .u, .u, .u, .u, .u, .u, .u, .u, .u, .u, .u, .u, .u, .u, .u, .u, .u, .u, .u, .u, .u, .u, .u]
def f_s_l2Draw_io_fr0 (most1 : Int) (o6 : List Sc) (s : List Sc × Int × Int × List Sc × Int × Int) : List AV := enc f_s_l2Draw_io_h0 [.l s.1, .i s.2.1, .i s.2.2.1, .l s.2.2.2.1, .i most1, .l o6, .i s.2.2.2.2.1, .i s.2.2.2.2.2]
def f_s_l2Draw_io_g0_1 : List Sh := [.p .sl, .p (.int .i64), .p (.int .i64), .p .sl, .u, .p (.int .i64), .u, .u, .p (.pt 3 1), .u, .p .sl, .p (.int .i64), .u, .u, .u, .u, .u, .u, .u, .u, .u, .u, .u, .u, .u, .u, .u, .u, .u, .u, .u, .u, .u, .u, .u, .u, .u, .u, .u, .u, .u, .u, .u, .u, .u, .u, .u, .u, .u, .u, .u, .u, .u, .u, .u, .u, .u, .u, .u, .u, .u, .u, .u, .u, .u]
def f_s_l2Draw_io_x0_1 (most1 : Int) (o6 : List Sc) (e : List Sc × Int × Int × List Sc × Int) : X × List AV := (.out 0, enc f_s_l2Draw_io_g0_1 [.l e.1, .i e.2.1, .i e.2.2.1, .l e.2.2.2.1, .i most1, .l o6, .i e.2.2.2.2])
def f_s_l2Draw_io_x0_2 (most1 : Int) (o6 : List Sc) (_e : Unit) : X × List AV := (.ret, [])
theorem f_s_l2Draw_io_p0 {R : Type} (most1 : Int) (o6 : List Sc) (s : List Sc × Int × Int × List Sc × Int × Int) (kN : List Sc × Int × Int × List Sc × Int × Int → Option R) (kA : List Sc × Int × Int × List Sc × Int → Option R) (kB : Unit → Option R) : f_s_l2Draw_io_k0 most1 o6 s.1 s.2.1 s.2.2.1 s.2.2.2.1 s.2.2.2.2.1 s.2.2.2.2.2 kN kA = (f_s_l2Draw_io_r0 most1 o6 s).bind (Ro.el kN kA kB) := by
  simp only [f_s_l2Draw_io_k0, f_s_l2Draw_io_r0, brB, someB, noneB, Ro.el]
theorem f_s_l2Draw_io_e0 (most1 : Int) (o6 : List Sc) (s : List Sc × Int × Int × List Sc × Int × Int) : EC E0 f_s_l2Draw_io_M H0 f_s_l2Draw_io_F (asL (noL)) 0 (bodyOf Try.f77 0) (f_s_l2Draw_io_fr0 most1 o6 s) (done (klOf f_s_l2Draw_io_F 0)) = f_s_l2Draw_io_k0 most1 o6 s.1 s.2.1 s.2.2.1 s.2.2.2.1 s.2.2.2.2.1 s.2.2.2.2.2 (fun s => some (.norm, f_s_l2Draw_io_fr0 most1 o6 s)) (fun e => some (f_s_l2Draw_io_x0_1 most1 o6 e)) := by kernel_rfl
theorem f_s_l2Draw_io_l0 (most1 : Int) (o6 : List Sc) : ∀ s r, loopL (f_s_l2Draw_io_r0 most1 o6) s = some r → LS Try.prog f_s_l2Draw_io_F (bodyOf Try.f77 0) (f_s_l2Draw_io_fr0 most1 o6 s) (enX (f_s_l2Draw_io_x0_1 most1 o6) (f_s_l2Draw_io_x0_2 most1 o6) r) :=
  loop_true E0ok f_s_l2Draw_io_Mt (noL_true) f_s_l2Draw_io_o (fun _ h => by cases h) (fun _ h => by cases h) (fun s => (f_s_l2Draw_io_e0 most1 o6 s).trans (f_s_l2Draw_io_p0 most1 o6 s _ _ (fun e => some (f_s_l2Draw_io_x0_2 most1 o6 e))))
def f_s_l2Draw_io_t0 (σ : List AV) : Option (Bool × Bool × (X × List AV) × (X × List AV)) := match dec f_s_l2Draw_io_h0 σ with
  | some [.l v0, .i v1, .i v2, .l v3, .i most1, .l o6, .i n7, .i i8] => some (isOne (loopL (f_s_l2Draw_io_r0 most1 o6) (v0, v1, v2, v3, n7, i8)), true, f_s_l2Draw_io_x0_1 most1 o6 (getOne ([], 0, 0, [], 0) (loopL (f_s_l2Draw_io_r0 most1 o6) (v0, v1, v2, v3, n7, i8))), (.ret, []))
  | _ => none
theorem f_s_l2Draw_io_tt0 : TTrue Try.prog f_s_l2Draw_io_F Try.f77 0 (f_s_l2Draw_io_t0) := by
  intro σ p r r' h
  unfold f_s_l2Draw_io_t0 at h
  split at h
  · rename_i hd
    rw [← dec_enc hd]
    exact row1 (f_s_l2Draw_io_l0 _ _ _) h
  · cases h
theorem f_s_l2Draw_io_p {R : Type} (most1 : Int) (h0 : List Sc) (h1 : Int) (h2 : Int) (kR : List Sc × List Sc × Int × Int → Option R) : f_s_l2Draw_io_k most1 h0 h1 h2 kR = (f_s_l2Draw_io_k most1 h0 h1 h2 some).bind kR := by
  simp only [f_s_l2Draw_io_k, brB, boB, bl1B, someB, noneB]
theorem f_s_l2Draw_io_e (most1 : Int) (h0 : List Sc) (h1 : Int) (h2 : Int) : runFn E0 f_s_l2Draw_io_M H0 f_s_l2Draw_io_F (asL (addL 0 (f_s_l2Draw_io_t0) (noL))) Try.f77 (f_s_l2Draw_io_a most1 h0 h1 h2) (f_s_l2Draw_io_i most1 h0 h1 h2) = f_s_l2Draw_io_k most1 h0 h1 h2 (fun r => some (f_s_l2Draw_io_en r)) := by kernel_rfl
theorem f_s_l2Draw_io_ok (most1 : Int) (h0 : List Sc) (h1 : Int) (h2 : Int) (r : List Sc × List Sc × Int × Int) (h : f_s_l2Draw_io most1 h0 h1 h2 = some r) : CS Try.prog 77 (f_s_l2Draw_io_a most1 h0 h1 h2) (f_s_l2Draw_io_i most1 h0 h1 h2) (f_s_l2Draw_io_en r).1 (f_s_l2Draw_io_en r).2 :=
  fn_true (Gk := fun k => f_s_l2Draw_io_k most1 h0 h1 h2 k) (en := f_s_l2Draw_io_en) Try.func77 E0ok f_s_l2Draw_io_Mt (addL_true (f_s_l2Draw_io_tt0) (noL_true)) f_s_l2Draw_io_o (f_s_l2Draw_io_e most1 h0 h1 h2) (f_s_l2Draw_io_p most1 h0 h1 h2) h
def f_s_l2Draw_io_c : CRow := fun args inh => match dec2 [.p (.pt 0 3), .p (.int .i64)] [.p .sl, .p (.int .i64), .p (.int .i64)] args inh with
  | some ([.i most1], [.l h0, .i h1, .i h2]) => some ((f_s_l2Draw_io most1 h0 h1 h2).isSome, (f_s_l2Draw_io_en ((f_s_l2Draw_io most1 h0 h1 h2).getD ([], [], 0, 0))).1, (f_s_l2Draw_io_en ((f_s_l2Draw_io most1 h0 h1 h2).getD ([], [], 0, 0))).2)
  | _ => none
theorem f_s_l2Draw_io_cc : CTrue Try.prog 77 f_s_l2Draw_io_c := by
  intro args inh rs out h
  unfold f_s_l2Draw_io_c at h
  split at h
  · rename_i hd
    obtain ⟨h1, h2⟩ := dec2_enc hd
    rw [← h1, ← h2]
    exact rowC (f_s_l2Draw_io_ok _ _ _ _) h
  · cases h

def f_s_l1PickInt_io_F : Fi := { nv := 3, nc := 3, m := 3, vt := [], kl := [], sk := [], mvs := [], fz := [] }
def f_s_l1PickInt_io_a (list1 : List Sc) (h0 : List Sc) (h1 : Int) (h2 : Int) : List AV := enc [.p (.pt 0 3), .p .sl] [.l list1]
def f_s_l1PickInt_io_i (list1 : List Sc) (h0 : List Sc) (h1 : Int) (h2 : Int) : List AV := enc [.p .sl, .p (.int .i64), .p (.int .i64)] [.l h0, .i h1, .i h2]
def f_s_l1PickInt_io_en (r : Int × List Sc × Int × Int) : List AV × List AV := (enc [.p (.int .i64)] [.i r.1], enc [.p .sl, .p (.int .i64), .p (.int .i64)] [.l r.2.1, .i r.2.2.1, .i r.2.2.2])
def f_s_l1PickInt_io_M : Calling := addC 83 f_s_l1Below_io_c (noC)
theorem f_s_l1PickInt_io_Mt : CallOk Try.prog (f_s_l1PickInt_io_M) := addC_true f_s_l1Below_io_cc (noC_true)
theorem f_s_l1PickInt_io_o : loopsOnce Try.f80 = true := by kernel_rfl
theorem f_s_l1PickInt_io_p {R : Type} (list1 : List Sc) (h0 : List Sc) (h1 : Int) (h2 : Int) (kR : Int × List Sc × Int × Int → Option R) : f_s_l1PickInt_io_k list1 h0 h1 h2 kR = (f_s_l1PickInt_io_k list1 h0 h1 h2 some).bind kR := by
  simp only [f_s_l1PickInt_io_k, brB, boB, someB, noneB]
theorem f_s_l1PickInt_io_e (list1 : List Sc) (h0 : List Sc) (h1 : Int) (h2 : Int) : runFn E0 f_s_l1PickInt_io_M H0 f_s_l1PickInt_io_F (asL (noL)) Try.f80 (f_s_l1PickInt_io_a list1 h0 h1 h2) (f_s_l1PickInt_io_i list1 h0 h1 h2) = f_s_l1PickInt_io_k list1 h0 h1 h2 (fun r => some (f_s_l1PickInt_io_en r)) := by kernel_rfl
theorem f_s_l1PickInt_io_ok (list1 : List Sc) (h0 : List Sc) (h1 : Int) (h2 : Int) (r : Int × List Sc × Int × Int) (h : f_s_l1PickInt_io list1 h0 h1 h2 = some r) : CS Try.prog 80 (f_s_l1PickInt_io_a list1 h0 h1 h2) (f_s_l1PickInt_io_i list1 h0 h1 h2) (f_s_l1PickInt_io_en r).1 (f_s_l1PickInt_io_en r).2 :=
  fn_true (Gk := fun k => f_s_l1PickInt_io_k list1 h0 h1 h2 k) (en := f_s_l1PickInt_io_en) Try.func80 E0ok f_s_l1PickInt_io_Mt (noL_true) f_s_l1PickInt_io_o (f_s_l1PickInt_io_e list1 h0 h1 h2) (f_s_l1PickInt_io_p list1 h0 h1 h2) h
def f_s_l1PickInt_io_c : CRow := fun args inh => match dec2 [.p (.pt 0 3), .p .sl] [.p .sl, .p (.int .i64), .p (.int .i64)] args inh with
  | some ([.l list1], [.l h0, .i h1, .i h2]) => some ((f_s_l1PickInt_io list1 h0 h1 h2).isSome, (f_s_l1PickInt_io_en ((f_s_l1PickInt_io list1 h0 h1 h2).getD (0, [], 0, 0))).1, (f_s_l1PickInt_io_en ((f_s_l1PickInt_io list1 h0 h1 h2).getD (0, [], 0, 0))).2)
  | _ => none
theorem f_s_l1PickInt_io_cc : CTrue Try.prog 80 f_s_l1PickInt_io_c := by
  intro args inh rs out h
  unfold f_s_l1PickInt_io_c at h
  split at h
  · rename_i hd
    obtain ⟨h1, h2⟩ := dec2_enc hd
    rw [← h1, ← h2]
    exact rowC (f_s_l1PickInt_io_ok _ _ _ _) h
  · cases h

def f_s_l2Any_io_F : Fi := { nv := 6, nc := 5, m := 3, vt := [(2, 3), (3, 4), (5, 5)], kl := [], sk := [], mvs := [5], fz := [] }
def f_s_l2Any_io_a (h0 : List Sc) (h1 : Int) (h2 : Int) : List AV := enc [.p (.pt 0 3)] []
def f_s_l2Any_io_i (h0 : List Sc) (h1 : Int) (h2 : Int) : List AV := enc [.p .sl, .p (.int .i64), .p (.int .i64)] [.l h0, .i h1, .i h2]
def f_s_l2Any_io_en (r : List Sc × List Sc × Int × Int) : List AV × List AV := (enc [.p (.go 3)] [], enc [.p .sl, .p (.int .i64), .p (.int .i64), .own 3] [.l r.2.1, .i r.2.2.1, .i r.2.2.2, .l r.1])
def f_s_l2Any_io_M : Calling := addC 77 f_s_l2Draw_io_c (addC 83 f_s_l1Below_io_c (addC 80 f_s_l1PickInt_io_c (noC)))
theorem f_s_l2Any_io_Mt : CallOk Try.prog (f_s_l2Any_io_M) := addC_true f_s_l2Draw_io_cc (addC_true f_s_l1Below_io_cc (addC_true f_s_l1PickInt_io_cc (noC_true)))
theorem f_s_l2Any_io_o : loopsOnce Try.f64 = true := by kernel_rfl
theorem f_s_l2Any_io_p {R : Type} (h0 : List Sc) (h1 : Int) (h2 : Int) (kR : List Sc × List Sc × Int × Int → Option R) : f_s_l2Any_io_k h0 h1 h2 kR = (f_s_l2Any_io_k h0 h1 h2 some).bind kR := by
  simp only [f_s_l2Any_io_k, brB, boB, someB]
theorem f_s_l2Any_io_e (h0 : List Sc) (h1 : Int) (h2 : Int) : runFn E0 f_s_l2Any_io_M H0 f_s_l2Any_io_F (asL (noL)) Try.f64 (f_s_l2Any_io_a h0 h1 h2) (f_s_l2Any_io_i h0 h1 h2) = f_s_l2Any_io_k h0 h1 h2 (fun r => some (f_s_l2Any_io_en r)) := by kernel_rfl
theorem f_s_l2Any_io_ok (h0 : List Sc) (h1 : Int) (h2 : Int) (r : List Sc × List Sc × Int × Int) (h : f_s_l2Any_io h0 h1 h2 = some r) : CS Try.prog 64 (f_s_l2Any_io_a h0 h1 h2) (f_s_l2Any_io_i h0 h1 h2) (f_s_l2Any_io_en r).1 (f_s_l2Any_io_en r).2 :=
  fn_true (Gk := fun k => f_s_l2Any_io_k h0 h1 h2 k) (en := f_s_l2Any_io_en) Try.func64 E0ok f_s_l2Any_io_Mt (noL_true) f_s_l2Any_io_o (f_s_l2Any_io_e h0 h1 h2) (f_s_l2Any_io_p h0 h1 h2) h
def f_s_l2Any_io_c : CRow := fun args inh => match dec2 [.p (.pt 0 3)] [.p .sl, .p (.int .i64), .p (.int .i64)] args inh with
  | some ([], [.l h0, .i h1, .i h2]) => some ((f_s_l2Any_io h0 h1 h2).isSome, (f_s_l2Any_io_en ((f_s_l2Any_io h0 h1 h2).getD ([], [], 0, 0))).1, (f_s_l2Any_io_en ((f_s_l2Any_io h0 h1 h2).getD ([], [], 0, 0))).2)
  | _ => none
theorem f_s_l2Any_io_cc : CTrue Try.prog 64 f_s_l2Any_io_c := by
  intro args inh rs out h
  unfold f_s_l2Any_io_c at h
  split at h
  · rename_i hd
    obtain ⟨h1, h2⟩ := dec2_enc hd
    rw [← h1, ← h2]
    exact rowC (f_s_l2Any_io_ok _ _ _) h
  · cases h

def f_s_l1Once_io_F : Fi := { nv := 3, nc := 3, m := 3, vt := [], kl := [], sk := [], mvs := [], fz := [] }
def f_s_l1Once_io_a (n1 : Int) (h0 : List Sc) (h1 : Int) (h2 : Int) : List AV := enc [.p (.pt 0 3), .p (.int .i64)] [.i n1]
def f_s_l1Once_io_i (n1 : Int) (h0 : List Sc) (h1 : Int) (h2 : Int) : List AV := enc [.p .sl, .p (.int .i64), .p (.int .i64)] [.l h0, .i h1, .i h2]
def f_s_l1Once_io_en (r : Bool × List Sc × Int × Int) : List AV × List AV := (enc [.p .boo] [.b r.1], enc [.p .sl, .p (.int .i64), .p (.int .i64)] [.l r.2.1, .i r.2.2.1, .i r.2.2.2])
def f_s_l1Once_io_M : Calling := addC 83 f_s_l1Below_io_c (noC)
theorem f_s_l1Once_io_Mt : CallOk Try.prog (f_s_l1Once_io_M) := addC_true f_s_l1Below_io_cc (noC_true)
theorem f_s_l1Once_io_o : loopsOnce Try.f79 = true := by kernel_rfl
theorem f_s_l1Once_io_p {R : Type} (n1 : Int) (h0 : List Sc) (h1 : Int) (h2 : Int) (kR : Bool × List Sc × Int × Int → Option R) : f_s_l1Once_io_k n1 h0 h1 h2 kR = (f_s_l1Once_io_k n1 h0 h1 h2 some).bind kR := by
  simp only [f_s_l1Once_io_k, boB, someB]
theorem f_s_l1Once_io_e (n1 : Int) (h0 : List Sc) (h1 : Int) (h2 : Int) : runFn E0 f_s_l1Once_io_M H0 f_s_l1Once_io_F (asL (noL)) Try.f79 (f_s_l1Once_io_a n1 h0 h1 h2) (f_s_l1Once_io_i n1 h0 h1 h2) = f_s_l1Once_io_k n1 h0 h1 h2 (fun r => some (f_s_l1Once_io_en r)) := by kernel_rfl
theorem f_s_l1Once_io_ok (n1 : Int) (h0 : List Sc) (h1 : Int) (h2 : Int) (r : Bool × List Sc × Int × Int) (h : f_s_l1Once_io n1 h0 h1 h2 = some r) : CS Try.prog 79 (f_s_l1Once_io_a n1 h0 h1 h2) (f_s_l1Once_io_i n1 h0 h1 h2) (f_s_l1Once_io_en r).1 (f_s_l1Once_io_en r).2 :=
  fn_true (Gk := fun k => f_s_l1Once_io_k n1 h0 h1 h2 k) (en := f_s_l1Once_io_en) Try.func79 E0ok f_s_l1Once_io_Mt (noL_true) f_s_l1Once_io_o (f_s_l1Once_io_e n1 h0 h1 h2) (f_s_l1Once_io_p n1 h0 h1 h2) h
def f_s_l1Once_io_c : CRow := fun args inh => match dec2 [.p (.pt 0 3), .p (.int .i64)] [.p .sl, .p (.int .i64), .p (.int .i64)] args inh with
  | some ([.i n1], [.l h0, .i h1, .i h2]) => some ((f_s_l1Once_io n1 h0 h1 h2).isSome, (f_s_l1Once_io_en ((f_s_l1Once_io n1 h0 h1 h2).getD (false, [], 0, 0))).1, (f_s_l1Once_io_en ((f_s_l1Once_io n1 h0 h1 h2).getD (false, [], 0, 0))).2)
  | _ => none
theorem f_s_l1Once_io_cc : CTrue Try.prog 79 f_s_l1Once_io_c := by
  intro args inh rs out h
  unfold f_s_l1Once_io_c at h
  split at h
  · rename_i hd
    obtain ⟨h1, h2⟩ := dec2_enc hd
    rw [← h1, ← h2]
    exact rowC (f_s_l1Once_io_ok _ _ _ _) h
  · cases h

def f_s_l1In_F : Fi := { nv := 0, nc := 0, m := 0, vt := [], kl := [], sk := [], mvs := [], fz := [] }
def f_s_l1In_a (x0 : Int) (low1 : Int) (high2 : Int) : List AV := enc [.p (.int .i64), .p (.int .i64), .p (.int .i64)] [.i x0, .i low1, .i high2]
def f_s_l1In_i (x0 : Int) (low1 : Int) (high2 : Int) : List AV := enc [] []
def f_s_l1In_en (r : Bool) : List AV × List AV := (enc [.p .boo] [.b r], enc [] [])
def f_s_l1In_M : Calling := noC
theorem f_s_l1In_Mt : CallOk Try.prog (f_s_l1In_M) := noC_true
theorem f_s_l1In_o : loopsOnce Try.f69 = true := by kernel_rfl
theorem f_s_l1In_p {R : Type} (x0 : Int) (low1 : Int) (high2 : Int) (kR : Bool → Option R) : f_s_l1In_k x0 low1 high2 kR = (f_s_l1In_k x0 low1 high2 some).bind kR := by
  simp only [f_s_l1In_k, brB, someB]
theorem f_s_l1In_e (x0 : Int) (low1 : Int) (high2 : Int) : runFn E0 f_s_l1In_M H0 f_s_l1In_F (asL (noL)) Try.f69 (f_s_l1In_a x0 low1 high2) (f_s_l1In_i x0 low1 high2) = f_s_l1In_k x0 low1 high2 (fun r => some (f_s_l1In_en r)) := by kernel_rfl
theorem f_s_l1In_ok (x0 : Int) (low1 : Int) (high2 : Int) (r : Bool) (h : f_s_l1In x0 low1 high2 = some r) : CS Try.prog 69 (f_s_l1In_a x0 low1 high2) (f_s_l1In_i x0 low1 high2) (f_s_l1In_en r).1 (f_s_l1In_en r).2 :=
  fn_true (Gk := fun k => f_s_l1In_k x0 low1 high2 k) (en := f_s_l1In_en) Try.func69 E0ok f_s_l1In_Mt (noL_true) f_s_l1In_o (f_s_l1In_e x0 low1 high2) (f_s_l1In_p x0 low1 high2) h
def f_s_l1In_c : CRow := fun args inh => match dec2 [.p (.int .i64), .p (.int .i64), .p (.int .i64)] [] args inh with
  | some ([.i x0, .i low1, .i high2], []) => some ((f_s_l1In x0 low1 high2).isSome, (f_s_l1In_en ((f_s_l1In x0 low1 high2).getD false)).1, (f_s_l1In_en ((f_s_l1In x0 low1 high2).getD false)).2)
  | _ => none
theorem f_s_l1In_cc : CTrue Try.prog 69 f_s_l1In_c := by
  intro args inh rs out h
  unfold f_s_l1In_c at h
  split at h
  · rename_i hd
    obtain ⟨h1, h2⟩ := dec2_enc hd
    rw [← h1, ← h2]
    exact rowC (f_s_l1In_ok _ _ _) h
  · cases h

def f_s_IsGroup_F : Fi := { nv := 0, nc := 0, m := 0, vt := [], kl := [(0, ([0, 2, 5, 6, 7, 8, 9, 10, 11, 12, 13, 14, 15, 16, 17, 18, 19, 20, 21, 22, 23, 24, 25, 26, 27, 28, 29, 30, 31], [0, 1, 2, 4, 5, 6, 7, 8, 9, 10, 11, 12, 13, 14, 15, 16, 17, 18, 19, 20, 21, 22, 23, 24, 25, 26, 27, 28, 29, 30, 31], [0, 1, 3, 4, 5, 6, 7, 8, 9, 10, 11, 12, 13, 14, 15, 16, 17, 18, 19, 20, 21, 22, 23, 24, 25, 26, 27, 28, 29, 30, 31]))], sk := [], mvs := [], fz := [] }
def f_s_IsGroup_a (g0 : List Sc) : List AV := enc [.p .gr] [.l g0]
def f_s_IsGroup_i (g0 : List Sc) : List AV := enc [] []
def f_s_IsGroup_en (r : Bool) : List AV × List AV := (enc [.p .boo] [.b r], enc [] [])
def f_s_IsGroup_M : Calling := addC 69 f_s_l1In_c (noC)
theorem f_s_IsGroup_Mt : CallOk Try.prog (f_s_IsGroup_M) := addC_true f_s_l1In_cc (noC_true)
theorem f_s_IsGroup_o : loopsOnce Try.f43 = true := by kernel_rfl
def f_s_IsGroup_h0 : List Sh := [.u, .p .el, .u, .p (.int .i64), .p (.int .i64), .u, .u, .u, .u, .u, .u, .u, .u, .u, .u, .u, .u, .u, .u, .u, .u, .u, .u, .u, .u, .u, .u, .u, .u, .u, .u, .u]
def f_s_IsGroup_fr0 (g1 : List Sc) (s : Int × Int) : List AV := enc f_s_IsGroup_h0 [.l g1, .i s.1, .i s.2]
def f_s_IsGroup_g0_1 : List Sh := [.u, .u, .u, .p (.int .i64), .u, .u, .u, .u, .u, .u, .u, .u, .u, .u, .u, .u, .u, .u, .u, .u, .u, .u, .u, .u, .u, .u, .u, .u, .u, .u, .u, .u]
def f_s_IsGroup_x0_1 (g1 : List Sc) (e : Int) : X × List AV := (.out 0, enc f_s_IsGroup_g0_1 [.i e])
def f_s_IsGroup_g0_2 : List Sh := [.u, .u, .p .boo, .u, .u, .u, .u, .u, .u, .u, .u, .u, .u, .u, .u, .u, .u, .u, .u, .u, .u, .u, .u, .u, .u, .u, .u, .u, .u, .u, .u, .u]
def f_s_IsGroup_x0_2 (g1 : List Sc) (e : Unit) : X × List AV := (.ret, enc f_s_IsGroup_g0_2 [.b false])
theorem f_s_IsGroup_p0 {R : Type} (g1 : List Sc) (s : Int × Int) (kN : Int × Int → Option R) (kA : Int → Option R) (kB : Unit → Option R) : f_s_IsGroup_k0 g1 s.1 s.2 kN kA kB = (f_s_IsGroup_r0 g1 s).bind (Ro.el kN kA kB) := by
  simp only [f_s_IsGroup_k0, f_s_IsGroup_r0, brB, boB, someB, noneB, Ro.el]
theorem f_s_IsGroup_e0 (g1 : List Sc) (s : Int × Int) : EC E0 f_s_IsGroup_M H0 f_s_IsGroup_F (asL (noL)) 0 (bodyOf Try.f43 0) (f_s_IsGroup_fr0 g1 s) (done (klOf f_s_IsGroup_F 0)) = f_s_IsGroup_k0 g1 s.1 s.2 (fun s => some (.norm, f_s_IsGroup_fr0 g1 s)) (fun e => some (f_s_IsGroup_x0_1 g1 e)) (fun e => some (f_s_IsGroup_x0_2 g1 e)) := by kernel_rfl
theorem f_s_IsGroup_l0 (g1 : List Sc) : ∀ s r, loopL (f_s_IsGroup_r0 g1) s = some r → LS Try.prog f_s_IsGroup_F (bodyOf Try.f43 0) (f_s_IsGroup_fr0 g1 s) (enX (f_s_IsGroup_x0_1 g1) (f_s_IsGroup_x0_2 g1) r) :=
  loop_true E0ok f_s_IsGroup_Mt (noL_true) f_s_IsGroup_o (fun _ h => by cases h) (fun _ h => by cases h) (fun s => (f_s_IsGroup_e0 g1 s).trans (f_s_IsGroup_p0 g1 s _ _ (fun e => some (f_s_IsGroup_x0_2 g1 e))))
def f_s_IsGroup_t0 (σ : List AV) : Option (Bool × Bool × (X × List AV) × (X × List AV)) := match dec f_s_IsGroup_h0 σ with
  | some [.l g1, .i n3, .i i4] => some ((loopL (f_s_IsGroup_r0 g1) (n3, i4)).isSome, isOne (loopL (f_s_IsGroup_r0 g1) (n3, i4)), f_s_IsGroup_x0_1 g1 (getOne 0 (loopL (f_s_IsGroup_r0 g1) (n3, i4))), f_s_IsGroup_x0_2 g1 (getTwo () (loopL (f_s_IsGroup_r0 g1) (n3, i4))))
  | _ => none
theorem f_s_IsGroup_tt0 : TTrue Try.prog f_s_IsGroup_F Try.f43 0 (f_s_IsGroup_t0) := by
  intro σ p r r' h
  unfold f_s_IsGroup_t0 at h
  split at h
  · rename_i hd
    rw [← dec_enc hd]
    exact row2 (f_s_IsGroup_l0 _ _) h
  · cases h
theorem f_s_IsGroup_p {R : Type} (g0 : List Sc) (kR : Bool → Option R) : f_s_IsGroup_k g0 kR = (f_s_IsGroup_k g0 some).bind kR := by
  simp only [f_s_IsGroup_k, blB, someB]
theorem f_s_IsGroup_e (g0 : List Sc) : runFn E0 f_s_IsGroup_M H0 f_s_IsGroup_F (asL (addL 0 (f_s_IsGroup_t0) (noL))) Try.f43 (f_s_IsGroup_a g0) (f_s_IsGroup_i g0) = f_s_IsGroup_k g0 (fun r => some (f_s_IsGroup_en r)) := by kernel_rfl
theorem f_s_IsGroup_ok (g0 : List Sc) (r : Bool) (h : f_s_IsGroup g0 = some r) : CS Try.prog 43 (f_s_IsGroup_a g0) (f_s_IsGroup_i g0) (f_s_IsGroup_en r).1 (f_s_IsGroup_en r).2 :=
  fn_true (Gk := fun k => f_s_IsGroup_k g0 k) (en := f_s_IsGroup_en) Try.func43 E0ok f_s_IsGroup_Mt (addL_true (f_s_IsGroup_tt0) (noL_true)) f_s_IsGroup_o (f_s_IsGroup_e g0) (f_s_IsGroup_p g0) h
def f_s_IsGroup_c : CRow := fun args inh => match dec2 [.p .gr] [] args inh with
  | some ([.l g0], []) => some ((f_s_IsGroup g0).isSome, (f_s_IsGroup_en ((f_s_IsGroup g0).getD false)).1, (f_s_IsGroup_en ((f_s_IsGroup g0).getD false)).2)
  | _ => none
theorem f_s_IsGroup_cc : CTrue Try.prog 43 f_s_IsGroup_c := by
  intro args inh rs out h
  unfold f_s_IsGroup_c at h
  split at h
  · rename_i hd
    obtain ⟨h1, h2⟩ := dec2_enc hd
    rw [← h1, ← h2]
    exact rowC (f_s_IsGroup_ok _) h
  · cases h

def f_s_l2Order_F : Fi := { nv := 0, nc := 0, m := 0, vt := [], kl := [(0, ([0, 2, 5, 6, 7, 8, 9, 10, 11, 12, 13, 14, 15, 16, 17, 18, 19], [0, 1, 2, 4, 5, 6, 7, 8, 9, 10, 11, 12, 13, 14, 15, 16, 17, 18, 19], [0, 1, 3, 4, 5, 6, 7, 8, 9, 10, 11, 12, 13, 14, 15, 16, 17, 18, 19]))], sk := [], mvs := [], fz := [] }
def f_s_l2Order_a (g0 : List Sc) : List AV := enc [.p .gr] [.l g0]
def f_s_l2Order_i (g0 : List Sc) : List AV := enc [] []
def f_s_l2Order_en (r : Int) : List AV × List AV := (enc [.p (.int .i64)] [.i r], enc [] [])
def f_s_l2Order_M : Calling := noC
theorem f_s_l2Order_Mt : CallOk Try.prog (f_s_l2Order_M) := noC_true
theorem f_s_l2Order_o : loopsOnce Try.f44 = true := by kernel_rfl
def f_s_l2Order_h0 : List Sh := [.u, .p .el, .u, .p (.int .i64), .p (.int .i64), .u, .u, .u, .u, .u, .u, .u, .u, .u, .u, .u, .u, .u, .u, .u]
def f_s_l2Order_fr0 (g1 : List Sc) (s : Int × Int) : List AV := enc f_s_l2Order_h0 [.l g1, .i s.1, .i s.2]
def f_s_l2Order_g0_1 : List Sh := [.u, .u, .u, .p (.int .i64), .u, .u, .u, .u, .u, .u, .u, .u, .u, .u, .u, .u, .u, .u, .u, .u]
def f_s_l2Order_x0_1 (g1 : List Sc) (e : Int) : X × List AV := (.out 0, enc f_s_l2Order_g0_1 [.i e])
def f_s_l2Order_x0_2 (g1 : List Sc) (_e : Unit) : X × List AV := (.ret, [])
theorem f_s_l2Order_p0 {R : Type} (g1 : List Sc) (s : Int × Int) (kN : Int × Int → Option R) (kA : Int → Option R) (kB : Unit → Option R) : f_s_l2Order_k0 g1 s.1 s.2 kN kA = (f_s_l2Order_r0 g1 s).bind (Ro.el kN kA kB) := by
  simp only [f_s_l2Order_k0, f_s_l2Order_r0, brB, someB, noneB, Ro.el]
theorem f_s_l2Order_e0 (g1 : List Sc) (s : Int × Int) : EC E0 f_s_l2Order_M H0 f_s_l2Order_F (asL (noL)) 0 (bodyOf Try.f44 0) (f_s_l2Order_fr0 g1 s) (done (klOf f_s_l2Order_F 0)) = f_s_l2Order_k0 g1 s.1 s.2 (fun s => some (.norm, f_s_l2Order_fr0 g1 s)) (fun e => some (f_s_l2Order_x0_1 g1 e)) := by kernel_rfl
theorem f_s_l2Order_l0 (g1 : List Sc) : ∀ s r, loopL (f_s_l2Order_r0 g1) s = some r → LS Try.prog f_s_l2Order_F (bodyOf Try.f44 0) (f_s_l2Order_fr0 g1 s) (enX (f_s_l2Order_x0_1 g1) (f_s_l2Order_x0_2 g1) r) :=
  loop_true E0ok f_s_l2Order_Mt (noL_true) f_s_l2Order_o (fun _ h => by cases h) (fun _ h => by cases h) (fun s => (f_s_l2Order_e0 g1 s).trans (f_s_l2Order_p0 g1 s _ _ (fun e => some (f_s_l2Order_x0_2 g1 e))))
def f_s_l2Order_t0 (σ : List AV) : Option (Bool × Bool × (X × List AV) × (X × List AV)) := match dec f_s_l2Order_h0 σ with
  | some [.l g1, .i n3, .i i4] => some (isOne (loopL (f_s_l2Order_r0 g1) (n3, i4)), true, f_s_l2Order_x0_1 g1 (getOne 0 (loopL (f_s_l2Order_r0 g1) (n3, i4))), (.ret, []))
  | _ => none
theorem f_s_l2Order_tt0 : TTrue Try.prog f_s_l2Order_F Try.f44 0 (f_s_l2Order_t0) := by
  intro σ p r r' h
  unfold f_s_l2Order_t0 at h
  split at h
  · rename_i hd
    rw [← dec_enc hd]
    exact row1 (f_s_l2Order_l0 _ _) h
  · cases h
theorem f_s_l2Order_p {R : Type} (g0 : List Sc) (kR : Int → Option R) : f_s_l2Order_k g0 kR = (f_s_l2Order_k g0 some).bind kR := by
  simp only [f_s_l2Order_k, bl1B, someB]
theorem f_s_l2Order_e (g0 : List Sc) : runFn E0 f_s_l2Order_M H0 f_s_l2Order_F (asL (addL 0 (f_s_l2Order_t0) (noL))) Try.f44 (f_s_l2Order_a g0) (f_s_l2Order_i g0) = f_s_l2Order_k g0 (fun r => some (f_s_l2Order_en r)) := by kernel_rfl
theorem f_s_l2Order_ok (g0 : List Sc) (r : Int) (h : f_s_l2Order g0 = some r) : CS Try.prog 44 (f_s_l2Order_a g0) (f_s_l2Order_i g0) (f_s_l2Order_en r).1 (f_s_l2Order_en r).2 :=
  fn_true (Gk := fun k => f_s_l2Order_k g0 k) (en := f_s_l2Order_en) Try.func44 E0ok f_s_l2Order_Mt (addL_true (f_s_l2Order_tt0) (noL_true)) f_s_l2Order_o (f_s_l2Order_e g0) (f_s_l2Order_p g0) h
def f_s_l2Order_c : CRow := fun args inh => match dec2 [.p .gr] [] args inh with
  | some ([.l g0], []) => some ((f_s_l2Order g0).isSome, (f_s_l2Order_en ((f_s_l2Order g0).getD 0)).1, (f_s_l2Order_en ((f_s_l2Order g0).getD 0)).2)
  | _ => none
theorem f_s_l2Order_cc : CTrue Try.prog 44 f_s_l2Order_c := by
  intro args inh rs out h
  unfold f_s_l2Order_c at h
  split at h
  · rename_i hd
    obtain ⟨h1, h2⟩ := dec2_enc hd
    rw [← h1, ← h2]
    exact rowC (f_s_l2Order_ok _) h
  · cases h

def f_s_OrderOf_F : Fi := { nv := 0, nc := 0, m := 0, vt := [], kl := [], sk := [], mvs := [], fz := [] }
def f_s_OrderOf_a (g0 : List Sc) : List AV := enc [.p .gr] [.l g0]
def f_s_OrderOf_i (g0 : List Sc) : List AV := enc [] []
def f_s_OrderOf_en (r : Int) : List AV × List AV := (enc [.p (.int .i64)] [.i r], enc [] [])
def f_s_OrderOf_M : Calling := addC 43 f_s_IsGroup_c (addC 44 f_s_l2Order_c (noC))
theorem f_s_OrderOf_Mt : CallOk Try.prog (f_s_OrderOf_M) := addC_true f_s_IsGroup_cc (addC_true f_s_l2Order_cc (noC_true))
theorem f_s_OrderOf_o : loopsOnce Try.f9 = true := by kernel_rfl
theorem f_s_OrderOf_p {R : Type} (g0 : List Sc) (kR : Int → Option R) : f_s_OrderOf_k g0 kR = (f_s_OrderOf_k g0 some).bind kR := by
  simp only [f_s_OrderOf_k, brB, boB, someB]
theorem f_s_OrderOf_e (g0 : List Sc) : runFn E0 f_s_OrderOf_M H0 f_s_OrderOf_F (asL (noL)) Try.f9 (f_s_OrderOf_a g0) (f_s_OrderOf_i g0) = f_s_OrderOf_k g0 (fun r => some (f_s_OrderOf_en r)) := by kernel_rfl
theorem f_s_OrderOf_ok (g0 : List Sc) (r : Int) (h : f_s_OrderOf g0 = some r) : CS Try.prog 9 (f_s_OrderOf_a g0) (f_s_OrderOf_i g0) (f_s_OrderOf_en r).1 (f_s_OrderOf_en r).2 :=
  fn_true (Gk := fun k => f_s_OrderOf_k g0 k) (en := f_s_OrderOf_en) Try.func9 E0ok f_s_OrderOf_Mt (noL_true) f_s_OrderOf_o (f_s_OrderOf_e g0) (f_s_OrderOf_p g0) h
def f_s_OrderOf_c : CRow := fun args inh => match dec2 [.p .gr] [] args inh with
  | some ([.l g0], []) => some ((f_s_OrderOf g0).isSome, (f_s_OrderOf_en ((f_s_OrderOf g0).getD 0)).1, (f_s_OrderOf_en ((f_s_OrderOf g0).getD 0)).2)
  | _ => none
theorem f_s_OrderOf_cc : CTrue Try.prog 9 f_s_OrderOf_c := by
  intro args inh rs out h
  unfold f_s_OrderOf_c at h
  split at h
  · rename_i hd
    obtain ⟨h1, h2⟩ := dec2_enc hd
    rw [← h1, ← h2]
    exact rowC (f_s_OrderOf_ok _) h
  · cases h

def f_s_l2Element_io_F : Fi := { nv := 3, nc := 3, m := 3, vt := [], kl := [], sk := [], mvs := [], fz := [] }
def f_s_l2Element_io_a (g1 : List Sc) (h0 : List Sc) (h1 : Int) (h2 : Int) : List AV := enc [.p (.pt 0 3), .p .gr] [.l g1]
def f_s_l2Element_io_i (g1 : List Sc) (h0 : List Sc) (h1 : Int) (h2 : Int) : List AV := enc [.p .sl, .p (.int .i64), .p (.int .i64)] [.l h0, .i h1, .i h2]
def f_s_l2Element_io_en (r : Int × List Sc × Int × Int) : List AV × List AV := (enc [.p (.int .i64)] [.i r.1], enc [.p .sl, .p (.int .i64), .p (.int .i64)] [.l r.2.1, .i r.2.2.1, .i r.2.2.2])
def f_s_l2Element_io_M : Calling := addC 79 f_s_l1Once_io_c (addC 80 f_s_l1PickInt_io_c (addC 9 f_s_OrderOf_c (addC 83 f_s_l1Below_io_c (noC))))
theorem f_s_l2Element_io_Mt : CallOk Try.prog (f_s_l2Element_io_M) := addC_true f_s_l1Once_io_cc (addC_true f_s_l1PickInt_io_cc (addC_true f_s_OrderOf_cc (addC_true f_s_l1Below_io_cc (noC_true))))
theorem f_s_l2Element_io_o : loopsOnce Try.f65 = true := by kernel_rfl
theorem f_s_l2Element_io_p {R : Type} (g1 : List Sc) (h0 : List Sc) (h1 : Int) (h2 : Int) (kR : Int × List Sc × Int × Int → Option R) : f_s_l2Element_io_k g1 h0 h1 h2 kR = (f_s_l2Element_io_k g1 h0 h1 h2 some).bind kR := by
  simp only [f_s_l2Element_io_k, brB, boB, someB]
theorem f_s_l2Element_io_e (g1 : List Sc) (h0 : List Sc) (h1 : Int) (h2 : Int) : runFn E0 f_s_l2Element_io_M H0 f_s_l2Element_io_F (asL (noL)) Try.f65 (f_s_l2Element_io_a g1 h0 h1 h2) (f_s_l2Element_io_i g1 h0 h1 h2) = f_s_l2Element_io_k g1 h0 h1 h2 (fun r => some (f_s_l2Element_io_en r)) := by kernel_rfl
theorem f_s_l2Element_io_ok (g1 : List Sc) (h0 : List Sc) (h1 : Int) (h2 : Int) (r : Int × List Sc × Int × Int) (h : f_s_l2Element_io g1 h0 h1 h2 = some r) : CS Try.prog 65 (f_s_l2Element_io_a g1 h0 h1 h2) (f_s_l2Element_io_i g1 h0 h1 h2) (f_s_l2Element_io_en r).1 (f_s_l2Element_io_en r).2 :=
  fn_true (Gk := fun k => f_s_l2Element_io_k g1 h0 h1 h2 k) (en := f_s_l2Element_io_en) Try.func65 E0ok f_s_l2Element_io_Mt (noL_true) f_s_l2Element_io_o (f_s_l2Element_io_e g1 h0 h1 h2) (f_s_l2Element_io_p g1 h0 h1 h2) h
def f_s_l2Element_io_c : CRow := fun args inh => match dec2 [.p (.pt 0 3), .p .gr] [.p .sl, .p (.int .i64), .p (.int .i64)] args inh with
  | some ([.l g1], [.l h0, .i h1, .i h2]) => some ((f_s_l2Element_io g1 h0 h1 h2).isSome, (f_s_l2Element_io_en ((f_s_l2Element_io g1 h0 h1 h2).getD (0, [], 0, 0))).1, (f_s_l2Element_io_en ((f_s_l2Element_io g1 h0 h1 h2).getD (0, [], 0, 0))).2)
  | _ => none
theorem f_s_l2Element_io_cc : CTrue Try.prog 65 f_s_l2Element_io_c := by
  intro args inh rs out h
  unfold f_s_l2Element_io_c at h
  split at h
  · rename_i hd
    obtain ⟨h1, h2⟩ := dec2_enc hd
    rw [← h1, ← h2]
    exact rowC (f_s_l2Element_io_ok _ _ _ _) h
  · cases h

def f_s_l2Two_F : Fi := { nv := 6, nc := 5, m := 0, vt := [(2, 0), (6, 1), (9, 2), (11, 5)], kl := [(100004, ([5, 6, 7, 9, 10, 14, 15, 16, 17, 18, 19, 20, 21, 22, 23, 24, 25], [1, 2, 3, 4, 5, 6, 7, 11, 12, 13, 14, 15, 16, 17, 18, 19, 20, 21, 22, 23, 24, 25], []))], sk := [], mvs := [5], fz := [], tb := [4] }
def f_s_l2Two_a (code0 : List Sc) : List AV := enc [.p .sl] [.l code0]
def f_s_l2Two_i (code0 : List Sc) : List AV := enc [] []
def f_s_l2Two_en (r : List Sc × Int × Int) : List AV × List AV := (enc [.p .gr, .p (.int .i64), .p (.int .i64)] [.l r.1, .i r.2.1, .i r.2.2], enc [] [])
def f_s_l2Two_M : Calling := addC 63 f_s_l1New_c (addC 64 f_s_l2Any_io_c (addC 65 f_s_l2Element_io_c (noC)))
theorem f_s_l2Two_Mt : CallOk Try.prog (f_s_l2Two_M) := addC_true f_s_l1New_cc (addC_true f_s_l2Any_io_cc (addC_true f_s_l2Element_io_cc (noC_true)))
theorem f_s_l2Two_o : loopsOnce Try.f37 = true := by kernel_rfl
def f_s_l2Two_hg4 : List Sh := [.p .sl, .fr 3, .p .sl, .p (.int .i64), .p (.int .i64), .u, .u, .u, .p (.pt 0 1), .u, .u, .p (.pt 2 3), .p (.pt 1 1), .p (.int .i64), .u, .u, .u, .u, .u, .u, .u, .u, .u, .u, .u, .u]
def f_s_l2Two_frg4 (v0 : List Sc) (v1 : List Sc) (v2 : List Sc) (v3 : Int) (v4 : Int) (t7 : Int) : List AV := enc f_s_l2Two_hg4 [.l v0, .l v1, .l v2, .i v3, .i v4, .i t7]
def f_s_l2Two_xg4 (v0 : List Sc) (v1 : List Sc) (v2 : List Sc) (v3 : Int) (v4 : Int) (t7 : Int) (e : Int) : X × List AV := (.norm, enc [.p .sl, .u, .u, .u, .u, .u, .u, .u, .p (.pt 0 1), .p (.int .i64), .p (.int .i64), .u, .u, .u, .u, .u, .u, .u, .u, .u, .u, .u, .u, .u, .u, .u] [.l v1, .i t7, .i e])
theorem f_s_l2Two_pg4 {R : Type} (v0 : List Sc) (v1 : List Sc) (v2 : List Sc) (v3 : Int) (v4 : Int) (t7 : Int) (kA : Int → Option R) : f_s_l2Two_g4_k v0 v1 v2 v3 v4 t7 kA = (f_s_l2Two_g4 v0 v1 v2 v3 v4 t7).bind kA := by
  simp only [f_s_l2Two_g4_k, f_s_l2Two_g4, boB, someB]
theorem f_s_l2Two_bg4 : bodyOf Try.f37 100004 = .region 4 (opsAt (bodyOf Try.f37 100004)) true := by kernel_rfl
def f_s_l2Two_Dg4 : List (Array Bool) := [#[false, false, false, false, false, false, false, false], #[true, false, false, false, false, false, false, false], #[false, true, false, false, false, false, false, false], #[false, false, true, false, false, false, false, false], #[false, false, false, true, false, false, false, false], #[true, true, false, false, false, false, false, false], #[true, false, true, false, false, false, false, false], #[true, false, false, true, false, false, false, false], #[false, true, true, false, false, false, false, false], #[false, true, false, true, false, false, false, false], #[false, false, true, true, false, false, false, false], #[true, true, true, false, false, false, false, false], #[true, true, false, true, false, false, false, false], #[true, false, true, true, false, false, false, false], #[false, true, true, true, false, false, false, false], #[false, false, true, true, true, false, false, false], #[true, true, true, true, false, false, false, false], #[true, false, true, true, true, false, false, false], #[false, true, true, true, true, false, false, false], #[true, true, true, true, true, false, false, false], #[true, false, true, true, true, true, false, false], #[true, true, true, true, true, true, false, false], #[true, true, true, true, true, true, true, false], #[true, true, true, true, true, true, true, true]]
theorem f_s_l2Two_cg4 : closedB (opsAt (bodyOf Try.f37 100004)) f_s_l2Two_Dg4 = true := by kernel_rfl
def f_s_l2Two_sg4_0 (v0 : List Sc) (v1 : List Sc) (v2 : List Sc) (v3 : Int) (v4 : Int) (t7 : Int) (fr : List AV) : Option (List AV) :=
  some (setAll [] fr)
def f_s_l2Two_sg4_1 (v0 : List Sc) (v1 : List Sc) (v2 : List Sc) (v3 : Int) (v4 : Int) (t7 : Int) (fr : List AV) : Option (List AV) :=
  some (setAll [(21, .p (.gr v1))] fr)
def f_s_l2Two_sg4_2 (v0 : List Sc) (v1 : List Sc) (v2 : List Sc) (v3 : Int) (v4 : Int) (t7 : Int) (fr : List AV) : Option (List AV) :=
  some (setAll [(22, .p (.sc (Sc.n .i64 t7)))] fr)
def f_s_l2Two_sg4_4 (v0 : List Sc) (v1 : List Sc) (v2 : List Sc) (v3 : Int) (v4 : Int) (t7 : Int) (fr : List AV) : Option (List AV) :=
  some (setAll [(23, .p (.pt 2 3))] fr)
def f_s_l2Two_sg4_8 (v0 : List Sc) (v1 : List Sc) (v2 : List Sc) (v3 : Int) (v4 : Int) (t7 : Int) (fr : List AV) : Option (List AV) :=
  some (setAll [(24, .p (.gr v1))] fr)
def f_s_l2Two_sg4_3 (v0 : List Sc) (v1 : List Sc) (v2 : List Sc) (v3 : Int) (v4 : Int) (t7 : Int) (fr : List AV) : Option (List AV) :=
  some (setAll [(21, .p (.gr v1)), (22, .p (.sc (Sc.n .i64 t7)))] fr)
def f_s_l2Two_sg4_5 (v0 : List Sc) (v1 : List Sc) (v2 : List Sc) (v3 : Int) (v4 : Int) (t7 : Int) (fr : List AV) : Option (List AV) :=
  some (setAll [(21, .p (.gr v1)), (23, .p (.pt 2 3))] fr)
def f_s_l2Two_sg4_9 (v0 : List Sc) (v1 : List Sc) (v2 : List Sc) (v3 : Int) (v4 : Int) (t7 : Int) (fr : List AV) : Option (List AV) :=
  some (setAll [(21, .p (.gr v1)), (24, .p (.gr v1))] fr)
def f_s_l2Two_sg4_6 (v0 : List Sc) (v1 : List Sc) (v2 : List Sc) (v3 : Int) (v4 : Int) (t7 : Int) (fr : List AV) : Option (List AV) :=
  some (setAll [(22, .p (.sc (Sc.n .i64 t7))), (23, .p (.pt 2 3))] fr)
def f_s_l2Two_sg4_10 (v0 : List Sc) (v1 : List Sc) (v2 : List Sc) (v3 : Int) (v4 : Int) (t7 : Int) (fr : List AV) : Option (List AV) :=
  some (setAll [(22, .p (.sc (Sc.n .i64 t7))), (24, .p (.gr v1))] fr)
def f_s_l2Two_sg4_12 (v0 : List Sc) (v1 : List Sc) (v2 : List Sc) (v3 : Int) (v4 : Int) (t7 : Int) (fr : List AV) : Option (List AV) :=
  some (setAll [(23, .p (.pt 2 3)), (24, .p (.gr v1))] fr)
def f_s_l2Two_sg4_7 (v0 : List Sc) (v1 : List Sc) (v2 : List Sc) (v3 : Int) (v4 : Int) (t7 : Int) (fr : List AV) : Option (List AV) :=
  some (setAll [(21, .p (.gr v1)), (22, .p (.sc (Sc.n .i64 t7))), (23, .p (.pt 2 3))] fr)
def f_s_l2Two_sg4_11 (v0 : List Sc) (v1 : List Sc) (v2 : List Sc) (v3 : Int) (v4 : Int) (t7 : Int) (fr : List AV) : Option (List AV) :=
  some (setAll [(21, .p (.gr v1)), (22, .p (.sc (Sc.n .i64 t7))), (24, .p (.gr v1))] fr)
def f_s_l2Two_sg4_13 (v0 : List Sc) (v1 : List Sc) (v2 : List Sc) (v3 : Int) (v4 : Int) (t7 : Int) (fr : List AV) : Option (List AV) :=
  some (setAll [(21, .p (.gr v1)), (23, .p (.pt 2 3)), (24, .p (.gr v1))] fr)
def f_s_l2Two_sg4_14 (v0 : List Sc) (v1 : List Sc) (v2 : List Sc) (v3 : Int) (v4 : Int) (t7 : Int) (fr : List AV) : Option (List AV) :=
  some (setAll [(22, .p (.sc (Sc.n .i64 t7))), (23, .p (.pt 2 3)), (24, .p (.gr v1))] fr)
def f_s_l2Two_sg4_28 (v0 : List Sc) (v1 : List Sc) (v2 : List Sc) (v3 : Int) (v4 : Int) (t7 : Int) (fr : List AV) : Option (List AV) :=
  bo (f_s_l2Element_io v1 v2 v3 v4) (0, [], 0, 0) fun r5 =>
  some (setAll [(2, .p (.sl r5.2.1)), (3, .p (.sc (Sc.n .i64 r5.2.2.1))), (4, .p (.sc (Sc.n .i64 r5.2.2.2))), (23, .p (.pt 2 3)), (24, .p (.gr v1)), (25, .p (.sc (Sc.n .i64 r5.1)))] fr)
def f_s_l2Two_sg4_15 (v0 : List Sc) (v1 : List Sc) (v2 : List Sc) (v3 : Int) (v4 : Int) (t7 : Int) (fr : List AV) : Option (List AV) :=
  some (setAll [(21, .p (.gr v1)), (22, .p (.sc (Sc.n .i64 t7))), (23, .p (.pt 2 3)), (24, .p (.gr v1))] fr)
def f_s_l2Two_sg4_29 (v0 : List Sc) (v1 : List Sc) (v2 : List Sc) (v3 : Int) (v4 : Int) (t7 : Int) (fr : List AV) : Option (List AV) :=
  bo (f_s_l2Element_io v1 v2 v3 v4) (0, [], 0, 0) fun r6 =>
  some (setAll [(2, .p (.sl r6.2.1)), (3, .p (.sc (Sc.n .i64 r6.2.2.1))), (4, .p (.sc (Sc.n .i64 r6.2.2.2))), (21, .p (.gr v1)), (23, .p (.pt 2 3)), (24, .p (.gr v1)), (25, .p (.sc (Sc.n .i64 r6.1)))] fr)
def f_s_l2Two_sg4_30 (v0 : List Sc) (v1 : List Sc) (v2 : List Sc) (v3 : Int) (v4 : Int) (t7 : Int) (fr : List AV) : Option (List AV) :=
  bo (f_s_l2Element_io v1 v2 v3 v4) (0, [], 0, 0) fun r7 =>
  some (setAll [(2, .p (.sl r7.2.1)), (3, .p (.sc (Sc.n .i64 r7.2.2.1))), (4, .p (.sc (Sc.n .i64 r7.2.2.2))), (22, .p (.sc (Sc.n .i64 t7))), (23, .p (.pt 2 3)), (24, .p (.gr v1)), (25, .p (.sc (Sc.n .i64 r7.1)))] fr)
def f_s_l2Two_sg4_31 (v0 : List Sc) (v1 : List Sc) (v2 : List Sc) (v3 : Int) (v4 : Int) (t7 : Int) (fr : List AV) : Option (List AV) :=
  bo (f_s_l2Element_io v1 v2 v3 v4) (0, [], 0, 0) fun r8 =>
  some (setAll [(2, .p (.sl r8.2.1)), (3, .p (.sc (Sc.n .i64 r8.2.2.1))), (4, .p (.sc (Sc.n .i64 r8.2.2.2))), (21, .p (.gr v1)), (22, .p (.sc (Sc.n .i64 t7))), (23, .p (.pt 2 3)), (24, .p (.gr v1)), (25, .p (.sc (Sc.n .i64 r8.1)))] fr)
def f_s_l2Two_sg4_61 (v0 : List Sc) (v1 : List Sc) (v2 : List Sc) (v3 : Int) (v4 : Int) (t7 : Int) (fr : List AV) : Option (List AV) :=
  bo (f_s_l2Element_io v1 v2 v3 v4) (0, [], 0, 0) fun r9 =>
  some (setAll [(0, .p (.sl v1)), (2, .p (.sl r9.2.1)), (3, .p (.sc (Sc.n .i64 r9.2.2.1))), (4, .p (.sc (Sc.n .i64 r9.2.2.2))), (21, .p (.gr v1)), (23, .p (.pt 2 3)), (24, .p (.gr v1)), (25, .p (.sc (Sc.n .i64 r9.1)))] fr)
def f_s_l2Two_sg4_63 (v0 : List Sc) (v1 : List Sc) (v2 : List Sc) (v3 : Int) (v4 : Int) (t7 : Int) (fr : List AV) : Option (List AV) :=
  bo (f_s_l2Element_io v1 v2 v3 v4) (0, [], 0, 0) fun r10 =>
  some (setAll [(0, .p (.sl v1)), (2, .p (.sl r10.2.1)), (3, .p (.sc (Sc.n .i64 r10.2.2.1))), (4, .p (.sc (Sc.n .i64 r10.2.2.2))), (21, .p (.gr v1)), (22, .p (.sc (Sc.n .i64 t7))), (23, .p (.pt 2 3)), (24, .p (.gr v1)), (25, .p (.sc (Sc.n .i64 r10.1)))] fr)
def f_s_l2Two_sg4_127 (v0 : List Sc) (v1 : List Sc) (v2 : List Sc) (v3 : Int) (v4 : Int) (t7 : Int) (fr : List AV) : Option (List AV) :=
  bo (f_s_l2Element_io v1 v2 v3 v4) (0, [], 0, 0) fun r11 =>
  some (setAll [(0, .p (.sl v1)), (2, .p (.sl r11.2.1)), (3, .p (.sc (Sc.n .i64 r11.2.2.1))), (4, .p (.sc (Sc.n .i64 r11.2.2.2))), (9, .p (.sc (Sc.n .i64 t7))), (21, .p (.gr v1)), (22, .p (.sc (Sc.n .i64 t7))), (23, .p (.pt 2 3)), (24, .p (.gr v1)), (25, .p (.sc (Sc.n .i64 r11.1)))] fr)
def f_s_l2Two_sg4_255 (v0 : List Sc) (v1 : List Sc) (v2 : List Sc) (v3 : Int) (v4 : Int) (t7 : Int) (fr : List AV) : Option (List AV) :=
  bo (f_s_l2Element_io v1 v2 v3 v4) (0, [], 0, 0) fun r12 =>
  some (setAll [(0, .p (.sl v1)), (2, .p (.sl r12.2.1)), (3, .p (.sc (Sc.n .i64 r12.2.2.1))), (4, .p (.sc (Sc.n .i64 r12.2.2.2))), (9, .p (.sc (Sc.n .i64 t7))), (10, .p (.sc (Sc.n .i64 r12.1))), (21, .p (.gr v1)), (22, .p (.sc (Sc.n .i64 t7))), (23, .p (.pt 2 3)), (24, .p (.gr v1)), (25, .p (.sc (Sc.n .i64 r12.1)))] fr)
def f_s_l2Two_Eg4 (v0 : List Sc) (v1 : List Sc) (v2 : List Sc) (v3 : Int) (v4 : Int) (t7 : Int) (fr : List AV) : List (Option (List AV)) := [f_s_l2Two_sg4_1 v0 v1 v2 v3 v4 t7 fr, f_s_l2Two_sg4_2 v0 v1 v2 v3 v4 t7 fr, f_s_l2Two_sg4_4 v0 v1 v2 v3 v4 t7 fr, f_s_l2Two_sg4_8 v0 v1 v2 v3 v4 t7 fr, f_s_l2Two_sg4_3 v0 v1 v2 v3 v4 t7 fr, f_s_l2Two_sg4_5 v0 v1 v2 v3 v4 t7 fr, f_s_l2Two_sg4_9 v0 v1 v2 v3 v4 t7 fr, f_s_l2Two_sg4_3 v0 v1 v2 v3 v4 t7 fr, f_s_l2Two_sg4_6 v0 v1 v2 v3 v4 t7 fr, f_s_l2Two_sg4_10 v0 v1 v2 v3 v4 t7 fr, f_s_l2Two_sg4_5 v0 v1 v2 v3 v4 t7 fr, f_s_l2Two_sg4_6 v0 v1 v2 v3 v4 t7 fr, f_s_l2Two_sg4_12 v0 v1 v2 v3 v4 t7 fr, f_s_l2Two_sg4_9 v0 v1 v2 v3 v4 t7 fr, f_s_l2Two_sg4_10 v0 v1 v2 v3 v4 t7 fr, f_s_l2Two_sg4_12 v0 v1 v2 v3 v4 t7 fr, f_s_l2Two_sg4_7 v0 v1 v2 v3 v4 t7 fr, f_s_l2Two_sg4_11 v0 v1 v2 v3 v4 t7 fr, f_s_l2Two_sg4_7 v0 v1 v2 v3 v4 t7 fr, f_s_l2Two_sg4_13 v0 v1 v2 v3 v4 t7 fr, f_s_l2Two_sg4_11 v0 v1 v2 v3 v4 t7 fr, f_s_l2Two_sg4_13 v0 v1 v2 v3 v4 t7 fr, f_s_l2Two_sg4_7 v0 v1 v2 v3 v4 t7 fr, f_s_l2Two_sg4_14 v0 v1 v2 v3 v4 t7 fr, f_s_l2Two_sg4_11 v0 v1 v2 v3 v4 t7 fr, f_s_l2Two_sg4_14 v0 v1 v2 v3 v4 t7 fr, f_s_l2Two_sg4_13 v0 v1 v2 v3 v4 t7 fr, f_s_l2Two_sg4_14 v0 v1 v2 v3 v4 t7 fr, f_s_l2Two_sg4_28 v0 v1 v2 v3 v4 t7 fr, f_s_l2Two_sg4_15 v0 v1 v2 v3 v4 t7 fr, f_s_l2Two_sg4_15 v0 v1 v2 v3 v4 t7 fr, f_s_l2Two_sg4_15 v0 v1 v2 v3 v4 t7 fr, f_s_l2Two_sg4_29 v0 v1 v2 v3 v4 t7 fr, f_s_l2Two_sg4_15 v0 v1 v2 v3 v4 t7 fr, f_s_l2Two_sg4_30 v0 v1 v2 v3 v4 t7 fr, f_s_l2Two_sg4_29 v0 v1 v2 v3 v4 t7 fr, f_s_l2Two_sg4_30 v0 v1 v2 v3 v4 t7 fr, f_s_l2Two_sg4_31 v0 v1 v2 v3 v4 t7 fr, f_s_l2Two_sg4_31 v0 v1 v2 v3 v4 t7 fr, f_s_l2Two_sg4_61 v0 v1 v2 v3 v4 t7 fr, f_s_l2Two_sg4_31 v0 v1 v2 v3 v4 t7 fr, f_s_l2Two_sg4_63 v0 v1 v2 v3 v4 t7 fr, f_s_l2Two_sg4_63 v0 v1 v2 v3 v4 t7 fr, f_s_l2Two_sg4_127 v0 v1 v2 v3 v4 t7 fr, f_s_l2Two_sg4_255 v0 v1 v2 v3 v4 t7 fr]
theorem f_s_l2Two_dLg4 (v0 : List Sc) (v1 : List Sc) (v2 : List Sc) (v3 : Int) (v4 : Int) (t7 : Int) : edgeL E0 f_s_l2Two_M H0 f_s_l2Two_F (opsAt (bodyOf Try.f37 100004)) f_s_l2Two_Dg4 (f_s_l2Two_frg4 v0 v1 v2 v3 v4 t7) = f_s_l2Two_Eg4 v0 v1 v2 v3 v4 t7 (f_s_l2Two_frg4 v0 v1 v2 v3 v4 t7) := by kernel_rfl
theorem f_s_l2Two_dRg4 (v0 : List Sc) (v1 : List Sc) (v2 : List Sc) (v3 : Int) (v4 : Int) (t7 : Int) : edgeR E0 f_s_l2Two_M H0 f_s_l2Two_F (opsAt (bodyOf Try.f37 100004)) f_s_l2Two_Dg4 (f_s_l2Two_frg4 v0 v1 v2 v3 v4 t7) = f_s_l2Two_Eg4 v0 v1 v2 v3 v4 t7 (f_s_l2Two_frg4 v0 v1 v2 v3 v4 t7) := by kernel_rfl
theorem f_s_l2Two_dg4 (v0 : List Sc) (v1 : List Sc) (v2 : List Sc) (v3 : Int) (v4 : Int) (t7 : Int) : edgeL E0 f_s_l2Two_M H0 f_s_l2Two_F (opsAt (bodyOf Try.f37 100004)) f_s_l2Two_Dg4 (f_s_l2Two_frg4 v0 v1 v2 v3 v4 t7) = edgeR E0 f_s_l2Two_M H0 f_s_l2Two_F (opsAt (bodyOf Try.f37 100004)) f_s_l2Two_Dg4 (f_s_l2Two_frg4 v0 v1 v2 v3 v4 t7) := (f_s_l2Two_dLg4 v0 v1 v2 v3 v4 t7).trans (f_s_l2Two_dRg4 v0 v1 v2 v3 v4 t7).symm
theorem f_s_l2Two_eg4 (v0 : List Sc) (v1 : List Sc) (v2 : List Sc) (v3 : Int) (v4 : Int) (t7 : Int) : goL E0 f_s_l2Two_M H0 f_s_l2Two_F (opsAt (bodyOf Try.f37 100004)) (Array.replicate (opsAt (bodyOf Try.f37 100004)).size true) (opsAt (bodyOf Try.f37 100004)).toList 0 (f_s_l2Two_frg4 v0 v1 v2 v3 v4 t7) (fun s => some (X.norm, clear (klOf f_s_l2Two_F 100004).2.1 s)) = f_s_l2Two_g4_k v0 v1 v2 v3 v4 t7 (fun e => some (f_s_l2Two_xg4 v0 v1 v2 v3 v4 t7 e)) := by kernel_rfl
theorem f_s_l2Two_lg4 (v0 : List Sc) (v1 : List Sc) (v2 : List Sc) (v3 : Int) (v4 : Int) (t7 : Int) (r : Int) (h : f_s_l2Two_g4 v0 v1 v2 v3 v4 t7 = some r) : LS Try.prog f_s_l2Two_F (bodyOf Try.f37 100004) (f_s_l2Two_frg4 v0 v1 v2 v3 v4 t7) (f_s_l2Two_xg4 v0 v1 v2 v3 v4 t7 r) :=
  region_true (S := Unit) (id := 4) (G := fun _ => f_s_l2Two_g4 v0 v1 v2 v3 v4 t7) (Gk := fun _ k => f_s_l2Two_g4_k v0 v1 v2 v3 v4 t7 k) (fr := fun _ => f_s_l2Two_frg4 v0 v1 v2 v3 v4 t7) (f1 := fun e => f_s_l2Two_xg4 v0 v1 v2 v3 v4 t7 e) E0ok f_s_l2Two_Mt f_s_l2Two_bg4 f_s_l2Two_cg4 (fun _ => f_s_l2Two_dg4 v0 v1 v2 v3 v4 t7) (fun _ => rfl) (fun _ => f_s_l2Two_eg4 v0 v1 v2 v3 v4 t7) (fun _ k => f_s_l2Two_pg4 v0 v1 v2 v3 v4 t7 k) () r h
def f_s_l2Two_tg4 (σ : List AV) : Option (Bool × Bool × (X × List AV) × (X × List AV)) := match dec f_s_l2Two_hg4 σ with
  | some [.l v0, .l v1, .l v2, .i v3, .i v4, .i t7] => some ((f_s_l2Two_g4 v0 v1 v2 v3 v4 t7).isSome, true, f_s_l2Two_xg4 v0 v1 v2 v3 v4 t7 ((f_s_l2Two_g4 v0 v1 v2 v3 v4 t7).getD 0), (.ret, []))
  | _ => none
theorem f_s_l2Two_ttg4 : TTrue Try.prog f_s_l2Two_F Try.f37 100004 f_s_l2Two_tg4 := by
  intro σ p r r' h
  unfold f_s_l2Two_tg4 at h
  split at h
  · rename_i hd
    rw [← dec_enc hd]
    exact rowR (f_s_l2Two_lg4 _ _ _ _ _ _) h
  · cases h
theorem f_s_l2Two_p {R : Type} (code0 : List Sc) (kR : List Sc × Int × Int → Option R) : f_s_l2Two_k code0 kR = (f_s_l2Two_k code0 some).bind kR := by
  simp only [f_s_l2Two_k, boB, someB]
theorem f_s_l2Two_e (code0 : List Sc) : runFn E0 f_s_l2Two_M H0 f_s_l2Two_F (asL (addL 100004 f_s_l2Two_tg4 (noL))) Try.f37 (f_s_l2Two_a code0) (f_s_l2Two_i code0) = f_s_l2Two_k code0 (fun r => some (f_s_l2Two_en r)) := by kernel_rfl
theorem f_s_l2Two_ok (code0 : List Sc) (r : List Sc × Int × Int) (h : f_s_l2Two code0 = some r) : CS Try.prog 37 (f_s_l2Two_a code0) (f_s_l2Two_i code0) (f_s_l2Two_en r).1 (f_s_l2Two_en r).2 :=
  fn_true (Gk := fun k => f_s_l2Two_k code0 k) (en := f_s_l2Two_en) Try.func37 E0ok f_s_l2Two_Mt (addL_true f_s_l2Two_ttg4 (noL_true)) f_s_l2Two_o (f_s_l2Two_e code0) (f_s_l2Two_p code0) h
def f_s_l2Two_c : CRow := fun args inh => match dec2 [.p .sl] [] args inh with
  | some ([.l code0], []) => some ((f_s_l2Two code0).isSome, (f_s_l2Two_en ((f_s_l2Two code0).getD ([], 0, 0))).1, (f_s_l2Two_en ((f_s_l2Two code0).getD ([], 0, 0))).2)
  | _ => none
theorem f_s_l2Two_cc : CTrue Try.prog 37 f_s_l2Two_c := by
  intro args inh rs out h
  unfold f_s_l2Two_c at h
  split at h
  · rename_i hd
    obtain ⟨h1, h2⟩ := dec2_enc hd
    rw [← h1, ← h2]
    exact rowC (f_s_l2Two_ok _) h
  · cases h

def f_s_DrawCharacterValue_F : Fi := { nv := 2, nc := 2, m := 0, vt := [(2, 0), (5, 1)], kl := [], sk := [], mvs := [], fz := [] }
def f_s_DrawCharacterValue_a (code0 : List Sc) : List AV := enc [.p .sl] [.l code0]
def f_s_DrawCharacterValue_i (code0 : List Sc) : List AV := enc [] []
def f_s_DrawCharacterValue_en (r : List Sc × Int × Int) : List AV × List AV := (enc [.p .gr, .p (.int .i64), .p (.int .i64)] [.l r.1, .i r.2.1, .i r.2.2], enc [] [])
def f_s_DrawCharacterValue_M : Calling := addC 37 f_s_l2Two_c (noC)
theorem f_s_DrawCharacterValue_Mt : CallOk Try.prog (f_s_DrawCharacterValue_M) := addC_true f_s_l2Two_cc (noC_true)
theorem f_s_DrawCharacterValue_o : loopsOnce Try.f5 = true := by kernel_rfl
theorem f_s_DrawCharacterValue_p {R : Type} (code0 : List Sc) (kR : List Sc × Int × Int → Option R) : f_s_DrawCharacterValue_k code0 kR = (f_s_DrawCharacterValue_k code0 some).bind kR := by
  simp only [f_s_DrawCharacterValue_k, boB, someB]
theorem f_s_DrawCharacterValue_e (code0 : List Sc) : runFn E0 f_s_DrawCharacterValue_M H0 f_s_DrawCharacterValue_F (asL (noL)) Try.f5 (f_s_DrawCharacterValue_a code0) (f_s_DrawCharacterValue_i code0) = f_s_DrawCharacterValue_k code0 (fun r => some (f_s_DrawCharacterValue_en r)) := by kernel_rfl
theorem f_s_DrawCharacterValue_ok (code0 : List Sc) (r : List Sc × Int × Int) (h : f_s_DrawCharacterValue code0 = some r) : CS Try.prog 5 (f_s_DrawCharacterValue_a code0) (f_s_DrawCharacterValue_i code0) (f_s_DrawCharacterValue_en r).1 (f_s_DrawCharacterValue_en r).2 :=
  fn_true (Gk := fun k => f_s_DrawCharacterValue_k code0 k) (en := f_s_DrawCharacterValue_en) Try.func5 E0ok f_s_DrawCharacterValue_Mt (noL_true) f_s_DrawCharacterValue_o (f_s_DrawCharacterValue_e code0) (f_s_DrawCharacterValue_p code0) h
def f_s_DrawCharacterValue_c : CRow := fun args inh => match dec2 [.p .sl] [] args inh with
  | some ([.l code0], []) => some ((f_s_DrawCharacterValue code0).isSome, (f_s_DrawCharacterValue_en ((f_s_DrawCharacterValue code0).getD ([], 0, 0))).1, (f_s_DrawCharacterValue_en ((f_s_DrawCharacterValue code0).getD ([], 0, 0))).2)
  | _ => none
theorem f_s_DrawCharacterValue_cc : CTrue Try.prog 5 f_s_DrawCharacterValue_c := by
  intro args inh rs out h
  unfold f_s_DrawCharacterValue_c at h
  split at h
  · rename_i hd
    obtain ⟨h1, h2⟩ := dec2_enc hd
    rw [← h1, ← h2]
    exact rowC (f_s_DrawCharacterValue_ok _) h
  · cases h

def f_i_within_F : Fi := { nv := 0, nc := 0, m := 0, vt := [], kl := [], sk := [], mvs := [], fz := [] }
def f_i_within_a (x0 : Int) (lo1 : Int) (hi2 : Int) : List AV := enc [.p (.int .i64), .p (.int .i64), .p (.int .i64)] [.i x0, .i lo1, .i hi2]
def f_i_within_i (x0 : Int) (lo1 : Int) (hi2 : Int) : List AV := enc [] []
def f_i_within_en (r : Bool) : List AV × List AV := (enc [.p .boo] [.b r], enc [] [])
def f_i_within_M : Calling := noC
theorem f_i_within_Mt : CallOk Try.prog (f_i_within_M) := noC_true
theorem f_i_within_o : loopsOnce Try.f66 = true := by kernel_rfl
theorem f_i_within_p {R : Type} (x0 : Int) (lo1 : Int) (hi2 : Int) (kR : Bool → Option R) : f_i_within_k x0 lo1 hi2 kR = (f_i_within_k x0 lo1 hi2 some).bind kR := by
  simp only [f_i_within_k, brB, someB]
theorem f_i_within_e (x0 : Int) (lo1 : Int) (hi2 : Int) : runFn E0 f_i_within_M H0 f_i_within_F (asL (noL)) Try.f66 (f_i_within_a x0 lo1 hi2) (f_i_within_i x0 lo1 hi2) = f_i_within_k x0 lo1 hi2 (fun r => some (f_i_within_en r)) := by kernel_rfl
theorem f_i_within_ok (x0 : Int) (lo1 : Int) (hi2 : Int) (r : Bool) (h : f_i_within x0 lo1 hi2 = some r) : CS Try.prog 66 (f_i_within_a x0 lo1 hi2) (f_i_within_i x0 lo1 hi2) (f_i_within_en r).1 (f_i_within_en r).2 :=
  fn_true (Gk := fun k => f_i_within_k x0 lo1 hi2 k) (en := f_i_within_en) Try.func66 E0ok f_i_within_Mt (noL_true) f_i_within_o (f_i_within_e x0 lo1 hi2) (f_i_within_p x0 lo1 hi2) h
def f_i_within_c : CRow := fun args inh => match dec2 [.p (.int .i64), .p (.int .i64), .p (.int .i64)] [] args inh with
  | some ([.i x0, .i lo1, .i hi2], []) => some ((f_i_within x0 lo1 hi2).isSome, (f_i_within_en ((f_i_within x0 lo1 hi2).getD false)).1, (f_i_within_en ((f_i_within x0 lo1 hi2).getD false)).2)
  | _ => none
theorem f_i_within_cc : CTrue Try.prog 66 f_i_within_c := by
  intro args inh rs out h
  unfold f_i_within_c at h
  split at h
  · rename_i hd
    obtain ⟨h1, h2⟩ := dec2_enc hd
    rw [← h1, ← h2]
    exact rowC (f_i_within_ok _ _ _) h
  · cases h

def f_i_IsGroup_F : Fi := { nv := 0, nc := 0, m := 0, vt := [], kl := [(0, ([0, 1, 2, 4, 5, 6, 7, 8, 9, 10, 14, 15, 16, 17, 18, 19, 20, 21, 22, 23, 24, 25], [0, 1, 2, 4, 5, 6, 7, 8, 9, 10, 11, 12, 13, 14, 15, 16, 17, 18, 19, 20, 21, 22, 23, 24, 25], [0, 1, 3, 4, 5, 6, 7, 8, 9, 10, 11, 12, 13, 14, 15, 16, 17, 18, 19, 20, 21, 22, 23, 24, 25]))], sk := [], mvs := [], fz := [] }
def f_i_IsGroup_a (g0 : List Sc) : List AV := enc [.p .gr] [.l g0]
def f_i_IsGroup_i (g0 : List Sc) : List AV := enc [] []
def f_i_IsGroup_en (r : Bool) : List AV × List AV := (enc [.p .boo] [.b r], enc [] [])
def f_i_IsGroup_M : Calling := addC 66 f_i_within_c (noC)
theorem f_i_IsGroup_Mt : CallOk Try.prog (f_i_IsGroup_M) := addC_true f_i_within_cc (noC_true)
theorem f_i_IsGroup_o : loopsOnce Try.f67 = true := by kernel_rfl
def f_i_IsGroup_h0 : List Sh := [.u, .u, .u, .p (.int .i64), .u, .u, .u, .u, .u, .u, .u, .p .sl, .p (.int .i64), .p (.int .i64), .u, .u, .u, .u, .u, .u, .u, .u, .u, .u, .u, .u]
def f_i_IsGroup_fr0 (t11 : List Sc) (t12 : Int) (s : Int × Int) : List AV := enc f_i_IsGroup_h0 [.i s.1, .l t11, .i t12, .i s.2]
def f_i_IsGroup_g0_1 : List Sh := [.u, .u, .u, .p (.int .i64), .u, .u, .u, .u, .u, .u, .u, .u, .u, .u, .u, .u, .u, .u, .u, .u, .u, .u, .u, .u, .u, .u]
def f_i_IsGroup_x0_1 (t11 : List Sc) (t12 : Int) (e : Int) : X × List AV := (.out 0, enc f_i_IsGroup_g0_1 [.i e])
def f_i_IsGroup_g0_2 : List Sh := [.u, .u, .p .boo, .u, .u, .u, .u, .u, .u, .u, .u, .u, .u, .u, .u, .u, .u, .u, .u, .u, .u, .u, .u, .u, .u, .u]
def f_i_IsGroup_x0_2 (t11 : List Sc) (t12 : Int) (e : Unit) : X × List AV := (.ret, enc f_i_IsGroup_g0_2 [.b false])
theorem f_i_IsGroup_p0 {R : Type} (t11 : List Sc) (t12 : Int) (s : Int × Int) (kN : Int × Int → Option R) (kA : Int → Option R) (kB : Unit → Option R) : f_i_IsGroup_k0 t11 t12 s.1 s.2 kN kA kB = (f_i_IsGroup_r0 t11 t12 s).bind (Ro.el kN kA kB) := by
  simp only [f_i_IsGroup_k0, f_i_IsGroup_r0, brB, boB, someB, noneB, Ro.el]
theorem f_i_IsGroup_e0 (t11 : List Sc) (t12 : Int) (s : Int × Int) : EC E0 f_i_IsGroup_M H0 f_i_IsGroup_F (asL (noL)) 0 (bodyOf Try.f67 0) (f_i_IsGroup_fr0 t11 t12 s) (done (klOf f_i_IsGroup_F 0)) = f_i_IsGroup_k0 t11 t12 s.1 s.2 (fun s => some (.norm, f_i_IsGroup_fr0 t11 t12 s)) (fun e => some (f_i_IsGroup_x0_1 t11 t12 e)) (fun e => some (f_i_IsGroup_x0_2 t11 t12 e)) := by kernel_rfl
theorem f_i_IsGroup_l0 (t11 : List Sc) (t12 : Int) : ∀ s r, loopL (f_i_IsGroup_r0 t11 t12) s = some r → LS Try.prog f_i_IsGroup_F (bodyOf Try.f67 0) (f_i_IsGroup_fr0 t11 t12 s) (enX (f_i_IsGroup_x0_1 t11 t12) (f_i_IsGroup_x0_2 t11 t12) r) :=
  loop_true E0ok f_i_IsGroup_Mt (noL_true) f_i_IsGroup_o (fun _ h => by cases h) (fun _ h => by cases h) (fun s => (f_i_IsGroup_e0 t11 t12 s).trans (f_i_IsGroup_p0 t11 t12 s _ _ (fun e => some (f_i_IsGroup_x0_2 t11 t12 e))))
def f_i_IsGroup_t0 (σ : List AV) : Option (Bool × Bool × (X × List AV) × (X × List AV)) := match dec f_i_IsGroup_h0 σ with
  | some [.i n3, .l t11, .i t12, .i t13] => some ((loopL (f_i_IsGroup_r0 t11 t12) (n3, t13)).isSome, isOne (loopL (f_i_IsGroup_r0 t11 t12) (n3, t13)), f_i_IsGroup_x0_1 t11 t12 (getOne 0 (loopL (f_i_IsGroup_r0 t11 t12) (n3, t13))), f_i_IsGroup_x0_2 t11 t12 (getTwo () (loopL (f_i_IsGroup_r0 t11 t12) (n3, t13))))
  | _ => none
theorem f_i_IsGroup_tt0 : TTrue Try.prog f_i_IsGroup_F Try.f67 0 (f_i_IsGroup_t0) := by
  intro σ p r r' h
  unfold f_i_IsGroup_t0 at h
  split at h
  · rename_i hd
    rw [← dec_enc hd]
    exact row2 (f_i_IsGroup_l0 _ _ _) h
  · cases h
theorem f_i_IsGroup_p {R : Type} (g0 : List Sc) (kR : Bool → Option R) : f_i_IsGroup_k g0 kR = (f_i_IsGroup_k g0 some).bind kR := by
  simp only [f_i_IsGroup_k, brB, blB, someB]
theorem f_i_IsGroup_e (g0 : List Sc) : runFn E0 f_i_IsGroup_M H0 f_i_IsGroup_F (asL (addL 0 (f_i_IsGroup_t0) (noL))) Try.f67 (f_i_IsGroup_a g0) (f_i_IsGroup_i g0) = f_i_IsGroup_k g0 (fun r => some (f_i_IsGroup_en r)) := by kernel_rfl
theorem f_i_IsGroup_ok (g0 : List Sc) (r : Bool) (h : f_i_IsGroup g0 = some r) : CS Try.prog 67 (f_i_IsGroup_a g0) (f_i_IsGroup_i g0) (f_i_IsGroup_en r).1 (f_i_IsGroup_en r).2 :=
  fn_true (Gk := fun k => f_i_IsGroup_k g0 k) (en := f_i_IsGroup_en) Try.func67 E0ok f_i_IsGroup_Mt (addL_true (f_i_IsGroup_tt0) (noL_true)) f_i_IsGroup_o (f_i_IsGroup_e g0) (f_i_IsGroup_p g0) h
def f_i_IsGroup_c : CRow := fun args inh => match dec2 [.p .gr] [] args inh with
  | some ([.l g0], []) => some ((f_i_IsGroup g0).isSome, (f_i_IsGroup_en ((f_i_IsGroup g0).getD false)).1, (f_i_IsGroup_en ((f_i_IsGroup g0).getD false)).2)
  | _ => none
theorem f_i_IsGroup_cc : CTrue Try.prog 67 f_i_IsGroup_c := by
  intro args inh rs out h
  unfold f_i_IsGroup_c at h
  split at h
  · rename_i hd
    obtain ⟨h1, h2⟩ := dec2_enc hd
    rw [← h1, ← h2]
    exact rowC (f_i_IsGroup_ok _) h
  · cases h

def f_i_OrderOf_F : Fi := { nv := 0, nc := 0, m := 0, vt := [], kl := [(0, ([0, 1, 2, 4, 5, 6, 7, 8, 9, 13, 14, 15, 16, 17, 18, 19, 20], [0, 1, 2, 4, 5, 6, 7, 8, 9, 10, 11, 12, 13, 14, 15, 16, 17, 18, 19, 20], [0, 1, 3, 4, 5, 6, 7, 8, 9, 10, 11, 12, 13, 14, 15, 16, 17, 18, 19, 20]))], sk := [], mvs := [], fz := [] }
def f_i_OrderOf_a (g0 : List Sc) : List AV := enc [.p .gr] [.l g0]
def f_i_OrderOf_i (g0 : List Sc) : List AV := enc [] []
def f_i_OrderOf_en (r : Int) : List AV × List AV := (enc [.p (.int .i64)] [.i r], enc [] [])
def f_i_OrderOf_M : Calling := addC 67 f_i_IsGroup_c (noC)
theorem f_i_OrderOf_Mt : CallOk Try.prog (f_i_OrderOf_M) := addC_true f_i_IsGroup_cc (noC_true)
theorem f_i_OrderOf_o : loopsOnce Try.f48 = true := by kernel_rfl
def f_i_OrderOf_h0 : List Sh := [.u, .u, .u, .p (.int .i64), .u, .u, .u, .u, .u, .u, .p .sl, .p (.int .i64), .p (.int .i64), .u, .u, .u, .u, .u, .u, .u, .u]
def f_i_OrderOf_fr0 (t10 : List Sc) (t11 : Int) (s : Int × Int) : List AV := enc f_i_OrderOf_h0 [.i s.1, .l t10, .i t11, .i s.2]
def f_i_OrderOf_g0_1 : List Sh := [.u, .u, .u, .p (.int .i64), .u, .u, .u, .u, .u, .u, .u, .u, .u, .u, .u, .u, .u, .u, .u, .u, .u]
def f_i_OrderOf_x0_1 (t10 : List Sc) (t11 : Int) (e : Int) : X × List AV := (.out 0, enc f_i_OrderOf_g0_1 [.i e])
def f_i_OrderOf_x0_2 (t10 : List Sc) (t11 : Int) (_e : Unit) : X × List AV := (.ret, [])
theorem f_i_OrderOf_p0 {R : Type} (t10 : List Sc) (t11 : Int) (s : Int × Int) (kN : Int × Int → Option R) (kA : Int → Option R) (kB : Unit → Option R) : f_i_OrderOf_k0 t10 t11 s.1 s.2 kN kA = (f_i_OrderOf_r0 t10 t11 s).bind (Ro.el kN kA kB) := by
  simp only [f_i_OrderOf_k0, f_i_OrderOf_r0, brB, someB, noneB, Ro.el]
theorem f_i_OrderOf_e0 (t10 : List Sc) (t11 : Int) (s : Int × Int) : EC E0 f_i_OrderOf_M H0 f_i_OrderOf_F (asL (noL)) 0 (bodyOf Try.f48 0) (f_i_OrderOf_fr0 t10 t11 s) (done (klOf f_i_OrderOf_F 0)) = f_i_OrderOf_k0 t10 t11 s.1 s.2 (fun s => some (.norm, f_i_OrderOf_fr0 t10 t11 s)) (fun e => some (f_i_OrderOf_x0_1 t10 t11 e)) := by kernel_rfl
theorem f_i_OrderOf_l0 (t10 : List Sc) (t11 : Int) : ∀ s r, loopL (f_i_OrderOf_r0 t10 t11) s = some r → LS Try.prog f_i_OrderOf_F (bodyOf Try.f48 0) (f_i_OrderOf_fr0 t10 t11 s) (enX (f_i_OrderOf_x0_1 t10 t11) (f_i_OrderOf_x0_2 t10 t11) r) :=
  loop_true E0ok f_i_OrderOf_Mt (noL_true) f_i_OrderOf_o (fun _ h => by cases h) (fun _ h => by cases h) (fun s => (f_i_OrderOf_e0 t10 t11 s).trans (f_i_OrderOf_p0 t10 t11 s _ _ (fun e => some (f_i_OrderOf_x0_2 t10 t11 e))))
def f_i_OrderOf_t0 (σ : List AV) : Option (Bool × Bool × (X × List AV) × (X × List AV)) := match dec f_i_OrderOf_h0 σ with
  | some [.i n3, .l t10, .i t11, .i t12] => some (isOne (loopL (f_i_OrderOf_r0 t10 t11) (n3, t12)), true, f_i_OrderOf_x0_1 t10 t11 (getOne 0 (loopL (f_i_OrderOf_r0 t10 t11) (n3, t12))), (.ret, []))
  | _ => none
theorem f_i_OrderOf_tt0 : TTrue Try.prog f_i_OrderOf_F Try.f48 0 (f_i_OrderOf_t0) := by
  intro σ p r r' h
  unfold f_i_OrderOf_t0 at h
  split at h
  · rename_i hd
    rw [← dec_enc hd]
    exact row1 (f_i_OrderOf_l0 _ _ _) h
  · cases h
theorem f_i_OrderOf_p {R : Type} (g0 : List Sc) (kR : Int → Option R) : f_i_OrderOf_k g0 kR = (f_i_OrderOf_k g0 some).bind kR := by
  simp only [f_i_OrderOf_k, brB, boB, bl1B, someB]
theorem f_i_OrderOf_e (g0 : List Sc) : runFn E0 f_i_OrderOf_M H0 f_i_OrderOf_F (asL (addL 0 (f_i_OrderOf_t0) (noL))) Try.f48 (f_i_OrderOf_a g0) (f_i_OrderOf_i g0) = f_i_OrderOf_k g0 (fun r => some (f_i_OrderOf_en r)) := by kernel_rfl
theorem f_i_OrderOf_ok (g0 : List Sc) (r : Int) (h : f_i_OrderOf g0 = some r) : CS Try.prog 48 (f_i_OrderOf_a g0) (f_i_OrderOf_i g0) (f_i_OrderOf_en r).1 (f_i_OrderOf_en r).2 :=
  fn_true (Gk := fun k => f_i_OrderOf_k g0 k) (en := f_i_OrderOf_en) Try.func48 E0ok f_i_OrderOf_Mt (addL_true (f_i_OrderOf_tt0) (noL_true)) f_i_OrderOf_o (f_i_OrderOf_e g0) (f_i_OrderOf_p g0) h
def f_i_OrderOf_c : CRow := fun args inh => match dec2 [.p .gr] [] args inh with
  | some ([.l g0], []) => some ((f_i_OrderOf g0).isSome, (f_i_OrderOf_en ((f_i_OrderOf g0).getD 0)).1, (f_i_OrderOf_en ((f_i_OrderOf g0).getD 0)).2)
  | _ => none
theorem f_i_OrderOf_cc : CTrue Try.prog 48 f_i_OrderOf_c := by
  intro args inh rs out h
  unfold f_i_OrderOf_c at h
  split at h
  · rename_i hd
    obtain ⟨h1, h2⟩ := dec2_enc hd
    rw [← h1, ← h2]
    exact rowC (f_i_OrderOf_ok _) h
  · cases h

def f_i_Group_has_F : Fi := { nv := 0, nc := 0, m := 0, vt := [], kl := [], sk := [], mvs := [], fz := [] }
def f_i_Group_has_a (g0 : List Sc) (x1 : Int) : List AV := enc [.p .gr, .p (.int .i64)] [.l g0, .i x1]
def f_i_Group_has_i (g0 : List Sc) (x1 : Int) : List AV := enc [] []
def f_i_Group_has_en (r : Bool) : List AV × List AV := (enc [.p .boo] [.b r], enc [] [])
def f_i_Group_has_M : Calling := addC 48 f_i_OrderOf_c (addC 66 f_i_within_c (noC))
theorem f_i_Group_has_Mt : CallOk Try.prog (f_i_Group_has_M) := addC_true f_i_OrderOf_cc (addC_true f_i_within_cc (noC_true))
theorem f_i_Group_has_o : loopsOnce Try.f38 = true := by kernel_rfl
theorem f_i_Group_has_p {R : Type} (g0 : List Sc) (x1 : Int) (kR : Bool → Option R) : f_i_Group_has_k g0 x1 kR = (f_i_Group_has_k g0 x1 some).bind kR := by
  simp only [f_i_Group_has_k, boB, someB]
theorem f_i_Group_has_e (g0 : List Sc) (x1 : Int) : runFn E0 f_i_Group_has_M H0 f_i_Group_has_F (asL (noL)) Try.f38 (f_i_Group_has_a g0 x1) (f_i_Group_has_i g0 x1) = f_i_Group_has_k g0 x1 (fun r => some (f_i_Group_has_en r)) := by kernel_rfl
theorem f_i_Group_has_ok (g0 : List Sc) (x1 : Int) (r : Bool) (h : f_i_Group_has g0 x1 = some r) : CS Try.prog 38 (f_i_Group_has_a g0 x1) (f_i_Group_has_i g0 x1) (f_i_Group_has_en r).1 (f_i_Group_has_en r).2 :=
  fn_true (Gk := fun k => f_i_Group_has_k g0 x1 k) (en := f_i_Group_has_en) Try.func38 E0ok f_i_Group_has_Mt (noL_true) f_i_Group_has_o (f_i_Group_has_e g0 x1) (f_i_Group_has_p g0 x1) h
def f_i_Group_has_c : CRow := fun args inh => match dec2 [.p .gr, .p (.int .i64)] [] args inh with
  | some ([.l g0, .i x1], []) => some ((f_i_Group_has g0 x1).isSome, (f_i_Group_has_en ((f_i_Group_has g0 x1).getD false)).1, (f_i_Group_has_en ((f_i_Group_has g0 x1).getD false)).2)
  | _ => none
theorem f_i_Group_has_cc : CTrue Try.prog 38 f_i_Group_has_c := by
  intro args inh rs out h
  unfold f_i_Group_has_c at h
  split at h
  · rename_i hd
    obtain ⟨h1, h2⟩ := dec2_enc hd
    rw [← h1, ← h2]
    exact rowC (f_i_Group_has_ok _ _) h
  · cases h

def f_i_gcd_F : Fi := { nv := 0, nc := 0, m := 0, vt := [], kl := [(0, ([2, 3, 4, 5, 6, 7, 8, 9, 10, 11], [1, 2, 3, 4, 5, 6, 7, 8, 9, 10, 11], [0, 1, 2, 3, 5, 6, 7, 8, 9, 10, 11]))], sk := [], mvs := [], fz := [] }
def f_i_gcd_a (a0 : Int) (b1 : Int) : List AV := enc [.p (.int .i64), .p (.int .i64)] [.i a0, .i b1]
def f_i_gcd_i (a0 : Int) (b1 : Int) : List AV := enc [] []
def f_i_gcd_en (r : Int) : List AV × List AV := (enc [.p (.int .i64)] [.i r], enc [] [])
def f_i_gcd_M : Calling := noC
theorem f_i_gcd_Mt : CallOk Try.prog (f_i_gcd_M) := noC_true
theorem f_i_gcd_o : loopsOnce Try.f68 = true := by kernel_rfl
def f_i_gcd_h0 : List Sh := [.p (.int .i64), .p (.int .i64), .u, .u, .u, .u, .u, .u, .u, .u, .u, .u]
def f_i_gcd_fr0 (s : Int × Int) : List AV := enc f_i_gcd_h0 [.i s.1, .i s.2]
def f_i_gcd_g0_1 : List Sh := [.p (.int .i64), .u, .u, .u, .u, .u, .u, .u, .u, .u, .u, .u]
def f_i_gcd_x0_1 (e : Int) : X × List AV := (.out 0, enc f_i_gcd_g0_1 [.i e])
def f_i_gcd_x0_2 (_e : Unit) : X × List AV := (.ret, [])
theorem f_i_gcd_p0 {R : Type} (s : Int × Int) (kN : Int × Int → Option R) (kA : Int → Option R) (kB : Unit → Option R) : f_i_gcd_k0 s.1 s.2 kN kA = (f_i_gcd_r0 s).bind (Ro.el kN kA kB) := by
  simp only [f_i_gcd_k0, f_i_gcd_r0, brB, someB, noneB, Ro.el]
theorem f_i_gcd_e0 (s : Int × Int) : EC E0 f_i_gcd_M H0 f_i_gcd_F (asL (noL)) 0 (bodyOf Try.f68 0) (f_i_gcd_fr0 s) (done (klOf f_i_gcd_F 0)) = f_i_gcd_k0 s.1 s.2 (fun s => some (.norm, f_i_gcd_fr0 s)) (fun e => some (f_i_gcd_x0_1 e)) := by kernel_rfl
theorem f_i_gcd_l0 : ∀ s r, loopL (f_i_gcd_r0) s = some r → LS Try.prog f_i_gcd_F (bodyOf Try.f68 0) (f_i_gcd_fr0 s) (enX (f_i_gcd_x0_1) (f_i_gcd_x0_2) r) :=
  loop_true E0ok f_i_gcd_Mt (noL_true) f_i_gcd_o (fun _ h => by cases h) (fun _ h => by cases h) (fun s => (f_i_gcd_e0 s).trans (f_i_gcd_p0 s _ _ (fun e => some (f_i_gcd_x0_2 e))))
def f_i_gcd_t0 (σ : List AV) : Option (Bool × Bool × (X × List AV) × (X × List AV)) := match dec f_i_gcd_h0 σ with
  | some [.i a0, .i b1] => some (isOne (loopL (f_i_gcd_r0) (a0, b1)), true, f_i_gcd_x0_1 (getOne 0 (loopL (f_i_gcd_r0) (a0, b1))), (.ret, []))
  | _ => none
theorem f_i_gcd_tt0 : TTrue Try.prog f_i_gcd_F Try.f68 0 (f_i_gcd_t0) := by
  intro σ p r r' h
  unfold f_i_gcd_t0 at h
  split at h
  · rename_i hd
    rw [← dec_enc hd]
    exact row1 (f_i_gcd_l0 _) h
  · cases h
theorem f_i_gcd_p {R : Type} (a0 : Int) (b1 : Int) (kR : Int → Option R) : f_i_gcd_k a0 b1 kR = (f_i_gcd_k a0 b1 some).bind kR := by
  simp only [f_i_gcd_k, bl1B, someB]
theorem f_i_gcd_e (a0 : Int) (b1 : Int) : runFn E0 f_i_gcd_M H0 f_i_gcd_F (asL (addL 0 (f_i_gcd_t0) (noL))) Try.f68 (f_i_gcd_a a0 b1) (f_i_gcd_i a0 b1) = f_i_gcd_k a0 b1 (fun r => some (f_i_gcd_en r)) := by kernel_rfl
theorem f_i_gcd_ok (a0 : Int) (b1 : Int) (r : Int) (h : f_i_gcd a0 b1 = some r) : CS Try.prog 68 (f_i_gcd_a a0 b1) (f_i_gcd_i a0 b1) (f_i_gcd_en r).1 (f_i_gcd_en r).2 :=
  fn_true (Gk := fun k => f_i_gcd_k a0 b1 k) (en := f_i_gcd_en) Try.func68 E0ok f_i_gcd_Mt (addL_true (f_i_gcd_tt0) (noL_true)) f_i_gcd_o (f_i_gcd_e a0 b1) (f_i_gcd_p a0 b1) h
def f_i_gcd_c : CRow := fun args inh => match dec2 [.p (.int .i64), .p (.int .i64)] [] args inh with
  | some ([.i a0, .i b1], []) => some ((f_i_gcd a0 b1).isSome, (f_i_gcd_en ((f_i_gcd a0 b1).getD 0)).1, (f_i_gcd_en ((f_i_gcd a0 b1).getD 0)).2)
  | _ => none
theorem f_i_gcd_cc : CTrue Try.prog 68 f_i_gcd_c := by
  intro args inh rs out h
  unfold f_i_gcd_c at h
  split at h
  · rename_i hd
    obtain ⟨h1, h2⟩ := dec2_enc hd
    rw [← h1, ← h2]
    exact rowC (f_i_gcd_ok _ _) h
  · cases h

def f_i_ExponentOf_F : Fi := { nv := 0, nc := 0, m := 0, vt := [], kl := [(0, ([0, 1, 2, 4, 5, 6, 7, 8, 9, 13, 14, 15, 16, 17, 18, 19, 20, 21, 22, 23, 24], [0, 1, 2, 4, 5, 6, 7, 8, 9, 10, 11, 12, 13, 14, 15, 16, 17, 18, 19, 20, 21, 22, 23, 24], [0, 1, 3, 4, 5, 6, 7, 8, 9, 10, 11, 12, 13, 14, 15, 16, 17, 18, 19, 20, 21, 22, 23, 24]))], sk := [], mvs := [], fz := [] }
def f_i_ExponentOf_a (g0 : List Sc) : List AV := enc [.p .gr] [.l g0]
def f_i_ExponentOf_i (g0 : List Sc) : List AV := enc [] []
def f_i_ExponentOf_en (r : Int) : List AV × List AV := (enc [.p (.int .i64)] [.i r], enc [] [])
def f_i_ExponentOf_M : Calling := addC 67 f_i_IsGroup_c (addC 68 f_i_gcd_c (noC))
theorem f_i_ExponentOf_Mt : CallOk Try.prog (f_i_ExponentOf_M) := addC_true f_i_IsGroup_cc (addC_true f_i_gcd_cc (noC_true))
theorem f_i_ExponentOf_o : loopsOnce Try.f39 = true := by kernel_rfl
def f_i_ExponentOf_h0 : List Sh := [.u, .u, .u, .p (.int .i64), .u, .u, .u, .u, .u, .u, .p .sl, .p (.int .i64), .p (.int .i64), .u, .u, .u, .u, .u, .u, .u, .u, .u, .u, .u, .u]
def f_i_ExponentOf_fr0 (t10 : List Sc) (t11 : Int) (s : Int × Int) : List AV := enc f_i_ExponentOf_h0 [.i s.1, .l t10, .i t11, .i s.2]
def f_i_ExponentOf_g0_1 : List Sh := [.u, .u, .u, .p (.int .i64), .u, .u, .u, .u, .u, .u, .u, .u, .u, .u, .u, .u, .u, .u, .u, .u, .u, .u, .u, .u, .u]
def f_i_ExponentOf_x0_1 (t10 : List Sc) (t11 : Int) (e : Int) : X × List AV := (.out 0, enc f_i_ExponentOf_g0_1 [.i e])
def f_i_ExponentOf_x0_2 (t10 : List Sc) (t11 : Int) (_e : Unit) : X × List AV := (.ret, [])
theorem f_i_ExponentOf_p0 {R : Type} (t10 : List Sc) (t11 : Int) (s : Int × Int) (kN : Int × Int → Option R) (kA : Int → Option R) (kB : Unit → Option R) : f_i_ExponentOf_k0 t10 t11 s.1 s.2 kN kA = (f_i_ExponentOf_r0 t10 t11 s).bind (Ro.el kN kA kB) := by
  simp only [f_i_ExponentOf_k0, f_i_ExponentOf_r0, brB, boB, someB, noneB, Ro.el]
theorem f_i_ExponentOf_e0 (t10 : List Sc) (t11 : Int) (s : Int × Int) : EC E0 f_i_ExponentOf_M H0 f_i_ExponentOf_F (asL (noL)) 0 (bodyOf Try.f39 0) (f_i_ExponentOf_fr0 t10 t11 s) (done (klOf f_i_ExponentOf_F 0)) = f_i_ExponentOf_k0 t10 t11 s.1 s.2 (fun s => some (.norm, f_i_ExponentOf_fr0 t10 t11 s)) (fun e => some (f_i_ExponentOf_x0_1 t10 t11 e)) := by kernel_rfl
theorem f_i_ExponentOf_l0 (t10 : List Sc) (t11 : Int) : ∀ s r, loopL (f_i_ExponentOf_r0 t10 t11) s = some r → LS Try.prog f_i_ExponentOf_F (bodyOf Try.f39 0) (f_i_ExponentOf_fr0 t10 t11 s) (enX (f_i_ExponentOf_x0_1 t10 t11) (f_i_ExponentOf_x0_2 t10 t11) r) :=
  loop_true E0ok f_i_ExponentOf_Mt (noL_true) f_i_ExponentOf_o (fun _ h => by cases h) (fun _ h => by cases h) (fun s => (f_i_ExponentOf_e0 t10 t11 s).trans (f_i_ExponentOf_p0 t10 t11 s _ _ (fun e => some (f_i_ExponentOf_x0_2 t10 t11 e))))
def f_i_ExponentOf_t0 (σ : List AV) : Option (Bool × Bool × (X × List AV) × (X × List AV)) := match dec f_i_ExponentOf_h0 σ with
  | some [.i n3, .l t10, .i t11, .i t12] => some (isOne (loopL (f_i_ExponentOf_r0 t10 t11) (n3, t12)), true, f_i_ExponentOf_x0_1 t10 t11 (getOne 0 (loopL (f_i_ExponentOf_r0 t10 t11) (n3, t12))), (.ret, []))
  | _ => none
theorem f_i_ExponentOf_tt0 : TTrue Try.prog f_i_ExponentOf_F Try.f39 0 (f_i_ExponentOf_t0) := by
  intro σ p r r' h
  unfold f_i_ExponentOf_t0 at h
  split at h
  · rename_i hd
    rw [← dec_enc hd]
    exact row1 (f_i_ExponentOf_l0 _ _ _) h
  · cases h
theorem f_i_ExponentOf_p {R : Type} (g0 : List Sc) (kR : Int → Option R) : f_i_ExponentOf_k g0 kR = (f_i_ExponentOf_k g0 some).bind kR := by
  simp only [f_i_ExponentOf_k, brB, boB, bl1B, someB]
theorem f_i_ExponentOf_e (g0 : List Sc) : runFn E0 f_i_ExponentOf_M H0 f_i_ExponentOf_F (asL (addL 0 (f_i_ExponentOf_t0) (noL))) Try.f39 (f_i_ExponentOf_a g0) (f_i_ExponentOf_i g0) = f_i_ExponentOf_k g0 (fun r => some (f_i_ExponentOf_en r)) := by kernel_rfl
theorem f_i_ExponentOf_ok (g0 : List Sc) (r : Int) (h : f_i_ExponentOf g0 = some r) : CS Try.prog 39 (f_i_ExponentOf_a g0) (f_i_ExponentOf_i g0) (f_i_ExponentOf_en r).1 (f_i_ExponentOf_en r).2 :=
  fn_true (Gk := fun k => f_i_ExponentOf_k g0 k) (en := f_i_ExponentOf_en) Try.func39 E0ok f_i_ExponentOf_Mt (addL_true (f_i_ExponentOf_tt0) (noL_true)) f_i_ExponentOf_o (f_i_ExponentOf_e g0) (f_i_ExponentOf_p g0) h
def f_i_ExponentOf_c : CRow := fun args inh => match dec2 [.p .gr] [] args inh with
  | some ([.l g0], []) => some ((f_i_ExponentOf g0).isSome, (f_i_ExponentOf_en ((f_i_ExponentOf g0).getD 0)).1, (f_i_ExponentOf_en ((f_i_ExponentOf g0).getD 0)).2)
  | _ => none
theorem f_i_ExponentOf_cc : CTrue Try.prog 39 f_i_ExponentOf_c := by
  intro args inh rs out h
  unfold f_i_ExponentOf_c at h
  split at h
  · rename_i hd
    obtain ⟨h1, h2⟩ := dec2_enc hd
    rw [← h1, ← h2]
    exact rowC (f_i_ExponentOf_ok _) h
  · cases h

def f_i_Group_places_F : Fi := { nv := 0, nc := 0, m := 0, vt := [], kl := [(0, ([0, 2, 3, 4, 6, 7, 8, 9, 13, 14, 15, 16, 17, 18, 19, 20, 21, 22, 23, 24, 25, 26], [0, 1, 2, 3, 4, 6, 7, 8, 9, 10, 11, 12, 13, 14, 15, 16, 17, 18, 19, 20, 21, 22, 23, 24, 25, 26], [0, 1, 2, 3, 5, 6, 7, 8, 9, 10, 11, 12, 13, 14, 15, 16, 17, 18, 19, 20, 21, 22, 23, 24, 25, 26]))], sk := [], mvs := [], fz := [] }
def f_i_Group_places_a (g0 : List Sc) (x1 : Int) : List AV := enc [.p .gr, .p (.int .i64)] [.l g0, .i x1]
def f_i_Group_places_i (g0 : List Sc) (x1 : Int) : List AV := enc [] []
def f_i_Group_places_en (r : List Sc) : List AV × List AV := (enc [.p (.al 0)] [], enc [.own 3] [.l r])
def f_i_Group_places_M : Calling := noC
theorem f_i_Group_places_Mt : CallOk Try.prog (f_i_Group_places_M) := noC_true
theorem f_i_Group_places_o : loopsOnce Try.f40 = true := by kernel_rfl
def f_i_Group_places_h0 : List Sh := [.u, .p (.int .i64), .u, .u, .u, .own 3, .u, .u, .u, .u, .p .sl, .p (.int .i64), .p (.int .i64), .u, .u, .u, .u, .u, .u, .u, .u, .u, .u, .u, .u, .u, .u]
def f_i_Group_places_fr0 (t10 : List Sc) (t11 : Int) (s : Int × List Sc × Int) : List AV := enc f_i_Group_places_h0 [.i s.1, .l s.2.1, .l t10, .i t11, .i s.2.2]
def f_i_Group_places_g0_1 : List Sh := [.u, .u, .u, .u, .u, .own 3, .u, .u, .u, .u, .u, .u, .u, .u, .u, .u, .u, .u, .u, .u, .u, .u, .u, .u, .u, .u, .u]
def f_i_Group_places_x0_1 (t10 : List Sc) (t11 : Int) (e : List Sc) : X × List AV := (.out 0, enc f_i_Group_places_g0_1 [.l e])
def f_i_Group_places_x0_2 (t10 : List Sc) (t11 : Int) (_e : Unit) : X × List AV := (.ret, [])
theorem f_i_Group_places_p0 {R : Type} (t10 : List Sc) (t11 : Int) (s : Int × List Sc × Int) (kN : Int × List Sc × Int → Option R) (kA : List Sc → Option R) (kB : Unit → Option R) : f_i_Group_places_k0 t10 t11 s.1 s.2.1 s.2.2 kN kA = (f_i_Group_places_r0 t10 t11 s).bind (Ro.el kN kA kB) := by
  simp only [f_i_Group_places_k0, f_i_Group_places_r0, brB, someB, noneB, Ro.el]
theorem f_i_Group_places_e0 (t10 : List Sc) (t11 : Int) (s : Int × List Sc × Int) : EC E0 f_i_Group_places_M H0 f_i_Group_places_F (asL (noL)) 0 (bodyOf Try.f40 0) (f_i_Group_places_fr0 t10 t11 s) (done (klOf f_i_Group_places_F 0)) = f_i_Group_places_k0 t10 t11 s.1 s.2.1 s.2.2 (fun s => some (.norm, f_i_Group_places_fr0 t10 t11 s)) (fun e => some (f_i_Group_places_x0_1 t10 t11 e)) := by kernel_rfl
theorem f_i_Group_places_l0 (t10 : List Sc) (t11 : Int) : ∀ s r, loopL (f_i_Group_places_r0 t10 t11) s = some r → LS Try.prog f_i_Group_places_F (bodyOf Try.f40 0) (f_i_Group_places_fr0 t10 t11 s) (enX (f_i_Group_places_x0_1 t10 t11) (f_i_Group_places_x0_2 t10 t11) r) :=
  loop_true E0ok f_i_Group_places_Mt (noL_true) f_i_Group_places_o (fun _ h => by cases h) (fun _ h => by cases h) (fun s => (f_i_Group_places_e0 t10 t11 s).trans (f_i_Group_places_p0 t10 t11 s _ _ (fun e => some (f_i_Group_places_x0_2 t10 t11 e))))
def f_i_Group_places_t0 (σ : List AV) : Option (Bool × Bool × (X × List AV) × (X × List AV)) := match dec f_i_Group_places_h0 σ with
  | some [.i x1, .l out5, .l t10, .i t11, .i t12] => some (isOne (loopL (f_i_Group_places_r0 t10 t11) (x1, out5, t12)), true, f_i_Group_places_x0_1 t10 t11 (getOne [] (loopL (f_i_Group_places_r0 t10 t11) (x1, out5, t12))), (.ret, []))
  | _ => none
theorem f_i_Group_places_tt0 : TTrue Try.prog f_i_Group_places_F Try.f40 0 (f_i_Group_places_t0) := by
  intro σ p r r' h
  unfold f_i_Group_places_t0 at h
  split at h
  · rename_i hd
    rw [← dec_enc hd]
    exact row1 (f_i_Group_places_l0 _ _ _) h
  · cases h
theorem f_i_Group_places_p {R : Type} (g0 : List Sc) (x1 : Int) (kR : List Sc → Option R) : f_i_Group_places_k g0 x1 kR = (f_i_Group_places_k g0 x1 some).bind kR := by
  simp only [f_i_Group_places_k, bl1B, someB]
theorem f_i_Group_places_e (g0 : List Sc) (x1 : Int) : runFn E0 f_i_Group_places_M H0 f_i_Group_places_F (asL (addL 0 (f_i_Group_places_t0) (noL))) Try.f40 (f_i_Group_places_a g0 x1) (f_i_Group_places_i g0 x1) = f_i_Group_places_k g0 x1 (fun r => some (f_i_Group_places_en r)) := by kernel_rfl
theorem f_i_Group_places_ok (g0 : List Sc) (x1 : Int) (r : List Sc) (h : f_i_Group_places g0 x1 = some r) : CS Try.prog 40 (f_i_Group_places_a g0 x1) (f_i_Group_places_i g0 x1) (f_i_Group_places_en r).1 (f_i_Group_places_en r).2 :=
  fn_true (Gk := fun k => f_i_Group_places_k g0 x1 k) (en := f_i_Group_places_en) Try.func40 E0ok f_i_Group_places_Mt (addL_true (f_i_Group_places_tt0) (noL_true)) f_i_Group_places_o (f_i_Group_places_e g0 x1) (f_i_Group_places_p g0 x1) h
def f_i_Group_places_c : CRow := fun args inh => match dec2 [.p .gr, .p (.int .i64)] [] args inh with
  | some ([.l g0, .i x1], []) => some ((f_i_Group_places g0 x1).isSome, (f_i_Group_places_en ((f_i_Group_places g0 x1).getD [])).1, (f_i_Group_places_en ((f_i_Group_places g0 x1).getD [])).2)
  | _ => none
theorem f_i_Group_places_cc : CTrue Try.prog 40 f_i_Group_places_c := by
  intro args inh rs out h
  unfold f_i_Group_places_c at h
  split at h
  · rename_i hd
    obtain ⟨h1, h2⟩ := dec2_enc hd
    rw [← h1, ← h2]
    exact rowC (f_i_Group_places_ok _ _) h
  · cases h

def f_i_CharacterValue_F : Fi := { nv := 0, nc := 0, m := 0, vt := [], kl := [(0, ([0, 1, 2, 3, 4, 5, 6, 11, 12, 13, 14, 15, 16, 17, 18, 19, 20, 21, 22, 23, 24, 25, 26, 27, 28, 29, 30, 31, 35, 36, 37, 38, 39, 40, 41, 42, 43, 44, 45, 46, 47, 48, 49, 50, 51, 52, 53, 54, 55, 56, 57], [0, 1, 2, 3, 4, 5, 6, 8, 9, 11, 12, 13, 14, 15, 16, 17, 18, 19, 20, 21, 22, 23, 24, 25, 26, 27, 28, 29, 30, 31, 32, 33, 34, 35, 36, 37, 38, 39, 40, 41, 42, 43, 44, 45, 46, 47, 48, 49, 50, 51, 52, 53, 54, 55, 56, 57], [0, 1, 2, 3, 4, 5, 7, 8, 9, 10, 11, 12, 13, 14, 15, 16, 17, 18, 19, 20, 21, 22, 23, 24, 25, 26, 27, 28, 29, 30, 31, 32, 33, 34, 35, 36, 37, 38, 39, 40, 41, 42, 43, 44, 45, 46, 47, 48, 49, 50, 51, 52, 53, 54, 55, 56, 57]))], sk := [], mvs := [], fz := [] }
def f_i_CharacterValue_a (g0 : List Sc) (k1 : Int) (x2 : Int) : List AV := enc [.p .gr, .p (.int .i64), .p (.int .i64)] [.l g0, .i k1, .i x2]
def f_i_CharacterValue_i (g0 : List Sc) (k1 : Int) (x2 : Int) : List AV := enc [] []
def f_i_CharacterValue_en (r : Int) : List AV × List AV := (enc [.p (.int .i64)] [.i r], enc [] [])
def f_i_CharacterValue_M : Calling := addC 38 f_i_Group_has_c (addC 39 f_i_ExponentOf_c (addC 40 f_i_Group_places_c (noC)))
theorem f_i_CharacterValue_Mt : CallOk Try.prog (f_i_CharacterValue_M) := addC_true f_i_Group_has_cc (addC_true f_i_ExponentOf_cc (addC_true f_i_Group_places_cc (noC_true)))
theorem f_i_CharacterValue_o : loopsOnce Try.f6 = true := by kernel_rfl
def f_i_CharacterValue_h0 : List Sh := [.u, .u, .u, .u, .u, .u, .u, .p (.int .i64), .own 3, .own 3, .p (.int .i64), .u, .u, .u, .u, .u, .u, .u, .u, .u, .u, .u, .u, .u, .u, .u, .u, .u, .u, .u, .u, .u, .p .sl, .p (.int .i64), .p (.int .i64), .u, .u, .u, .u, .u, .u, .u, .u, .u, .u, .u, .u, .u, .u, .u, .u, .u, .u, .u, .u, .u, .u, .u]
def f_i_CharacterValue_fr0 (n7 : Int) (t32 : List Sc) (t33 : Int) (s : List Sc × List Sc × Int × Int) : List AV := enc f_i_CharacterValue_h0 [.i n7, .l s.1, .l s.2.1, .i s.2.2.1, .l t32, .i t33, .i s.2.2.2]
def f_i_CharacterValue_g0_1 : List Sh := [.u, .u, .u, .u, .u, .u, .u, .p (.int .i64), .u, .u, .p (.int .i64), .u, .u, .u, .u, .u, .u, .u, .u, .u, .u, .u, .u, .u, .u, .u, .u, .u, .u, .u, .u, .u, .u, .u, .u, .u, .u, .u, .u, .u, .u, .u, .u, .u, .u, .u, .u, .u, .u, .u, .u, .u, .u, .u, .u, .u, .u, .u]
def f_i_CharacterValue_x0_1 (n7 : Int) (t32 : List Sc) (t33 : Int) (e : Int) : X × List AV := (.out 0, enc f_i_CharacterValue_g0_1 [.i n7, .i e])
def f_i_CharacterValue_x0_2 (n7 : Int) (t32 : List Sc) (t33 : Int) (_e : Unit) : X × List AV := (.ret, [])
theorem f_i_CharacterValue_p0 {R : Type} (n7 : Int) (t32 : List Sc) (t33 : Int) (s : List Sc × List Sc × Int × Int) (kN : List Sc × List Sc × Int × Int → Option R) (kA : Int → Option R) (kB : Unit → Option R) : f_i_CharacterValue_k0 n7 t32 t33 s.1 s.2.1 s.2.2.1 s.2.2.2 kN kA = (f_i_CharacterValue_r0 n7 t32 t33 s).bind (Ro.el kN kA kB) := by
  simp only [f_i_CharacterValue_k0, f_i_CharacterValue_r0, brB, someB, noneB, Ro.el]
theorem f_i_CharacterValue_e0 (n7 : Int) (t32 : List Sc) (t33 : Int) (s : List Sc × List Sc × Int × Int) : EC E0 f_i_CharacterValue_M H0 f_i_CharacterValue_F (asL (noL)) 0 (bodyOf Try.f6 0) (f_i_CharacterValue_fr0 n7 t32 t33 s) (done (klOf f_i_CharacterValue_F 0)) = f_i_CharacterValue_k0 n7 t32 t33 s.1 s.2.1 s.2.2.1 s.2.2.2 (fun s => some (.norm, f_i_CharacterValue_fr0 n7 t32 t33 s)) (fun e => some (f_i_CharacterValue_x0_1 n7 t32 t33 e)) := by kernel_rfl
theorem f_i_CharacterValue_l0 (n7 : Int) (t32 : List Sc) (t33 : Int) : ∀ s r, loopL (f_i_CharacterValue_r0 n7 t32 t33) s = some r → LS Try.prog f_i_CharacterValue_F (bodyOf Try.f6 0) (f_i_CharacterValue_fr0 n7 t32 t33 s) (enX (f_i_CharacterValue_x0_1 n7 t32 t33) (f_i_CharacterValue_x0_2 n7 t32 t33) r) :=
  loop_true E0ok f_i_CharacterValue_Mt (noL_true) f_i_CharacterValue_o (fun _ h => by cases h) (fun _ h => by cases h) (fun s => (f_i_CharacterValue_e0 n7 t32 t33 s).trans (f_i_CharacterValue_p0 n7 t32 t33 s _ _ (fun e => some (f_i_CharacterValue_x0_2 n7 t32 t33 e))))
def f_i_CharacterValue_t0 (σ : List AV) : Option (Bool × Bool × (X × List AV) × (X × List AV)) := match dec f_i_CharacterValue_h0 σ with
  | some [.i n7, .l p8, .l q9, .i e10, .l t32, .i t33, .i t34] => some (isOne (loopL (f_i_CharacterValue_r0 n7 t32 t33) (p8, q9, e10, t34)), true, f_i_CharacterValue_x0_1 n7 t32 t33 (getOne 0 (loopL (f_i_CharacterValue_r0 n7 t32 t33) (p8, q9, e10, t34))), (.ret, []))
  | _ => none
theorem f_i_CharacterValue_tt0 : TTrue Try.prog f_i_CharacterValue_F Try.f6 0 (f_i_CharacterValue_t0) := by
  intro σ p r r' h
  unfold f_i_CharacterValue_t0 at h
  split at h
  · rename_i hd
    rw [← dec_enc hd]
    exact row1 (f_i_CharacterValue_l0 _ _ _ _) h
  · cases h
theorem f_i_CharacterValue_p {R : Type} (g0 : List Sc) (k1 : Int) (x2 : Int) (kR : Int → Option R) : f_i_CharacterValue_k g0 k1 x2 kR = (f_i_CharacterValue_k g0 k1 x2 some).bind kR := by
  simp only [f_i_CharacterValue_k, brB, boB, bl1B, someB, noneB]
theorem f_i_CharacterValue_e (g0 : List Sc) (k1 : Int) (x2 : Int) : runFn E0 f_i_CharacterValue_M H0 f_i_CharacterValue_F (asL (addL 0 (f_i_CharacterValue_t0) (noL))) Try.f6 (f_i_CharacterValue_a g0 k1 x2) (f_i_CharacterValue_i g0 k1 x2) = f_i_CharacterValue_k g0 k1 x2 (fun r => some (f_i_CharacterValue_en r)) := by kernel_rfl
theorem f_i_CharacterValue_ok (g0 : List Sc) (k1 : Int) (x2 : Int) (r : Int) (h : f_i_CharacterValue g0 k1 x2 = some r) : CS Try.prog 6 (f_i_CharacterValue_a g0 k1 x2) (f_i_CharacterValue_i g0 k1 x2) (f_i_CharacterValue_en r).1 (f_i_CharacterValue_en r).2 :=
  fn_true (Gk := fun k => f_i_CharacterValue_k g0 k1 x2 k) (en := f_i_CharacterValue_en) Try.func6 E0ok f_i_CharacterValue_Mt (addL_true (f_i_CharacterValue_tt0) (noL_true)) f_i_CharacterValue_o (f_i_CharacterValue_e g0 k1 x2) (f_i_CharacterValue_p g0 k1 x2) h
def f_i_CharacterValue_c : CRow := fun args inh => match dec2 [.p .gr, .p (.int .i64), .p (.int .i64)] [] args inh with
  | some ([.l g0, .i k1, .i x2], []) => some ((f_i_CharacterValue g0 k1 x2).isSome, (f_i_CharacterValue_en ((f_i_CharacterValue g0 k1 x2).getD 0)).1, (f_i_CharacterValue_en ((f_i_CharacterValue g0 k1 x2).getD 0)).2)
  | _ => none
theorem f_i_CharacterValue_cc : CTrue Try.prog 6 f_i_CharacterValue_c := by
  intro args inh rs out h
  unfold f_i_CharacterValue_c at h
  split at h
  · rename_i hd
    obtain ⟨h1, h2⟩ := dec2_enc hd
    rw [← h1, ← h2]
    exact rowC (f_i_CharacterValue_ok _ _ _) h
  · cases h

def f_s_l2Is_F : Fi := { nv := 0, nc := 0, m := 0, vt := [], kl := [], sk := [], mvs := [], fz := [] }
def f_s_l2Is_a (g0 : List Sc) (x1 : Int) : List AV := enc [.p .gr, .p (.int .i64)] [.l g0, .i x1]
def f_s_l2Is_i (g0 : List Sc) (x1 : Int) : List AV := enc [] []
def f_s_l2Is_en (r : Bool) : List AV × List AV := (enc [.p .boo] [.b r], enc [] [])
def f_s_l2Is_M : Calling := addC 9 f_s_OrderOf_c (noC)
theorem f_s_l2Is_Mt : CallOk Try.prog (f_s_l2Is_M) := addC_true f_s_OrderOf_cc (noC_true)
theorem f_s_l2Is_o : loopsOnce Try.f41 = true := by kernel_rfl
theorem f_s_l2Is_p {R : Type} (g0 : List Sc) (x1 : Int) (kR : Bool → Option R) : f_s_l2Is_k g0 x1 kR = (f_s_l2Is_k g0 x1 some).bind kR := by
  simp only [f_s_l2Is_k, brB, boB, someB]
theorem f_s_l2Is_e (g0 : List Sc) (x1 : Int) : runFn E0 f_s_l2Is_M H0 f_s_l2Is_F (asL (noL)) Try.f41 (f_s_l2Is_a g0 x1) (f_s_l2Is_i g0 x1) = f_s_l2Is_k g0 x1 (fun r => some (f_s_l2Is_en r)) := by kernel_rfl
theorem f_s_l2Is_ok (g0 : List Sc) (x1 : Int) (r : Bool) (h : f_s_l2Is g0 x1 = some r) : CS Try.prog 41 (f_s_l2Is_a g0 x1) (f_s_l2Is_i g0 x1) (f_s_l2Is_en r).1 (f_s_l2Is_en r).2 :=
  fn_true (Gk := fun k => f_s_l2Is_k g0 x1 k) (en := f_s_l2Is_en) Try.func41 E0ok f_s_l2Is_Mt (noL_true) f_s_l2Is_o (f_s_l2Is_e g0 x1) (f_s_l2Is_p g0 x1) h
def f_s_l2Is_c : CRow := fun args inh => match dec2 [.p .gr, .p (.int .i64)] [] args inh with
  | some ([.l g0, .i x1], []) => some ((f_s_l2Is g0 x1).isSome, (f_s_l2Is_en ((f_s_l2Is g0 x1).getD false)).1, (f_s_l2Is_en ((f_s_l2Is g0 x1).getD false)).2)
  | _ => none
theorem f_s_l2Is_cc : CTrue Try.prog 41 f_s_l2Is_c := by
  intro args inh rs out h
  unfold f_s_l2Is_c at h
  split at h
  · rename_i hd
    obtain ⟨h1, h2⟩ := dec2_enc hd
    rw [← h1, ← h2]
    exact rowC (f_s_l2Is_ok _ _) h
  · cases h

def f_s_ExponentOf_F : Fi := { nv := 0, nc := 0, m := 0, vt := [], kl := [(2, ([0, 2, 6, 7, 8, 9, 10, 11, 12, 13, 14, 15, 16, 17, 18, 19, 20, 21, 22, 23, 24, 25, 26, 27, 28, 29], [0, 2, 3, 6, 7, 8, 9, 10, 11, 12, 13, 14, 15, 16, 17, 18, 19, 20, 21, 22, 23, 24, 25, 26, 27, 28, 29], [0, 1, 3, 4, 5, 6, 7, 8, 9, 10, 11, 12, 13, 14, 15, 16, 17, 18, 19, 20, 21, 22, 23, 24, 25, 26, 27, 28, 29])), (0, ([0, 2, 5, 6, 7, 8, 9, 10, 11, 12, 13, 14, 15, 16, 17, 18, 19, 20, 21, 22, 23, 24, 25, 26, 27, 28, 29], [0, 2, 6, 7, 8, 9, 10, 11, 12, 13, 14, 15, 16, 17, 18, 19, 20, 21, 22, 23, 24, 25, 26, 27, 28, 29], [0, 1, 3, 4, 5, 6, 7, 8, 9, 10, 11, 12, 13, 14, 15, 16, 17, 18, 19, 20, 21, 22, 23, 24, 25, 26, 27, 28, 29]))], sk := [], mvs := [], fz := [] }
def f_s_ExponentOf_a (g0 : List Sc) : List AV := enc [.p .gr] [.l g0]
def f_s_ExponentOf_i (g0 : List Sc) : List AV := enc [] []
def f_s_ExponentOf_en (r : Int) : List AV × List AV := (enc [.p (.int .i64)] [.i r], enc [] [])
def f_s_ExponentOf_M : Calling := addC 43 f_s_IsGroup_c (noC)
theorem f_s_ExponentOf_Mt : CallOk Try.prog (f_s_ExponentOf_M) := addC_true f_s_IsGroup_cc (noC_true)
theorem f_s_ExponentOf_o : loopsOnce Try.f10 = true := by kernel_rfl
def f_s_ExponentOf_h2 : List Sh := [.u, .p .el, .u, .p (.int .i64), .p (.int .i64), .p (.int .i64), .u, .u, .u, .u, .u, .u, .u, .u, .u, .u, .u, .u, .u, .u, .u, .u, .u, .u, .u, .u, .u, .u, .u, .u]
def f_s_ExponentOf_fr2 (g1 : List Sc) (e3 : Int) (i4 : Int) (s : Int) : List AV := enc f_s_ExponentOf_h2 [.l g1, .i e3, .i i4, .i s]
def f_s_ExponentOf_g2_1 : List Sh := [.u, .p .el, .u, .u, .p (.int .i64), .p (.int .i64), .u, .u, .u, .u, .u, .u, .u, .u, .u, .u, .u, .u, .u, .u, .u, .u, .u, .u, .u, .u, .u, .u, .u, .u]
def f_s_ExponentOf_x2_1 (g1 : List Sc) (e3 : Int) (i4 : Int) (e : Int) : X × List AV := (.out 2, enc f_s_ExponentOf_g2_1 [.l g1, .i i4, .i e])
def f_s_ExponentOf_x2_2 (g1 : List Sc) (e3 : Int) (i4 : Int) (_e : Unit) : X × List AV := (.ret, [])
theorem f_s_ExponentOf_p2 {R : Type} (g1 : List Sc) (e3 : Int) (i4 : Int) (s : Int) (kN : Int → Option R) (kA : Int → Option R) (kB : Unit → Option R) : f_s_ExponentOf_k2 g1 e3 i4 s kN kA = (f_s_ExponentOf_r2 g1 e3 i4 s).bind (Ro.el kN kA kB) := by
  simp only [f_s_ExponentOf_k2, f_s_ExponentOf_r2, brB, someB, noneB, Ro.el]
theorem f_s_ExponentOf_e2 (g1 : List Sc) (e3 : Int) (i4 : Int) (s : Int) : EC E0 f_s_ExponentOf_M H0 f_s_ExponentOf_F (asL (noL)) 2 (bodyOf Try.f10 2) (f_s_ExponentOf_fr2 g1 e3 i4 s) (done (klOf f_s_ExponentOf_F 2)) = f_s_ExponentOf_k2 g1 e3 i4 s (fun s => some (.norm, f_s_ExponentOf_fr2 g1 e3 i4 s)) (fun e => some (f_s_ExponentOf_x2_1 g1 e3 i4 e)) := by kernel_rfl
theorem f_s_ExponentOf_l2 (g1 : List Sc) (e3 : Int) (i4 : Int) : ∀ s r, loopL (f_s_ExponentOf_r2 g1 e3 i4) s = some r → LS Try.prog f_s_ExponentOf_F (bodyOf Try.f10 2) (f_s_ExponentOf_fr2 g1 e3 i4 s) (enX (f_s_ExponentOf_x2_1 g1 e3 i4) (f_s_ExponentOf_x2_2 g1 e3 i4) r) :=
  loop_true E0ok f_s_ExponentOf_Mt (noL_true) f_s_ExponentOf_o (fun _ h => by cases h) (fun _ h => by cases h) (fun s => (f_s_ExponentOf_e2 g1 e3 i4 s).trans (f_s_ExponentOf_p2 g1 e3 i4 s _ _ (fun e => some (f_s_ExponentOf_x2_2 g1 e3 i4 e))))
def f_s_ExponentOf_t2 (σ : List AV) : Option (Bool × Bool × (X × List AV) × (X × List AV)) := match dec f_s_ExponentOf_h2 σ with
  | some [.l g1, .i e3, .i i4, .i x5] => some (isOne (loopL (f_s_ExponentOf_r2 g1 e3 i4) x5), true, f_s_ExponentOf_x2_1 g1 e3 i4 (getOne 0 (loopL (f_s_ExponentOf_r2 g1 e3 i4) x5)), (.ret, []))
  | _ => none
theorem f_s_ExponentOf_tt2 : TTrue Try.prog f_s_ExponentOf_F Try.f10 2 (f_s_ExponentOf_t2) := by
  intro σ p r r' h
  unfold f_s_ExponentOf_t2 at h
  split at h
  · rename_i hd
    rw [← dec_enc hd]
    exact row1 (f_s_ExponentOf_l2 _ _ _ _) h
  · cases h
def f_s_ExponentOf_h0 : List Sh := [.u, .p .el, .u, .p (.int .i64), .p (.int .i64), .u, .u, .u, .u, .u, .u, .u, .u, .u, .u, .u, .u, .u, .u, .u, .u, .u, .u, .u, .u, .u, .u, .u, .u, .u]
def f_s_ExponentOf_fr0 (g1 : List Sc) (s : Int × Int) : List AV := enc f_s_ExponentOf_h0 [.l g1, .i s.1, .i s.2]
def f_s_ExponentOf_g0_1 : List Sh := [.u, .p .el, .u, .p (.int .i64), .p (.int .i64), .u, .u, .u, .u, .u, .u, .u, .u, .u, .u, .u, .u, .u, .u, .u, .u, .u, .u, .u, .u, .u, .u, .u, .u, .u]
def f_s_ExponentOf_x0_1 (g1 : List Sc) (e : Int × Int) : X × List AV := (.out 0, enc f_s_ExponentOf_g0_1 [.l g1, .i e.1, .i e.2])
def f_s_ExponentOf_x0_2 (g1 : List Sc) (_e : Unit) : X × List AV := (.ret, [])
theorem f_s_ExponentOf_p0 {R : Type} (g1 : List Sc) (s : Int × Int) (kN : Int × Int → Option R) (kA : Int × Int → Option R) (kB : Unit → Option R) : f_s_ExponentOf_k0 g1 s.1 s.2 kN kA = (f_s_ExponentOf_r0 g1 s).bind (Ro.el kN kA kB) := by
  simp only [f_s_ExponentOf_k0, f_s_ExponentOf_r0, brB, bl1B, someB, Ro.el]
theorem f_s_ExponentOf_e0 (g1 : List Sc) (s : Int × Int) : EC E0 f_s_ExponentOf_M H0 f_s_ExponentOf_F (asL (addL 2 (f_s_ExponentOf_t2) (noL))) 0 (bodyOf Try.f10 0) (f_s_ExponentOf_fr0 g1 s) (done (klOf f_s_ExponentOf_F 0)) = f_s_ExponentOf_k0 g1 s.1 s.2 (fun s => some (.norm, f_s_ExponentOf_fr0 g1 s)) (fun e => some (f_s_ExponentOf_x0_1 g1 e)) := by kernel_rfl
theorem f_s_ExponentOf_l0 (g1 : List Sc) : ∀ s r, loopL (f_s_ExponentOf_r0 g1) s = some r → LS Try.prog f_s_ExponentOf_F (bodyOf Try.f10 0) (f_s_ExponentOf_fr0 g1 s) (enX (f_s_ExponentOf_x0_1 g1) (f_s_ExponentOf_x0_2 g1) r) :=
  loop_true E0ok f_s_ExponentOf_Mt (addL_true (f_s_ExponentOf_tt2) (noL_true)) f_s_ExponentOf_o (fun _ h => by cases h) (fun _ h => by cases h) (fun s => (f_s_ExponentOf_e0 g1 s).trans (f_s_ExponentOf_p0 g1 s _ _ (fun e => some (f_s_ExponentOf_x0_2 g1 e))))
def f_s_ExponentOf_t0 (σ : List AV) : Option (Bool × Bool × (X × List AV) × (X × List AV)) := match dec f_s_ExponentOf_h0 σ with
  | some [.l g1, .i e3, .i i4] => some (isOne (loopL (f_s_ExponentOf_r0 g1) (e3, i4)), true, f_s_ExponentOf_x0_1 g1 (getOne (0, 0) (loopL (f_s_ExponentOf_r0 g1) (e3, i4))), (.ret, []))
  | _ => none
theorem f_s_ExponentOf_tt0 : TTrue Try.prog f_s_ExponentOf_F Try.f10 0 (f_s_ExponentOf_t0) := by
  intro σ p r r' h
  unfold f_s_ExponentOf_t0 at h
  split at h
  · rename_i hd
    rw [← dec_enc hd]
    exact row1 (f_s_ExponentOf_l0 _ _) h
  · cases h
theorem f_s_ExponentOf_p {R : Type} (g0 : List Sc) (kR : Int → Option R) : f_s_ExponentOf_k g0 kR = (f_s_ExponentOf_k g0 some).bind kR := by
  simp only [f_s_ExponentOf_k, brB, boB, bl1B, someB]
theorem f_s_ExponentOf_e (g0 : List Sc) : runFn E0 f_s_ExponentOf_M H0 f_s_ExponentOf_F (asL (addL 0 (f_s_ExponentOf_t0) (addL 2 (f_s_ExponentOf_t2) (noL)))) Try.f10 (f_s_ExponentOf_a g0) (f_s_ExponentOf_i g0) = f_s_ExponentOf_k g0 (fun r => some (f_s_ExponentOf_en r)) := by kernel_rfl
theorem f_s_ExponentOf_ok (g0 : List Sc) (r : Int) (h : f_s_ExponentOf g0 = some r) : CS Try.prog 10 (f_s_ExponentOf_a g0) (f_s_ExponentOf_i g0) (f_s_ExponentOf_en r).1 (f_s_ExponentOf_en r).2 :=
  fn_true (Gk := fun k => f_s_ExponentOf_k g0 k) (en := f_s_ExponentOf_en) Try.func10 E0ok f_s_ExponentOf_Mt (addL_true (f_s_ExponentOf_tt0) (addL_true (f_s_ExponentOf_tt2) (noL_true))) f_s_ExponentOf_o (f_s_ExponentOf_e g0) (f_s_ExponentOf_p g0) h
def f_s_ExponentOf_c : CRow := fun args inh => match dec2 [.p .gr] [] args inh with
  | some ([.l g0], []) => some ((f_s_ExponentOf g0).isSome, (f_s_ExponentOf_en ((f_s_ExponentOf g0).getD 0)).1, (f_s_ExponentOf_en ((f_s_ExponentOf g0).getD 0)).2)
  | _ => none
theorem f_s_ExponentOf_cc : CTrue Try.prog 10 f_s_ExponentOf_c := by
  intro args inh rs out h
  unfold f_s_ExponentOf_c at h
  split at h
  · rename_i hd
    obtain ⟨h1, h2⟩ := dec2_enc hd
    rw [← h1, ← h2]
    exact rowC (f_s_ExponentOf_ok _) h
  · cases h

def f_s_l7Value_F : Fi := { nv := 0, nc := 0, m := 0, vt := [], kl := [(0, ([0, 4, 5, 6, 10, 11, 12, 13, 14, 15, 16, 17, 18, 19, 20, 21, 22, 23, 24, 25, 26, 27, 28, 29, 30, 31, 32, 33, 34, 35, 36, 37, 38, 39, 40, 41, 42, 43, 44, 45, 46], [0, 1, 2, 3, 4, 5, 6, 9, 10, 11, 12, 13, 14, 15, 16, 17, 18, 19, 20, 21, 22, 23, 24, 25, 26, 27, 28, 29, 30, 31, 32, 33, 34, 35, 36, 37, 38, 39, 40, 41, 42, 43, 44, 45, 46], [0, 1, 2, 3, 4, 5, 7, 8, 9, 10, 11, 12, 13, 14, 15, 16, 17, 18, 19, 20, 21, 22, 23, 24, 25, 26, 27, 28, 29, 30, 31, 32, 33, 34, 35, 36, 37, 38, 39, 40, 41, 42, 43, 44, 45, 46]))], sk := [], mvs := [], fz := [] }
def f_s_l7Value_a (g0 : List Sc) (k1 : Int) (x2 : Int) : List AV := enc [.p .gr, .p (.int .i64), .p (.int .i64)] [.l g0, .i k1, .i x2]
def f_s_l7Value_i (g0 : List Sc) (k1 : Int) (x2 : Int) : List AV := enc [] []
def f_s_l7Value_en (r : Int) : List AV × List AV := (enc [.p (.int .i64)] [.i r], enc [] [])
def f_s_l7Value_M : Calling := addC 10 f_s_ExponentOf_c (noC)
theorem f_s_l7Value_Mt : CallOk Try.prog (f_s_l7Value_M) := addC_true f_s_ExponentOf_cc (noC_true)
theorem f_s_l7Value_o : loopsOnce Try.f42 = true := by kernel_rfl
def f_s_l7Value_h0 : List Sh := [.u, .p (.int .i64), .p (.int .i64), .p .el, .u, .u, .u, .p (.int .i64), .p (.int .i64), .p (.int .i64), .u, .u, .u, .u, .u, .u, .u, .u, .u, .u, .u, .u, .u, .u, .u, .u, .u, .u, .u, .u, .u, .u, .u, .u, .u, .u, .u, .u, .u, .u, .u, .u, .u, .u, .u, .u, .u]
def f_s_l7Value_fr0 (g3 : List Sc) (e7 : Int) (s : Int × Int × Int × Int) : List AV := enc f_s_l7Value_h0 [.i s.1, .i s.2.1, .l g3, .i e7, .i s.2.2.1, .i s.2.2.2]
def f_s_l7Value_g0_1 : List Sh := [.u, .u, .u, .u, .u, .u, .u, .p (.int .i64), .p (.int .i64), .u, .u, .u, .u, .u, .u, .u, .u, .u, .u, .u, .u, .u, .u, .u, .u, .u, .u, .u, .u, .u, .u, .u, .u, .u, .u, .u, .u, .u, .u, .u, .u, .u, .u, .u, .u, .u, .u]
def f_s_l7Value_x0_1 (g3 : List Sc) (e7 : Int) (e : Int) : X × List AV := (.out 0, enc f_s_l7Value_g0_1 [.i e7, .i e])
def f_s_l7Value_x0_2 (g3 : List Sc) (e7 : Int) (_e : Unit) : X × List AV := (.ret, [])
theorem f_s_l7Value_p0 {R : Type} (g3 : List Sc) (e7 : Int) (s : Int × Int × Int × Int) (kN : Int × Int × Int × Int → Option R) (kA : Int → Option R) (kB : Unit → Option R) : f_s_l7Value_k0 g3 e7 s.1 s.2.1 s.2.2.1 s.2.2.2 kN kA = (f_s_l7Value_r0 g3 e7 s).bind (Ro.el kN kA kB) := by
  simp only [f_s_l7Value_k0, f_s_l7Value_r0, brB, someB, noneB, Ro.el]
theorem f_s_l7Value_e0 (g3 : List Sc) (e7 : Int) (s : Int × Int × Int × Int) : EC E0 f_s_l7Value_M H0 f_s_l7Value_F (asL (noL)) 0 (bodyOf Try.f42 0) (f_s_l7Value_fr0 g3 e7 s) (done (klOf f_s_l7Value_F 0)) = f_s_l7Value_k0 g3 e7 s.1 s.2.1 s.2.2.1 s.2.2.2 (fun s => some (.norm, f_s_l7Value_fr0 g3 e7 s)) (fun e => some (f_s_l7Value_x0_1 g3 e7 e)) := by kernel_rfl
theorem f_s_l7Value_l0 (g3 : List Sc) (e7 : Int) : ∀ s r, loopL (f_s_l7Value_r0 g3 e7) s = some r → LS Try.prog f_s_l7Value_F (bodyOf Try.f42 0) (f_s_l7Value_fr0 g3 e7 s) (enX (f_s_l7Value_x0_1 g3 e7) (f_s_l7Value_x0_2 g3 e7) r) :=
  loop_true E0ok f_s_l7Value_Mt (noL_true) f_s_l7Value_o (fun _ h => by cases h) (fun _ h => by cases h) (fun s => (f_s_l7Value_e0 g3 e7 s).trans (f_s_l7Value_p0 g3 e7 s _ _ (fun e => some (f_s_l7Value_x0_2 g3 e7 e))))
def f_s_l7Value_t0 (σ : List AV) : Option (Bool × Bool × (X × List AV) × (X × List AV)) := match dec f_s_l7Value_h0 σ with
  | some [.i k1, .i x2, .l g3, .i e7, .i n8, .i i9] => some (isOne (loopL (f_s_l7Value_r0 g3 e7) (k1, x2, n8, i9)), true, f_s_l7Value_x0_1 g3 e7 (getOne 0 (loopL (f_s_l7Value_r0 g3 e7) (k1, x2, n8, i9))), (.ret, []))
  | _ => none
theorem f_s_l7Value_tt0 : TTrue Try.prog f_s_l7Value_F Try.f42 0 (f_s_l7Value_t0) := by
  intro σ p r r' h
  unfold f_s_l7Value_t0 at h
  split at h
  · rename_i hd
    rw [← dec_enc hd]
    exact row1 (f_s_l7Value_l0 _ _ _) h
  · cases h
theorem f_s_l7Value_p {R : Type} (g0 : List Sc) (k1 : Int) (x2 : Int) (kR : Int → Option R) : f_s_l7Value_k g0 k1 x2 kR = (f_s_l7Value_k g0 k1 x2 some).bind kR := by
  simp only [f_s_l7Value_k, brB, boB, bl1B, someB, noneB]
theorem f_s_l7Value_e (g0 : List Sc) (k1 : Int) (x2 : Int) : runFn E0 f_s_l7Value_M H0 f_s_l7Value_F (asL (addL 0 (f_s_l7Value_t0) (noL))) Try.f42 (f_s_l7Value_a g0 k1 x2) (f_s_l7Value_i g0 k1 x2) = f_s_l7Value_k g0 k1 x2 (fun r => some (f_s_l7Value_en r)) := by kernel_rfl
theorem f_s_l7Value_ok (g0 : List Sc) (k1 : Int) (x2 : Int) (r : Int) (h : f_s_l7Value g0 k1 x2 = some r) : CS Try.prog 42 (f_s_l7Value_a g0 k1 x2) (f_s_l7Value_i g0 k1 x2) (f_s_l7Value_en r).1 (f_s_l7Value_en r).2 :=
  fn_true (Gk := fun k => f_s_l7Value_k g0 k1 x2 k) (en := f_s_l7Value_en) Try.func42 E0ok f_s_l7Value_Mt (addL_true (f_s_l7Value_tt0) (noL_true)) f_s_l7Value_o (f_s_l7Value_e g0 k1 x2) (f_s_l7Value_p g0 k1 x2) h
def f_s_l7Value_c : CRow := fun args inh => match dec2 [.p .gr, .p (.int .i64), .p (.int .i64)] [] args inh with
  | some ([.l g0, .i k1, .i x2], []) => some ((f_s_l7Value g0 k1 x2).isSome, (f_s_l7Value_en ((f_s_l7Value g0 k1 x2).getD 0)).1, (f_s_l7Value_en ((f_s_l7Value g0 k1 x2).getD 0)).2)
  | _ => none
theorem f_s_l7Value_cc : CTrue Try.prog 42 f_s_l7Value_c := by
  intro args inh rs out h
  unfold f_s_l7Value_c at h
  split at h
  · rename_i hd
    obtain ⟨h1, h2⟩ := dec2_enc hd
    rw [← h1, ← h2]
    exact rowC (f_s_l7Value_ok _ _ _) h
  · cases h

def f_s_CharacterValue_F : Fi := { nv := 0, nc := 0, m := 0, vt := [], kl := [], sk := [], mvs := [], fz := [] }
def f_s_CharacterValue_a (g0 : List Sc) (k1 : Int) (x2 : Int) : List AV := enc [.p .gr, .p (.int .i64), .p (.int .i64)] [.l g0, .i k1, .i x2]
def f_s_CharacterValue_i (g0 : List Sc) (k1 : Int) (x2 : Int) : List AV := enc [] []
def f_s_CharacterValue_en (r : Int) : List AV × List AV := (enc [.p (.int .i64)] [.i r], enc [] [])
def f_s_CharacterValue_M : Calling := addC 41 f_s_l2Is_c (addC 42 f_s_l7Value_c (noC))
theorem f_s_CharacterValue_Mt : CallOk Try.prog (f_s_CharacterValue_M) := addC_true f_s_l2Is_cc (addC_true f_s_l7Value_cc (noC_true))
theorem f_s_CharacterValue_o : loopsOnce Try.f7 = true := by kernel_rfl
theorem f_s_CharacterValue_p {R : Type} (g0 : List Sc) (k1 : Int) (x2 : Int) (kR : Int → Option R) : f_s_CharacterValue_k g0 k1 x2 kR = (f_s_CharacterValue_k g0 k1 x2 some).bind kR := by
  simp only [f_s_CharacterValue_k, brB, boB, someB]
theorem f_s_CharacterValue_e (g0 : List Sc) (k1 : Int) (x2 : Int) : runFn E0 f_s_CharacterValue_M H0 f_s_CharacterValue_F (asL (noL)) Try.f7 (f_s_CharacterValue_a g0 k1 x2) (f_s_CharacterValue_i g0 k1 x2) = f_s_CharacterValue_k g0 k1 x2 (fun r => some (f_s_CharacterValue_en r)) := by kernel_rfl
theorem f_s_CharacterValue_ok (g0 : List Sc) (k1 : Int) (x2 : Int) (r : Int) (h : f_s_CharacterValue g0 k1 x2 = some r) : CS Try.prog 7 (f_s_CharacterValue_a g0 k1 x2) (f_s_CharacterValue_i g0 k1 x2) (f_s_CharacterValue_en r).1 (f_s_CharacterValue_en r).2 :=
  fn_true (Gk := fun k => f_s_CharacterValue_k g0 k1 x2 k) (en := f_s_CharacterValue_en) Try.func7 E0ok f_s_CharacterValue_Mt (noL_true) f_s_CharacterValue_o (f_s_CharacterValue_e g0 k1 x2) (f_s_CharacterValue_p g0 k1 x2) h
def f_s_CharacterValue_c : CRow := fun args inh => match dec2 [.p .gr, .p (.int .i64), .p (.int .i64)] [] args inh with
  | some ([.l g0, .i k1, .i x2], []) => some ((f_s_CharacterValue g0 k1 x2).isSome, (f_s_CharacterValue_en ((f_s_CharacterValue g0 k1 x2).getD 0)).1, (f_s_CharacterValue_en ((f_s_CharacterValue g0 k1 x2).getD 0)).2)
  | _ => none
theorem f_s_CharacterValue_cc : CTrue Try.prog 7 f_s_CharacterValue_c := by
  intro args inh rs out h
  unfold f_s_CharacterValue_c at h
  split at h
  · rename_i hd
    obtain ⟨h1, h2⟩ := dec2_enc hd
    rw [← h1, ← h2]
    exact rowC (f_s_CharacterValue_ok _ _ _) h
  · cases h

def f_l_at_F : Fi := { nv := 0, nc := 0, m := 0, vt := [], kl := [], sk := [], mvs := [], fz := [] }
def f_l_at_a (code0 : List Sc) (i1 : Int) : List AV := enc [.p .sl, .p (.int .i64)] [.l code0, .i i1]
def f_l_at_i (code0 : List Sc) (i1 : Int) : List AV := enc [] []
def f_l_at_en (r : Int) : List AV × List AV := (enc [.p (.int .i64)] [.i r], enc [] [])
def f_l_at_M : Calling := noC
theorem f_l_at_Mt : CallOk Try.prog (f_l_at_M) := noC_true
theorem f_l_at_o : loopsOnce Try.f8 = true := by kernel_rfl
theorem f_l_at_p {R : Type} (code0 : List Sc) (i1 : Int) (kR : Int → Option R) : f_l_at_k code0 i1 kR = (f_l_at_k code0 i1 some).bind kR := by
  simp only [f_l_at_k, brB, someB, noneB]
theorem f_l_at_e (code0 : List Sc) (i1 : Int) : runFn E0 f_l_at_M H0 f_l_at_F (asL (noL)) Try.f8 (f_l_at_a code0 i1) (f_l_at_i code0 i1) = f_l_at_k code0 i1 (fun r => some (f_l_at_en r)) := by kernel_rfl
theorem f_l_at_ok (code0 : List Sc) (i1 : Int) (r : Int) (h : f_l_at code0 i1 = some r) : CS Try.prog 8 (f_l_at_a code0 i1) (f_l_at_i code0 i1) (f_l_at_en r).1 (f_l_at_en r).2 :=
  fn_true (Gk := fun k => f_l_at_k code0 i1 k) (en := f_l_at_en) Try.func8 E0ok f_l_at_Mt (noL_true) f_l_at_o (f_l_at_e code0 i1) (f_l_at_p code0 i1) h
def f_l_at_c : CRow := fun args inh => match dec2 [.p .sl, .p (.int .i64)] [] args inh with
  | some ([.l code0, .i i1], []) => some ((f_l_at code0 i1).isSome, (f_l_at_en ((f_l_at code0 i1).getD 0)).1, (f_l_at_en ((f_l_at code0 i1).getD 0)).2)
  | _ => none
theorem f_l_at_cc : CTrue Try.prog 8 f_l_at_c := by
  intro args inh rs out h
  unfold f_l_at_c at h
  split at h
  · rename_i hd
    obtain ⟨h1, h2⟩ := dec2_enc hd
    rw [← h1, ← h2]
    exact rowC (f_l_at_ok _ _) h
  · cases h

def f_s_l2Add_F : Fi := { nv := 0, nc := 0, m := 0, vt := [], kl := [(0, ([0, 4, 5, 6, 10, 11, 12, 13, 14, 15, 16, 17, 18, 19, 20, 21, 22, 23, 24, 25, 26, 27, 28, 29, 30, 31, 32, 33, 34, 35, 36, 37, 38, 39, 40, 41, 42, 43, 44, 45], [0, 1, 2, 3, 4, 5, 6, 8, 9, 10, 11, 12, 13, 14, 15, 16, 17, 18, 19, 20, 21, 22, 23, 24, 25, 26, 27, 28, 29, 30, 31, 32, 33, 34, 35, 36, 37, 38, 39, 40, 41, 42, 43, 44, 45], [0, 1, 2, 3, 4, 5, 7, 8, 9, 10, 11, 12, 13, 14, 15, 16, 17, 18, 19, 20, 21, 22, 23, 24, 25, 26, 27, 28, 29, 30, 31, 32, 33, 34, 35, 36, 37, 38, 39, 40, 41, 42, 43, 44, 45]))], sk := [], mvs := [], fz := [] }
def f_s_l2Add_a (g0 : List Sc) (x1 : Int) (y2 : Int) : List AV := enc [.p .gr, .p (.int .i64), .p (.int .i64)] [.l g0, .i x1, .i y2]
def f_s_l2Add_i (g0 : List Sc) (x1 : Int) (y2 : Int) : List AV := enc [] []
def f_s_l2Add_en (r : Int) : List AV × List AV := (enc [.p (.int .i64)] [.i r], enc [] [])
def f_s_l2Add_M : Calling := noC
theorem f_s_l2Add_Mt : CallOk Try.prog (f_s_l2Add_M) := noC_true
theorem f_s_l2Add_o : loopsOnce Try.f45 = true := by kernel_rfl
def f_s_l2Add_h0 : List Sh := [.u, .p (.int .i64), .p (.int .i64), .p .el, .u, .u, .u, .p (.int .i64), .p (.int .i64), .p (.int .i64), .u, .u, .u, .u, .u, .u, .u, .u, .u, .u, .u, .u, .u, .u, .u, .u, .u, .u, .u, .u, .u, .u, .u, .u, .u, .u, .u, .u, .u, .u, .u, .u, .u, .u, .u, .u]
def f_s_l2Add_fr0 (g3 : List Sc) (s : Int × Int × Int × Int × Int) : List AV := enc f_s_l2Add_h0 [.i s.1, .i s.2.1, .l g3, .i s.2.2.1, .i s.2.2.2.1, .i s.2.2.2.2]
def f_s_l2Add_g0_1 : List Sh := [.u, .u, .u, .u, .u, .u, .u, .p (.int .i64), .u, .u, .u, .u, .u, .u, .u, .u, .u, .u, .u, .u, .u, .u, .u, .u, .u, .u, .u, .u, .u, .u, .u, .u, .u, .u, .u, .u, .u, .u, .u, .u, .u, .u, .u, .u, .u, .u]
def f_s_l2Add_x0_1 (g3 : List Sc) (e : Int) : X × List AV := (.out 0, enc f_s_l2Add_g0_1 [.i e])
def f_s_l2Add_x0_2 (g3 : List Sc) (_e : Unit) : X × List AV := (.ret, [])
theorem f_s_l2Add_p0 {R : Type} (g3 : List Sc) (s : Int × Int × Int × Int × Int) (kN : Int × Int × Int × Int × Int → Option R) (kA : Int → Option R) (kB : Unit → Option R) : f_s_l2Add_k0 g3 s.1 s.2.1 s.2.2.1 s.2.2.2.1 s.2.2.2.2 kN kA = (f_s_l2Add_r0 g3 s).bind (Ro.el kN kA kB) := by
  simp only [f_s_l2Add_k0, f_s_l2Add_r0, brB, someB, noneB, Ro.el]
theorem f_s_l2Add_e0 (g3 : List Sc) (s : Int × Int × Int × Int × Int) : EC E0 f_s_l2Add_M H0 f_s_l2Add_F (asL (noL)) 0 (bodyOf Try.f45 0) (f_s_l2Add_fr0 g3 s) (done (klOf f_s_l2Add_F 0)) = f_s_l2Add_k0 g3 s.1 s.2.1 s.2.2.1 s.2.2.2.1 s.2.2.2.2 (fun s => some (.norm, f_s_l2Add_fr0 g3 s)) (fun e => some (f_s_l2Add_x0_1 g3 e)) := by kernel_rfl
theorem f_s_l2Add_l0 (g3 : List Sc) : ∀ s r, loopL (f_s_l2Add_r0 g3) s = some r → LS Try.prog f_s_l2Add_F (bodyOf Try.f45 0) (f_s_l2Add_fr0 g3 s) (enX (f_s_l2Add_x0_1 g3) (f_s_l2Add_x0_2 g3) r) :=
  loop_true E0ok f_s_l2Add_Mt (noL_true) f_s_l2Add_o (fun _ h => by cases h) (fun _ h => by cases h) (fun s => (f_s_l2Add_e0 g3 s).trans (f_s_l2Add_p0 g3 s _ _ (fun e => some (f_s_l2Add_x0_2 g3 e))))
def f_s_l2Add_t0 (σ : List AV) : Option (Bool × Bool × (X × List AV) × (X × List AV)) := match dec f_s_l2Add_h0 σ with
  | some [.i x1, .i y2, .l g3, .i z7, .i step8, .i i9] => some (isOne (loopL (f_s_l2Add_r0 g3) (x1, y2, z7, step8, i9)), true, f_s_l2Add_x0_1 g3 (getOne 0 (loopL (f_s_l2Add_r0 g3) (x1, y2, z7, step8, i9))), (.ret, []))
  | _ => none
theorem f_s_l2Add_tt0 : TTrue Try.prog f_s_l2Add_F Try.f45 0 (f_s_l2Add_t0) := by
  intro σ p r r' h
  unfold f_s_l2Add_t0 at h
  split at h
  · rename_i hd
    rw [← dec_enc hd]
    exact row1 (f_s_l2Add_l0 _ _) h
  · cases h
theorem f_s_l2Add_p {R : Type} (g0 : List Sc) (x1 : Int) (y2 : Int) (kR : Int → Option R) : f_s_l2Add_k g0 x1 y2 kR = (f_s_l2Add_k g0 x1 y2 some).bind kR := by
  simp only [f_s_l2Add_k, bl1B, someB]
theorem f_s_l2Add_e (g0 : List Sc) (x1 : Int) (y2 : Int) : runFn E0 f_s_l2Add_M H0 f_s_l2Add_F (asL (addL 0 (f_s_l2Add_t0) (noL))) Try.f45 (f_s_l2Add_a g0 x1 y2) (f_s_l2Add_i g0 x1 y2) = f_s_l2Add_k g0 x1 y2 (fun r => some (f_s_l2Add_en r)) := by kernel_rfl
theorem f_s_l2Add_ok (g0 : List Sc) (x1 : Int) (y2 : Int) (r : Int) (h : f_s_l2Add g0 x1 y2 = some r) : CS Try.prog 45 (f_s_l2Add_a g0 x1 y2) (f_s_l2Add_i g0 x1 y2) (f_s_l2Add_en r).1 (f_s_l2Add_en r).2 :=
  fn_true (Gk := fun k => f_s_l2Add_k g0 x1 y2 k) (en := f_s_l2Add_en) Try.func45 E0ok f_s_l2Add_Mt (addL_true (f_s_l2Add_tt0) (noL_true)) f_s_l2Add_o (f_s_l2Add_e g0 x1 y2) (f_s_l2Add_p g0 x1 y2) h
def f_s_l2Add_c : CRow := fun args inh => match dec2 [.p .gr, .p (.int .i64), .p (.int .i64)] [] args inh with
  | some ([.l g0, .i x1, .i y2], []) => some ((f_s_l2Add g0 x1 y2).isSome, (f_s_l2Add_en ((f_s_l2Add g0 x1 y2).getD 0)).1, (f_s_l2Add_en ((f_s_l2Add g0 x1 y2).getD 0)).2)
  | _ => none
theorem f_s_l2Add_cc : CTrue Try.prog 45 f_s_l2Add_c := by
  intro args inh rs out h
  unfold f_s_l2Add_c at h
  split at h
  · rename_i hd
    obtain ⟨h1, h2⟩ := dec2_enc hd
    rw [← h1, ← h2]
    exact rowC (f_s_l2Add_ok _ _ _) h
  · cases h

def f_s_AddElements_F : Fi := { nv := 0, nc := 0, m := 0, vt := [], kl := [], sk := [], mvs := [], fz := [] }
def f_s_AddElements_a (g0 : List Sc) (x1 : Int) (y2 : Int) : List AV := enc [.p .gr, .p (.int .i64), .p (.int .i64)] [.l g0, .i x1, .i y2]
def f_s_AddElements_i (g0 : List Sc) (x1 : Int) (y2 : Int) : List AV := enc [] []
def f_s_AddElements_en (r : Int) : List AV × List AV := (enc [.p (.int .i64)] [.i r], enc [] [])
def f_s_AddElements_M : Calling := addC 41 f_s_l2Is_c (addC 45 f_s_l2Add_c (noC))
theorem f_s_AddElements_Mt : CallOk Try.prog (f_s_AddElements_M) := addC_true f_s_l2Is_cc (addC_true f_s_l2Add_cc (noC_true))
theorem f_s_AddElements_o : loopsOnce Try.f11 = true := by kernel_rfl
theorem f_s_AddElements_p {R : Type} (g0 : List Sc) (x1 : Int) (y2 : Int) (kR : Int → Option R) : f_s_AddElements_k g0 x1 y2 kR = (f_s_AddElements_k g0 x1 y2 some).bind kR := by
  simp only [f_s_AddElements_k, brB, boB, someB]
theorem f_s_AddElements_e (g0 : List Sc) (x1 : Int) (y2 : Int) : runFn E0 f_s_AddElements_M H0 f_s_AddElements_F (asL (noL)) Try.f11 (f_s_AddElements_a g0 x1 y2) (f_s_AddElements_i g0 x1 y2) = f_s_AddElements_k g0 x1 y2 (fun r => some (f_s_AddElements_en r)) := by kernel_rfl
theorem f_s_AddElements_ok (g0 : List Sc) (x1 : Int) (y2 : Int) (r : Int) (h : f_s_AddElements g0 x1 y2 = some r) : CS Try.prog 11 (f_s_AddElements_a g0 x1 y2) (f_s_AddElements_i g0 x1 y2) (f_s_AddElements_en r).1 (f_s_AddElements_en r).2 :=
  fn_true (Gk := fun k => f_s_AddElements_k g0 x1 y2 k) (en := f_s_AddElements_en) Try.func11 E0ok f_s_AddElements_Mt (noL_true) f_s_AddElements_o (f_s_AddElements_e g0 x1 y2) (f_s_AddElements_p g0 x1 y2) h
def f_s_AddElements_c : CRow := fun args inh => match dec2 [.p .gr, .p (.int .i64), .p (.int .i64)] [] args inh with
  | some ([.l g0, .i x1, .i y2], []) => some ((f_s_AddElements g0 x1 y2).isSome, (f_s_AddElements_en ((f_s_AddElements g0 x1 y2).getD 0)).1, (f_s_AddElements_en ((f_s_AddElements g0 x1 y2).getD 0)).2)
  | _ => none
theorem f_s_AddElements_cc : CTrue Try.prog 11 f_s_AddElements_c := by
  intro args inh rs out h
  unfold f_s_AddElements_c at h
  split at h
  · rename_i hd
    obtain ⟨h1, h2⟩ := dec2_enc hd
    rw [← h1, ← h2]
    exact rowC (f_s_AddElements_ok _ _ _) h
  · cases h

def f_s_l3List_F : Fi := { nv := 0, nc := 0, m := 0, vt := [], kl := [(0, ([0, 1, 2, 6, 7, 8, 9, 10, 11, 12, 13, 14, 15, 16, 17, 18, 19, 20, 21], [0, 1, 2, 4, 5, 6, 7, 8, 9, 10, 11, 12, 13, 14, 15, 16, 17, 18, 19, 20, 21], [0, 1, 3, 4, 5, 6, 7, 8, 9, 10, 11, 12, 13, 14, 15, 16, 17, 18, 19, 20, 21]))], sk := [], mvs := [], fz := [] }
def f_s_l3List_a (a0 : Int) : List AV := enc [.p (.int .i64)] [.i a0]
def f_s_l3List_i (a0 : Int) : List AV := enc [] []
def f_s_l3List_en (r : List Sc) : List AV × List AV := (enc [.p (.al 0)] [], enc [.own 3] [.l r])
def f_s_l3List_M : Calling := noC
theorem f_s_l3List_Mt : CallOk Try.prog (f_s_l3List_M) := noC_true
theorem f_s_l3List_o : loopsOnce Try.f54 = true := by kernel_rfl
def f_s_l3List_h0 : List Sh := [.u, .u, .u, .own 3, .p (.int .i64), .p (.int .i64), .u, .u, .u, .u, .u, .u, .u, .u, .u, .u, .u, .u, .u, .u, .u, .u]
def f_s_l3List_fr0 (s : List Sc × Int × Int) : List AV := enc f_s_l3List_h0 [.l s.1, .i s.2.1, .i s.2.2]
def f_s_l3List_g0_1 : List Sh := [.u, .u, .u, .own 3, .u, .u, .u, .u, .u, .u, .u, .u, .u, .u, .u, .u, .u, .u, .u, .u, .u, .u]
def f_s_l3List_x0_1 (e : List Sc) : X × List AV := (.out 0, enc f_s_l3List_g0_1 [.l e])
def f_s_l3List_x0_2 (_e : Unit) : X × List AV := (.ret, [])
theorem f_s_l3List_p0 {R : Type} (s : List Sc × Int × Int) (kN : List Sc × Int × Int → Option R) (kA : List Sc → Option R) (kB : Unit → Option R) : f_s_l3List_k0 s.1 s.2.1 s.2.2 kN kA = (f_s_l3List_r0 s).bind (Ro.el kN kA kB) := by
  simp only [f_s_l3List_k0, f_s_l3List_r0, brB, someB, noneB, Ro.el]
theorem f_s_l3List_e0 (s : List Sc × Int × Int) : EC E0 f_s_l3List_M H0 f_s_l3List_F (asL (noL)) 0 (bodyOf Try.f54 0) (f_s_l3List_fr0 s) (done (klOf f_s_l3List_F 0)) = f_s_l3List_k0 s.1 s.2.1 s.2.2 (fun s => some (.norm, f_s_l3List_fr0 s)) (fun e => some (f_s_l3List_x0_1 e)) := by kernel_rfl
theorem f_s_l3List_l0 : ∀ s r, loopL (f_s_l3List_r0) s = some r → LS Try.prog f_s_l3List_F (bodyOf Try.f54 0) (f_s_l3List_fr0 s) (enX (f_s_l3List_x0_1) (f_s_l3List_x0_2) r) :=
  loop_true E0ok f_s_l3List_Mt (noL_true) f_s_l3List_o (fun _ h => by cases h) (fun _ h => by cases h) (fun s => (f_s_l3List_e0 s).trans (f_s_l3List_p0 s _ _ (fun e => some (f_s_l3List_x0_2 e))))
def f_s_l3List_t0 (σ : List AV) : Option (Bool × Bool × (X × List AV) × (X × List AV)) := match dec f_s_l3List_h0 σ with
  | some [.l out3, .i i4, .i x5] => some (isOne (loopL (f_s_l3List_r0) (out3, i4, x5)), true, f_s_l3List_x0_1 (getOne [] (loopL (f_s_l3List_r0) (out3, i4, x5))), (.ret, []))
  | _ => none
theorem f_s_l3List_tt0 : TTrue Try.prog f_s_l3List_F Try.f54 0 (f_s_l3List_t0) := by
  intro σ p r r' h
  unfold f_s_l3List_t0 at h
  split at h
  · rename_i hd
    rw [← dec_enc hd]
    exact row1 (f_s_l3List_l0 _) h
  · cases h
theorem f_s_l3List_p {R : Type} (a0 : Int) (kR : List Sc → Option R) : f_s_l3List_k a0 kR = (f_s_l3List_k a0 some).bind kR := by
  simp only [f_s_l3List_k, bl1B, someB]
theorem f_s_l3List_e (a0 : Int) : runFn E0 f_s_l3List_M H0 f_s_l3List_F (asL (addL 0 (f_s_l3List_t0) (noL))) Try.f54 (f_s_l3List_a a0) (f_s_l3List_i a0) = f_s_l3List_k a0 (fun r => some (f_s_l3List_en r)) := by kernel_rfl
theorem f_s_l3List_ok (a0 : Int) (r : List Sc) (h : f_s_l3List a0 = some r) : CS Try.prog 54 (f_s_l3List_a a0) (f_s_l3List_i a0) (f_s_l3List_en r).1 (f_s_l3List_en r).2 :=
  fn_true (Gk := fun k => f_s_l3List_k a0 k) (en := f_s_l3List_en) Try.func54 E0ok f_s_l3List_Mt (addL_true (f_s_l3List_tt0) (noL_true)) f_s_l3List_o (f_s_l3List_e a0) (f_s_l3List_p a0) h
def f_s_l3List_c : CRow := fun args inh => match dec2 [.p (.int .i64)] [] args inh with
  | some ([.i a0], []) => some ((f_s_l3List a0).isSome, (f_s_l3List_en ((f_s_l3List a0).getD [])).1, (f_s_l3List_en ((f_s_l3List a0).getD [])).2)
  | _ => none
theorem f_s_l3List_cc : CTrue Try.prog 54 f_s_l3List_c := by
  intro args inh rs out h
  unfold f_s_l3List_c at h
  split at h
  · rename_i hd
    obtain ⟨h1, h2⟩ := dec2_enc hd
    rw [← h1, ← h2]
    exact rowC (f_s_l3List_ok _) h
  · cases h

def f_s_l3Shift_F : Fi := { nv := 0, nc := 0, m := 0, vt := [], kl := [(0, ([0, 1, 4, 5, 6, 10, 11, 12, 13, 14, 15, 16, 17, 18, 19, 20, 21, 22, 23, 24, 25, 26, 27, 28], [0, 1, 2, 3, 4, 5, 6, 8, 9, 10, 11, 12, 13, 14, 15, 16, 17, 18, 19, 20, 21, 22, 23, 24, 25, 26, 27, 28], [0, 1, 2, 3, 4, 5, 7, 8, 9, 10, 11, 12, 13, 14, 15, 16, 17, 18, 19, 20, 21, 22, 23, 24, 25, 26, 27, 28]))], sk := [], mvs := [], fz := [] }
def f_s_l3Shift_a (g0 : List Sc) (a1 : Int) (x2 : Int) : List AV := enc [.p .gr, .p (.int .i64), .p (.int .i64)] [.l g0, .i a1, .i x2]
def f_s_l3Shift_i (g0 : List Sc) (a1 : Int) (x2 : Int) : List AV := enc [] []
def f_s_l3Shift_en (r : Int) : List AV × List AV := (enc [.p (.int .i64)] [.i r], enc [] [])
def f_s_l3Shift_M : Calling := addC 54 f_s_l3List_c (addC 45 f_s_l2Add_c (noC))
theorem f_s_l3Shift_Mt : CallOk Try.prog (f_s_l3Shift_M) := addC_true f_s_l3List_cc (addC_true f_s_l2Add_cc (noC_true))
theorem f_s_l3Shift_o : loopsOnce Try.f87 = true := by kernel_rfl
def f_s_l3Shift_h0 : List Sh := [.u, .u, .p (.int .i64), .p .el, .u, .u, .u, .p (.int .i64), .own 3, .p (.int .i64), .u, .u, .u, .u, .u, .u, .u, .u, .u, .u, .u, .u, .u, .u, .u, .u, .u, .u, .u]
def f_s_l3Shift_fr0 (x2 : Int) (g3 : List Sc) (s : Int × List Sc × Int) : List AV := enc f_s_l3Shift_h0 [.i x2, .l g3, .i s.1, .l s.2.1, .i s.2.2]
def f_s_l3Shift_g0_1 : List Sh := [.u, .u, .u, .u, .u, .u, .u, .p (.int .i64), .u, .u, .u, .u, .u, .u, .u, .u, .u, .u, .u, .u, .u, .u, .u, .u, .u, .u, .u, .u, .u]
def f_s_l3Shift_x0_1 (x2 : Int) (g3 : List Sc) (e : Int) : X × List AV := (.out 0, enc f_s_l3Shift_g0_1 [.i e])
def f_s_l3Shift_x0_2 (x2 : Int) (g3 : List Sc) (_e : Unit) : X × List AV := (.ret, [])
theorem f_s_l3Shift_p0 {R : Type} (x2 : Int) (g3 : List Sc) (s : Int × List Sc × Int) (kN : Int × List Sc × Int → Option R) (kA : Int → Option R) (kB : Unit → Option R) : f_s_l3Shift_k0 x2 g3 s.1 s.2.1 s.2.2 kN kA = (f_s_l3Shift_r0 x2 g3 s).bind (Ro.el kN kA kB) := by
  simp only [f_s_l3Shift_k0, f_s_l3Shift_r0, brB, boB, someB, noneB, Ro.el]
theorem f_s_l3Shift_e0 (x2 : Int) (g3 : List Sc) (s : Int × List Sc × Int) : EC E0 f_s_l3Shift_M H0 f_s_l3Shift_F (asL (noL)) 0 (bodyOf Try.f87 0) (f_s_l3Shift_fr0 x2 g3 s) (done (klOf f_s_l3Shift_F 0)) = f_s_l3Shift_k0 x2 g3 s.1 s.2.1 s.2.2 (fun s => some (.norm, f_s_l3Shift_fr0 x2 g3 s)) (fun e => some (f_s_l3Shift_x0_1 x2 g3 e)) := by kernel_rfl
theorem f_s_l3Shift_l0 (x2 : Int) (g3 : List Sc) : ∀ s r, loopL (f_s_l3Shift_r0 x2 g3) s = some r → LS Try.prog f_s_l3Shift_F (bodyOf Try.f87 0) (f_s_l3Shift_fr0 x2 g3 s) (enX (f_s_l3Shift_x0_1 x2 g3) (f_s_l3Shift_x0_2 x2 g3) r) :=
  loop_true E0ok f_s_l3Shift_Mt (noL_true) f_s_l3Shift_o (fun _ h => by cases h) (fun _ h => by cases h) (fun s => (f_s_l3Shift_e0 x2 g3 s).trans (f_s_l3Shift_p0 x2 g3 s _ _ (fun e => some (f_s_l3Shift_x0_2 x2 g3 e))))
def f_s_l3Shift_t0 (σ : List AV) : Option (Bool × Bool × (X × List AV) × (X × List AV)) := match dec f_s_l3Shift_h0 σ with
  | some [.i x2, .l g3, .i out7, .l l8, .i i9] => some (isOne (loopL (f_s_l3Shift_r0 x2 g3) (out7, l8, i9)), true, f_s_l3Shift_x0_1 x2 g3 (getOne 0 (loopL (f_s_l3Shift_r0 x2 g3) (out7, l8, i9))), (.ret, []))
  | _ => none
theorem f_s_l3Shift_tt0 : TTrue Try.prog f_s_l3Shift_F Try.f87 0 (f_s_l3Shift_t0) := by
  intro σ p r r' h
  unfold f_s_l3Shift_t0 at h
  split at h
  · rename_i hd
    rw [← dec_enc hd]
    exact row1 (f_s_l3Shift_l0 _ _ _) h
  · cases h
theorem f_s_l3Shift_p {R : Type} (g0 : List Sc) (a1 : Int) (x2 : Int) (kR : Int → Option R) : f_s_l3Shift_k g0 a1 x2 kR = (f_s_l3Shift_k g0 a1 x2 some).bind kR := by
  simp only [f_s_l3Shift_k, boB, bl1B, someB]
theorem f_s_l3Shift_e (g0 : List Sc) (a1 : Int) (x2 : Int) : runFn E0 f_s_l3Shift_M H0 f_s_l3Shift_F (asL (addL 0 (f_s_l3Shift_t0) (noL))) Try.f87 (f_s_l3Shift_a g0 a1 x2) (f_s_l3Shift_i g0 a1 x2) = f_s_l3Shift_k g0 a1 x2 (fun r => some (f_s_l3Shift_en r)) := by kernel_rfl
theorem f_s_l3Shift_ok (g0 : List Sc) (a1 : Int) (x2 : Int) (r : Int) (h : f_s_l3Shift g0 a1 x2 = some r) : CS Try.prog 87 (f_s_l3Shift_a g0 a1 x2) (f_s_l3Shift_i g0 a1 x2) (f_s_l3Shift_en r).1 (f_s_l3Shift_en r).2 :=
  fn_true (Gk := fun k => f_s_l3Shift_k g0 a1 x2 k) (en := f_s_l3Shift_en) Try.func87 E0ok f_s_l3Shift_Mt (addL_true (f_s_l3Shift_tt0) (noL_true)) f_s_l3Shift_o (f_s_l3Shift_e g0 a1 x2) (f_s_l3Shift_p g0 a1 x2) h
def f_s_l3Shift_c : CRow := fun args inh => match dec2 [.p .gr, .p (.int .i64), .p (.int .i64)] [] args inh with
  | some ([.l g0, .i a1, .i x2], []) => some ((f_s_l3Shift g0 a1 x2).isSome, (f_s_l3Shift_en ((f_s_l3Shift g0 a1 x2).getD 0)).1, (f_s_l3Shift_en ((f_s_l3Shift g0 a1 x2).getD 0)).2)
  | _ => none
theorem f_s_l3Shift_cc : CTrue Try.prog 87 f_s_l3Shift_c := by
  intro args inh rs out h
  unfold f_s_l3Shift_c at h
  split at h
  · rename_i hd
    obtain ⟨h1, h2⟩ := dec2_enc hd
    rw [← h1, ← h2]
    exact rowC (f_s_l3Shift_ok _ _ _) h
  · cases h

def f_s_l4Sum_F : Fi := { nv := 0, nc := 0, m := 0, vt := [], kl := [(0, ([0, 2, 4, 5, 6, 10, 11, 12, 13, 14, 15, 16, 17, 18, 19, 20, 21, 22, 23, 24, 25, 26, 27], [0, 1, 2, 3, 4, 5, 6, 8, 9, 10, 11, 12, 13, 14, 15, 16, 17, 18, 19, 20, 21, 22, 23, 24, 25, 26, 27], [0, 1, 2, 3, 4, 5, 7, 8, 9, 10, 11, 12, 13, 14, 15, 16, 17, 18, 19, 20, 21, 22, 23, 24, 25, 26, 27]))], sk := [], mvs := [], fz := [] }
def f_s_l4Sum_a (g0 : List Sc) (a1 : Int) (b2 : Int) : List AV := enc [.p .gr, .p (.int .i64), .p (.int .i64)] [.l g0, .i a1, .i b2]
def f_s_l4Sum_i (g0 : List Sc) (a1 : Int) (b2 : Int) : List AV := enc [] []
def f_s_l4Sum_en (r : Int) : List AV × List AV := (enc [.p (.int .i64)] [.i r], enc [] [])
def f_s_l4Sum_M : Calling := addC 54 f_s_l3List_c (addC 87 f_s_l3Shift_c (noC))
theorem f_s_l4Sum_Mt : CallOk Try.prog (f_s_l4Sum_M) := addC_true f_s_l3List_cc (addC_true f_s_l3Shift_cc (noC_true))
theorem f_s_l4Sum_o : loopsOnce Try.f73 = true := by kernel_rfl
def f_s_l4Sum_h0 : List Sh := [.u, .p (.int .i64), .u, .p .el, .u, .u, .u, .p (.int .i64), .own 3, .p (.int .i64), .u, .u, .u, .u, .u, .u, .u, .u, .u, .u, .u, .u, .u, .u, .u, .u, .u, .u]
def f_s_l4Sum_fr0 (a1 : Int) (g3 : List Sc) (s : Int × List Sc × Int) : List AV := enc f_s_l4Sum_h0 [.i a1, .l g3, .i s.1, .l s.2.1, .i s.2.2]
def f_s_l4Sum_g0_1 : List Sh := [.u, .u, .u, .u, .u, .u, .u, .p (.int .i64), .u, .u, .u, .u, .u, .u, .u, .u, .u, .u, .u, .u, .u, .u, .u, .u, .u, .u, .u, .u]
def f_s_l4Sum_x0_1 (a1 : Int) (g3 : List Sc) (e : Int) : X × List AV := (.out 0, enc f_s_l4Sum_g0_1 [.i e])
def f_s_l4Sum_x0_2 (a1 : Int) (g3 : List Sc) (_e : Unit) : X × List AV := (.ret, [])
theorem f_s_l4Sum_p0 {R : Type} (a1 : Int) (g3 : List Sc) (s : Int × List Sc × Int) (kN : Int × List Sc × Int → Option R) (kA : Int → Option R) (kB : Unit → Option R) : f_s_l4Sum_k0 a1 g3 s.1 s.2.1 s.2.2 kN kA = (f_s_l4Sum_r0 a1 g3 s).bind (Ro.el kN kA kB) := by
  simp only [f_s_l4Sum_k0, f_s_l4Sum_r0, brB, boB, someB, noneB, Ro.el]
theorem f_s_l4Sum_e0 (a1 : Int) (g3 : List Sc) (s : Int × List Sc × Int) : EC E0 f_s_l4Sum_M H0 f_s_l4Sum_F (asL (noL)) 0 (bodyOf Try.f73 0) (f_s_l4Sum_fr0 a1 g3 s) (done (klOf f_s_l4Sum_F 0)) = f_s_l4Sum_k0 a1 g3 s.1 s.2.1 s.2.2 (fun s => some (.norm, f_s_l4Sum_fr0 a1 g3 s)) (fun e => some (f_s_l4Sum_x0_1 a1 g3 e)) := by kernel_rfl
theorem f_s_l4Sum_l0 (a1 : Int) (g3 : List Sc) : ∀ s r, loopL (f_s_l4Sum_r0 a1 g3) s = some r → LS Try.prog f_s_l4Sum_F (bodyOf Try.f73 0) (f_s_l4Sum_fr0 a1 g3 s) (enX (f_s_l4Sum_x0_1 a1 g3) (f_s_l4Sum_x0_2 a1 g3) r) :=
  loop_true E0ok f_s_l4Sum_Mt (noL_true) f_s_l4Sum_o (fun _ h => by cases h) (fun _ h => by cases h) (fun s => (f_s_l4Sum_e0 a1 g3 s).trans (f_s_l4Sum_p0 a1 g3 s _ _ (fun e => some (f_s_l4Sum_x0_2 a1 g3 e))))
def f_s_l4Sum_t0 (σ : List AV) : Option (Bool × Bool × (X × List AV) × (X × List AV)) := match dec f_s_l4Sum_h0 σ with
  | some [.i a1, .l g3, .i out7, .l l8, .i i9] => some (isOne (loopL (f_s_l4Sum_r0 a1 g3) (out7, l8, i9)), true, f_s_l4Sum_x0_1 a1 g3 (getOne 0 (loopL (f_s_l4Sum_r0 a1 g3) (out7, l8, i9))), (.ret, []))
  | _ => none
theorem f_s_l4Sum_tt0 : TTrue Try.prog f_s_l4Sum_F Try.f73 0 (f_s_l4Sum_t0) := by
  intro σ p r r' h
  unfold f_s_l4Sum_t0 at h
  split at h
  · rename_i hd
    rw [← dec_enc hd]
    exact row1 (f_s_l4Sum_l0 _ _ _) h
  · cases h
theorem f_s_l4Sum_p {R : Type} (g0 : List Sc) (a1 : Int) (b2 : Int) (kR : Int → Option R) : f_s_l4Sum_k g0 a1 b2 kR = (f_s_l4Sum_k g0 a1 b2 some).bind kR := by
  simp only [f_s_l4Sum_k, boB, bl1B, someB]
theorem f_s_l4Sum_e (g0 : List Sc) (a1 : Int) (b2 : Int) : runFn E0 f_s_l4Sum_M H0 f_s_l4Sum_F (asL (addL 0 (f_s_l4Sum_t0) (noL))) Try.f73 (f_s_l4Sum_a g0 a1 b2) (f_s_l4Sum_i g0 a1 b2) = f_s_l4Sum_k g0 a1 b2 (fun r => some (f_s_l4Sum_en r)) := by kernel_rfl
theorem f_s_l4Sum_ok (g0 : List Sc) (a1 : Int) (b2 : Int) (r : Int) (h : f_s_l4Sum g0 a1 b2 = some r) : CS Try.prog 73 (f_s_l4Sum_a g0 a1 b2) (f_s_l4Sum_i g0 a1 b2) (f_s_l4Sum_en r).1 (f_s_l4Sum_en r).2 :=
  fn_true (Gk := fun k => f_s_l4Sum_k g0 a1 b2 k) (en := f_s_l4Sum_en) Try.func73 E0ok f_s_l4Sum_Mt (addL_true (f_s_l4Sum_tt0) (noL_true)) f_s_l4Sum_o (f_s_l4Sum_e g0 a1 b2) (f_s_l4Sum_p g0 a1 b2) h
def f_s_l4Sum_c : CRow := fun args inh => match dec2 [.p .gr, .p (.int .i64), .p (.int .i64)] [] args inh with
  | some ([.l g0, .i a1, .i b2], []) => some ((f_s_l4Sum g0 a1 b2).isSome, (f_s_l4Sum_en ((f_s_l4Sum g0 a1 b2).getD 0)).1, (f_s_l4Sum_en ((f_s_l4Sum g0 a1 b2).getD 0)).2)
  | _ => none
theorem f_s_l4Sum_cc : CTrue Try.prog 73 f_s_l4Sum_c := by
  intro args inh rs out h
  unfold f_s_l4Sum_c at h
  split at h
  · rename_i hd
    obtain ⟨h1, h2⟩ := dec2_enc hd
    rw [← h1, ← h2]
    exact rowC (f_s_l4Sum_ok _ _ _) h
  · cases h

def f_s_l5Closure_F : Fi := { nv := 0, nc := 0, m := 0, vt := [], kl := [(0, ([0, 3, 4, 7, 8, 9, 10, 11, 12, 13, 14, 15, 16, 17, 18, 19, 20, 21, 22, 23], [0, 1, 2, 3, 4, 6, 7, 8, 9, 10, 11, 12, 13, 14, 15, 16, 17, 18, 19, 20, 21, 22, 23], [0, 1, 2, 3, 5, 6, 7, 8, 9, 10, 11, 12, 13, 14, 15, 16, 17, 18, 19, 20, 21, 22, 23]))], sk := [], mvs := [], fz := [] }
def f_s_l5Closure_a (g0 : List Sc) (a1 : Int) : List AV := enc [.p .gr, .p (.int .i64)] [.l g0, .i a1]
def f_s_l5Closure_i (g0 : List Sc) (a1 : Int) : List AV := enc [] []
def f_s_l5Closure_en (r : Int) : List AV × List AV := (enc [.p (.int .i64)] [.i r], enc [] [])
def f_s_l5Closure_M : Calling := addC 73 f_s_l4Sum_c (noC)
theorem f_s_l5Closure_Mt : CallOk Try.prog (f_s_l5Closure_M) := addC_true f_s_l4Sum_cc (noC_true)
theorem f_s_l5Closure_o : loopsOnce Try.f51 = true := by kernel_rfl
def f_s_l5Closure_h0 : List Sh := [.u, .p (.int .i64), .p .el, .u, .u, .p (.int .i64), .p (.int .i64), .u, .u, .u, .u, .u, .u, .u, .u, .u, .u, .u, .u, .u, .u, .u, .u, .u]
def f_s_l5Closure_fr0 (a1 : Int) (g2 : List Sc) (s : Int × Int) : List AV := enc f_s_l5Closure_h0 [.i a1, .l g2, .i s.1, .i s.2]
def f_s_l5Closure_g0_1 : List Sh := [.u, .u, .u, .u, .u, .p (.int .i64), .u, .u, .u, .u, .u, .u, .u, .u, .u, .u, .u, .u, .u, .u, .u, .u, .u, .u]
def f_s_l5Closure_x0_1 (a1 : Int) (g2 : List Sc) (e : Int) : X × List AV := (.out 0, enc f_s_l5Closure_g0_1 [.i e])
def f_s_l5Closure_x0_2 (a1 : Int) (g2 : List Sc) (_e : Unit) : X × List AV := (.ret, [])
theorem f_s_l5Closure_p0 {R : Type} (a1 : Int) (g2 : List Sc) (s : Int × Int) (kN : Int × Int → Option R) (kA : Int → Option R) (kB : Unit → Option R) : f_s_l5Closure_k0 a1 g2 s.1 s.2 kN kA = (f_s_l5Closure_r0 a1 g2 s).bind (Ro.el kN kA kB) := by
  simp only [f_s_l5Closure_k0, f_s_l5Closure_r0, brB, boB, someB, Ro.el]
theorem f_s_l5Closure_e0 (a1 : Int) (g2 : List Sc) (s : Int × Int) : EC E0 f_s_l5Closure_M H0 f_s_l5Closure_F (asL (noL)) 0 (bodyOf Try.f51 0) (f_s_l5Closure_fr0 a1 g2 s) (done (klOf f_s_l5Closure_F 0)) = f_s_l5Closure_k0 a1 g2 s.1 s.2 (fun s => some (.norm, f_s_l5Closure_fr0 a1 g2 s)) (fun e => some (f_s_l5Closure_x0_1 a1 g2 e)) := by kernel_rfl
theorem f_s_l5Closure_l0 (a1 : Int) (g2 : List Sc) : ∀ s r, loopL (f_s_l5Closure_r0 a1 g2) s = some r → LS Try.prog f_s_l5Closure_F (bodyOf Try.f51 0) (f_s_l5Closure_fr0 a1 g2 s) (enX (f_s_l5Closure_x0_1 a1 g2) (f_s_l5Closure_x0_2 a1 g2) r) :=
  loop_true E0ok f_s_l5Closure_Mt (noL_true) f_s_l5Closure_o (fun _ h => by cases h) (fun _ h => by cases h) (fun s => (f_s_l5Closure_e0 a1 g2 s).trans (f_s_l5Closure_p0 a1 g2 s _ _ (fun e => some (f_s_l5Closure_x0_2 a1 g2 e))))
def f_s_l5Closure_t0 (σ : List AV) : Option (Bool × Bool × (X × List AV) × (X × List AV)) := match dec f_s_l5Closure_h0 σ with
  | some [.i a1, .l g2, .i out5, .i next6] => some (isOne (loopL (f_s_l5Closure_r0 a1 g2) (out5, next6)), true, f_s_l5Closure_x0_1 a1 g2 (getOne 0 (loopL (f_s_l5Closure_r0 a1 g2) (out5, next6))), (.ret, []))
  | _ => none
theorem f_s_l5Closure_tt0 : TTrue Try.prog f_s_l5Closure_F Try.f51 0 (f_s_l5Closure_t0) := by
  intro σ p r r' h
  unfold f_s_l5Closure_t0 at h
  split at h
  · rename_i hd
    rw [← dec_enc hd]
    exact row1 (f_s_l5Closure_l0 _ _ _) h
  · cases h
theorem f_s_l5Closure_p {R : Type} (g0 : List Sc) (a1 : Int) (kR : Int → Option R) : f_s_l5Closure_k g0 a1 kR = (f_s_l5Closure_k g0 a1 some).bind kR := by
  simp only [f_s_l5Closure_k, boB, bl1B, someB]
theorem f_s_l5Closure_e (g0 : List Sc) (a1 : Int) : runFn E0 f_s_l5Closure_M H0 f_s_l5Closure_F (asL (addL 0 (f_s_l5Closure_t0) (noL))) Try.f51 (f_s_l5Closure_a g0 a1) (f_s_l5Closure_i g0 a1) = f_s_l5Closure_k g0 a1 (fun r => some (f_s_l5Closure_en r)) := by kernel_rfl
theorem f_s_l5Closure_ok (g0 : List Sc) (a1 : Int) (r : Int) (h : f_s_l5Closure g0 a1 = some r) : CS Try.prog 51 (f_s_l5Closure_a g0 a1) (f_s_l5Closure_i g0 a1) (f_s_l5Closure_en r).1 (f_s_l5Closure_en r).2 :=
  fn_true (Gk := fun k => f_s_l5Closure_k g0 a1 k) (en := f_s_l5Closure_en) Try.func51 E0ok f_s_l5Closure_Mt (addL_true (f_s_l5Closure_tt0) (noL_true)) f_s_l5Closure_o (f_s_l5Closure_e g0 a1) (f_s_l5Closure_p g0 a1) h
def f_s_l5Closure_c : CRow := fun args inh => match dec2 [.p .gr, .p (.int .i64)] [] args inh with
  | some ([.l g0, .i a1], []) => some ((f_s_l5Closure g0 a1).isSome, (f_s_l5Closure_en ((f_s_l5Closure g0 a1).getD 0)).1, (f_s_l5Closure_en ((f_s_l5Closure g0 a1).getD 0)).2)
  | _ => none
theorem f_s_l5Closure_cc : CTrue Try.prog 51 f_s_l5Closure_c := by
  intro args inh rs out h
  unfold f_s_l5Closure_c at h
  split at h
  · rename_i hd
    obtain ⟨h1, h2⟩ := dec2_enc hd
    rw [← h1, ← h2]
    exact rowC (f_s_l5Closure_ok _ _) h
  · cases h

def f_s_l5Put_F : Fi := { nv := 0, nc := 0, m := 0, vt := [], kl := [(0, ([2, 3, 4, 6, 7, 8, 9, 10, 11, 12, 13, 14, 15, 16, 17, 18, 19, 20, 21, 22, 23, 24, 25, 26, 27, 28, 29, 30, 31, 32, 33, 34, 35, 36, 37, 38, 39, 40, 41, 42, 43, 44], [2, 3, 4, 6, 7, 8, 9, 10, 11, 12, 13, 14, 15, 16, 17, 18, 19, 20, 21, 22, 23, 24, 25, 26, 27, 28, 29, 30, 31, 32, 33, 34, 35, 36, 37, 38, 39, 40, 41, 42, 43, 44], [0, 1, 2, 3, 5, 6, 7, 8, 9, 10, 11, 12, 13, 14, 15, 16, 17, 18, 19, 20, 21, 22, 23, 24, 25, 26, 27, 28, 29, 30, 31, 32, 33, 34, 35, 36, 37, 38, 39, 40, 41, 42, 43, 44]))], sk := [], mvs := [], fz := [], so := true }
def f_s_l5Put_a (l0 : List Sc) (n1 : Int) : List AV := enc [.p .sl, .p (.int .i64)] [.l l0, .i n1]
def f_s_l5Put_i (l0 : List Sc) (n1 : Int) : List AV := enc [] []
def f_s_l5Put_en (r : List Sc) : List AV × List AV := (enc [.p .sl] [.l r], enc [] [])
def f_s_l5Put_M : Calling := noC
theorem f_s_l5Put_Mt : CallOk Try.prog (f_s_l5Put_M) := noC_true
theorem f_s_l5Put_o : loopsOnce Try.f89 = true := by kernel_rfl
def f_s_l5Put_h0 : List Sh := [.p .sl, .p (.int .i64), .u, .u, .u, .p (.int .i64), .u, .u, .u, .u, .u, .u, .u, .u, .u, .u, .u, .u, .u, .u, .u, .u, .u, .u, .u, .u, .u, .u, .u, .u, .u, .u, .u, .u, .u, .u, .u, .u, .u, .u, .u, .u, .u, .u, .u]
def f_s_l5Put_fr0 (l0 : List Sc) (n1 : Int) (s : Int) : List AV := enc f_s_l5Put_h0 [.l l0, .i n1, .i s]
def f_s_l5Put_g0_1 : List Sh := [.p .sl, .p (.int .i64), .u, .u, .u, .p (.int .i64), .u, .u, .u, .u, .u, .u, .u, .u, .u, .u, .u, .u, .u, .u, .u, .u, .u, .u, .u, .u, .u, .u, .u, .u, .u, .u, .u, .u, .u, .u, .u, .u, .u, .u, .u, .u, .u, .u, .u]
def f_s_l5Put_x0_1 (l0 : List Sc) (n1 : Int) (e : Int) : X × List AV := (.out 0, enc f_s_l5Put_g0_1 [.l l0, .i n1, .i e])
def f_s_l5Put_x0_2 (l0 : List Sc) (n1 : Int) (_e : Unit) : X × List AV := (.ret, [])
theorem f_s_l5Put_p0 {R : Type} (l0 : List Sc) (n1 : Int) (s : Int) (kN : Int → Option R) (kA : Int → Option R) (kB : Unit → Option R) : f_s_l5Put_k0 l0 n1 s kN kA = (f_s_l5Put_r0 l0 n1 s).bind (Ro.el kN kA kB) := by
  simp only [f_s_l5Put_k0, f_s_l5Put_r0, brB, someB, noneB, Ro.el]
theorem f_s_l5Put_e0 (l0 : List Sc) (n1 : Int) (s : Int) : EC E0 f_s_l5Put_M H0 f_s_l5Put_F (asL (noL)) 0 (bodyOf Try.f89 0) (f_s_l5Put_fr0 l0 n1 s) (done (klOf f_s_l5Put_F 0)) = f_s_l5Put_k0 l0 n1 s (fun s => some (.norm, f_s_l5Put_fr0 l0 n1 s)) (fun e => some (f_s_l5Put_x0_1 l0 n1 e)) := by kernel_rfl
theorem f_s_l5Put_l0 (l0 : List Sc) (n1 : Int) : ∀ s r, loopL (f_s_l5Put_r0 l0 n1) s = some r → LS Try.prog f_s_l5Put_F (bodyOf Try.f89 0) (f_s_l5Put_fr0 l0 n1 s) (enX (f_s_l5Put_x0_1 l0 n1) (f_s_l5Put_x0_2 l0 n1) r) :=
  loop_true E0ok f_s_l5Put_Mt (noL_true) f_s_l5Put_o (fun _ h => by cases h) (fun _ h => by cases h) (fun s => (f_s_l5Put_e0 l0 n1 s).trans (f_s_l5Put_p0 l0 n1 s _ _ (fun e => some (f_s_l5Put_x0_2 l0 n1 e))))
def f_s_l5Put_t0 (σ : List AV) : Option (Bool × Bool × (X × List AV) × (X × List AV)) := match dec f_s_l5Put_h0 σ with
  | some [.l l0, .i n1, .i k5] => some (isOne (loopL (f_s_l5Put_r0 l0 n1) k5), true, f_s_l5Put_x0_1 l0 n1 (getOne 0 (loopL (f_s_l5Put_r0 l0 n1) k5)), (.ret, []))
  | _ => none
theorem f_s_l5Put_tt0 : TTrue Try.prog f_s_l5Put_F Try.f89 0 (f_s_l5Put_t0) := by
  intro σ p r r' h
  unfold f_s_l5Put_t0 at h
  split at h
  · rename_i hd
    rw [← dec_enc hd]
    exact row1 (f_s_l5Put_l0 _ _ _) h
  · cases h
theorem f_s_l5Put_p {R : Type} (l0 : List Sc) (n1 : Int) (kR : List Sc → Option R) : f_s_l5Put_k l0 n1 kR = (f_s_l5Put_k l0 n1 some).bind kR := by
  simp only [f_s_l5Put_k, brB, bl1B, someB, noneB]
theorem f_s_l5Put_e (l0 : List Sc) (n1 : Int) : runFn E0 f_s_l5Put_M H0 f_s_l5Put_F (asL (addL 0 (f_s_l5Put_t0) (noL))) Try.f89 (f_s_l5Put_a l0 n1) (f_s_l5Put_i l0 n1) = f_s_l5Put_k l0 n1 (fun r => some (f_s_l5Put_en r)) := by kernel_rfl
theorem f_s_l5Put_ok (l0 : List Sc) (n1 : Int) (r : List Sc) (h : f_s_l5Put l0 n1 = some r) : CS Try.prog 89 (f_s_l5Put_a l0 n1) (f_s_l5Put_i l0 n1) (f_s_l5Put_en r).1 (f_s_l5Put_en r).2 :=
  fn_true (Gk := fun k => f_s_l5Put_k l0 n1 k) (en := f_s_l5Put_en) Try.func89 E0ok f_s_l5Put_Mt (addL_true (f_s_l5Put_tt0) (noL_true)) f_s_l5Put_o (f_s_l5Put_e l0 n1) (f_s_l5Put_p l0 n1) h
def f_s_l5Put_c : CRow := fun args inh => match dec2 [.p .sl, .p (.int .i64)] [] args inh with
  | some ([.l l0, .i n1], []) => some ((f_s_l5Put l0 n1).isSome, (f_s_l5Put_en ((f_s_l5Put l0 n1).getD [])).1, (f_s_l5Put_en ((f_s_l5Put l0 n1).getD [])).2)
  | _ => none
theorem f_s_l5Put_cc : CTrue Try.prog 89 f_s_l5Put_c := by
  intro args inh rs out h
  unfold f_s_l5Put_c at h
  split at h
  · rename_i hd
    obtain ⟨h1, h2⟩ := dec2_enc hd
    rw [← h1, ← h2]
    exact rowC (f_s_l5Put_ok _ _) h
  · cases h

def f_s_SubgroupsOf_F : Fi := { nv := 0, nc := 0, m := 0, vt := [], kl := [(8, ([0, 2, 3, 6, 7, 8, 9, 13, 14, 15, 16, 17, 18, 19, 20, 21, 22, 23, 24, 25, 26, 27, 28, 29, 30, 31, 32, 33, 34, 35, 36, 37, 38, 39, 40, 41, 42, 43, 44, 45, 46, 47, 48, 49, 50, 51, 52, 53, 54, 55, 56, 57, 58, 59, 60, 61, 62, 63, 64, 65, 66, 67, 68, 69, 70, 71, 72, 73, 74, 75, 76, 77, 78, 79, 80], [0, 2, 3, 6, 7, 8, 9, 12, 13, 14, 15, 16, 17, 18, 19, 20, 21, 22, 23, 24, 25, 26, 27, 28, 29, 30, 31, 32, 33, 34, 35, 36, 37, 38, 39, 40, 41, 42, 43, 44, 45, 46, 47, 48, 49, 50, 51, 52, 53, 54, 55, 56, 57, 58, 59, 60, 61, 62, 63, 64, 65, 66, 67, 68, 69, 70, 71, 72, 73, 74, 75, 76, 77, 78, 79, 80], [0, 1, 4, 5, 6, 7, 8, 9, 10, 11, 12, 13, 14, 15, 16, 17, 18, 19, 20, 21, 22, 23, 24, 25, 26, 27, 28, 29, 30, 31, 32, 33, 34, 35, 36, 37, 38, 39, 40, 41, 42, 43, 44, 45, 46, 47, 48, 49, 50, 51, 52, 53, 54, 55, 56, 57, 58, 59, 60, 61, 62, 63, 64, 65, 66, 67, 68, 69, 70, 71, 72, 73, 74, 75, 76, 77, 78, 79, 80])), (6, ([0, 2, 3, 6, 7, 8, 9, 12, 13, 14, 15, 16, 17, 18, 19, 20, 21, 22, 23, 24, 25, 26, 27, 28, 29, 30, 31, 32, 33, 34, 35, 36, 37, 38, 39, 40, 41, 42, 43, 44, 45, 46, 47, 48, 49, 50, 51, 52, 53, 54, 55, 56, 57, 58, 59, 60, 61, 62, 63, 64, 65, 66, 67, 68, 69, 70, 71, 72, 73, 74, 75, 76, 77, 78, 79, 80], [0, 2, 3, 6, 7, 8, 9, 12, 13, 14, 15, 16, 17, 18, 19, 20, 21, 22, 23, 24, 25, 26, 27, 28, 29, 30, 31, 32, 33, 34, 35, 36, 37, 38, 39, 40, 41, 42, 43, 44, 45, 46, 47, 48, 49, 50, 51, 52, 53, 54, 55, 56, 57, 58, 59, 60, 61, 62, 63, 64, 65, 66, 67, 68, 69, 70, 71, 72, 73, 74, 75, 76, 77, 78, 79, 80], [0, 1, 4, 5, 6, 7, 8, 9, 10, 11, 12, 13, 14, 15, 16, 17, 18, 19, 20, 21, 22, 23, 24, 25, 26, 27, 28, 29, 30, 31, 32, 33, 34, 35, 36, 37, 38, 39, 40, 41, 42, 43, 44, 45, 46, 47, 48, 49, 50, 51, 52, 53, 54, 55, 56, 57, 58, 59, 60, 61, 62, 63, 64, 65, 66, 67, 68, 69, 70, 71, 72, 73, 74, 75, 76, 77, 78, 79, 80])), (4, ([0, 2, 3, 6, 7, 10, 11, 12, 13, 14, 15, 16, 17, 18, 19, 20, 21, 22, 23, 24, 25, 26, 27, 28, 29, 30, 31, 32, 33, 34, 35, 36, 37, 38, 39, 40, 41, 42, 43, 44, 45, 46, 47, 48, 49, 50, 51, 52, 53, 54, 55, 56, 57, 58, 59, 60, 61, 62, 63, 64, 65, 66, 67, 68, 69, 70, 71, 72, 73, 74, 75, 76, 77, 78, 79, 80], [0, 2, 3, 6, 7, 9, 10, 11, 12, 13, 14, 15, 16, 17, 18, 19, 20, 21, 22, 23, 24, 25, 26, 27, 28, 29, 30, 31, 32, 33, 34, 35, 36, 37, 38, 39, 40, 41, 42, 43, 44, 45, 46, 47, 48, 49, 50, 51, 52, 53, 54, 55, 56, 57, 58, 59, 60, 61, 62, 63, 64, 65, 66, 67, 68, 69, 70, 71, 72, 73, 74, 75, 76, 77, 78, 79, 80], [0, 1, 4, 5, 6, 7, 8, 9, 10, 11, 12, 13, 14, 15, 16, 17, 18, 19, 20, 21, 22, 23, 24, 25, 26, 27, 28, 29, 30, 31, 32, 33, 34, 35, 36, 37, 38, 39, 40, 41, 42, 43, 44, 45, 46, 47, 48, 49, 50, 51, 52, 53, 54, 55, 56, 57, 58, 59, 60, 61, 62, 63, 64, 65, 66, 67, 68, 69, 70, 71, 72, 73, 74, 75, 76, 77, 78, 79, 80])), (2, ([0, 2, 3, 6, 7, 9, 10, 11, 12, 13, 14, 15, 16, 17, 18, 19, 20, 21, 22, 23, 24, 25, 26, 27, 28, 29, 30, 31, 32, 33, 34, 35, 36, 37, 38, 39, 40, 41, 42, 43, 44, 45, 46, 47, 48, 49, 50, 51, 52, 53, 54, 55, 56, 57, 58, 59, 60, 61, 62, 63, 64, 65, 66, 67, 68, 69, 70, 71, 72, 73, 74, 75, 76, 77, 78, 79, 80], [0, 2, 3, 6, 7, 9, 10, 11, 12, 13, 14, 15, 16, 17, 18, 19, 20, 21, 22, 23, 24, 25, 26, 27, 28, 29, 30, 31, 32, 33, 34, 35, 36, 37, 38, 39, 40, 41, 42, 43, 44, 45, 46, 47, 48, 49, 50, 51, 52, 53, 54, 55, 56, 57, 58, 59, 60, 61, 62, 63, 64, 65, 66, 67, 68, 69, 70, 71, 72, 73, 74, 75, 76, 77, 78, 79, 80], [0, 1, 4, 5, 6, 7, 8, 9, 10, 11, 12, 13, 14, 15, 16, 17, 18, 19, 20, 21, 22, 23, 24, 25, 26, 27, 28, 29, 30, 31, 32, 33, 34, 35, 36, 37, 38, 39, 40, 41, 42, 43, 44, 45, 46, 47, 48, 49, 50, 51, 52, 53, 54, 55, 56, 57, 58, 59, 60, 61, 62, 63, 64, 65, 66, 67, 68, 69, 70, 71, 72, 73, 74, 75, 76, 77, 78, 79, 80])), (0, ([0, 2, 3, 8, 9, 10, 11, 12, 13, 14, 15, 16, 17, 18, 19, 20, 21, 22, 23, 24, 25, 26, 27, 28, 29, 30, 31, 32, 33, 34, 35, 36, 37, 38, 39, 40, 41, 42, 43, 44, 45, 46, 47, 48, 49, 50, 51, 52, 53, 54, 55, 56, 57, 58, 59, 60, 61, 62, 63, 64, 65, 66, 67, 68, 69, 70, 71, 72, 73, 74, 75, 76, 77, 78, 79, 80], [0, 2, 3, 6, 7, 8, 9, 10, 11, 12, 13, 14, 15, 16, 17, 18, 19, 20, 21, 22, 23, 24, 25, 26, 27, 28, 29, 30, 31, 32, 33, 34, 35, 36, 37, 38, 39, 40, 41, 42, 43, 44, 45, 46, 47, 48, 49, 50, 51, 52, 53, 54, 55, 56, 57, 58, 59, 60, 61, 62, 63, 64, 65, 66, 67, 68, 69, 70, 71, 72, 73, 74, 75, 76, 77, 78, 79, 80], [0, 1, 4, 5, 6, 7, 8, 9, 10, 11, 12, 13, 14, 15, 16, 17, 18, 19, 20, 21, 22, 23, 24, 25, 26, 27, 28, 29, 30, 31, 32, 33, 34, 35, 36, 37, 38, 39, 40, 41, 42, 43, 44, 45, 46, 47, 48, 49, 50, 51, 52, 53, 54, 55, 56, 57, 58, 59, 60, 61, 62, 63, 64, 65, 66, 67, 68, 69, 70, 71, 72, 73, 74, 75, 76, 77, 78, 79, 80]))], sk := [], mvs := [], fz := [], fl := [13, 18] }
def f_s_SubgroupsOf_a (L0 : List Sc) : List AV := enc [.p .gr] [.l L0]
def f_s_SubgroupsOf_i (L0 : List Sc) : List AV := enc [] []
def f_s_SubgroupsOf_en (r : List Sc × Bool) : List AV × List AV := (enc [.p .sl, .p .boo] [.l r.1, .b r.2], enc [] [])
def f_s_SubgroupsOf_M : Calling := addC 43 f_s_IsGroup_c (addC 44 f_s_l2Order_c (addC 51 f_s_l5Closure_c (addC 89 f_s_l5Put_c (addC 73 f_s_l4Sum_c (noC)))))
theorem f_s_SubgroupsOf_Mt : CallOk Try.prog (f_s_SubgroupsOf_M) := addC_true f_s_IsGroup_cc (addC_true f_s_l2Order_cc (addC_true f_s_l5Closure_cc (addC_true f_s_l5Put_cc (addC_true f_s_l4Sum_cc (noC_true)))))
theorem f_s_SubgroupsOf_o : loopsOnce Try.f84 = true := by kernel_rfl
def f_s_SubgroupsOf_h0 : List Sh := [.u, .p .el, .u, .u, .p .sl, .p .sl, .p (.int .i64), .p (.int .i64), .u, .u, .u, .u, .u, .u, .u, .u, .u, .u, .u, .u, .u, .u, .u, .u, .u, .u, .u, .u, .u, .u, .u, .u, .u, .u, .u, .u, .u, .u, .u, .u, .u, .u, .u, .u, .u, .u, .u, .u, .u, .u, .u, .u, .u, .u, .u, .u, .u, .u, .u, .u, .u, .u, .u, .u, .u, .u, .u, .u, .u, .u, .u, .u, .u, .u, .u, .u, .u, .u, .u, .u, .u]
def f_s_SubgroupsOf_fr0 (t1 : List Sc) (t4 : List Sc) (t6 : Int) (s : List Sc × Int) : List AV := enc f_s_SubgroupsOf_h0 [.l t1, .l t4, .l s.1, .i t6, .i s.2]
def f_s_SubgroupsOf_g0_1 : List Sh := [.u, .p .el, .u, .u, .p .sl, .p .sl, .u, .u, .u, .u, .u, .u, .u, .u, .u, .u, .u, .u, .u, .u, .u, .u, .u, .u, .u, .u, .u, .u, .u, .u, .u, .u, .u, .u, .u, .u, .u, .u, .u, .u, .u, .u, .u, .u, .u, .u, .u, .u, .u, .u, .u, .u, .u, .u, .u, .u, .u, .u, .u, .u, .u, .u, .u, .u, .u, .u, .u, .u, .u, .u, .u, .u, .u, .u, .u, .u, .u, .u, .u, .u, .u]
def f_s_SubgroupsOf_x0_1 (t1 : List Sc) (t4 : List Sc) (t6 : Int) (e : List Sc) : X × List AV := (.out 0, enc f_s_SubgroupsOf_g0_1 [.l t1, .l t4, .l e])
def f_s_SubgroupsOf_x0_2 (t1 : List Sc) (t4 : List Sc) (t6 : Int) (_e : Unit) : X × List AV := (.ret, [])
theorem f_s_SubgroupsOf_p0 {R : Type} (t1 : List Sc) (t4 : List Sc) (t6 : Int) (s : List Sc × Int) (kN : List Sc × Int → Option R) (kA : List Sc → Option R) (kB : Unit → Option R) : f_s_SubgroupsOf_k0 t1 t4 t6 s.1 s.2 kN kA = (f_s_SubgroupsOf_r0 t1 t4 t6 s).bind (Ro.el kN kA kB) := by
  simp only [f_s_SubgroupsOf_k0, f_s_SubgroupsOf_r0, brB, boB, someB, noneB, Ro.el]
theorem f_s_SubgroupsOf_e0 (t1 : List Sc) (t4 : List Sc) (t6 : Int) (s : List Sc × Int) : EC E0 f_s_SubgroupsOf_M H0 f_s_SubgroupsOf_F (asL (noL)) 0 (bodyOf Try.f84 0) (f_s_SubgroupsOf_fr0 t1 t4 t6 s) (done (klOf f_s_SubgroupsOf_F 0)) = f_s_SubgroupsOf_k0 t1 t4 t6 s.1 s.2 (fun s => some (.norm, f_s_SubgroupsOf_fr0 t1 t4 t6 s)) (fun e => some (f_s_SubgroupsOf_x0_1 t1 t4 t6 e)) := by kernel_rfl
theorem f_s_SubgroupsOf_l0 (t1 : List Sc) (t4 : List Sc) (t6 : Int) : ∀ s r, loopL (f_s_SubgroupsOf_r0 t1 t4 t6) s = some r → LS Try.prog f_s_SubgroupsOf_F (bodyOf Try.f84 0) (f_s_SubgroupsOf_fr0 t1 t4 t6 s) (enX (f_s_SubgroupsOf_x0_1 t1 t4 t6) (f_s_SubgroupsOf_x0_2 t1 t4 t6) r) :=
  loop_true E0ok f_s_SubgroupsOf_Mt (noL_true) f_s_SubgroupsOf_o (fun _ h => by cases h) (fun _ h => by cases h) (fun s => (f_s_SubgroupsOf_e0 t1 t4 t6 s).trans (f_s_SubgroupsOf_p0 t1 t4 t6 s _ _ (fun e => some (f_s_SubgroupsOf_x0_2 t1 t4 t6 e))))
def f_s_SubgroupsOf_t0 (σ : List AV) : Option (Bool × Bool × (X × List AV) × (X × List AV)) := match dec f_s_SubgroupsOf_h0 σ with
  | some [.l t1, .l t4, .l t5, .i t6, .i t7] => some (isOne (loopL (f_s_SubgroupsOf_r0 t1 t4 t6) (t5, t7)), true, f_s_SubgroupsOf_x0_1 t1 t4 t6 (getOne [] (loopL (f_s_SubgroupsOf_r0 t1 t4 t6) (t5, t7))), (.ret, []))
  | _ => none
theorem f_s_SubgroupsOf_tt0 : TTrue Try.prog f_s_SubgroupsOf_F Try.f84 0 (f_s_SubgroupsOf_t0) := by
  intro σ p r r' h
  unfold f_s_SubgroupsOf_t0 at h
  split at h
  · rename_i hd
    rw [← dec_enc hd]
    exact row1 (f_s_SubgroupsOf_l0 _ _ _ _) h
  · cases h
def f_s_SubgroupsOf_h4 : List Sh := [.u, .p .el, .u, .u, .p .sl, .p .sl, .u, .u, .p (.int .i64), .p (.int .i64), .u, .u, .u, .u, .u, .u, .u, .u, .u, .u, .u, .u, .u, .u, .u, .u, .u, .u, .u, .u, .u, .u, .u, .u, .u, .u, .u, .u, .u, .u, .u, .u, .u, .u, .u, .u, .u, .u, .u, .u, .u, .u, .u, .u, .u, .u, .u, .u, .u, .u, .u, .u, .u, .u, .u, .u, .u, .u, .u, .u, .u, .u, .u, .u, .u, .u, .u, .u, .u, .u, .u]
def f_s_SubgroupsOf_fr4 (t1 : List Sc) (t5 : List Sc) (t8 : Int) (s : List Sc × Int) : List AV := enc f_s_SubgroupsOf_h4 [.l t1, .l s.1, .l t5, .i t8, .i s.2]
def f_s_SubgroupsOf_g4_1 : List Sh := [.u, .p .el, .u, .u, .p .sl, .p .sl, .u, .u, .p (.int .i64), .u, .u, .u, .u, .u, .u, .u, .u, .u, .u, .u, .u, .u, .u, .u, .u, .u, .u, .u, .u, .u, .u, .u, .u, .u, .u, .u, .u, .u, .u, .u, .u, .u, .u, .u, .u, .u, .u, .u, .u, .u, .u, .u, .u, .u, .u, .u, .u, .u, .u, .u, .u, .u, .u, .u, .u, .u, .u, .u, .u, .u, .u, .u, .u, .u, .u, .u, .u, .u, .u, .u, .u]
def f_s_SubgroupsOf_x4_1 (t1 : List Sc) (t5 : List Sc) (t8 : Int) (e : List Sc) : X × List AV := (.out 4, enc f_s_SubgroupsOf_g4_1 [.l t1, .l e, .l t5, .i t8])
def f_s_SubgroupsOf_x4_2 (t1 : List Sc) (t5 : List Sc) (t8 : Int) (_e : Unit) : X × List AV := (.ret, [])
theorem f_s_SubgroupsOf_p4 {R : Type} (t1 : List Sc) (t5 : List Sc) (t8 : Int) (s : List Sc × Int) (kN : List Sc × Int → Option R) (kA : List Sc → Option R) (kB : Unit → Option R) : f_s_SubgroupsOf_k4 t1 t5 t8 s.1 s.2 kN kA = (f_s_SubgroupsOf_r4 t1 t5 t8 s).bind (Ro.el kN kA kB) := by
  simp only [f_s_SubgroupsOf_k4, f_s_SubgroupsOf_r4, brB, boB, someB, noneB, Ro.el]
theorem f_s_SubgroupsOf_e4 (t1 : List Sc) (t5 : List Sc) (t8 : Int) (s : List Sc × Int) : EC E0 f_s_SubgroupsOf_M H0 f_s_SubgroupsOf_F (asL (addL 0 (f_s_SubgroupsOf_t0) (noL))) 4 (bodyOf Try.f84 4) (f_s_SubgroupsOf_fr4 t1 t5 t8 s) (done (klOf f_s_SubgroupsOf_F 4)) = f_s_SubgroupsOf_k4 t1 t5 t8 s.1 s.2 (fun s => some (.norm, f_s_SubgroupsOf_fr4 t1 t5 t8 s)) (fun e => some (f_s_SubgroupsOf_x4_1 t1 t5 t8 e)) := by kernel_rfl
theorem f_s_SubgroupsOf_l4 (t1 : List Sc) (t5 : List Sc) (t8 : Int) : ∀ s r, loopL (f_s_SubgroupsOf_r4 t1 t5 t8) s = some r → LS Try.prog f_s_SubgroupsOf_F (bodyOf Try.f84 4) (f_s_SubgroupsOf_fr4 t1 t5 t8 s) (enX (f_s_SubgroupsOf_x4_1 t1 t5 t8) (f_s_SubgroupsOf_x4_2 t1 t5 t8) r) :=
  loop_true E0ok f_s_SubgroupsOf_Mt (addL_true (f_s_SubgroupsOf_tt0) (noL_true)) f_s_SubgroupsOf_o (fun _ h => by cases h) (fun _ h => by cases h) (fun s => (f_s_SubgroupsOf_e4 t1 t5 t8 s).trans (f_s_SubgroupsOf_p4 t1 t5 t8 s _ _ (fun e => some (f_s_SubgroupsOf_x4_2 t1 t5 t8 e))))
def f_s_SubgroupsOf_t4 (σ : List AV) : Option (Bool × Bool × (X × List AV) × (X × List AV)) := match dec f_s_SubgroupsOf_h4 σ with
  | some [.l t1, .l t4, .l t5, .i t8, .i t9] => some (isOne (loopL (f_s_SubgroupsOf_r4 t1 t5 t8) (t4, t9)), true, f_s_SubgroupsOf_x4_1 t1 t5 t8 (getOne [] (loopL (f_s_SubgroupsOf_r4 t1 t5 t8) (t4, t9))), (.ret, []))
  | _ => none
theorem f_s_SubgroupsOf_tt4 : TTrue Try.prog f_s_SubgroupsOf_F Try.f84 4 (f_s_SubgroupsOf_t4) := by
  intro σ p r r' h
  unfold f_s_SubgroupsOf_t4 at h
  split at h
  · rename_i hd
    rw [← dec_enc hd]
    exact row1 (f_s_SubgroupsOf_l4 _ _ _ _) h
  · cases h
def f_s_SubgroupsOf_h2 : List Sh := [.u, .p .el, .u, .u, .p .sl, .p .sl, .u, .u, .p (.int .i64), .u, .u, .u, .u, .u, .u, .u, .u, .u, .u, .u, .u, .u, .u, .u, .u, .u, .u, .u, .u, .u, .u, .u, .u, .u, .u, .u, .u, .u, .u, .u, .u, .u, .u, .u, .u, .u, .u, .u, .u, .u, .u, .u, .u, .u, .u, .u, .u, .u, .u, .u, .u, .u, .u, .u, .u, .u, .u, .u, .u, .u, .u, .u, .u, .u, .u, .u, .u, .u, .u, .u, .u]
def f_s_SubgroupsOf_fr2 (t1 : List Sc) (t5 : List Sc) (s : List Sc × Int) : List AV := enc f_s_SubgroupsOf_h2 [.l t1, .l s.1, .l t5, .i s.2]
def f_s_SubgroupsOf_g2_1 : List Sh := [.u, .p .el, .u, .u, .p .sl, .p .sl, .u, .u, .p (.int .i64), .u, .u, .u, .u, .u, .u, .u, .u, .u, .u, .u, .u, .u, .u, .u, .u, .u, .u, .u, .u, .u, .u, .u, .u, .u, .u, .u, .u, .u, .u, .u, .u, .u, .u, .u, .u, .u, .u, .u, .u, .u, .u, .u, .u, .u, .u, .u, .u, .u, .u, .u, .u, .u, .u, .u, .u, .u, .u, .u, .u, .u, .u, .u, .u, .u, .u, .u, .u, .u, .u, .u, .u]
def f_s_SubgroupsOf_x2_1 (t1 : List Sc) (t5 : List Sc) (e : List Sc × Int) : X × List AV := (.out 2, enc f_s_SubgroupsOf_g2_1 [.l t1, .l e.1, .l t5, .i e.2])
def f_s_SubgroupsOf_x2_2 (t1 : List Sc) (t5 : List Sc) (_e : Unit) : X × List AV := (.ret, [])
theorem f_s_SubgroupsOf_p2 {R : Type} (t1 : List Sc) (t5 : List Sc) (s : List Sc × Int) (kN : List Sc × Int → Option R) (kA : List Sc × Int → Option R) (kB : Unit → Option R) : f_s_SubgroupsOf_k2 t1 t5 s.1 s.2 kN kA = (f_s_SubgroupsOf_r2 t1 t5 s).bind (Ro.el kN kA kB) := by
  simp only [f_s_SubgroupsOf_k2, f_s_SubgroupsOf_r2, brB, bl1B, someB, Ro.el]
theorem f_s_SubgroupsOf_e2 (t1 : List Sc) (t5 : List Sc) (s : List Sc × Int) : EC E0 f_s_SubgroupsOf_M H0 f_s_SubgroupsOf_F (asL (addL 4 (f_s_SubgroupsOf_t4) (addL 0 (f_s_SubgroupsOf_t0) (noL)))) 2 (bodyOf Try.f84 2) (f_s_SubgroupsOf_fr2 t1 t5 s) (done (klOf f_s_SubgroupsOf_F 2)) = f_s_SubgroupsOf_k2 t1 t5 s.1 s.2 (fun s => some (.norm, f_s_SubgroupsOf_fr2 t1 t5 s)) (fun e => some (f_s_SubgroupsOf_x2_1 t1 t5 e)) := by kernel_rfl
theorem f_s_SubgroupsOf_l2 (t1 : List Sc) (t5 : List Sc) : ∀ s r, loopL (f_s_SubgroupsOf_r2 t1 t5) s = some r → LS Try.prog f_s_SubgroupsOf_F (bodyOf Try.f84 2) (f_s_SubgroupsOf_fr2 t1 t5 s) (enX (f_s_SubgroupsOf_x2_1 t1 t5) (f_s_SubgroupsOf_x2_2 t1 t5) r) :=
  loop_true E0ok f_s_SubgroupsOf_Mt (addL_true (f_s_SubgroupsOf_tt4) (addL_true (f_s_SubgroupsOf_tt0) (noL_true))) f_s_SubgroupsOf_o (fun _ h => by cases h) (fun _ h => by cases h) (fun s => (f_s_SubgroupsOf_e2 t1 t5 s).trans (f_s_SubgroupsOf_p2 t1 t5 s _ _ (fun e => some (f_s_SubgroupsOf_x2_2 t1 t5 e))))
def f_s_SubgroupsOf_t2 (σ : List AV) : Option (Bool × Bool × (X × List AV) × (X × List AV)) := match dec f_s_SubgroupsOf_h2 σ with
  | some [.l t1, .l t4, .l t5, .i t8] => some (isOne (loopL (f_s_SubgroupsOf_r2 t1 t5) (t4, t8)), true, f_s_SubgroupsOf_x2_1 t1 t5 (getOne ([], 0) (loopL (f_s_SubgroupsOf_r2 t1 t5) (t4, t8))), (.ret, []))
  | _ => none
theorem f_s_SubgroupsOf_tt2 : TTrue Try.prog f_s_SubgroupsOf_F Try.f84 2 (f_s_SubgroupsOf_t2) := by
  intro σ p r r' h
  unfold f_s_SubgroupsOf_t2 at h
  split at h
  · rename_i hd
    rw [← dec_enc hd]
    exact row1 (f_s_SubgroupsOf_l2 _ _ _) h
  · cases h
def f_s_SubgroupsOf_h8 : List Sh := [.u, .p .el, .u, .u, .p .sl, .p .sl, .u, .u, .u, .u, .p .sl, .p (.int .i64), .p (.int .i64), .u, .u, .u, .u, .u, .u, .u, .u, .u, .u, .u, .u, .u, .u, .u, .u, .u, .u, .u, .u, .u, .u, .u, .u, .u, .u, .u, .u, .u, .u, .u, .u, .u, .u, .u, .u, .u, .u, .u, .u, .u, .u, .u, .u, .u, .u, .u, .u, .u, .u, .u, .u, .u, .u, .u, .u, .u, .u, .u, .u, .u, .u, .u, .u, .u, .u, .u, .u]
def f_s_SubgroupsOf_fr8 (t1 : List Sc) (t5 : List Sc) (t10 : List Sc) (t11 : Int) (s : List Sc × Int) : List AV := enc f_s_SubgroupsOf_h8 [.l t1, .l s.1, .l t5, .l t10, .i t11, .i s.2]
def f_s_SubgroupsOf_g8_1 : List Sh := [.u, .p .el, .u, .u, .p .sl, .p .sl, .u, .u, .u, .u, .p .sl, .p (.int .i64), .u, .u, .u, .u, .u, .u, .u, .u, .u, .u, .u, .u, .u, .u, .u, .u, .u, .u, .u, .u, .u, .u, .u, .u, .u, .u, .u, .u, .u, .u, .u, .u, .u, .u, .u, .u, .u, .u, .u, .u, .u, .u, .u, .u, .u, .u, .u, .u, .u, .u, .u, .u, .u, .u, .u, .u, .u, .u, .u, .u, .u, .u, .u, .u, .u, .u, .u, .u, .u]
def f_s_SubgroupsOf_x8_1 (t1 : List Sc) (t5 : List Sc) (t10 : List Sc) (t11 : Int) (e : List Sc) : X × List AV := (.out 8, enc f_s_SubgroupsOf_g8_1 [.l t1, .l e, .l t5, .l t10, .i t11])
def f_s_SubgroupsOf_x8_2 (t1 : List Sc) (t5 : List Sc) (t10 : List Sc) (t11 : Int) (_e : Unit) : X × List AV := (.ret, [])
theorem f_s_SubgroupsOf_p8 {R : Type} (t1 : List Sc) (t5 : List Sc) (t10 : List Sc) (t11 : Int) (s : List Sc × Int) (kN : List Sc × Int → Option R) (kA : List Sc → Option R) (kB : Unit → Option R) : f_s_SubgroupsOf_k8 t1 t5 t10 t11 s.1 s.2 kN kA = (f_s_SubgroupsOf_r8 t1 t5 t10 t11 s).bind (Ro.el kN kA kB) := by
  simp only [f_s_SubgroupsOf_k8, f_s_SubgroupsOf_r8, brB, boB, someB, noneB, Ro.el]
theorem f_s_SubgroupsOf_e8 (t1 : List Sc) (t5 : List Sc) (t10 : List Sc) (t11 : Int) (s : List Sc × Int) : EC E0 f_s_SubgroupsOf_M H0 f_s_SubgroupsOf_F (asL (addL 2 (f_s_SubgroupsOf_t2) (addL 4 (f_s_SubgroupsOf_t4) (addL 0 (f_s_SubgroupsOf_t0) (noL))))) 8 (bodyOf Try.f84 8) (f_s_SubgroupsOf_fr8 t1 t5 t10 t11 s) (done (klOf f_s_SubgroupsOf_F 8)) = f_s_SubgroupsOf_k8 t1 t5 t10 t11 s.1 s.2 (fun s => some (.norm, f_s_SubgroupsOf_fr8 t1 t5 t10 t11 s)) (fun e => some (f_s_SubgroupsOf_x8_1 t1 t5 t10 t11 e)) := by kernel_rfl
theorem f_s_SubgroupsOf_l8 (t1 : List Sc) (t5 : List Sc) (t10 : List Sc) (t11 : Int) : ∀ s r, loopL (f_s_SubgroupsOf_r8 t1 t5 t10 t11) s = some r → LS Try.prog f_s_SubgroupsOf_F (bodyOf Try.f84 8) (f_s_SubgroupsOf_fr8 t1 t5 t10 t11 s) (enX (f_s_SubgroupsOf_x8_1 t1 t5 t10 t11) (f_s_SubgroupsOf_x8_2 t1 t5 t10 t11) r) :=
  loop_true E0ok f_s_SubgroupsOf_Mt (addL_true (f_s_SubgroupsOf_tt2) (addL_true (f_s_SubgroupsOf_tt4) (addL_true (f_s_SubgroupsOf_tt0) (noL_true)))) f_s_SubgroupsOf_o (fun _ h => by cases h) (fun _ h => by cases h) (fun s => (f_s_SubgroupsOf_e8 t1 t5 t10 t11 s).trans (f_s_SubgroupsOf_p8 t1 t5 t10 t11 s _ _ (fun e => some (f_s_SubgroupsOf_x8_2 t1 t5 t10 t11 e))))
def f_s_SubgroupsOf_t8 (σ : List AV) : Option (Bool × Bool × (X × List AV) × (X × List AV)) := match dec f_s_SubgroupsOf_h8 σ with
  | some [.l t1, .l t4, .l t5, .l t10, .i t11, .i t12] => some (isOne (loopL (f_s_SubgroupsOf_r8 t1 t5 t10 t11) (t4, t12)), true, f_s_SubgroupsOf_x8_1 t1 t5 t10 t11 (getOne [] (loopL (f_s_SubgroupsOf_r8 t1 t5 t10 t11) (t4, t12))), (.ret, []))
  | _ => none
theorem f_s_SubgroupsOf_tt8 : TTrue Try.prog f_s_SubgroupsOf_F Try.f84 8 (f_s_SubgroupsOf_t8) := by
  intro σ p r r' h
  unfold f_s_SubgroupsOf_t8 at h
  split at h
  · rename_i hd
    rw [← dec_enc hd]
    exact row1 (f_s_SubgroupsOf_l8 _ _ _ _ _) h
  · cases h
def f_s_SubgroupsOf_h6 : List Sh := [.u, .p .el, .u, .u, .p .sl, .p .sl, .u, .u, .u, .u, .p .sl, .p (.int .i64), .u, .u, .u, .u, .u, .u, .u, .u, .u, .u, .u, .u, .u, .u, .u, .u, .u, .u, .u, .u, .u, .u, .u, .u, .u, .u, .u, .u, .u, .u, .u, .u, .u, .u, .u, .u, .u, .u, .u, .u, .u, .u, .u, .u, .u, .u, .u, .u, .u, .u, .u, .u, .u, .u, .u, .u, .u, .u, .u, .u, .u, .u, .u, .u, .u, .u, .u, .u, .u]
def f_s_SubgroupsOf_fr6 (t1 : List Sc) (t5 : List Sc) (t10 : List Sc) (s : List Sc × Int) : List AV := enc f_s_SubgroupsOf_h6 [.l t1, .l s.1, .l t5, .l t10, .i s.2]
def f_s_SubgroupsOf_g6_1 : List Sh := [.u, .p .el, .u, .u, .p .sl, .p .sl, .u, .u, .u, .u, .p .sl, .p (.int .i64), .u, .u, .u, .u, .u, .u, .u, .u, .u, .u, .u, .u, .u, .u, .u, .u, .u, .u, .u, .u, .u, .u, .u, .u, .u, .u, .u, .u, .u, .u, .u, .u, .u, .u, .u, .u, .u, .u, .u, .u, .u, .u, .u, .u, .u, .u, .u, .u, .u, .u, .u, .u, .u, .u, .u, .u, .u, .u, .u, .u, .u, .u, .u, .u, .u, .u, .u, .u, .u]
def f_s_SubgroupsOf_x6_1 (t1 : List Sc) (t5 : List Sc) (t10 : List Sc) (e : List Sc × Int) : X × List AV := (.out 6, enc f_s_SubgroupsOf_g6_1 [.l t1, .l e.1, .l t5, .l t10, .i e.2])
def f_s_SubgroupsOf_x6_2 (t1 : List Sc) (t5 : List Sc) (t10 : List Sc) (_e : Unit) : X × List AV := (.ret, [])
theorem f_s_SubgroupsOf_p6 {R : Type} (t1 : List Sc) (t5 : List Sc) (t10 : List Sc) (s : List Sc × Int) (kN : List Sc × Int → Option R) (kA : List Sc × Int → Option R) (kB : Unit → Option R) : f_s_SubgroupsOf_k6 t1 t5 t10 s.1 s.2 kN kA = (f_s_SubgroupsOf_r6 t1 t5 t10 s).bind (Ro.el kN kA kB) := by
  simp only [f_s_SubgroupsOf_k6, f_s_SubgroupsOf_r6, brB, bl1B, someB, Ro.el]
theorem f_s_SubgroupsOf_e6 (t1 : List Sc) (t5 : List Sc) (t10 : List Sc) (s : List Sc × Int) : EC E0 f_s_SubgroupsOf_M H0 f_s_SubgroupsOf_F (asL (addL 8 (f_s_SubgroupsOf_t8) (addL 2 (f_s_SubgroupsOf_t2) (addL 4 (f_s_SubgroupsOf_t4) (addL 0 (f_s_SubgroupsOf_t0) (noL)))))) 6 (bodyOf Try.f84 6) (f_s_SubgroupsOf_fr6 t1 t5 t10 s) (done (klOf f_s_SubgroupsOf_F 6)) = f_s_SubgroupsOf_k6 t1 t5 t10 s.1 s.2 (fun s => some (.norm, f_s_SubgroupsOf_fr6 t1 t5 t10 s)) (fun e => some (f_s_SubgroupsOf_x6_1 t1 t5 t10 e)) := by kernel_rfl
theorem f_s_SubgroupsOf_l6 (t1 : List Sc) (t5 : List Sc) (t10 : List Sc) : ∀ s r, loopL (f_s_SubgroupsOf_r6 t1 t5 t10) s = some r → LS Try.prog f_s_SubgroupsOf_F (bodyOf Try.f84 6) (f_s_SubgroupsOf_fr6 t1 t5 t10 s) (enX (f_s_SubgroupsOf_x6_1 t1 t5 t10) (f_s_SubgroupsOf_x6_2 t1 t5 t10) r) :=
  loop_true E0ok f_s_SubgroupsOf_Mt (addL_true (f_s_SubgroupsOf_tt8) (addL_true (f_s_SubgroupsOf_tt2) (addL_true (f_s_SubgroupsOf_tt4) (addL_true (f_s_SubgroupsOf_tt0) (noL_true))))) f_s_SubgroupsOf_o (fun _ h => by cases h) (fun _ h => by cases h) (fun s => (f_s_SubgroupsOf_e6 t1 t5 t10 s).trans (f_s_SubgroupsOf_p6 t1 t5 t10 s _ _ (fun e => some (f_s_SubgroupsOf_x6_2 t1 t5 t10 e))))
def f_s_SubgroupsOf_t6 (σ : List AV) : Option (Bool × Bool × (X × List AV) × (X × List AV)) := match dec f_s_SubgroupsOf_h6 σ with
  | some [.l t1, .l t4, .l t5, .l t10, .i t11] => some (isOne (loopL (f_s_SubgroupsOf_r6 t1 t5 t10) (t4, t11)), true, f_s_SubgroupsOf_x6_1 t1 t5 t10 (getOne ([], 0) (loopL (f_s_SubgroupsOf_r6 t1 t5 t10) (t4, t11))), (.ret, []))
  | _ => none
theorem f_s_SubgroupsOf_tt6 : TTrue Try.prog f_s_SubgroupsOf_F Try.f84 6 (f_s_SubgroupsOf_t6) := by
  intro σ p r r' h
  unfold f_s_SubgroupsOf_t6 at h
  split at h
  · rename_i hd
    rw [← dec_enc hd]
    exact row1 (f_s_SubgroupsOf_l6 _ _ _ _) h
  · cases h
theorem f_s_SubgroupsOf_p {R : Type} (L0 : List Sc) (kR : List Sc × Bool → Option R) : f_s_SubgroupsOf_k L0 kR = (f_s_SubgroupsOf_k L0 some).bind kR := by
  simp only [f_s_SubgroupsOf_k, brB, boB, bl1B, someB]
theorem f_s_SubgroupsOf_e (L0 : List Sc) : runFn E0 f_s_SubgroupsOf_M H0 f_s_SubgroupsOf_F (asL (addL 6 (f_s_SubgroupsOf_t6) (addL 8 (f_s_SubgroupsOf_t8) (addL 2 (f_s_SubgroupsOf_t2) (addL 4 (f_s_SubgroupsOf_t4) (addL 0 (f_s_SubgroupsOf_t0) (noL))))))) Try.f84 (f_s_SubgroupsOf_a L0) (f_s_SubgroupsOf_i L0) = f_s_SubgroupsOf_k L0 (fun r => some (f_s_SubgroupsOf_en r)) := by kernel_rfl
theorem f_s_SubgroupsOf_ok (L0 : List Sc) (r : List Sc × Bool) (h : f_s_SubgroupsOf L0 = some r) : CS Try.prog 84 (f_s_SubgroupsOf_a L0) (f_s_SubgroupsOf_i L0) (f_s_SubgroupsOf_en r).1 (f_s_SubgroupsOf_en r).2 :=
  fn_true (Gk := fun k => f_s_SubgroupsOf_k L0 k) (en := f_s_SubgroupsOf_en) Try.func84 E0ok f_s_SubgroupsOf_Mt (addL_true (f_s_SubgroupsOf_tt6) (addL_true (f_s_SubgroupsOf_tt8) (addL_true (f_s_SubgroupsOf_tt2) (addL_true (f_s_SubgroupsOf_tt4) (addL_true (f_s_SubgroupsOf_tt0) (noL_true)))))) f_s_SubgroupsOf_o (f_s_SubgroupsOf_e L0) (f_s_SubgroupsOf_p L0) h
def f_s_SubgroupsOf_c : CRow := fun args inh => match dec2 [.p .gr] [] args inh with
  | some ([.l L0], []) => some ((f_s_SubgroupsOf L0).isSome, (f_s_SubgroupsOf_en ((f_s_SubgroupsOf L0).getD ([], false))).1, (f_s_SubgroupsOf_en ((f_s_SubgroupsOf L0).getD ([], false))).2)
  | _ => none
theorem f_s_SubgroupsOf_cc : CTrue Try.prog 84 f_s_SubgroupsOf_c := by
  intro args inh rs out h
  unfold f_s_SubgroupsOf_c at h
  split at h
  · rename_i hd
    obtain ⟨h1, h2⟩ := dec2_enc hd
    rw [← h1, ← h2]
    exact rowC (f_s_SubgroupsOf_ok _) h
  · cases h

def f_s_l3Set_io_F : Fi := { nv := 3, nc := 3, m := 3, vt := [], kl := [(0, ([4, 5, 6, 7, 11, 12, 13, 14, 15, 16, 17, 18, 19, 20, 21, 22, 23, 24, 25, 26, 27, 28, 29, 30, 31, 32, 33, 34, 35, 36, 37, 38], [4, 5, 6, 7, 10, 11, 12, 13, 14, 15, 16, 17, 18, 19, 20, 21, 22, 23, 24, 25, 26, 27, 28, 29, 30, 31, 32, 33, 34, 35, 36, 37, 38], [3, 4, 5, 6, 8, 9, 10, 11, 12, 13, 14, 15, 16, 17, 18, 19, 20, 21, 22, 23, 24, 25, 26, 27, 28, 29, 30, 31, 32, 33, 34, 35, 36, 37, 38]))], sk := [], mvs := [], fz := [] }
def f_s_l3Set_io_a (g1 : List Sc) (h0 : List Sc) (h1 : Int) (h2 : Int) : List AV := enc [.p (.pt 0 3), .p .gr] [.l g1]
def f_s_l3Set_io_i (g1 : List Sc) (h0 : List Sc) (h1 : Int) (h2 : Int) : List AV := enc [.p .sl, .p (.int .i64), .p (.int .i64)] [.l h0, .i h1, .i h2]
def f_s_l3Set_io_en (r : Int × List Sc × Int × Int) : List AV × List AV := (enc [.p (.int .i64)] [.i r.1], enc [.p .sl, .p (.int .i64), .p (.int .i64)] [.l r.2.1, .i r.2.2.1, .i r.2.2.2])
def f_s_l3Set_io_M : Calling := addC 9 f_s_OrderOf_c (addC 83 f_s_l1Below_io_c (addC 80 f_s_l1PickInt_io_c (noC)))
theorem f_s_l3Set_io_Mt : CallOk Try.prog (f_s_l3Set_io_M) := addC_true f_s_OrderOf_cc (addC_true f_s_l1Below_io_cc (addC_true f_s_l1PickInt_io_cc (noC_true)))
theorem f_s_l3Set_io_o : loopsOnce Try.f78 = true := by kernel_rfl
def f_s_l3Set_io_h0 : List Sh := [.p .sl, .p (.int .i64), .p (.int .i64), .p (.pt 0 3), .u, .u, .u, .u, .p (.int .i64), .p (.int .i64), .p (.int .i64), .u, .u, .u, .u, .u, .u, .u, .u, .u, .u, .u, .u, .u, .u, .u, .u, .u, .u, .u, .u, .u, .u, .u, .u, .u, .u, .u, .u]
def f_s_l3Set_io_fr0 (n5 : Int) (s : List Sc × Int × Int × Int × Int) : List AV := enc f_s_l3Set_io_h0 [.l s.1, .i s.2.1, .i s.2.2.1, .i n5, .i s.2.2.2.1, .i s.2.2.2.2]
def f_s_l3Set_io_g0_1 : List Sh := [.p .sl, .p (.int .i64), .p (.int .i64), .p (.pt 0 3), .u, .u, .u, .u, .p (.int .i64), .p (.int .i64), .u, .u, .u, .u, .u, .u, .u, .u, .u, .u, .u, .u, .u, .u, .u, .u, .u, .u, .u, .u, .u, .u, .u, .u, .u, .u, .u, .u, .u]
def f_s_l3Set_io_x0_1 (n5 : Int) (e : List Sc × Int × Int × Int) : X × List AV := (.out 0, enc f_s_l3Set_io_g0_1 [.l e.1, .i e.2.1, .i e.2.2.1, .i n5, .i e.2.2.2])
def f_s_l3Set_io_x0_2 (n5 : Int) (_e : Unit) : X × List AV := (.ret, [])
theorem f_s_l3Set_io_p0 {R : Type} (n5 : Int) (s : List Sc × Int × Int × Int × Int) (kN : List Sc × Int × Int × Int × Int → Option R) (kA : List Sc × Int × Int × Int → Option R) (kB : Unit → Option R) : f_s_l3Set_io_k0 n5 s.1 s.2.1 s.2.2.1 s.2.2.2.1 s.2.2.2.2 kN kA = (f_s_l3Set_io_r0 n5 s).bind (Ro.el kN kA kB) := by
  simp only [f_s_l3Set_io_k0, f_s_l3Set_io_r0, brB, boB, someB, noneB, Ro.el]
theorem f_s_l3Set_io_e0 (n5 : Int) (s : List Sc × Int × Int × Int × Int) : EC E0 f_s_l3Set_io_M H0 f_s_l3Set_io_F (asL (noL)) 0 (bodyOf Try.f78 0) (f_s_l3Set_io_fr0 n5 s) (done (klOf f_s_l3Set_io_F 0)) = f_s_l3Set_io_k0 n5 s.1 s.2.1 s.2.2.1 s.2.2.2.1 s.2.2.2.2 (fun s => some (.norm, f_s_l3Set_io_fr0 n5 s)) (fun e => some (f_s_l3Set_io_x0_1 n5 e)) := by kernel_rfl
theorem f_s_l3Set_io_l0 (n5 : Int) : ∀ s r, loopL (f_s_l3Set_io_r0 n5) s = some r → LS Try.prog f_s_l3Set_io_F (bodyOf Try.f78 0) (f_s_l3Set_io_fr0 n5 s) (enX (f_s_l3Set_io_x0_1 n5) (f_s_l3Set_io_x0_2 n5) r) :=
  loop_true E0ok f_s_l3Set_io_Mt (noL_true) f_s_l3Set_io_o (fun _ h => by cases h) (fun _ h => by cases h) (fun s => (f_s_l3Set_io_e0 n5 s).trans (f_s_l3Set_io_p0 n5 s _ _ (fun e => some (f_s_l3Set_io_x0_2 n5 e))))
def f_s_l3Set_io_t0 (σ : List AV) : Option (Bool × Bool × (X × List AV) × (X × List AV)) := match dec f_s_l3Set_io_h0 σ with
  | some [.l v0, .i v1, .i v2, .i n5, .i a6, .i k7] => some (isOne (loopL (f_s_l3Set_io_r0 n5) (v0, v1, v2, a6, k7)), true, f_s_l3Set_io_x0_1 n5 (getOne ([], 0, 0, 0) (loopL (f_s_l3Set_io_r0 n5) (v0, v1, v2, a6, k7))), (.ret, []))
  | _ => none
theorem f_s_l3Set_io_tt0 : TTrue Try.prog f_s_l3Set_io_F Try.f78 0 (f_s_l3Set_io_t0) := by
  intro σ p r r' h
  unfold f_s_l3Set_io_t0 at h
  split at h
  · rename_i hd
    rw [← dec_enc hd]
    exact row1 (f_s_l3Set_io_l0 _ _) h
  · cases h
theorem f_s_l3Set_io_p {R : Type} (g1 : List Sc) (h0 : List Sc) (h1 : Int) (h2 : Int) (kR : Int × List Sc × Int × Int → Option R) : f_s_l3Set_io_k g1 h0 h1 h2 kR = (f_s_l3Set_io_k g1 h0 h1 h2 some).bind kR := by
  simp only [f_s_l3Set_io_k, brB, boB, bl1B, someB, noneB]
theorem f_s_l3Set_io_e (g1 : List Sc) (h0 : List Sc) (h1 : Int) (h2 : Int) : runFn E0 f_s_l3Set_io_M H0 f_s_l3Set_io_F (asL (addL 0 (f_s_l3Set_io_t0) (noL))) Try.f78 (f_s_l3Set_io_a g1 h0 h1 h2) (f_s_l3Set_io_i g1 h0 h1 h2) = f_s_l3Set_io_k g1 h0 h1 h2 (fun r => some (f_s_l3Set_io_en r)) := by kernel_rfl
theorem f_s_l3Set_io_ok (g1 : List Sc) (h0 : List Sc) (h1 : Int) (h2 : Int) (r : Int × List Sc × Int × Int) (h : f_s_l3Set_io g1 h0 h1 h2 = some r) : CS Try.prog 78 (f_s_l3Set_io_a g1 h0 h1 h2) (f_s_l3Set_io_i g1 h0 h1 h2) (f_s_l3Set_io_en r).1 (f_s_l3Set_io_en r).2 :=
  fn_true (Gk := fun k => f_s_l3Set_io_k g1 h0 h1 h2 k) (en := f_s_l3Set_io_en) Try.func78 E0ok f_s_l3Set_io_Mt (addL_true (f_s_l3Set_io_tt0) (noL_true)) f_s_l3Set_io_o (f_s_l3Set_io_e g1 h0 h1 h2) (f_s_l3Set_io_p g1 h0 h1 h2) h
def f_s_l3Set_io_c : CRow := fun args inh => match dec2 [.p (.pt 0 3), .p .gr] [.p .sl, .p (.int .i64), .p (.int .i64)] args inh with
  | some ([.l g1], [.l h0, .i h1, .i h2]) => some ((f_s_l3Set_io g1 h0 h1 h2).isSome, (f_s_l3Set_io_en ((f_s_l3Set_io g1 h0 h1 h2).getD (0, [], 0, 0))).1, (f_s_l3Set_io_en ((f_s_l3Set_io g1 h0 h1 h2).getD (0, [], 0, 0))).2)
  | _ => none
theorem f_s_l3Set_io_cc : CTrue Try.prog 78 f_s_l3Set_io_c := by
  intro args inh rs out h
  unfold f_s_l3Set_io_c at h
  split at h
  · rename_i hd
    obtain ⟨h1, h2⟩ := dec2_enc hd
    rw [← h1, ← h2]
    exact rowC (f_s_l3Set_io_ok _ _ _ _) h
  · cases h
end
end Go.Proofs.Ytonjcafobhpfdaa
