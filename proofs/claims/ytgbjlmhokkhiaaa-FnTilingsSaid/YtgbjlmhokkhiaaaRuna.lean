/-
  That the program computes just that (printed by gen2.py).
-/
import Derived.Test.YtgbjlmhokkhiaaaShal
import Derived.Test.YtgbjlmhokkhiaaaRows
import Derived.WalkKit
import Derived.Test.YtgbjlmhokkhiaaaShelf
set_option linter.unusedVariables false
set_option linter.unusedSimpArgs false
namespace Go.Proofs.Ytgbjlmhokkhiaaa
open Go Ev
noncomputable section
def E0 : Env := { sl := [(22, 5, .n .u8 0), (24, 3, .n .i64 0)], gr := [(26, 24)], sc := [3, 4, 5, 9, 21, 76, 78], bl := [4], ik := [(3, .i64), (5, .u8), (21, .i32), (76, .u32), (78, .u64)], st := [9], one := [3, 4, 5, 9, 21, 76, 78, 22, 24, 1, 23, 28, 30, 32, 33, 34, 35, 36, 38, 39, 41, 42, 43, 44, 45, 46, 47, 48, 49, 50, 51, 52, 54, 55, 56, 57, 58, 59, 61, 62, 63, 64, 65, 68, 71, 72, 73, 74, 75, 77, 79, 80, 81, 82, 84, 85, 86, 88, 89, 90, 93, 95, 101, 104], al := [(3, [.sc (.n .i64 0)]), (4, [.sc (.b false)]), (5, [.sc (.n .u8 0)]), (9, [.sc (.s ByteArray.empty)]), (21, [.sc (.n .i32 0)]), (76, [.sc (.n .u32 0)]), (78, [.sc (.n .u64 0)]), (22, [.sl]), (24, [.sl]), (1, [.fn]), (23, [.fn]), (26, [.sl]), (28, [.fn]), (30, [.fn]), (32, [.fn]), (33, [.fn]), (34, [.fn]), (35, [.fn]), (36, [.fn]), (38, [.fn]), (39, [.fn]), (41, [.fn]), (42, [.fn]), (43, [.fn]), (44, [.fn]), (45, [.fn]), (46, [.fn]), (47, [.fn]), (48, [.fn]), (49, [.fn]), (50, [.fn]), (51, [.fn]), (52, [.fn]), (54, [.fn]), (55, [.fn]), (56, [.fn]), (57, [.fn]), (58, [.fn]), (59, [.fn]), (61, [.fn]), (62, [.fn]), (63, [.fn]), (64, [.fn]), (65, [.fn]), (68, [.fn]), (71, [.fn]), (72, [.fn]), (73, [.fn]), (74, [.fn]), (75, [.fn]), (77, [.fn]), (79, [.fn]), (80, [.fn]), (81, [.fn]), (82, [.fn]), (84, [.fn]), (85, [.fn]), (86, [.fn]), (88, [.fn]), (89, [.fn]), (90, [.fn]), (93, [.fn]), (95, [.fn]), (101, [.fn]), (104, [.fn]), (67, [.sl, .sc (.n .i64 0), .sc (.n .i64 0)])], fd := [(26, 1), (67, 3)], ll := [(94, 24)] }
def H0 : Hints := { md := [(30, [.io]), (46, [.io]), (67, [.io]), (69, [.io, .ro]), (71, [.io, .ro]), (72, [.io, .ro]), (87, [.io]), (90, [.io]), (91, [.io, .ro]), (98, [.io, .ro])], soft := [5, 7, 17, 20, 21, 22, 27, 34, 46, 47, 50, 67, 69, 71, 72, 87, 88, 90, 91, 98] }
theorem E0ok : EnvOk Try.prog E0 := okEnv_spec (by kernel_rfl)

def f_l_big_F : Fi := { nv := 0, nc := 0, m := 0, vt := [], kl := [], sk := [], mvs := [], fz := [] }
def f_l_big_a (code0 : List Sc) : List AV := enc [.p .sl] [.l code0]
def f_l_big_i (code0 : List Sc) : List AV := enc [] []
def f_l_big_en (r : Bool) : List AV × List AV := (enc [.p .boo] [.b r], enc [] [])
def f_l_big_M : Calling := noC
theorem f_l_big_Mt : CallOk Try.prog (f_l_big_M) := noC_true
theorem f_l_big_o : loopsOnce Try.f4 = true := by kernel_rfl
theorem f_l_big_p {R : Type} (code0 : List Sc) (kR : Bool → Option R) : f_l_big_k code0 kR = (f_l_big_k code0 some).bind kR := by
  simp only [f_l_big_k, someB]
theorem f_l_big_e (code0 : List Sc) : runFn E0 f_l_big_M H0 f_l_big_F (asL (noL)) Try.f4 (f_l_big_a code0) (f_l_big_i code0) = f_l_big_k code0 (fun r => some (f_l_big_en r)) := by kernel_rfl
theorem f_l_big_ok (code0 : List Sc) (r : Bool) (h : f_l_big code0 = some r) : CS Try.prog 4 (f_l_big_a code0) (f_l_big_i code0) (f_l_big_en r).1 (f_l_big_en r).2 :=
  fn_true (Gk := fun k => f_l_big_k code0 k) (en := f_l_big_en) Try.func4 E0ok f_l_big_Mt (noL_true) f_l_big_o (f_l_big_e code0) (f_l_big_p code0) h
def f_l_big_c : CRow := fun args inh => match dec2 [.p .sl] [] args inh with
  | some ([.l code0], []) => some ((f_l_big code0).isSome, (f_l_big_en ((f_l_big code0).getD false)).1, (f_l_big_en ((f_l_big code0).getD false)).2)
  | _ => none
theorem f_l_big_cc : CTrue Try.prog 4 f_l_big_c := by
  intro args inh rs out h
  unfold f_l_big_c at h
  split at h
  · rename_i hd
    obtain ⟨h1, h2⟩ := dec2_enc hd
    rw [← h1, ← h2]
    exact rowC (f_l_big_ok _) h
  · cases h

def f_s_l1New_F : Fi := { nv := 3, nc := 3, m := 0, vt := [(31, 0)], kl := [(0, ([0, 1, 2, 4, 5, 8, 9, 10, 11, 12, 13, 14, 15, 16, 17, 18, 19, 20, 21, 22, 23, 24, 25, 26, 27, 28, 29, 30, 31, 32, 33, 34], [0, 1, 2, 4, 5, 7, 8, 9, 10, 11, 12, 13, 14, 15, 16, 17, 18, 19, 20, 21, 22, 23, 24, 25, 26, 27, 28, 29, 30, 31, 32, 33, 34], [3, 4, 6, 7, 8, 9, 10, 11, 12, 13, 14, 15, 16, 17, 18, 19, 20, 21, 22, 23, 24, 25, 26, 27, 28, 29, 30, 31, 32, 33, 34]))], sk := [], mvs := [], fz := [] }
def f_s_l1New_a (code0 : List Sc) : List AV := enc [.p .sl] [.l code0]
def f_s_l1New_i (code0 : List Sc) : List AV := enc [] []
def f_s_l1New_en (r : List Sc × Int × Int) : List AV × List AV := (enc [.p (.pt 0 3)] [], enc [.p .sl, .p (.int .i64), .p (.int .i64)] [.l r.1, .i r.2.1, .i r.2.2])
def f_s_l1New_M : Calling := noC
theorem f_s_l1New_Mt : CallOk Try.prog (f_s_l1New_M) := noC_true
theorem f_s_l1New_o : loopsOnce Try.f47 = true := by kernel_rfl
def f_s_l1New_h0 : List Sh := [.u, .u, .u, .p .sl, .u, .u, .p (.int .i64), .p (.int .i64), .u, .u, .u, .u, .u, .u, .u, .u, .u, .u, .u, .u, .u, .u, .u, .u, .u, .u, .u, .u, .u, .u, .u, .u, .u, .u, .u]
def f_s_l1New_fr0 (code0 : List Sc) (s : Int × Int) : List AV := enc f_s_l1New_h0 [.l code0, .i s.1, .i s.2]
def f_s_l1New_g0_1 : List Sh := [.u, .u, .u, .p .sl, .u, .u, .p (.int .i64), .u, .u, .u, .u, .u, .u, .u, .u, .u, .u, .u, .u, .u, .u, .u, .u, .u, .u, .u, .u, .u, .u, .u, .u, .u, .u, .u, .u]
def f_s_l1New_x0_1 (code0 : List Sc) (e : Int) : X × List AV := (.out 0, enc f_s_l1New_g0_1 [.l code0, .i e])
def f_s_l1New_x0_2 (code0 : List Sc) (_e : Unit) : X × List AV := (.ret, [])
theorem f_s_l1New_p0 {R : Type} (code0 : List Sc) (s : Int × Int) (kN : Int × Int → Option R) (kA : Int → Option R) (kB : Unit → Option R) : f_s_l1New_k0 code0 s.1 s.2 kN kA = (f_s_l1New_r0 code0 s).bind (Ro.el kN kA kB) := by
  simp only [f_s_l1New_k0, f_s_l1New_r0, brB, someB, noneB, Ro.el]
theorem f_s_l1New_e0 (code0 : List Sc) (s : Int × Int) : EC E0 f_s_l1New_M H0 f_s_l1New_F (asL (noL)) 0 (bodyOf Try.f47 0) (f_s_l1New_fr0 code0 s) (done (klOf f_s_l1New_F 0)) = f_s_l1New_k0 code0 s.1 s.2 (fun s => some (.norm, f_s_l1New_fr0 code0 s)) (fun e => some (f_s_l1New_x0_1 code0 e)) := by kernel_rfl
theorem f_s_l1New_l0 (code0 : List Sc) : ∀ s r, loopL (f_s_l1New_r0 code0) s = some r → LS Try.prog f_s_l1New_F (bodyOf Try.f47 0) (f_s_l1New_fr0 code0 s) (enX (f_s_l1New_x0_1 code0) (f_s_l1New_x0_2 code0) r) :=
  loop_true E0ok f_s_l1New_Mt (noL_true) f_s_l1New_o (fun _ h => by cases h) (fun _ h => by cases h) (fun s => (f_s_l1New_e0 code0 s).trans (f_s_l1New_p0 code0 s _ _ (fun e => some (f_s_l1New_x0_2 code0 e))))
def f_s_l1New_t0 (σ : List AV) : Option (Bool × Bool × (X × List AV) × (X × List AV)) := match dec f_s_l1New_h0 σ with
  | some [.l code0, .i h3, .i i4] => some (isOne (loopL (f_s_l1New_r0 code0) (h3, i4)), true, f_s_l1New_x0_1 code0 (getOne 0 (loopL (f_s_l1New_r0 code0) (h3, i4))), (.ret, []))
  | _ => none
theorem f_s_l1New_tt0 : TTrue Try.prog f_s_l1New_F Try.f47 0 (f_s_l1New_t0) := by
  intro σ p r r' h
  unfold f_s_l1New_t0 at h
  split at h
  · rename_i hd
    rw [← dec_enc hd]
    exact row1 (f_s_l1New_l0 _ _) h
  · cases h
theorem f_s_l1New_p {R : Type} (code0 : List Sc) (kR : List Sc × Int × Int → Option R) : f_s_l1New_k code0 kR = (f_s_l1New_k code0 some).bind kR := by
  simp only [f_s_l1New_k, bl1B, someB]
theorem f_s_l1New_e (code0 : List Sc) : runFn E0 f_s_l1New_M H0 f_s_l1New_F (asL (addL 0 (f_s_l1New_t0) (noL))) Try.f47 (f_s_l1New_a code0) (f_s_l1New_i code0) = f_s_l1New_k code0 (fun r => some (f_s_l1New_en r)) := by kernel_rfl
theorem f_s_l1New_ok (code0 : List Sc) (r : List Sc × Int × Int) (h : f_s_l1New code0 = some r) : CS Try.prog 47 (f_s_l1New_a code0) (f_s_l1New_i code0) (f_s_l1New_en r).1 (f_s_l1New_en r).2 :=
  fn_true (Gk := fun k => f_s_l1New_k code0 k) (en := f_s_l1New_en) Try.func47 E0ok f_s_l1New_Mt (addL_true (f_s_l1New_tt0) (noL_true)) f_s_l1New_o (f_s_l1New_e code0) (f_s_l1New_p code0) h
def f_s_l1New_c : CRow := fun args inh => match dec2 [.p .sl] [] args inh with
  | some ([.l code0], []) => some ((f_s_l1New code0).isSome, (f_s_l1New_en ((f_s_l1New code0).getD ([], 0, 0))).1, (f_s_l1New_en ((f_s_l1New code0).getD ([], 0, 0))).2)
  | _ => none
theorem f_s_l1New_cc : CTrue Try.prog 47 f_s_l1New_c := by
  intro args inh rs out h
  unfold f_s_l1New_c at h
  split at h
  · rename_i hd
    obtain ⟨h1, h2⟩ := dec2_enc hd
    rw [← h1, ← h2]
    exact rowC (f_s_l1New_ok _) h
  · cases h

def f_s_l1Byte_io_F : Fi := { nv := 3, nc := 3, m := 3, vt := [], kl := [], sk := [], mvs := [], fz := [] }
def f_s_l1Byte_io_a (h0 : List Sc) (h1 : Int) (h2 : Int) : List AV := enc [.p (.pt 0 3)] []
def f_s_l1Byte_io_i (h0 : List Sc) (h1 : Int) (h2 : Int) : List AV := enc [.p .sl, .p (.int .i64), .p (.int .i64)] [.l h0, .i h1, .i h2]
def f_s_l1Byte_io_en (r : Int × List Sc × Int × Int) : List AV × List AV := (enc [.p (.int .i64)] [.i r.1], enc [.p .sl, .p (.int .i64), .p (.int .i64)] [.l r.2.1, .i r.2.2.1, .i r.2.2.2])
def f_s_l1Byte_io_M : Calling := noC
theorem f_s_l1Byte_io_Mt : CallOk Try.prog (f_s_l1Byte_io_M) := noC_true
theorem f_s_l1Byte_io_o : loopsOnce Try.f90 = true := by kernel_rfl
theorem f_s_l1Byte_io_p {R : Type} (h0 : List Sc) (h1 : Int) (h2 : Int) (kR : Int × List Sc × Int × Int → Option R) : f_s_l1Byte_io_k h0 h1 h2 kR = (f_s_l1Byte_io_k h0 h1 h2 some).bind kR := by
  simp only [f_s_l1Byte_io_k, brB, someB, noneB]
theorem f_s_l1Byte_io_e (h0 : List Sc) (h1 : Int) (h2 : Int) : runFn E0 f_s_l1Byte_io_M H0 f_s_l1Byte_io_F (asL (noL)) Try.f90 (f_s_l1Byte_io_a h0 h1 h2) (f_s_l1Byte_io_i h0 h1 h2) = f_s_l1Byte_io_k h0 h1 h2 (fun r => some (f_s_l1Byte_io_en r)) := by kernel_rfl
theorem f_s_l1Byte_io_ok (h0 : List Sc) (h1 : Int) (h2 : Int) (r : Int × List Sc × Int × Int) (h : f_s_l1Byte_io h0 h1 h2 = some r) : CS Try.prog 90 (f_s_l1Byte_io_a h0 h1 h2) (f_s_l1Byte_io_i h0 h1 h2) (f_s_l1Byte_io_en r).1 (f_s_l1Byte_io_en r).2 :=
  fn_true (Gk := fun k => f_s_l1Byte_io_k h0 h1 h2 k) (en := f_s_l1Byte_io_en) Try.func90 E0ok f_s_l1Byte_io_Mt (noL_true) f_s_l1Byte_io_o (f_s_l1Byte_io_e h0 h1 h2) (f_s_l1Byte_io_p h0 h1 h2) h
def f_s_l1Byte_io_c : CRow := fun args inh => match dec2 [.p (.pt 0 3)] [.p .sl, .p (.int .i64), .p (.int .i64)] args inh with
  | some ([], [.l h0, .i h1, .i h2]) => some ((f_s_l1Byte_io h0 h1 h2).isSome, (f_s_l1Byte_io_en ((f_s_l1Byte_io h0 h1 h2).getD (0, [], 0, 0))).1, (f_s_l1Byte_io_en ((f_s_l1Byte_io h0 h1 h2).getD (0, [], 0, 0))).2)
  | _ => none
theorem f_s_l1Byte_io_cc : CTrue Try.prog 90 f_s_l1Byte_io_c := by
  intro args inh rs out h
  unfold f_s_l1Byte_io_c at h
  split at h
  · rename_i hd
    obtain ⟨h1, h2⟩ := dec2_enc hd
    rw [← h1, ← h2]
    exact rowC (f_s_l1Byte_io_ok _ _ _) h
  · cases h

def f_s_l1Below_io_F : Fi := { nv := 3, nc := 3, m := 3, vt := [], kl := [], sk := [], mvs := [], fz := [] }
def f_s_l1Below_io_a (n1 : Int) (h0 : List Sc) (h1 : Int) (h2 : Int) : List AV := enc [.p (.pt 0 3), .p (.int .i64)] [.i n1]
def f_s_l1Below_io_i (n1 : Int) (h0 : List Sc) (h1 : Int) (h2 : Int) : List AV := enc [.p .sl, .p (.int .i64), .p (.int .i64)] [.l h0, .i h1, .i h2]
def f_s_l1Below_io_en (r : Int × List Sc × Int × Int) : List AV × List AV := (enc [.p (.int .i64)] [.i r.1], enc [.p .sl, .p (.int .i64), .p (.int .i64)] [.l r.2.1, .i r.2.2.1, .i r.2.2.2])
def f_s_l1Below_io_M : Calling := addC 90 f_s_l1Byte_io_c (noC)
theorem f_s_l1Below_io_Mt : CallOk Try.prog (f_s_l1Below_io_M) := addC_true f_s_l1Byte_io_cc (noC_true)
theorem f_s_l1Below_io_o : loopsOnce Try.f71 = true := by kernel_rfl
theorem f_s_l1Below_io_p {R : Type} (n1 : Int) (h0 : List Sc) (h1 : Int) (h2 : Int) (kR : Int × List Sc × Int × Int → Option R) : f_s_l1Below_io_k n1 h0 h1 h2 kR = (f_s_l1Below_io_k n1 h0 h1 h2 some).bind kR := by
  simp only [f_s_l1Below_io_k, brB, boB, someB, noneB]
theorem f_s_l1Below_io_e (n1 : Int) (h0 : List Sc) (h1 : Int) (h2 : Int) : runFn E0 f_s_l1Below_io_M H0 f_s_l1Below_io_F (asL (noL)) Try.f71 (f_s_l1Below_io_a n1 h0 h1 h2) (f_s_l1Below_io_i n1 h0 h1 h2) = f_s_l1Below_io_k n1 h0 h1 h2 (fun r => some (f_s_l1Below_io_en r)) := by kernel_rfl
theorem f_s_l1Below_io_ok (n1 : Int) (h0 : List Sc) (h1 : Int) (h2 : Int) (r : Int × List Sc × Int × Int) (h : f_s_l1Below_io n1 h0 h1 h2 = some r) : CS Try.prog 71 (f_s_l1Below_io_a n1 h0 h1 h2) (f_s_l1Below_io_i n1 h0 h1 h2) (f_s_l1Below_io_en r).1 (f_s_l1Below_io_en r).2 :=
  fn_true (Gk := fun k => f_s_l1Below_io_k n1 h0 h1 h2 k) (en := f_s_l1Below_io_en) Try.func71 E0ok f_s_l1Below_io_Mt (noL_true) f_s_l1Below_io_o (f_s_l1Below_io_e n1 h0 h1 h2) (f_s_l1Below_io_p n1 h0 h1 h2) h
def f_s_l1Below_io_c : CRow := fun args inh => match dec2 [.p (.pt 0 3), .p (.int .i64)] [.p .sl, .p (.int .i64), .p (.int .i64)] args inh with
  | some ([.i n1], [.l h0, .i h1, .i h2]) => some ((f_s_l1Below_io n1 h0 h1 h2).isSome, (f_s_l1Below_io_en ((f_s_l1Below_io n1 h0 h1 h2).getD (0, [], 0, 0))).1, (f_s_l1Below_io_en ((f_s_l1Below_io n1 h0 h1 h2).getD (0, [], 0, 0))).2)
  | _ => none
theorem f_s_l1Below_io_cc : CTrue Try.prog 71 f_s_l1Below_io_c := by
  intro args inh rs out h
  unfold f_s_l1Below_io_c at h
  split at h
  · rename_i hd
    obtain ⟨h1, h2⟩ := dec2_enc hd
    rw [← h1, ← h2]
    exact rowC (f_s_l1Below_io_ok _ _ _ _) h
  · cases h

def f_s_l2Draw_io_F : Fi := { nv := 4, nc := 4, m := 3, vt := [(4, 3)], kl := [(0, ([4, 6, 7, 9, 13, 14, 15, 16, 17, 18, 19, 20, 21, 22, 23, 24, 25, 26, 27, 28, 29, 30, 31, 32, 33, 34, 35, 36, 37, 38, 39, 40, 41, 42, 43, 44, 45, 46, 47, 48, 49, 50, 51, 52, 53, 54, 55, 56, 57, 58, 59, 60, 61, 62, 63, 64], [4, 6, 7, 9, 12, 13, 14, 15, 16, 17, 18, 19, 20, 21, 22, 23, 24, 25, 26, 27, 28, 29, 30, 31, 32, 33, 34, 35, 36, 37, 38, 39, 40, 41, 42, 43, 44, 45, 46, 47, 48, 49, 50, 51, 52, 53, 54, 55, 56, 57, 58, 59, 60, 61, 62, 63, 64], [4, 5, 6, 7, 9, 10, 11, 12, 13, 14, 15, 16, 17, 18, 19, 20, 21, 22, 23, 24, 25, 26, 27, 28, 29, 30, 31, 32, 33, 34, 35, 36, 37, 38, 39, 40, 41, 42, 43, 44, 45, 46, 47, 48, 49, 50, 51, 52, 53, 54, 55, 56, 57, 58, 59, 60, 61, 62, 63, 64]))], sk := [], mvs := [], fz := [], fl := [9, 10, 11, 12, 13, 14, 15, 16, 17, 18, 19, 20, 21, 22, 23, 24, 25, 26, 27, 28, 29, 30, 31] }
def f_s_l2Draw_io_a (most1 : Int) (h0 : List Sc) (h1 : Int) (h2 : Int) : List AV := enc [.p (.pt 0 3), .p (.int .i64)] [.i most1]
def f_s_l2Draw_io_i (most1 : Int) (h0 : List Sc) (h1 : Int) (h2 : Int) : List AV := enc [.p .sl, .p (.int .i64), .p (.int .i64)] [.l h0, .i h1, .i h2]
def f_s_l2Draw_io_en (r : List Sc × List Sc × Int × Int) : List AV × List AV := (enc [.p (.go 3)] [], enc [.p .sl, .p (.int .i64), .p (.int .i64), .own 3] [.l r.2.1, .i r.2.2.1, .i r.2.2.2, .l r.1])
def f_s_l2Draw_io_M : Calling := addC 71 f_s_l1Below_io_c (noC)
theorem f_s_l2Draw_io_Mt : CallOk Try.prog (f_s_l2Draw_io_M) := addC_true f_s_l1Below_io_cc (noC_true)
theorem f_s_l2Draw_io_o : loopsOnce Try.f98 = true := by kernel_rfl
def f_s_l2Draw_io_h0 : List Sh := [.p .sl, .p (.int .i64), .p (.int .i64), .p .sl, .u, .p (.int .i64), .u, .u, .p (.pt 3 1), .u, .p .sl, .p (.int .i64), .p (.int .i64), .u, .u, .u, .u, .u, .u, .u, .u, .u, .u, .u, .u, .u, .u, .u, .u, .u, .u, .u, .u, .u, .u, .u, .u, .u, .u, .u, .u, .u, .u, .u, .u, .u, .u, .u, .u, .u, .u, .u, .u, .u, .u, .u, .u, .u, .u, .u, .u, .u, .u, .u, .u]
def f_s_l2Draw_io_fr0 (most1 : Int) (o6 : List Sc) (s : List Sc × Int × Int × List Sc × Int × Int) : List AV := enc f_s_l2Draw_io_h0 [.l s.1, .i s.2.1, .i s.2.2.1, .l s.2.2.2.1, .i most1, .l o6, .i s.2.2.2.2.1, .i s.2.2.2.2.2]
def f_s_l2Draw_io_g0_1 : List Sh := [.p .sl, .p (.int .i64), .p (.int .i64), .p .sl, .u, .p (.int .i64), .u, .u, .p (.pt 3 1), .u, .p .sl, .p (.int .i64), .u, .u, .u, .u, .u, .u, .u, .u, .u, .u, .u, .u, .u, .u, .u, .u, .u, .u, .u, .u, .u, .u, .u, .u, .u, .u, .u, .u, .u, .u, .u, .u, .u, .u, .u, .u, .u, .u, .u, .u, .u, .u, .u, .u, .u, .u, .u, .u, .u, .u, .u, .u, .u]
def f_s_l2Draw_io_x0_1 (most1 : Int) (o6 : List Sc) (e : List Sc × Int × Int × List Sc × Int) : X × List AV := (.out 0, enc f_s_l2Draw_io_g0_1 [.l e.1, .i e.2.1, .i e.2.2.1, .l e.2.2.2.1, .i most1, .l o6, .i e.2.2.2.2])
def f_s_l2Draw_io_x0_2 (most1 : Int) (o6 : List Sc) (_e : Unit) : X × List AV := (.ret, [])
theorem f_s_l2Draw_io_p0 {R : Type} (most1 : Int) (o6 : List Sc) (s : List Sc × Int × Int × List Sc × Int × Int) (kN : List Sc × Int × Int × List Sc × Int × Int → Option R) (kA : List Sc × Int × Int × List Sc × Int → Option R) (kB : Unit → Option R) : f_s_l2Draw_io_k0 most1 o6 s.1 s.2.1 s.2.2.1 s.2.2.2.1 s.2.2.2.2.1 s.2.2.2.2.2 kN kA = (f_s_l2Draw_io_r0 most1 o6 s).bind (Ro.el kN kA kB) := by
  simp only [f_s_l2Draw_io_k0, f_s_l2Draw_io_r0, brB, someB, noneB, Ro.el]
theorem f_s_l2Draw_io_e0 (most1 : Int) (o6 : List Sc) (s : List Sc × Int × Int × List Sc × Int × Int) : EC E0 f_s_l2Draw_io_M H0 f_s_l2Draw_io_F (asL (noL)) 0 (bodyOf Try.f98 0) (f_s_l2Draw_io_fr0 most1 o6 s) (done (klOf f_s_l2Draw_io_F 0)) = f_s_l2Draw_io_k0 most1 o6 s.1 s.2.1 s.2.2.1 s.2.2.2.1 s.2.2.2.2.1 s.2.2.2.2.2 (fun s => some (.norm, f_s_l2Draw_io_fr0 most1 o6 s)) (fun e => some (f_s_l2Draw_io_x0_1 most1 o6 e)) := by kernel_rfl
theorem f_s_l2Draw_io_l0 (most1 : Int) (o6 : List Sc) : ∀ s r, loopL (f_s_l2Draw_io_r0 most1 o6) s = some r → LS Try.prog f_s_l2Draw_io_F (bodyOf Try.f98 0) (f_s_l2Draw_io_fr0 most1 o6 s) (enX (f_s_l2Draw_io_x0_1 most1 o6) (f_s_l2Draw_io_x0_2 most1 o6) r) :=
  loop_true E0ok f_s_l2Draw_io_Mt (noL_true) f_s_l2Draw_io_o (fun _ h => by cases h) (fun _ h => by cases h) (fun s => (f_s_l2Draw_io_e0 most1 o6 s).trans (f_s_l2Draw_io_p0 most1 o6 s _ _ (fun e => some (f_s_l2Draw_io_x0_2 most1 o6 e))))
def f_s_l2Draw_io_t0 (σ : List AV) : Option (Bool × Bool × (X × List AV) × (X × List AV)) := match dec f_s_l2Draw_io_h0 σ with
  | some [.l v0, .i v1, .i v2, .l v3, .i most1, .l o6, .i n7, .i i8] => some (isOne (loopL (f_s_l2Draw_io_r0 most1 o6) (v0, v1, v2, v3, n7, i8)), true, f_s_l2Draw_io_x0_1 most1 o6 (getOne ([], 0, 0, [], 0) (loopL (f_s_l2Draw_io_r0 most1 o6) (v0, v1, v2, v3, n7, i8))), (.ret, []))
  | _ => none
theorem f_s_l2Draw_io_tt0 : TTrue Try.prog f_s_l2Draw_io_F Try.f98 0 (f_s_l2Draw_io_t0) := by
  intro σ p r r' h
  unfold f_s_l2Draw_io_t0 at h
  split at h
  · rename_i hd
    rw [← dec_enc hd]
    exact row1 (f_s_l2Draw_io_l0 _ _ _) h
  · cases h
theorem f_s_l2Draw_io_p {R : Type} (most1 : Int) (h0 : List Sc) (h1 : Int) (h2 : Int) (kR : List Sc × List Sc × Int × Int → Option R) : f_s_l2Draw_io_k most1 h0 h1 h2 kR = (f_s_l2Draw_io_k most1 h0 h1 h2 some).bind kR := by
  simp only [f_s_l2Draw_io_k, brB, boB, bl1B, someB, noneB]
theorem f_s_l2Draw_io_e (most1 : Int) (h0 : List Sc) (h1 : Int) (h2 : Int) : runFn E0 f_s_l2Draw_io_M H0 f_s_l2Draw_io_F (asL (addL 0 (f_s_l2Draw_io_t0) (noL))) Try.f98 (f_s_l2Draw_io_a most1 h0 h1 h2) (f_s_l2Draw_io_i most1 h0 h1 h2) = f_s_l2Draw_io_k most1 h0 h1 h2 (fun r => some (f_s_l2Draw_io_en r)) := by kernel_rfl
theorem f_s_l2Draw_io_ok (most1 : Int) (h0 : List Sc) (h1 : Int) (h2 : Int) (r : List Sc × List Sc × Int × Int) (h : f_s_l2Draw_io most1 h0 h1 h2 = some r) : CS Try.prog 98 (f_s_l2Draw_io_a most1 h0 h1 h2) (f_s_l2Draw_io_i most1 h0 h1 h2) (f_s_l2Draw_io_en r).1 (f_s_l2Draw_io_en r).2 :=
  fn_true (Gk := fun k => f_s_l2Draw_io_k most1 h0 h1 h2 k) (en := f_s_l2Draw_io_en) Try.func98 E0ok f_s_l2Draw_io_Mt (addL_true (f_s_l2Draw_io_tt0) (noL_true)) f_s_l2Draw_io_o (f_s_l2Draw_io_e most1 h0 h1 h2) (f_s_l2Draw_io_p most1 h0 h1 h2) h
def f_s_l2Draw_io_c : CRow := fun args inh => match dec2 [.p (.pt 0 3), .p (.int .i64)] [.p .sl, .p (.int .i64), .p (.int .i64)] args inh with
  | some ([.i most1], [.l h0, .i h1, .i h2]) => some ((f_s_l2Draw_io most1 h0 h1 h2).isSome, (f_s_l2Draw_io_en ((f_s_l2Draw_io most1 h0 h1 h2).getD ([], [], 0, 0))).1, (f_s_l2Draw_io_en ((f_s_l2Draw_io most1 h0 h1 h2).getD ([], [], 0, 0))).2)
  | _ => none
theorem f_s_l2Draw_io_cc : CTrue Try.prog 98 f_s_l2Draw_io_c := by
  intro args inh rs out h
  unfold f_s_l2Draw_io_c at h
  split at h
  · rename_i hd
    obtain ⟨h1, h2⟩ := dec2_enc hd
    rw [← h1, ← h2]
    exact rowC (f_s_l2Draw_io_ok _ _ _ _) h
  · cases h

def f_s_l1PickInt_io_F : Fi := { nv := 3, nc := 3, m := 3, vt := [], kl := [], sk := [], mvs := [], fz := [] }
def f_s_l1PickInt_io_a (list1 : List Sc) (h0 : List Sc) (h1 : Int) (h2 : Int) : List AV := enc [.p (.pt 0 3), .p .sl] [.l list1]
def f_s_l1PickInt_io_i (list1 : List Sc) (h0 : List Sc) (h1 : Int) (h2 : Int) : List AV := enc [.p .sl, .p (.int .i64), .p (.int .i64)] [.l h0, .i h1, .i h2]
def f_s_l1PickInt_io_en (r : Int × List Sc × Int × Int) : List AV × List AV := (enc [.p (.int .i64)] [.i r.1], enc [.p .sl, .p (.int .i64), .p (.int .i64)] [.l r.2.1, .i r.2.2.1, .i r.2.2.2])
def f_s_l1PickInt_io_M : Calling := addC 71 f_s_l1Below_io_c (noC)
theorem f_s_l1PickInt_io_Mt : CallOk Try.prog (f_s_l1PickInt_io_M) := addC_true f_s_l1Below_io_cc (noC_true)
theorem f_s_l1PickInt_io_o : loopsOnce Try.f91 = true := by kernel_rfl
theorem f_s_l1PickInt_io_p {R : Type} (list1 : List Sc) (h0 : List Sc) (h1 : Int) (h2 : Int) (kR : Int × List Sc × Int × Int → Option R) : f_s_l1PickInt_io_k list1 h0 h1 h2 kR = (f_s_l1PickInt_io_k list1 h0 h1 h2 some).bind kR := by
  simp only [f_s_l1PickInt_io_k, brB, boB, someB, noneB]
theorem f_s_l1PickInt_io_e (list1 : List Sc) (h0 : List Sc) (h1 : Int) (h2 : Int) : runFn E0 f_s_l1PickInt_io_M H0 f_s_l1PickInt_io_F (asL (noL)) Try.f91 (f_s_l1PickInt_io_a list1 h0 h1 h2) (f_s_l1PickInt_io_i list1 h0 h1 h2) = f_s_l1PickInt_io_k list1 h0 h1 h2 (fun r => some (f_s_l1PickInt_io_en r)) := by kernel_rfl
theorem f_s_l1PickInt_io_ok (list1 : List Sc) (h0 : List Sc) (h1 : Int) (h2 : Int) (r : Int × List Sc × Int × Int) (h : f_s_l1PickInt_io list1 h0 h1 h2 = some r) : CS Try.prog 91 (f_s_l1PickInt_io_a list1 h0 h1 h2) (f_s_l1PickInt_io_i list1 h0 h1 h2) (f_s_l1PickInt_io_en r).1 (f_s_l1PickInt_io_en r).2 :=
  fn_true (Gk := fun k => f_s_l1PickInt_io_k list1 h0 h1 h2 k) (en := f_s_l1PickInt_io_en) Try.func91 E0ok f_s_l1PickInt_io_Mt (noL_true) f_s_l1PickInt_io_o (f_s_l1PickInt_io_e list1 h0 h1 h2) (f_s_l1PickInt_io_p list1 h0 h1 h2) h
def f_s_l1PickInt_io_c : CRow := fun args inh => match dec2 [.p (.pt 0 3), .p .sl] [.p .sl, .p (.int .i64), .p (.int .i64)] args inh with
  | some ([.l list1], [.l h0, .i h1, .i h2]) => some ((f_s_l1PickInt_io list1 h0 h1 h2).isSome, (f_s_l1PickInt_io_en ((f_s_l1PickInt_io list1 h0 h1 h2).getD (0, [], 0, 0))).1, (f_s_l1PickInt_io_en ((f_s_l1PickInt_io list1 h0 h1 h2).getD (0, [], 0, 0))).2)
  | _ => none
theorem f_s_l1PickInt_io_cc : CTrue Try.prog 91 f_s_l1PickInt_io_c := by
  intro args inh rs out h
  unfold f_s_l1PickInt_io_c at h
  split at h
  · rename_i hd
    obtain ⟨h1, h2⟩ := dec2_enc hd
    rw [← h1, ← h2]
    exact rowC (f_s_l1PickInt_io_ok _ _ _ _) h
  · cases h

def f_s_l2Any_io_F : Fi := { nv := 6, nc := 5, m := 3, vt := [(2, 3), (3, 4), (5, 5)], kl := [], sk := [], mvs := [5], fz := [] }
def f_s_l2Any_io_a (h0 : List Sc) (h1 : Int) (h2 : Int) : List AV := enc [.p (.pt 0 3)] []
def f_s_l2Any_io_i (h0 : List Sc) (h1 : Int) (h2 : Int) : List AV := enc [.p .sl, .p (.int .i64), .p (.int .i64)] [.l h0, .i h1, .i h2]
def f_s_l2Any_io_en (r : List Sc × List Sc × Int × Int) : List AV × List AV := (enc [.p (.go 3)] [], enc [.p .sl, .p (.int .i64), .p (.int .i64), .own 3] [.l r.2.1, .i r.2.2.1, .i r.2.2.2, .l r.1])
def f_s_l2Any_io_M : Calling := addC 98 f_s_l2Draw_io_c (addC 71 f_s_l1Below_io_c (addC 91 f_s_l1PickInt_io_c (noC)))
theorem f_s_l2Any_io_Mt : CallOk Try.prog (f_s_l2Any_io_M) := addC_true f_s_l2Draw_io_cc (addC_true f_s_l1Below_io_cc (addC_true f_s_l1PickInt_io_cc (noC_true)))
theorem f_s_l2Any_io_o : loopsOnce Try.f87 = true := by kernel_rfl
theorem f_s_l2Any_io_p {R : Type} (h0 : List Sc) (h1 : Int) (h2 : Int) (kR : List Sc × List Sc × Int × Int → Option R) : f_s_l2Any_io_k h0 h1 h2 kR = (f_s_l2Any_io_k h0 h1 h2 some).bind kR := by
  simp only [f_s_l2Any_io_k, brB, boB, someB]
theorem f_s_l2Any_io_e (h0 : List Sc) (h1 : Int) (h2 : Int) : runFn E0 f_s_l2Any_io_M H0 f_s_l2Any_io_F (asL (noL)) Try.f87 (f_s_l2Any_io_a h0 h1 h2) (f_s_l2Any_io_i h0 h1 h2) = f_s_l2Any_io_k h0 h1 h2 (fun r => some (f_s_l2Any_io_en r)) := by kernel_rfl
theorem f_s_l2Any_io_ok (h0 : List Sc) (h1 : Int) (h2 : Int) (r : List Sc × List Sc × Int × Int) (h : f_s_l2Any_io h0 h1 h2 = some r) : CS Try.prog 87 (f_s_l2Any_io_a h0 h1 h2) (f_s_l2Any_io_i h0 h1 h2) (f_s_l2Any_io_en r).1 (f_s_l2Any_io_en r).2 :=
  fn_true (Gk := fun k => f_s_l2Any_io_k h0 h1 h2 k) (en := f_s_l2Any_io_en) Try.func87 E0ok f_s_l2Any_io_Mt (noL_true) f_s_l2Any_io_o (f_s_l2Any_io_e h0 h1 h2) (f_s_l2Any_io_p h0 h1 h2) h
def f_s_l2Any_io_c : CRow := fun args inh => match dec2 [.p (.pt 0 3)] [.p .sl, .p (.int .i64), .p (.int .i64)] args inh with
  | some ([], [.l h0, .i h1, .i h2]) => some ((f_s_l2Any_io h0 h1 h2).isSome, (f_s_l2Any_io_en ((f_s_l2Any_io h0 h1 h2).getD ([], [], 0, 0))).1, (f_s_l2Any_io_en ((f_s_l2Any_io h0 h1 h2).getD ([], [], 0, 0))).2)
  | _ => none
theorem f_s_l2Any_io_cc : CTrue Try.prog 87 f_s_l2Any_io_c := by
  intro args inh rs out h
  unfold f_s_l2Any_io_c at h
  split at h
  · rename_i hd
    obtain ⟨h1, h2⟩ := dec2_enc hd
    rw [← h1, ← h2]
    exact rowC (f_s_l2Any_io_ok _ _ _) h
  · cases h

def f_s_l1In_F : Fi := { nv := 0, nc := 0, m := 0, vt := [], kl := [], sk := [], mvs := [], fz := [] }
def f_s_l1In_a (x0 : Int) (low1 : Int) (high2 : Int) : List AV := enc [.p (.int .i64), .p (.int .i64), .p (.int .i64)] [.i x0, .i low1, .i high2]
def f_s_l1In_i (x0 : Int) (low1 : Int) (high2 : Int) : List AV := enc [] []
def f_s_l1In_en (r : Bool) : List AV × List AV := (enc [.p .boo] [.b r], enc [] [])
def f_s_l1In_M : Calling := noC
theorem f_s_l1In_Mt : CallOk Try.prog (f_s_l1In_M) := noC_true
theorem f_s_l1In_o : loopsOnce Try.f57 = true := by kernel_rfl
theorem f_s_l1In_p {R : Type} (x0 : Int) (low1 : Int) (high2 : Int) (kR : Bool → Option R) : f_s_l1In_k x0 low1 high2 kR = (f_s_l1In_k x0 low1 high2 some).bind kR := by
  simp only [f_s_l1In_k, brB, someB]
theorem f_s_l1In_e (x0 : Int) (low1 : Int) (high2 : Int) : runFn E0 f_s_l1In_M H0 f_s_l1In_F (asL (noL)) Try.f57 (f_s_l1In_a x0 low1 high2) (f_s_l1In_i x0 low1 high2) = f_s_l1In_k x0 low1 high2 (fun r => some (f_s_l1In_en r)) := by kernel_rfl
theorem f_s_l1In_ok (x0 : Int) (low1 : Int) (high2 : Int) (r : Bool) (h : f_s_l1In x0 low1 high2 = some r) : CS Try.prog 57 (f_s_l1In_a x0 low1 high2) (f_s_l1In_i x0 low1 high2) (f_s_l1In_en r).1 (f_s_l1In_en r).2 :=
  fn_true (Gk := fun k => f_s_l1In_k x0 low1 high2 k) (en := f_s_l1In_en) Try.func57 E0ok f_s_l1In_Mt (noL_true) f_s_l1In_o (f_s_l1In_e x0 low1 high2) (f_s_l1In_p x0 low1 high2) h
def f_s_l1In_c : CRow := fun args inh => match dec2 [.p (.int .i64), .p (.int .i64), .p (.int .i64)] [] args inh with
  | some ([.i x0, .i low1, .i high2], []) => some ((f_s_l1In x0 low1 high2).isSome, (f_s_l1In_en ((f_s_l1In x0 low1 high2).getD false)).1, (f_s_l1In_en ((f_s_l1In x0 low1 high2).getD false)).2)
  | _ => none
theorem f_s_l1In_cc : CTrue Try.prog 57 f_s_l1In_c := by
  intro args inh rs out h
  unfold f_s_l1In_c at h
  split at h
  · rename_i hd
    obtain ⟨h1, h2⟩ := dec2_enc hd
    rw [← h1, ← h2]
    exact rowC (f_s_l1In_ok _ _ _) h
  · cases h

def f_s_IsGroup_F : Fi := { nv := 0, nc := 0, m := 0, vt := [], kl := [(0, ([0, 2, 5, 6, 7, 8, 9, 10, 11, 12, 13, 14, 15, 16, 17, 18, 19, 20, 21, 22, 23, 24, 25, 26, 27, 28, 29, 30, 31], [0, 1, 2, 4, 5, 6, 7, 8, 9, 10, 11, 12, 13, 14, 15, 16, 17, 18, 19, 20, 21, 22, 23, 24, 25, 26, 27, 28, 29, 30, 31], [0, 1, 3, 4, 5, 6, 7, 8, 9, 10, 11, 12, 13, 14, 15, 16, 17, 18, 19, 20, 21, 22, 23, 24, 25, 26, 27, 28, 29, 30, 31]))], sk := [], mvs := [], fz := [] }
def f_s_IsGroup_a (g0 : List Sc) : List AV := enc [.p .gr] [.l g0]
def f_s_IsGroup_i (g0 : List Sc) : List AV := enc [] []
def f_s_IsGroup_en (r : Bool) : List AV × List AV := (enc [.p .boo] [.b r], enc [] [])
def f_s_IsGroup_M : Calling := addC 57 f_s_l1In_c (noC)
theorem f_s_IsGroup_Mt : CallOk Try.prog (f_s_IsGroup_M) := addC_true f_s_l1In_cc (noC_true)
theorem f_s_IsGroup_o : loopsOnce Try.f39 = true := by kernel_rfl
def f_s_IsGroup_h0 : List Sh := [.u, .p .el, .u, .p (.int .i64), .p (.int .i64), .u, .u, .u, .u, .u, .u, .u, .u, .u, .u, .u, .u, .u, .u, .u, .u, .u, .u, .u, .u, .u, .u, .u, .u, .u, .u, .u]
def f_s_IsGroup_fr0 (g1 : List Sc) (s : Int × Int) : List AV := enc f_s_IsGroup_h0 [.l g1, .i s.1, .i s.2]
def f_s_IsGroup_g0_1 : List Sh := [.u, .u, .u, .p (.int .i64), .u, .u, .u, .u, .u, .u, .u, .u, .u, .u, .u, .u, .u, .u, .u, .u, .u, .u, .u, .u, .u, .u, .u, .u, .u, .u, .u, .u]
def f_s_IsGroup_x0_1 (g1 : List Sc) (e : Int) : X × List AV := (.out 0, enc f_s_IsGroup_g0_1 [.i e])
def f_s_IsGroup_g0_2 : List Sh := [.u, .u, .p .boo, .u, .u, .u, .u, .u, .u, .u, .u, .u, .u, .u, .u, .u, .u, .u, .u, .u, .u, .u, .u, .u, .u, .u, .u, .u, .u, .u, .u, .u]
def f_s_IsGroup_x0_2 (g1 : List Sc) (e : Unit) : X × List AV := (.ret, enc f_s_IsGroup_g0_2 [.b false])
theorem f_s_IsGroup_p0 {R : Type} (g1 : List Sc) (s : Int × Int) (kN : Int × Int → Option R) (kA : Int → Option R) (kB : Unit → Option R) : f_s_IsGroup_k0 g1 s.1 s.2 kN kA kB = (f_s_IsGroup_r0 g1 s).bind (Ro.el kN kA kB) := by
  simp only [f_s_IsGroup_k0, f_s_IsGroup_r0, brB, boB, someB, noneB, Ro.el]
theorem f_s_IsGroup_e0 (g1 : List Sc) (s : Int × Int) : EC E0 f_s_IsGroup_M H0 f_s_IsGroup_F (asL (noL)) 0 (bodyOf Try.f39 0) (f_s_IsGroup_fr0 g1 s) (done (klOf f_s_IsGroup_F 0)) = f_s_IsGroup_k0 g1 s.1 s.2 (fun s => some (.norm, f_s_IsGroup_fr0 g1 s)) (fun e => some (f_s_IsGroup_x0_1 g1 e)) (fun e => some (f_s_IsGroup_x0_2 g1 e)) := by kernel_rfl
theorem f_s_IsGroup_l0 (g1 : List Sc) : ∀ s r, loopL (f_s_IsGroup_r0 g1) s = some r → LS Try.prog f_s_IsGroup_F (bodyOf Try.f39 0) (f_s_IsGroup_fr0 g1 s) (enX (f_s_IsGroup_x0_1 g1) (f_s_IsGroup_x0_2 g1) r) :=
  loop_true E0ok f_s_IsGroup_Mt (noL_true) f_s_IsGroup_o (fun _ h => by cases h) (fun _ h => by cases h) (fun s => (f_s_IsGroup_e0 g1 s).trans (f_s_IsGroup_p0 g1 s _ _ (fun e => some (f_s_IsGroup_x0_2 g1 e))))
def f_s_IsGroup_t0 (σ : List AV) : Option (Bool × Bool × (X × List AV) × (X × List AV)) := match dec f_s_IsGroup_h0 σ with
  | some [.l g1, .i n3, .i i4] => some ((loopL (f_s_IsGroup_r0 g1) (n3, i4)).isSome, isOne (loopL (f_s_IsGroup_r0 g1) (n3, i4)), f_s_IsGroup_x0_1 g1 (getOne 0 (loopL (f_s_IsGroup_r0 g1) (n3, i4))), f_s_IsGroup_x0_2 g1 (getTwo () (loopL (f_s_IsGroup_r0 g1) (n3, i4))))
  | _ => none
theorem f_s_IsGroup_tt0 : TTrue Try.prog f_s_IsGroup_F Try.f39 0 (f_s_IsGroup_t0) := by
  intro σ p r r' h
  unfold f_s_IsGroup_t0 at h
  split at h
  · rename_i hd
    rw [← dec_enc hd]
    exact row2 (f_s_IsGroup_l0 _ _) h
  · cases h
theorem f_s_IsGroup_p {R : Type} (g0 : List Sc) (kR : Bool → Option R) : f_s_IsGroup_k g0 kR = (f_s_IsGroup_k g0 some).bind kR := by
  simp only [f_s_IsGroup_k, blB, someB]
theorem f_s_IsGroup_e (g0 : List Sc) : runFn E0 f_s_IsGroup_M H0 f_s_IsGroup_F (asL (addL 0 (f_s_IsGroup_t0) (noL))) Try.f39 (f_s_IsGroup_a g0) (f_s_IsGroup_i g0) = f_s_IsGroup_k g0 (fun r => some (f_s_IsGroup_en r)) := by kernel_rfl
theorem f_s_IsGroup_ok (g0 : List Sc) (r : Bool) (h : f_s_IsGroup g0 = some r) : CS Try.prog 39 (f_s_IsGroup_a g0) (f_s_IsGroup_i g0) (f_s_IsGroup_en r).1 (f_s_IsGroup_en r).2 :=
  fn_true (Gk := fun k => f_s_IsGroup_k g0 k) (en := f_s_IsGroup_en) Try.func39 E0ok f_s_IsGroup_Mt (addL_true (f_s_IsGroup_tt0) (noL_true)) f_s_IsGroup_o (f_s_IsGroup_e g0) (f_s_IsGroup_p g0) h
def f_s_IsGroup_c : CRow := fun args inh => match dec2 [.p .gr] [] args inh with
  | some ([.l g0], []) => some ((f_s_IsGroup g0).isSome, (f_s_IsGroup_en ((f_s_IsGroup g0).getD false)).1, (f_s_IsGroup_en ((f_s_IsGroup g0).getD false)).2)
  | _ => none
theorem f_s_IsGroup_cc : CTrue Try.prog 39 f_s_IsGroup_c := by
  intro args inh rs out h
  unfold f_s_IsGroup_c at h
  split at h
  · rename_i hd
    obtain ⟨h1, h2⟩ := dec2_enc hd
    rw [← h1, ← h2]
    exact rowC (f_s_IsGroup_ok _) h
  · cases h

def f_s_l2Order_F : Fi := { nv := 0, nc := 0, m := 0, vt := [], kl := [(0, ([0, 2, 5, 6, 7, 8, 9, 10, 11, 12, 13, 14, 15, 16, 17, 18, 19], [0, 1, 2, 4, 5, 6, 7, 8, 9, 10, 11, 12, 13, 14, 15, 16, 17, 18, 19], [0, 1, 3, 4, 5, 6, 7, 8, 9, 10, 11, 12, 13, 14, 15, 16, 17, 18, 19]))], sk := [], mvs := [], fz := [] }
def f_s_l2Order_a (g0 : List Sc) : List AV := enc [.p .gr] [.l g0]
def f_s_l2Order_i (g0 : List Sc) : List AV := enc [] []
def f_s_l2Order_en (r : Int) : List AV × List AV := (enc [.p (.int .i64)] [.i r], enc [] [])
def f_s_l2Order_M : Calling := noC
theorem f_s_l2Order_Mt : CallOk Try.prog (f_s_l2Order_M) := noC_true
theorem f_s_l2Order_o : loopsOnce Try.f33 = true := by kernel_rfl
def f_s_l2Order_h0 : List Sh := [.u, .p .el, .u, .p (.int .i64), .p (.int .i64), .u, .u, .u, .u, .u, .u, .u, .u, .u, .u, .u, .u, .u, .u, .u]
def f_s_l2Order_fr0 (g1 : List Sc) (s : Int × Int) : List AV := enc f_s_l2Order_h0 [.l g1, .i s.1, .i s.2]
def f_s_l2Order_g0_1 : List Sh := [.u, .u, .u, .p (.int .i64), .u, .u, .u, .u, .u, .u, .u, .u, .u, .u, .u, .u, .u, .u, .u, .u]
def f_s_l2Order_x0_1 (g1 : List Sc) (e : Int) : X × List AV := (.out 0, enc f_s_l2Order_g0_1 [.i e])
def f_s_l2Order_x0_2 (g1 : List Sc) (_e : Unit) : X × List AV := (.ret, [])
theorem f_s_l2Order_p0 {R : Type} (g1 : List Sc) (s : Int × Int) (kN : Int × Int → Option R) (kA : Int → Option R) (kB : Unit → Option R) : f_s_l2Order_k0 g1 s.1 s.2 kN kA = (f_s_l2Order_r0 g1 s).bind (Ro.el kN kA kB) := by
  simp only [f_s_l2Order_k0, f_s_l2Order_r0, brB, someB, noneB, Ro.el]
theorem f_s_l2Order_e0 (g1 : List Sc) (s : Int × Int) : EC E0 f_s_l2Order_M H0 f_s_l2Order_F (asL (noL)) 0 (bodyOf Try.f33 0) (f_s_l2Order_fr0 g1 s) (done (klOf f_s_l2Order_F 0)) = f_s_l2Order_k0 g1 s.1 s.2 (fun s => some (.norm, f_s_l2Order_fr0 g1 s)) (fun e => some (f_s_l2Order_x0_1 g1 e)) := by kernel_rfl
theorem f_s_l2Order_l0 (g1 : List Sc) : ∀ s r, loopL (f_s_l2Order_r0 g1) s = some r → LS Try.prog f_s_l2Order_F (bodyOf Try.f33 0) (f_s_l2Order_fr0 g1 s) (enX (f_s_l2Order_x0_1 g1) (f_s_l2Order_x0_2 g1) r) :=
  loop_true E0ok f_s_l2Order_Mt (noL_true) f_s_l2Order_o (fun _ h => by cases h) (fun _ h => by cases h) (fun s => (f_s_l2Order_e0 g1 s).trans (f_s_l2Order_p0 g1 s _ _ (fun e => some (f_s_l2Order_x0_2 g1 e))))
def f_s_l2Order_t0 (σ : List AV) : Option (Bool × Bool × (X × List AV) × (X × List AV)) := match dec f_s_l2Order_h0 σ with
  | some [.l g1, .i n3, .i i4] => some (isOne (loopL (f_s_l2Order_r0 g1) (n3, i4)), true, f_s_l2Order_x0_1 g1 (getOne 0 (loopL (f_s_l2Order_r0 g1) (n3, i4))), (.ret, []))
  | _ => none
theorem f_s_l2Order_tt0 : TTrue Try.prog f_s_l2Order_F Try.f33 0 (f_s_l2Order_t0) := by
  intro σ p r r' h
  unfold f_s_l2Order_t0 at h
  split at h
  · rename_i hd
    rw [← dec_enc hd]
    exact row1 (f_s_l2Order_l0 _ _) h
  · cases h
theorem f_s_l2Order_p {R : Type} (g0 : List Sc) (kR : Int → Option R) : f_s_l2Order_k g0 kR = (f_s_l2Order_k g0 some).bind kR := by
  simp only [f_s_l2Order_k, bl1B, someB]
theorem f_s_l2Order_e (g0 : List Sc) : runFn E0 f_s_l2Order_M H0 f_s_l2Order_F (asL (addL 0 (f_s_l2Order_t0) (noL))) Try.f33 (f_s_l2Order_a g0) (f_s_l2Order_i g0) = f_s_l2Order_k g0 (fun r => some (f_s_l2Order_en r)) := by kernel_rfl
theorem f_s_l2Order_ok (g0 : List Sc) (r : Int) (h : f_s_l2Order g0 = some r) : CS Try.prog 33 (f_s_l2Order_a g0) (f_s_l2Order_i g0) (f_s_l2Order_en r).1 (f_s_l2Order_en r).2 :=
  fn_true (Gk := fun k => f_s_l2Order_k g0 k) (en := f_s_l2Order_en) Try.func33 E0ok f_s_l2Order_Mt (addL_true (f_s_l2Order_tt0) (noL_true)) f_s_l2Order_o (f_s_l2Order_e g0) (f_s_l2Order_p g0) h
def f_s_l2Order_c : CRow := fun args inh => match dec2 [.p .gr] [] args inh with
  | some ([.l g0], []) => some ((f_s_l2Order g0).isSome, (f_s_l2Order_en ((f_s_l2Order g0).getD 0)).1, (f_s_l2Order_en ((f_s_l2Order g0).getD 0)).2)
  | _ => none
theorem f_s_l2Order_cc : CTrue Try.prog 33 f_s_l2Order_c := by
  intro args inh rs out h
  unfold f_s_l2Order_c at h
  split at h
  · rename_i hd
    obtain ⟨h1, h2⟩ := dec2_enc hd
    rw [← h1, ← h2]
    exact rowC (f_s_l2Order_ok _) h
  · cases h

def f_s_l3List_F : Fi := { nv := 0, nc := 0, m := 0, vt := [], kl := [(0, ([0, 1, 2, 6, 7, 8, 9, 10, 11, 12, 13, 14, 15, 16, 17, 18, 19, 20, 21], [0, 1, 2, 4, 5, 6, 7, 8, 9, 10, 11, 12, 13, 14, 15, 16, 17, 18, 19, 20, 21], [0, 1, 3, 4, 5, 6, 7, 8, 9, 10, 11, 12, 13, 14, 15, 16, 17, 18, 19, 20, 21]))], sk := [], mvs := [], fz := [] }
def f_s_l3List_a (a0 : Int) : List AV := enc [.p (.int .i64)] [.i a0]
def f_s_l3List_i (a0 : Int) : List AV := enc [] []
def f_s_l3List_en (r : List Sc) : List AV × List AV := (enc [.p (.al 0)] [], enc [.own 3] [.l r])
def f_s_l3List_M : Calling := noC
theorem f_s_l3List_Mt : CallOk Try.prog (f_s_l3List_M) := noC_true
theorem f_s_l3List_o : loopsOnce Try.f58 = true := by kernel_rfl
def f_s_l3List_h0 : List Sh := [.u, .u, .u, .own 3, .p (.int .i64), .p (.int .i64), .u, .u, .u, .u, .u, .u, .u, .u, .u, .u, .u, .u, .u, .u, .u, .u]
def f_s_l3List_fr0 (s : List Sc × Int × Int) : List AV := enc f_s_l3List_h0 [.l s.1, .i s.2.1, .i s.2.2]
def f_s_l3List_g0_1 : List Sh := [.u, .u, .u, .own 3, .u, .u, .u, .u, .u, .u, .u, .u, .u, .u, .u, .u, .u, .u, .u, .u, .u, .u]
def f_s_l3List_x0_1 (e : List Sc) : X × List AV := (.out 0, enc f_s_l3List_g0_1 [.l e])
def f_s_l3List_x0_2 (_e : Unit) : X × List AV := (.ret, [])
theorem f_s_l3List_p0 {R : Type} (s : List Sc × Int × Int) (kN : List Sc × Int × Int → Option R) (kA : List Sc → Option R) (kB : Unit → Option R) : f_s_l3List_k0 s.1 s.2.1 s.2.2 kN kA = (f_s_l3List_r0 s).bind (Ro.el kN kA kB) := by
  simp only [f_s_l3List_k0, f_s_l3List_r0, brB, someB, noneB, Ro.el]
theorem f_s_l3List_e0 (s : List Sc × Int × Int) : EC E0 f_s_l3List_M H0 f_s_l3List_F (asL (noL)) 0 (bodyOf Try.f58 0) (f_s_l3List_fr0 s) (done (klOf f_s_l3List_F 0)) = f_s_l3List_k0 s.1 s.2.1 s.2.2 (fun s => some (.norm, f_s_l3List_fr0 s)) (fun e => some (f_s_l3List_x0_1 e)) := by kernel_rfl
theorem f_s_l3List_l0 : ∀ s r, loopL (f_s_l3List_r0) s = some r → LS Try.prog f_s_l3List_F (bodyOf Try.f58 0) (f_s_l3List_fr0 s) (enX (f_s_l3List_x0_1) (f_s_l3List_x0_2) r) :=
  loop_true E0ok f_s_l3List_Mt (noL_true) f_s_l3List_o (fun _ h => by cases h) (fun _ h => by cases h) (fun s => (f_s_l3List_e0 s).trans (f_s_l3List_p0 s _ _ (fun e => some (f_s_l3List_x0_2 e))))
def f_s_l3List_t0 (σ : List AV) : Option (Bool × Bool × (X × List AV) × (X × List AV)) := match dec f_s_l3List_h0 σ with
  | some [.l out3, .i i4, .i x5] => some (isOne (loopL (f_s_l3List_r0) (out3, i4, x5)), true, f_s_l3List_x0_1 (getOne [] (loopL (f_s_l3List_r0) (out3, i4, x5))), (.ret, []))
  | _ => none
theorem f_s_l3List_tt0 : TTrue Try.prog f_s_l3List_F Try.f58 0 (f_s_l3List_t0) := by
  intro σ p r r' h
  unfold f_s_l3List_t0 at h
  split at h
  · rename_i hd
    rw [← dec_enc hd]
    exact row1 (f_s_l3List_l0 _) h
  · cases h
theorem f_s_l3List_p {R : Type} (a0 : Int) (kR : List Sc → Option R) : f_s_l3List_k a0 kR = (f_s_l3List_k a0 some).bind kR := by
  simp only [f_s_l3List_k, bl1B, someB]
theorem f_s_l3List_e (a0 : Int) : runFn E0 f_s_l3List_M H0 f_s_l3List_F (asL (addL 0 (f_s_l3List_t0) (noL))) Try.f58 (f_s_l3List_a a0) (f_s_l3List_i a0) = f_s_l3List_k a0 (fun r => some (f_s_l3List_en r)) := by kernel_rfl
theorem f_s_l3List_ok (a0 : Int) (r : List Sc) (h : f_s_l3List a0 = some r) : CS Try.prog 58 (f_s_l3List_a a0) (f_s_l3List_i a0) (f_s_l3List_en r).1 (f_s_l3List_en r).2 :=
  fn_true (Gk := fun k => f_s_l3List_k a0 k) (en := f_s_l3List_en) Try.func58 E0ok f_s_l3List_Mt (addL_true (f_s_l3List_tt0) (noL_true)) f_s_l3List_o (f_s_l3List_e a0) (f_s_l3List_p a0) h
def f_s_l3List_c : CRow := fun args inh => match dec2 [.p (.int .i64)] [] args inh with
  | some ([.i a0], []) => some ((f_s_l3List a0).isSome, (f_s_l3List_en ((f_s_l3List a0).getD [])).1, (f_s_l3List_en ((f_s_l3List a0).getD [])).2)
  | _ => none
theorem f_s_l3List_cc : CTrue Try.prog 58 f_s_l3List_c := by
  intro args inh rs out h
  unfold f_s_l3List_c at h
  split at h
  · rename_i hd
    obtain ⟨h1, h2⟩ := dec2_enc hd
    rw [← h1, ← h2]
    exact rowC (f_s_l3List_ok _) h
  · cases h

def f_s_l2Add_F : Fi := { nv := 0, nc := 0, m := 0, vt := [], kl := [(0, ([0, 4, 5, 6, 10, 11, 12, 13, 14, 15, 16, 17, 18, 19, 20, 21, 22, 23, 24, 25, 26, 27, 28, 29, 30, 31, 32, 33, 34, 35, 36, 37, 38, 39, 40, 41, 42, 43, 44, 45], [0, 1, 2, 3, 4, 5, 6, 8, 9, 10, 11, 12, 13, 14, 15, 16, 17, 18, 19, 20, 21, 22, 23, 24, 25, 26, 27, 28, 29, 30, 31, 32, 33, 34, 35, 36, 37, 38, 39, 40, 41, 42, 43, 44, 45], [0, 1, 2, 3, 4, 5, 7, 8, 9, 10, 11, 12, 13, 14, 15, 16, 17, 18, 19, 20, 21, 22, 23, 24, 25, 26, 27, 28, 29, 30, 31, 32, 33, 34, 35, 36, 37, 38, 39, 40, 41, 42, 43, 44, 45]))], sk := [], mvs := [], fz := [] }
def f_s_l2Add_a (g0 : List Sc) (x1 : Int) (y2 : Int) : List AV := enc [.p .gr, .p (.int .i64), .p (.int .i64)] [.l g0, .i x1, .i y2]
def f_s_l2Add_i (g0 : List Sc) (x1 : Int) (y2 : Int) : List AV := enc [] []
def f_s_l2Add_en (r : Int) : List AV × List AV := (enc [.p (.int .i64)] [.i r], enc [] [])
def f_s_l2Add_M : Calling := noC
theorem f_s_l2Add_Mt : CallOk Try.prog (f_s_l2Add_M) := noC_true
theorem f_s_l2Add_o : loopsOnce Try.f59 = true := by kernel_rfl
def f_s_l2Add_h0 : List Sh := [.u, .p (.int .i64), .p (.int .i64), .p .el, .u, .u, .u, .p (.int .i64), .p (.int .i64), .p (.int .i64), .u, .u, .u, .u, .u, .u, .u, .u, .u, .u, .u, .u, .u, .u, .u, .u, .u, .u, .u, .u, .u, .u, .u, .u, .u, .u, .u, .u, .u, .u, .u, .u, .u, .u, .u, .u]
def f_s_l2Add_fr0 (g3 : List Sc) (s : Int × Int × Int × Int × Int) : List AV := enc f_s_l2Add_h0 [.i s.1, .i s.2.1, .l g3, .i s.2.2.1, .i s.2.2.2.1, .i s.2.2.2.2]
def f_s_l2Add_g0_1 : List Sh := [.u, .u, .u, .u, .u, .u, .u, .p (.int .i64), .u, .u, .u, .u, .u, .u, .u, .u, .u, .u, .u, .u, .u, .u, .u, .u, .u, .u, .u, .u, .u, .u, .u, .u, .u, .u, .u, .u, .u, .u, .u, .u, .u, .u, .u, .u, .u, .u]
def f_s_l2Add_x0_1 (g3 : List Sc) (e : Int) : X × List AV := (.out 0, enc f_s_l2Add_g0_1 [.i e])
def f_s_l2Add_x0_2 (g3 : List Sc) (_e : Unit) : X × List AV := (.ret, [])
theorem f_s_l2Add_p0 {R : Type} (g3 : List Sc) (s : Int × Int × Int × Int × Int) (kN : Int × Int × Int × Int × Int → Option R) (kA : Int → Option R) (kB : Unit → Option R) : f_s_l2Add_k0 g3 s.1 s.2.1 s.2.2.1 s.2.2.2.1 s.2.2.2.2 kN kA = (f_s_l2Add_r0 g3 s).bind (Ro.el kN kA kB) := by
  simp only [f_s_l2Add_k0, f_s_l2Add_r0, brB, someB, noneB, Ro.el]
theorem f_s_l2Add_e0 (g3 : List Sc) (s : Int × Int × Int × Int × Int) : EC E0 f_s_l2Add_M H0 f_s_l2Add_F (asL (noL)) 0 (bodyOf Try.f59 0) (f_s_l2Add_fr0 g3 s) (done (klOf f_s_l2Add_F 0)) = f_s_l2Add_k0 g3 s.1 s.2.1 s.2.2.1 s.2.2.2.1 s.2.2.2.2 (fun s => some (.norm, f_s_l2Add_fr0 g3 s)) (fun e => some (f_s_l2Add_x0_1 g3 e)) := by kernel_rfl
theorem f_s_l2Add_l0 (g3 : List Sc) : ∀ s r, loopL (f_s_l2Add_r0 g3) s = some r → LS Try.prog f_s_l2Add_F (bodyOf Try.f59 0) (f_s_l2Add_fr0 g3 s) (enX (f_s_l2Add_x0_1 g3) (f_s_l2Add_x0_2 g3) r) :=
  loop_true E0ok f_s_l2Add_Mt (noL_true) f_s_l2Add_o (fun _ h => by cases h) (fun _ h => by cases h) (fun s => (f_s_l2Add_e0 g3 s).trans (f_s_l2Add_p0 g3 s _ _ (fun e => some (f_s_l2Add_x0_2 g3 e))))
def f_s_l2Add_t0 (σ : List AV) : Option (Bool × Bool × (X × List AV) × (X × List AV)) := match dec f_s_l2Add_h0 σ with
  | some [.i x1, .i y2, .l g3, .i z7, .i step8, .i i9] => some (isOne (loopL (f_s_l2Add_r0 g3) (x1, y2, z7, step8, i9)), true, f_s_l2Add_x0_1 g3 (getOne 0 (loopL (f_s_l2Add_r0 g3) (x1, y2, z7, step8, i9))), (.ret, []))
  | _ => none
theorem f_s_l2Add_tt0 : TTrue Try.prog f_s_l2Add_F Try.f59 0 (f_s_l2Add_t0) := by
  intro σ p r r' h
  unfold f_s_l2Add_t0 at h
  split at h
  · rename_i hd
    rw [← dec_enc hd]
    exact row1 (f_s_l2Add_l0 _ _) h
  · cases h
theorem f_s_l2Add_p {R : Type} (g0 : List Sc) (x1 : Int) (y2 : Int) (kR : Int → Option R) : f_s_l2Add_k g0 x1 y2 kR = (f_s_l2Add_k g0 x1 y2 some).bind kR := by
  simp only [f_s_l2Add_k, bl1B, someB]
theorem f_s_l2Add_e (g0 : List Sc) (x1 : Int) (y2 : Int) : runFn E0 f_s_l2Add_M H0 f_s_l2Add_F (asL (addL 0 (f_s_l2Add_t0) (noL))) Try.f59 (f_s_l2Add_a g0 x1 y2) (f_s_l2Add_i g0 x1 y2) = f_s_l2Add_k g0 x1 y2 (fun r => some (f_s_l2Add_en r)) := by kernel_rfl
theorem f_s_l2Add_ok (g0 : List Sc) (x1 : Int) (y2 : Int) (r : Int) (h : f_s_l2Add g0 x1 y2 = some r) : CS Try.prog 59 (f_s_l2Add_a g0 x1 y2) (f_s_l2Add_i g0 x1 y2) (f_s_l2Add_en r).1 (f_s_l2Add_en r).2 :=
  fn_true (Gk := fun k => f_s_l2Add_k g0 x1 y2 k) (en := f_s_l2Add_en) Try.func59 E0ok f_s_l2Add_Mt (addL_true (f_s_l2Add_tt0) (noL_true)) f_s_l2Add_o (f_s_l2Add_e g0 x1 y2) (f_s_l2Add_p g0 x1 y2) h
def f_s_l2Add_c : CRow := fun args inh => match dec2 [.p .gr, .p (.int .i64), .p (.int .i64)] [] args inh with
  | some ([.l g0, .i x1, .i y2], []) => some ((f_s_l2Add g0 x1 y2).isSome, (f_s_l2Add_en ((f_s_l2Add g0 x1 y2).getD 0)).1, (f_s_l2Add_en ((f_s_l2Add g0 x1 y2).getD 0)).2)
  | _ => none
theorem f_s_l2Add_cc : CTrue Try.prog 59 f_s_l2Add_c := by
  intro args inh rs out h
  unfold f_s_l2Add_c at h
  split at h
  · rename_i hd
    obtain ⟨h1, h2⟩ := dec2_enc hd
    rw [← h1, ← h2]
    exact rowC (f_s_l2Add_ok _ _ _) h
  · cases h

def f_s_l3Shift_F : Fi := { nv := 0, nc := 0, m := 0, vt := [], kl := [(0, ([0, 1, 4, 5, 6, 10, 11, 12, 13, 14, 15, 16, 17, 18, 19, 20, 21, 22, 23, 24, 25, 26, 27, 28], [0, 1, 2, 3, 4, 5, 6, 8, 9, 10, 11, 12, 13, 14, 15, 16, 17, 18, 19, 20, 21, 22, 23, 24, 25, 26, 27, 28], [0, 1, 2, 3, 4, 5, 7, 8, 9, 10, 11, 12, 13, 14, 15, 16, 17, 18, 19, 20, 21, 22, 23, 24, 25, 26, 27, 28]))], sk := [], mvs := [], fz := [] }
def f_s_l3Shift_a (g0 : List Sc) (a1 : Int) (x2 : Int) : List AV := enc [.p .gr, .p (.int .i64), .p (.int .i64)] [.l g0, .i a1, .i x2]
def f_s_l3Shift_i (g0 : List Sc) (a1 : Int) (x2 : Int) : List AV := enc [] []
def f_s_l3Shift_en (r : Int) : List AV × List AV := (enc [.p (.int .i64)] [.i r], enc [] [])
def f_s_l3Shift_M : Calling := addC 58 f_s_l3List_c (addC 59 f_s_l2Add_c (noC))
theorem f_s_l3Shift_Mt : CallOk Try.prog (f_s_l3Shift_M) := addC_true f_s_l3List_cc (addC_true f_s_l2Add_cc (noC_true))
theorem f_s_l3Shift_o : loopsOnce Try.f61 = true := by kernel_rfl
def f_s_l3Shift_h0 : List Sh := [.u, .u, .p (.int .i64), .p .el, .u, .u, .u, .p (.int .i64), .own 3, .p (.int .i64), .u, .u, .u, .u, .u, .u, .u, .u, .u, .u, .u, .u, .u, .u, .u, .u, .u, .u, .u]
def f_s_l3Shift_fr0 (x2 : Int) (g3 : List Sc) (s : Int × List Sc × Int) : List AV := enc f_s_l3Shift_h0 [.i x2, .l g3, .i s.1, .l s.2.1, .i s.2.2]
def f_s_l3Shift_g0_1 : List Sh := [.u, .u, .u, .u, .u, .u, .u, .p (.int .i64), .u, .u, .u, .u, .u, .u, .u, .u, .u, .u, .u, .u, .u, .u, .u, .u, .u, .u, .u, .u, .u]
def f_s_l3Shift_x0_1 (x2 : Int) (g3 : List Sc) (e : Int) : X × List AV := (.out 0, enc f_s_l3Shift_g0_1 [.i e])
def f_s_l3Shift_x0_2 (x2 : Int) (g3 : List Sc) (_e : Unit) : X × List AV := (.ret, [])
theorem f_s_l3Shift_p0 {R : Type} (x2 : Int) (g3 : List Sc) (s : Int × List Sc × Int) (kN : Int × List Sc × Int → Option R) (kA : Int → Option R) (kB : Unit → Option R) : f_s_l3Shift_k0 x2 g3 s.1 s.2.1 s.2.2 kN kA = (f_s_l3Shift_r0 x2 g3 s).bind (Ro.el kN kA kB) := by
  simp only [f_s_l3Shift_k0, f_s_l3Shift_r0, brB, boB, someB, noneB, Ro.el]
theorem f_s_l3Shift_e0 (x2 : Int) (g3 : List Sc) (s : Int × List Sc × Int) : EC E0 f_s_l3Shift_M H0 f_s_l3Shift_F (asL (noL)) 0 (bodyOf Try.f61 0) (f_s_l3Shift_fr0 x2 g3 s) (done (klOf f_s_l3Shift_F 0)) = f_s_l3Shift_k0 x2 g3 s.1 s.2.1 s.2.2 (fun s => some (.norm, f_s_l3Shift_fr0 x2 g3 s)) (fun e => some (f_s_l3Shift_x0_1 x2 g3 e)) := by kernel_rfl
theorem f_s_l3Shift_l0 (x2 : Int) (g3 : List Sc) : ∀ s r, loopL (f_s_l3Shift_r0 x2 g3) s = some r → LS Try.prog f_s_l3Shift_F (bodyOf Try.f61 0) (f_s_l3Shift_fr0 x2 g3 s) (enX (f_s_l3Shift_x0_1 x2 g3) (f_s_l3Shift_x0_2 x2 g3) r) :=
  loop_true E0ok f_s_l3Shift_Mt (noL_true) f_s_l3Shift_o (fun _ h => by cases h) (fun _ h => by cases h) (fun s => (f_s_l3Shift_e0 x2 g3 s).trans (f_s_l3Shift_p0 x2 g3 s _ _ (fun e => some (f_s_l3Shift_x0_2 x2 g3 e))))
def f_s_l3Shift_t0 (σ : List AV) : Option (Bool × Bool × (X × List AV) × (X × List AV)) := match dec f_s_l3Shift_h0 σ with
  | some [.i x2, .l g3, .i out7, .l l8, .i i9] => some (isOne (loopL (f_s_l3Shift_r0 x2 g3) (out7, l8, i9)), true, f_s_l3Shift_x0_1 x2 g3 (getOne 0 (loopL (f_s_l3Shift_r0 x2 g3) (out7, l8, i9))), (.ret, []))
  | _ => none
theorem f_s_l3Shift_tt0 : TTrue Try.prog f_s_l3Shift_F Try.f61 0 (f_s_l3Shift_t0) := by
  intro σ p r r' h
  unfold f_s_l3Shift_t0 at h
  split at h
  · rename_i hd
    rw [← dec_enc hd]
    exact row1 (f_s_l3Shift_l0 _ _ _) h
  · cases h
theorem f_s_l3Shift_p {R : Type} (g0 : List Sc) (a1 : Int) (x2 : Int) (kR : Int → Option R) : f_s_l3Shift_k g0 a1 x2 kR = (f_s_l3Shift_k g0 a1 x2 some).bind kR := by
  simp only [f_s_l3Shift_k, boB, bl1B, someB]
theorem f_s_l3Shift_e (g0 : List Sc) (a1 : Int) (x2 : Int) : runFn E0 f_s_l3Shift_M H0 f_s_l3Shift_F (asL (addL 0 (f_s_l3Shift_t0) (noL))) Try.f61 (f_s_l3Shift_a g0 a1 x2) (f_s_l3Shift_i g0 a1 x2) = f_s_l3Shift_k g0 a1 x2 (fun r => some (f_s_l3Shift_en r)) := by kernel_rfl
theorem f_s_l3Shift_ok (g0 : List Sc) (a1 : Int) (x2 : Int) (r : Int) (h : f_s_l3Shift g0 a1 x2 = some r) : CS Try.prog 61 (f_s_l3Shift_a g0 a1 x2) (f_s_l3Shift_i g0 a1 x2) (f_s_l3Shift_en r).1 (f_s_l3Shift_en r).2 :=
  fn_true (Gk := fun k => f_s_l3Shift_k g0 a1 x2 k) (en := f_s_l3Shift_en) Try.func61 E0ok f_s_l3Shift_Mt (addL_true (f_s_l3Shift_tt0) (noL_true)) f_s_l3Shift_o (f_s_l3Shift_e g0 a1 x2) (f_s_l3Shift_p g0 a1 x2) h
def f_s_l3Shift_c : CRow := fun args inh => match dec2 [.p .gr, .p (.int .i64), .p (.int .i64)] [] args inh with
  | some ([.l g0, .i a1, .i x2], []) => some ((f_s_l3Shift g0 a1 x2).isSome, (f_s_l3Shift_en ((f_s_l3Shift g0 a1 x2).getD 0)).1, (f_s_l3Shift_en ((f_s_l3Shift g0 a1 x2).getD 0)).2)
  | _ => none
theorem f_s_l3Shift_cc : CTrue Try.prog 61 f_s_l3Shift_c := by
  intro args inh rs out h
  unfold f_s_l3Shift_c at h
  split at h
  · rename_i hd
    obtain ⟨h1, h2⟩ := dec2_enc hd
    rw [← h1, ← h2]
    exact rowC (f_s_l3Shift_ok _ _ _) h
  · cases h

def f_s_l4Sum_F : Fi := { nv := 0, nc := 0, m := 0, vt := [], kl := [(0, ([0, 2, 4, 5, 6, 10, 11, 12, 13, 14, 15, 16, 17, 18, 19, 20, 21, 22, 23, 24, 25, 26, 27], [0, 1, 2, 3, 4, 5, 6, 8, 9, 10, 11, 12, 13, 14, 15, 16, 17, 18, 19, 20, 21, 22, 23, 24, 25, 26, 27], [0, 1, 2, 3, 4, 5, 7, 8, 9, 10, 11, 12, 13, 14, 15, 16, 17, 18, 19, 20, 21, 22, 23, 24, 25, 26, 27]))], sk := [], mvs := [], fz := [] }
def f_s_l4Sum_a (g0 : List Sc) (a1 : Int) (b2 : Int) : List AV := enc [.p .gr, .p (.int .i64), .p (.int .i64)] [.l g0, .i a1, .i b2]
def f_s_l4Sum_i (g0 : List Sc) (a1 : Int) (b2 : Int) : List AV := enc [] []
def f_s_l4Sum_en (r : Int) : List AV × List AV := (enc [.p (.int .i64)] [.i r], enc [] [])
def f_s_l4Sum_M : Calling := addC 58 f_s_l3List_c (addC 61 f_s_l3Shift_c (noC))
theorem f_s_l4Sum_Mt : CallOk Try.prog (f_s_l4Sum_M) := addC_true f_s_l3List_cc (addC_true f_s_l3Shift_cc (noC_true))
theorem f_s_l4Sum_o : loopsOnce Try.f43 = true := by kernel_rfl
def f_s_l4Sum_h0 : List Sh := [.u, .p (.int .i64), .u, .p .el, .u, .u, .u, .p (.int .i64), .own 3, .p (.int .i64), .u, .u, .u, .u, .u, .u, .u, .u, .u, .u, .u, .u, .u, .u, .u, .u, .u, .u]
def f_s_l4Sum_fr0 (a1 : Int) (g3 : List Sc) (s : Int × List Sc × Int) : List AV := enc f_s_l4Sum_h0 [.i a1, .l g3, .i s.1, .l s.2.1, .i s.2.2]
def f_s_l4Sum_g0_1 : List Sh := [.u, .u, .u, .u, .u, .u, .u, .p (.int .i64), .u, .u, .u, .u, .u, .u, .u, .u, .u, .u, .u, .u, .u, .u, .u, .u, .u, .u, .u, .u]
def f_s_l4Sum_x0_1 (a1 : Int) (g3 : List Sc) (e : Int) : X × List AV := (.out 0, enc f_s_l4Sum_g0_1 [.i e])
def f_s_l4Sum_x0_2 (a1 : Int) (g3 : List Sc) (_e : Unit) : X × List AV := (.ret, [])
theorem f_s_l4Sum_p0 {R : Type} (a1 : Int) (g3 : List Sc) (s : Int × List Sc × Int) (kN : Int × List Sc × Int → Option R) (kA : Int → Option R) (kB : Unit → Option R) : f_s_l4Sum_k0 a1 g3 s.1 s.2.1 s.2.2 kN kA = (f_s_l4Sum_r0 a1 g3 s).bind (Ro.el kN kA kB) := by
  simp only [f_s_l4Sum_k0, f_s_l4Sum_r0, brB, boB, someB, noneB, Ro.el]
theorem f_s_l4Sum_e0 (a1 : Int) (g3 : List Sc) (s : Int × List Sc × Int) : EC E0 f_s_l4Sum_M H0 f_s_l4Sum_F (asL (noL)) 0 (bodyOf Try.f43 0) (f_s_l4Sum_fr0 a1 g3 s) (done (klOf f_s_l4Sum_F 0)) = f_s_l4Sum_k0 a1 g3 s.1 s.2.1 s.2.2 (fun s => some (.norm, f_s_l4Sum_fr0 a1 g3 s)) (fun e => some (f_s_l4Sum_x0_1 a1 g3 e)) := by kernel_rfl
theorem f_s_l4Sum_l0 (a1 : Int) (g3 : List Sc) : ∀ s r, loopL (f_s_l4Sum_r0 a1 g3) s = some r → LS Try.prog f_s_l4Sum_F (bodyOf Try.f43 0) (f_s_l4Sum_fr0 a1 g3 s) (enX (f_s_l4Sum_x0_1 a1 g3) (f_s_l4Sum_x0_2 a1 g3) r) :=
  loop_true E0ok f_s_l4Sum_Mt (noL_true) f_s_l4Sum_o (fun _ h => by cases h) (fun _ h => by cases h) (fun s => (f_s_l4Sum_e0 a1 g3 s).trans (f_s_l4Sum_p0 a1 g3 s _ _ (fun e => some (f_s_l4Sum_x0_2 a1 g3 e))))
def f_s_l4Sum_t0 (σ : List AV) : Option (Bool × Bool × (X × List AV) × (X × List AV)) := match dec f_s_l4Sum_h0 σ with
  | some [.i a1, .l g3, .i out7, .l l8, .i i9] => some (isOne (loopL (f_s_l4Sum_r0 a1 g3) (out7, l8, i9)), true, f_s_l4Sum_x0_1 a1 g3 (getOne 0 (loopL (f_s_l4Sum_r0 a1 g3) (out7, l8, i9))), (.ret, []))
  | _ => none
theorem f_s_l4Sum_tt0 : TTrue Try.prog f_s_l4Sum_F Try.f43 0 (f_s_l4Sum_t0) := by
  intro σ p r r' h
  unfold f_s_l4Sum_t0 at h
  split at h
  · rename_i hd
    rw [← dec_enc hd]
    exact row1 (f_s_l4Sum_l0 _ _ _) h
  · cases h
theorem f_s_l4Sum_p {R : Type} (g0 : List Sc) (a1 : Int) (b2 : Int) (kR : Int → Option R) : f_s_l4Sum_k g0 a1 b2 kR = (f_s_l4Sum_k g0 a1 b2 some).bind kR := by
  simp only [f_s_l4Sum_k, boB, bl1B, someB]
theorem f_s_l4Sum_e (g0 : List Sc) (a1 : Int) (b2 : Int) : runFn E0 f_s_l4Sum_M H0 f_s_l4Sum_F (asL (addL 0 (f_s_l4Sum_t0) (noL))) Try.f43 (f_s_l4Sum_a g0 a1 b2) (f_s_l4Sum_i g0 a1 b2) = f_s_l4Sum_k g0 a1 b2 (fun r => some (f_s_l4Sum_en r)) := by kernel_rfl
theorem f_s_l4Sum_ok (g0 : List Sc) (a1 : Int) (b2 : Int) (r : Int) (h : f_s_l4Sum g0 a1 b2 = some r) : CS Try.prog 43 (f_s_l4Sum_a g0 a1 b2) (f_s_l4Sum_i g0 a1 b2) (f_s_l4Sum_en r).1 (f_s_l4Sum_en r).2 :=
  fn_true (Gk := fun k => f_s_l4Sum_k g0 a1 b2 k) (en := f_s_l4Sum_en) Try.func43 E0ok f_s_l4Sum_Mt (addL_true (f_s_l4Sum_tt0) (noL_true)) f_s_l4Sum_o (f_s_l4Sum_e g0 a1 b2) (f_s_l4Sum_p g0 a1 b2) h
def f_s_l4Sum_c : CRow := fun args inh => match dec2 [.p .gr, .p (.int .i64), .p (.int .i64)] [] args inh with
  | some ([.l g0, .i a1, .i b2], []) => some ((f_s_l4Sum g0 a1 b2).isSome, (f_s_l4Sum_en ((f_s_l4Sum g0 a1 b2).getD 0)).1, (f_s_l4Sum_en ((f_s_l4Sum g0 a1 b2).getD 0)).2)
  | _ => none
theorem f_s_l4Sum_cc : CTrue Try.prog 43 f_s_l4Sum_c := by
  intro args inh rs out h
  unfold f_s_l4Sum_c at h
  split at h
  · rename_i hd
    obtain ⟨h1, h2⟩ := dec2_enc hd
    rw [← h1, ← h2]
    exact rowC (f_s_l4Sum_ok _ _ _) h
  · cases h

def f_s_l5Closure_F : Fi := { nv := 0, nc := 0, m := 0, vt := [], kl := [(0, ([0, 3, 4, 7, 8, 9, 10, 11, 12, 13, 14, 15, 16, 17, 18, 19, 20, 21, 22, 23], [0, 1, 2, 3, 4, 6, 7, 8, 9, 10, 11, 12, 13, 14, 15, 16, 17, 18, 19, 20, 21, 22, 23], [0, 1, 2, 3, 5, 6, 7, 8, 9, 10, 11, 12, 13, 14, 15, 16, 17, 18, 19, 20, 21, 22, 23]))], sk := [], mvs := [], fz := [] }
def f_s_l5Closure_a (g0 : List Sc) (a1 : Int) : List AV := enc [.p .gr, .p (.int .i64)] [.l g0, .i a1]
def f_s_l5Closure_i (g0 : List Sc) (a1 : Int) : List AV := enc [] []
def f_s_l5Closure_en (r : Int) : List AV × List AV := (enc [.p (.int .i64)] [.i r], enc [] [])
def f_s_l5Closure_M : Calling := addC 43 f_s_l4Sum_c (noC)
theorem f_s_l5Closure_Mt : CallOk Try.prog (f_s_l5Closure_M) := addC_true f_s_l4Sum_cc (noC_true)
theorem f_s_l5Closure_o : loopsOnce Try.f89 = true := by kernel_rfl
def f_s_l5Closure_h0 : List Sh := [.u, .p (.int .i64), .p .el, .u, .u, .p (.int .i64), .p (.int .i64), .u, .u, .u, .u, .u, .u, .u, .u, .u, .u, .u, .u, .u, .u, .u, .u, .u]
def f_s_l5Closure_fr0 (a1 : Int) (g2 : List Sc) (s : Int × Int) : List AV := enc f_s_l5Closure_h0 [.i a1, .l g2, .i s.1, .i s.2]
def f_s_l5Closure_g0_1 : List Sh := [.u, .u, .u, .u, .u, .p (.int .i64), .u, .u, .u, .u, .u, .u, .u, .u, .u, .u, .u, .u, .u, .u, .u, .u, .u, .u]
def f_s_l5Closure_x0_1 (a1 : Int) (g2 : List Sc) (e : Int) : X × List AV := (.out 0, enc f_s_l5Closure_g0_1 [.i e])
def f_s_l5Closure_x0_2 (a1 : Int) (g2 : List Sc) (_e : Unit) : X × List AV := (.ret, [])
theorem f_s_l5Closure_p0 {R : Type} (a1 : Int) (g2 : List Sc) (s : Int × Int) (kN : Int × Int → Option R) (kA : Int → Option R) (kB : Unit → Option R) : f_s_l5Closure_k0 a1 g2 s.1 s.2 kN kA = (f_s_l5Closure_r0 a1 g2 s).bind (Ro.el kN kA kB) := by
  simp only [f_s_l5Closure_k0, f_s_l5Closure_r0, brB, boB, someB, Ro.el]
theorem f_s_l5Closure_e0 (a1 : Int) (g2 : List Sc) (s : Int × Int) : EC E0 f_s_l5Closure_M H0 f_s_l5Closure_F (asL (noL)) 0 (bodyOf Try.f89 0) (f_s_l5Closure_fr0 a1 g2 s) (done (klOf f_s_l5Closure_F 0)) = f_s_l5Closure_k0 a1 g2 s.1 s.2 (fun s => some (.norm, f_s_l5Closure_fr0 a1 g2 s)) (fun e => some (f_s_l5Closure_x0_1 a1 g2 e)) := by kernel_rfl
theorem f_s_l5Closure_l0 (a1 : Int) (g2 : List Sc) : ∀ s r, loopL (f_s_l5Closure_r0 a1 g2) s = some r → LS Try.prog f_s_l5Closure_F (bodyOf Try.f89 0) (f_s_l5Closure_fr0 a1 g2 s) (enX (f_s_l5Closure_x0_1 a1 g2) (f_s_l5Closure_x0_2 a1 g2) r) :=
  loop_true E0ok f_s_l5Closure_Mt (noL_true) f_s_l5Closure_o (fun _ h => by cases h) (fun _ h => by cases h) (fun s => (f_s_l5Closure_e0 a1 g2 s).trans (f_s_l5Closure_p0 a1 g2 s _ _ (fun e => some (f_s_l5Closure_x0_2 a1 g2 e))))
def f_s_l5Closure_t0 (σ : List AV) : Option (Bool × Bool × (X × List AV) × (X × List AV)) := match dec f_s_l5Closure_h0 σ with
  | some [.i a1, .l g2, .i out5, .i next6] => some (isOne (loopL (f_s_l5Closure_r0 a1 g2) (out5, next6)), true, f_s_l5Closure_x0_1 a1 g2 (getOne 0 (loopL (f_s_l5Closure_r0 a1 g2) (out5, next6))), (.ret, []))
  | _ => none
theorem f_s_l5Closure_tt0 : TTrue Try.prog f_s_l5Closure_F Try.f89 0 (f_s_l5Closure_t0) := by
  intro σ p r r' h
  unfold f_s_l5Closure_t0 at h
  split at h
  · rename_i hd
    rw [← dec_enc hd]
    exact row1 (f_s_l5Closure_l0 _ _ _) h
  · cases h
theorem f_s_l5Closure_p {R : Type} (g0 : List Sc) (a1 : Int) (kR : Int → Option R) : f_s_l5Closure_k g0 a1 kR = (f_s_l5Closure_k g0 a1 some).bind kR := by
  simp only [f_s_l5Closure_k, boB, bl1B, someB]
theorem f_s_l5Closure_e (g0 : List Sc) (a1 : Int) : runFn E0 f_s_l5Closure_M H0 f_s_l5Closure_F (asL (addL 0 (f_s_l5Closure_t0) (noL))) Try.f89 (f_s_l5Closure_a g0 a1) (f_s_l5Closure_i g0 a1) = f_s_l5Closure_k g0 a1 (fun r => some (f_s_l5Closure_en r)) := by kernel_rfl
theorem f_s_l5Closure_ok (g0 : List Sc) (a1 : Int) (r : Int) (h : f_s_l5Closure g0 a1 = some r) : CS Try.prog 89 (f_s_l5Closure_a g0 a1) (f_s_l5Closure_i g0 a1) (f_s_l5Closure_en r).1 (f_s_l5Closure_en r).2 :=
  fn_true (Gk := fun k => f_s_l5Closure_k g0 a1 k) (en := f_s_l5Closure_en) Try.func89 E0ok f_s_l5Closure_Mt (addL_true (f_s_l5Closure_tt0) (noL_true)) f_s_l5Closure_o (f_s_l5Closure_e g0 a1) (f_s_l5Closure_p g0 a1) h
def f_s_l5Closure_c : CRow := fun args inh => match dec2 [.p .gr, .p (.int .i64)] [] args inh with
  | some ([.l g0, .i a1], []) => some ((f_s_l5Closure g0 a1).isSome, (f_s_l5Closure_en ((f_s_l5Closure g0 a1).getD 0)).1, (f_s_l5Closure_en ((f_s_l5Closure g0 a1).getD 0)).2)
  | _ => none
theorem f_s_l5Closure_cc : CTrue Try.prog 89 f_s_l5Closure_c := by
  intro args inh rs out h
  unfold f_s_l5Closure_c at h
  split at h
  · rename_i hd
    obtain ⟨h1, h2⟩ := dec2_enc hd
    rw [← h1, ← h2]
    exact rowC (f_s_l5Closure_ok _ _) h
  · cases h

def f_s_l5Put_F : Fi := { nv := 0, nc := 0, m := 0, vt := [], kl := [(0, ([2, 3, 4, 6, 7, 8, 9, 10, 11, 12, 13, 14, 15, 16, 17, 18, 19, 20, 21, 22, 23, 24, 25, 26, 27, 28, 29, 30, 31, 32, 33, 34, 35, 36, 37, 38, 39, 40, 41, 42, 43, 44], [2, 3, 4, 6, 7, 8, 9, 10, 11, 12, 13, 14, 15, 16, 17, 18, 19, 20, 21, 22, 23, 24, 25, 26, 27, 28, 29, 30, 31, 32, 33, 34, 35, 36, 37, 38, 39, 40, 41, 42, 43, 44], [0, 1, 2, 3, 5, 6, 7, 8, 9, 10, 11, 12, 13, 14, 15, 16, 17, 18, 19, 20, 21, 22, 23, 24, 25, 26, 27, 28, 29, 30, 31, 32, 33, 34, 35, 36, 37, 38, 39, 40, 41, 42, 43, 44]))], sk := [], mvs := [], fz := [], so := true }
def f_s_l5Put_a (l0 : List Sc) (n1 : Int) : List AV := enc [.p .sl, .p (.int .i64)] [.l l0, .i n1]
def f_s_l5Put_i (l0 : List Sc) (n1 : Int) : List AV := enc [] []
def f_s_l5Put_en (r : List Sc) : List AV × List AV := (enc [.p .sl] [.l r], enc [] [])
def f_s_l5Put_M : Calling := noC
theorem f_s_l5Put_Mt : CallOk Try.prog (f_s_l5Put_M) := noC_true
theorem f_s_l5Put_o : loopsOnce Try.f34 = true := by kernel_rfl
def f_s_l5Put_h0 : List Sh := [.p .sl, .p (.int .i64), .u, .u, .u, .p (.int .i64), .u, .u, .u, .u, .u, .u, .u, .u, .u, .u, .u, .u, .u, .u, .u, .u, .u, .u, .u, .u, .u, .u, .u, .u, .u, .u, .u, .u, .u, .u, .u, .u, .u, .u, .u, .u, .u, .u, .u]
def f_s_l5Put_fr0 (l0 : List Sc) (n1 : Int) (s : Int) : List AV := enc f_s_l5Put_h0 [.l l0, .i n1, .i s]
def f_s_l5Put_g0_1 : List Sh := [.p .sl, .p (.int .i64), .u, .u, .u, .p (.int .i64), .u, .u, .u, .u, .u, .u, .u, .u, .u, .u, .u, .u, .u, .u, .u, .u, .u, .u, .u, .u, .u, .u, .u, .u, .u, .u, .u, .u, .u, .u, .u, .u, .u, .u, .u, .u, .u, .u, .u]
def f_s_l5Put_x0_1 (l0 : List Sc) (n1 : Int) (e : Int) : X × List AV := (.out 0, enc f_s_l5Put_g0_1 [.l l0, .i n1, .i e])
def f_s_l5Put_x0_2 (l0 : List Sc) (n1 : Int) (_e : Unit) : X × List AV := (.ret, [])
theorem f_s_l5Put_p0 {R : Type} (l0 : List Sc) (n1 : Int) (s : Int) (kN : Int → Option R) (kA : Int → Option R) (kB : Unit → Option R) : f_s_l5Put_k0 l0 n1 s kN kA = (f_s_l5Put_r0 l0 n1 s).bind (Ro.el kN kA kB) := by
  simp only [f_s_l5Put_k0, f_s_l5Put_r0, brB, someB, noneB, Ro.el]
theorem f_s_l5Put_e0 (l0 : List Sc) (n1 : Int) (s : Int) : EC E0 f_s_l5Put_M H0 f_s_l5Put_F (asL (noL)) 0 (bodyOf Try.f34 0) (f_s_l5Put_fr0 l0 n1 s) (done (klOf f_s_l5Put_F 0)) = f_s_l5Put_k0 l0 n1 s (fun s => some (.norm, f_s_l5Put_fr0 l0 n1 s)) (fun e => some (f_s_l5Put_x0_1 l0 n1 e)) := by kernel_rfl
theorem f_s_l5Put_l0 (l0 : List Sc) (n1 : Int) : ∀ s r, loopL (f_s_l5Put_r0 l0 n1) s = some r → LS Try.prog f_s_l5Put_F (bodyOf Try.f34 0) (f_s_l5Put_fr0 l0 n1 s) (enX (f_s_l5Put_x0_1 l0 n1) (f_s_l5Put_x0_2 l0 n1) r) :=
  loop_true E0ok f_s_l5Put_Mt (noL_true) f_s_l5Put_o (fun _ h => by cases h) (fun _ h => by cases h) (fun s => (f_s_l5Put_e0 l0 n1 s).trans (f_s_l5Put_p0 l0 n1 s _ _ (fun e => some (f_s_l5Put_x0_2 l0 n1 e))))
def f_s_l5Put_t0 (σ : List AV) : Option (Bool × Bool × (X × List AV) × (X × List AV)) := match dec f_s_l5Put_h0 σ with
  | some [.l l0, .i n1, .i k5] => some (isOne (loopL (f_s_l5Put_r0 l0 n1) k5), true, f_s_l5Put_x0_1 l0 n1 (getOne 0 (loopL (f_s_l5Put_r0 l0 n1) k5)), (.ret, []))
  | _ => none
theorem f_s_l5Put_tt0 : TTrue Try.prog f_s_l5Put_F Try.f34 0 (f_s_l5Put_t0) := by
  intro σ p r r' h
  unfold f_s_l5Put_t0 at h
  split at h
  · rename_i hd
    rw [← dec_enc hd]
    exact row1 (f_s_l5Put_l0 _ _ _) h
  · cases h
theorem f_s_l5Put_p {R : Type} (l0 : List Sc) (n1 : Int) (kR : List Sc → Option R) : f_s_l5Put_k l0 n1 kR = (f_s_l5Put_k l0 n1 some).bind kR := by
  simp only [f_s_l5Put_k, brB, bl1B, someB, noneB]
theorem f_s_l5Put_e (l0 : List Sc) (n1 : Int) : runFn E0 f_s_l5Put_M H0 f_s_l5Put_F (asL (addL 0 (f_s_l5Put_t0) (noL))) Try.f34 (f_s_l5Put_a l0 n1) (f_s_l5Put_i l0 n1) = f_s_l5Put_k l0 n1 (fun r => some (f_s_l5Put_en r)) := by kernel_rfl
theorem f_s_l5Put_ok (l0 : List Sc) (n1 : Int) (r : List Sc) (h : f_s_l5Put l0 n1 = some r) : CS Try.prog 34 (f_s_l5Put_a l0 n1) (f_s_l5Put_i l0 n1) (f_s_l5Put_en r).1 (f_s_l5Put_en r).2 :=
  fn_true (Gk := fun k => f_s_l5Put_k l0 n1 k) (en := f_s_l5Put_en) Try.func34 E0ok f_s_l5Put_Mt (addL_true (f_s_l5Put_tt0) (noL_true)) f_s_l5Put_o (f_s_l5Put_e l0 n1) (f_s_l5Put_p l0 n1) h
def f_s_l5Put_c : CRow := fun args inh => match dec2 [.p .sl, .p (.int .i64)] [] args inh with
  | some ([.l l0, .i n1], []) => some ((f_s_l5Put l0 n1).isSome, (f_s_l5Put_en ((f_s_l5Put l0 n1).getD [])).1, (f_s_l5Put_en ((f_s_l5Put l0 n1).getD [])).2)
  | _ => none
theorem f_s_l5Put_cc : CTrue Try.prog 34 f_s_l5Put_c := by
  intro args inh rs out h
  unfold f_s_l5Put_c at h
  split at h
  · rename_i hd
    obtain ⟨h1, h2⟩ := dec2_enc hd
    rw [← h1, ← h2]
    exact rowC (f_s_l5Put_ok _ _) h
  · cases h

def f_s_SubgroupsOf_F : Fi := { nv := 0, nc := 0, m := 0, vt := [], kl := [(8, ([0, 2, 3, 6, 7, 8, 9, 13, 14, 15, 16, 17, 18, 19, 20, 21, 22, 23, 24, 25, 26, 27, 28, 29, 30, 31, 32, 33, 34, 35, 36, 37, 38, 39, 40, 41, 42, 43, 44, 45, 46, 47, 48, 49, 50, 51, 52, 53, 54, 55, 56, 57, 58, 59, 60, 61, 62, 63, 64, 65, 66, 67, 68, 69, 70, 71, 72, 73, 74, 75, 76, 77, 78, 79, 80], [0, 2, 3, 6, 7, 8, 9, 12, 13, 14, 15, 16, 17, 18, 19, 20, 21, 22, 23, 24, 25, 26, 27, 28, 29, 30, 31, 32, 33, 34, 35, 36, 37, 38, 39, 40, 41, 42, 43, 44, 45, 46, 47, 48, 49, 50, 51, 52, 53, 54, 55, 56, 57, 58, 59, 60, 61, 62, 63, 64, 65, 66, 67, 68, 69, 70, 71, 72, 73, 74, 75, 76, 77, 78, 79, 80], [0, 1, 4, 5, 6, 7, 8, 9, 10, 11, 12, 13, 14, 15, 16, 17, 18, 19, 20, 21, 22, 23, 24, 25, 26, 27, 28, 29, 30, 31, 32, 33, 34, 35, 36, 37, 38, 39, 40, 41, 42, 43, 44, 45, 46, 47, 48, 49, 50, 51, 52, 53, 54, 55, 56, 57, 58, 59, 60, 61, 62, 63, 64, 65, 66, 67, 68, 69, 70, 71, 72, 73, 74, 75, 76, 77, 78, 79, 80])), (6, ([0, 2, 3, 6, 7, 8, 9, 12, 13, 14, 15, 16, 17, 18, 19, 20, 21, 22, 23, 24, 25, 26, 27, 28, 29, 30, 31, 32, 33, 34, 35, 36, 37, 38, 39, 40, 41, 42, 43, 44, 45, 46, 47, 48, 49, 50, 51, 52, 53, 54, 55, 56, 57, 58, 59, 60, 61, 62, 63, 64, 65, 66, 67, 68, 69, 70, 71, 72, 73, 74, 75, 76, 77, 78, 79, 80], [0, 2, 3, 6, 7, 8, 9, 12, 13, 14, 15, 16, 17, 18, 19, 20, 21, 22, 23, 24, 25, 26, 27, 28, 29, 30, 31, 32, 33, 34, 35, 36, 37, 38, 39, 40, 41, 42, 43, 44, 45, 46, 47, 48, 49, 50, 51, 52, 53, 54, 55, 56, 57, 58, 59, 60, 61, 62, 63, 64, 65, 66, 67, 68, 69, 70, 71, 72, 73, 74, 75, 76, 77, 78, 79, 80], [0, 1, 4, 5, 6, 7, 8, 9, 10, 11, 12, 13, 14, 15, 16, 17, 18, 19, 20, 21, 22, 23, 24, 25, 26, 27, 28, 29, 30, 31, 32, 33, 34, 35, 36, 37, 38, 39, 40, 41, 42, 43, 44, 45, 46, 47, 48, 49, 50, 51, 52, 53, 54, 55, 56, 57, 58, 59, 60, 61, 62, 63, 64, 65, 66, 67, 68, 69, 70, 71, 72, 73, 74, 75, 76, 77, 78, 79, 80])), (4, ([0, 2, 3, 6, 7, 10, 11, 12, 13, 14, 15, 16, 17, 18, 19, 20, 21, 22, 23, 24, 25, 26, 27, 28, 29, 30, 31, 32, 33, 34, 35, 36, 37, 38, 39, 40, 41, 42, 43, 44, 45, 46, 47, 48, 49, 50, 51, 52, 53, 54, 55, 56, 57, 58, 59, 60, 61, 62, 63, 64, 65, 66, 67, 68, 69, 70, 71, 72, 73, 74, 75, 76, 77, 78, 79, 80], [0, 2, 3, 6, 7, 9, 10, 11, 12, 13, 14, 15, 16, 17, 18, 19, 20, 21, 22, 23, 24, 25, 26, 27, 28, 29, 30, 31, 32, 33, 34, 35, 36, 37, 38, 39, 40, 41, 42, 43, 44, 45, 46, 47, 48, 49, 50, 51, 52, 53, 54, 55, 56, 57, 58, 59, 60, 61, 62, 63, 64, 65, 66, 67, 68, 69, 70, 71, 72, 73, 74, 75, 76, 77, 78, 79, 80], [0, 1, 4, 5, 6, 7, 8, 9, 10, 11, 12, 13, 14, 15, 16, 17, 18, 19, 20, 21, 22, 23, 24, 25, 26, 27, 28, 29, 30, 31, 32, 33, 34, 35, 36, 37, 38, 39, 40, 41, 42, 43, 44, 45, 46, 47, 48, 49, 50, 51, 52, 53, 54, 55, 56, 57, 58, 59, 60, 61, 62, 63, 64, 65, 66, 67, 68, 69, 70, 71, 72, 73, 74, 75, 76, 77, 78, 79, 80])), (2, ([0, 2, 3, 6, 7, 9, 10, 11, 12, 13, 14, 15, 16, 17, 18, 19, 20, 21, 22, 23, 24, 25, 26, 27, 28, 29, 30, 31, 32, 33, 34, 35, 36, 37, 38, 39, 40, 41, 42, 43, 44, 45, 46, 47, 48, 49, 50, 51, 52, 53, 54, 55, 56, 57, 58, 59, 60, 61, 62, 63, 64, 65, 66, 67, 68, 69, 70, 71, 72, 73, 74, 75, 76, 77, 78, 79, 80], [0, 2, 3, 6, 7, 9, 10, 11, 12, 13, 14, 15, 16, 17, 18, 19, 20, 21, 22, 23, 24, 25, 26, 27, 28, 29, 30, 31, 32, 33, 34, 35, 36, 37, 38, 39, 40, 41, 42, 43, 44, 45, 46, 47, 48, 49, 50, 51, 52, 53, 54, 55, 56, 57, 58, 59, 60, 61, 62, 63, 64, 65, 66, 67, 68, 69, 70, 71, 72, 73, 74, 75, 76, 77, 78, 79, 80], [0, 1, 4, 5, 6, 7, 8, 9, 10, 11, 12, 13, 14, 15, 16, 17, 18, 19, 20, 21, 22, 23, 24, 25, 26, 27, 28, 29, 30, 31, 32, 33, 34, 35, 36, 37, 38, 39, 40, 41, 42, 43, 44, 45, 46, 47, 48, 49, 50, 51, 52, 53, 54, 55, 56, 57, 58, 59, 60, 61, 62, 63, 64, 65, 66, 67, 68, 69, 70, 71, 72, 73, 74, 75, 76, 77, 78, 79, 80])), (0, ([0, 2, 3, 8, 9, 10, 11, 12, 13, 14, 15, 16, 17, 18, 19, 20, 21, 22, 23, 24, 25, 26, 27, 28, 29, 30, 31, 32, 33, 34, 35, 36, 37, 38, 39, 40, 41, 42, 43, 44, 45, 46, 47, 48, 49, 50, 51, 52, 53, 54, 55, 56, 57, 58, 59, 60, 61, 62, 63, 64, 65, 66, 67, 68, 69, 70, 71, 72, 73, 74, 75, 76, 77, 78, 79, 80], [0, 2, 3, 6, 7, 8, 9, 10, 11, 12, 13, 14, 15, 16, 17, 18, 19, 20, 21, 22, 23, 24, 25, 26, 27, 28, 29, 30, 31, 32, 33, 34, 35, 36, 37, 38, 39, 40, 41, 42, 43, 44, 45, 46, 47, 48, 49, 50, 51, 52, 53, 54, 55, 56, 57, 58, 59, 60, 61, 62, 63, 64, 65, 66, 67, 68, 69, 70, 71, 72, 73, 74, 75, 76, 77, 78, 79, 80], [0, 1, 4, 5, 6, 7, 8, 9, 10, 11, 12, 13, 14, 15, 16, 17, 18, 19, 20, 21, 22, 23, 24, 25, 26, 27, 28, 29, 30, 31, 32, 33, 34, 35, 36, 37, 38, 39, 40, 41, 42, 43, 44, 45, 46, 47, 48, 49, 50, 51, 52, 53, 54, 55, 56, 57, 58, 59, 60, 61, 62, 63, 64, 65, 66, 67, 68, 69, 70, 71, 72, 73, 74, 75, 76, 77, 78, 79, 80]))], sk := [], mvs := [], fz := [], fl := [13, 18] }
def f_s_SubgroupsOf_a (L0 : List Sc) : List AV := enc [.p .gr] [.l L0]
def f_s_SubgroupsOf_i (L0 : List Sc) : List AV := enc [] []
def f_s_SubgroupsOf_en (r : List Sc × Bool) : List AV × List AV := (enc [.p .sl, .p .boo] [.l r.1, .b r.2], enc [] [])
def f_s_SubgroupsOf_M : Calling := addC 39 f_s_IsGroup_c (addC 33 f_s_l2Order_c (addC 89 f_s_l5Closure_c (addC 34 f_s_l5Put_c (addC 43 f_s_l4Sum_c (noC)))))
theorem f_s_SubgroupsOf_Mt : CallOk Try.prog (f_s_SubgroupsOf_M) := addC_true f_s_IsGroup_cc (addC_true f_s_l2Order_cc (addC_true f_s_l5Closure_cc (addC_true f_s_l5Put_cc (addC_true f_s_l4Sum_cc (noC_true)))))
theorem f_s_SubgroupsOf_o : loopsOnce Try.f88 = true := by kernel_rfl
def f_s_SubgroupsOf_h0 : List Sh := [.u, .p .el, .u, .u, .p .sl, .p .sl, .p (.int .i64), .p (.int .i64), .u, .u, .u, .u, .u, .u, .u, .u, .u, .u, .u, .u, .u, .u, .u, .u, .u, .u, .u, .u, .u, .u, .u, .u, .u, .u, .u, .u, .u, .u, .u, .u, .u, .u, .u, .u, .u, .u, .u, .u, .u, .u, .u, .u, .u, .u, .u, .u, .u, .u, .u, .u, .u, .u, .u, .u, .u, .u, .u, .u, .u, .u, .u, .u, .u, .u, .u, .u, .u, .u, .u, .u, .u]
def f_s_SubgroupsOf_fr0 (t1 : List Sc) (t4 : List Sc) (t6 : Int) (s : List Sc × Int) : List AV := enc f_s_SubgroupsOf_h0 [.l t1, .l t4, .l s.1, .i t6, .i s.2]
def f_s_SubgroupsOf_g0_1 : List Sh := [.u, .p .el, .u, .u, .p .sl, .p .sl, .u, .u, .u, .u, .u, .u, .u, .u, .u, .u, .u, .u, .u, .u, .u, .u, .u, .u, .u, .u, .u, .u, .u, .u, .u, .u, .u, .u, .u, .u, .u, .u, .u, .u, .u, .u, .u, .u, .u, .u, .u, .u, .u, .u, .u, .u, .u, .u, .u, .u, .u, .u, .u, .u, .u, .u, .u, .u, .u, .u, .u, .u, .u, .u, .u, .u, .u, .u, .u, .u, .u, .u, .u, .u, .u]
def f_s_SubgroupsOf_x0_1 (t1 : List Sc) (t4 : List Sc) (t6 : Int) (e : List Sc) : X × List AV := (.out 0, enc f_s_SubgroupsOf_g0_1 [.l t1, .l t4, .l e])
def f_s_SubgroupsOf_x0_2 (t1 : List Sc) (t4 : List Sc) (t6 : Int) (_e : Unit) : X × List AV := (.ret, [])
theorem f_s_SubgroupsOf_p0 {R : Type} (t1 : List Sc) (t4 : List Sc) (t6 : Int) (s : List Sc × Int) (kN : List Sc × Int → Option R) (kA : List Sc → Option R) (kB : Unit → Option R) : f_s_SubgroupsOf_k0 t1 t4 t6 s.1 s.2 kN kA = (f_s_SubgroupsOf_r0 t1 t4 t6 s).bind (Ro.el kN kA kB) := by
  simp only [f_s_SubgroupsOf_k0, f_s_SubgroupsOf_r0, brB, boB, someB, noneB, Ro.el]
theorem f_s_SubgroupsOf_e0 (t1 : List Sc) (t4 : List Sc) (t6 : Int) (s : List Sc × Int) : EC E0 f_s_SubgroupsOf_M H0 f_s_SubgroupsOf_F (asL (noL)) 0 (bodyOf Try.f88 0) (f_s_SubgroupsOf_fr0 t1 t4 t6 s) (done (klOf f_s_SubgroupsOf_F 0)) = f_s_SubgroupsOf_k0 t1 t4 t6 s.1 s.2 (fun s => some (.norm, f_s_SubgroupsOf_fr0 t1 t4 t6 s)) (fun e => some (f_s_SubgroupsOf_x0_1 t1 t4 t6 e)) := by kernel_rfl
theorem f_s_SubgroupsOf_l0 (t1 : List Sc) (t4 : List Sc) (t6 : Int) : ∀ s r, loopL (f_s_SubgroupsOf_r0 t1 t4 t6) s = some r → LS Try.prog f_s_SubgroupsOf_F (bodyOf Try.f88 0) (f_s_SubgroupsOf_fr0 t1 t4 t6 s) (enX (f_s_SubgroupsOf_x0_1 t1 t4 t6) (f_s_SubgroupsOf_x0_2 t1 t4 t6) r) :=
  loop_true E0ok f_s_SubgroupsOf_Mt (noL_true) f_s_SubgroupsOf_o (fun _ h => by cases h) (fun _ h => by cases h) (fun s => (f_s_SubgroupsOf_e0 t1 t4 t6 s).trans (f_s_SubgroupsOf_p0 t1 t4 t6 s _ _ (fun e => some (f_s_SubgroupsOf_x0_2 t1 t4 t6 e))))
def f_s_SubgroupsOf_t0 (σ : List AV) : Option (Bool × Bool × (X × List AV) × (X × List AV)) := match dec f_s_SubgroupsOf_h0 σ with
  | some [.l t1, .l t4, .l t5, .i t6, .i t7] => some (isOne (loopL (f_s_SubgroupsOf_r0 t1 t4 t6) (t5, t7)), true, f_s_SubgroupsOf_x0_1 t1 t4 t6 (getOne [] (loopL (f_s_SubgroupsOf_r0 t1 t4 t6) (t5, t7))), (.ret, []))
  | _ => none
theorem f_s_SubgroupsOf_tt0 : TTrue Try.prog f_s_SubgroupsOf_F Try.f88 0 (f_s_SubgroupsOf_t0) := by
  intro σ p r r' h
  unfold f_s_SubgroupsOf_t0 at h
  split at h
  · rename_i hd
    rw [← dec_enc hd]
    exact row1 (f_s_SubgroupsOf_l0 _ _ _ _) h
  · cases h
def f_s_SubgroupsOf_h4 : List Sh := [.u, .p .el, .u, .u, .p .sl, .p .sl, .u, .u, .p (.int .i64), .p (.int .i64), .u, .u, .u, .u, .u, .u, .u, .u, .u, .u, .u, .u, .u, .u, .u, .u, .u, .u, .u, .u, .u, .u, .u, .u, .u, .u, .u, .u, .u, .u, .u, .u, .u, .u, .u, .u, .u, .u, .u, .u, .u, .u, .u, .u, .u, .u, .u, .u, .u, .u, .u, .u, .u, .u, .u, .u, .u, .u, .u, .u, .u, .u, .u, .u, .u, .u, .u, .u, .u, .u, .u]
def f_s_SubgroupsOf_fr4 (t1 : List Sc) (t5 : List Sc) (t8 : Int) (s : List Sc × Int) : List AV := enc f_s_SubgroupsOf_h4 [.l t1, .l s.1, .l t5, .i t8, .i s.2]
def f_s_SubgroupsOf_g4_1 : List Sh := [.u, .p .el, .u, .u, .p .sl, .p .sl, .u, .u, .p (.int .i64), .u, .u, .u, .u, .u, .u, .u, .u, .u, .u, .u, .u, .u, .u, .u, .u, .u, .u, .u, .u, .u, .u, .u, .u, .u, .u, .u, .u, .u, .u, .u, .u, .u, .u, .u, .u, .u, .u, .u, .u, .u, .u, .u, .u, .u, .u, .u, .u, .u, .u, .u, .u, .u, .u, .u, .u, .u, .u, .u, .u, .u, .u, .u, .u, .u, .u, .u, .u, .u, .u, .u, .u]
def f_s_SubgroupsOf_x4_1 (t1 : List Sc) (t5 : List Sc) (t8 : Int) (e : List Sc) : X × List AV := (.out 4, enc f_s_SubgroupsOf_g4_1 [.l t1, .l e, .l t5, .i t8])
def f_s_SubgroupsOf_x4_2 (t1 : List Sc) (t5 : List Sc) (t8 : Int) (_e : Unit) : X × List AV := (.ret, [])
theorem f_s_SubgroupsOf_p4 {R : Type} (t1 : List Sc) (t5 : List Sc) (t8 : Int) (s : List Sc × Int) (kN : List Sc × Int → Option R) (kA : List Sc → Option R) (kB : Unit → Option R) : f_s_SubgroupsOf_k4 t1 t5 t8 s.1 s.2 kN kA = (f_s_SubgroupsOf_r4 t1 t5 t8 s).bind (Ro.el kN kA kB) := by
  simp only [f_s_SubgroupsOf_k4, f_s_SubgroupsOf_r4, brB, boB, someB, noneB, Ro.el]
theorem f_s_SubgroupsOf_e4 (t1 : List Sc) (t5 : List Sc) (t8 : Int) (s : List Sc × Int) : EC E0 f_s_SubgroupsOf_M H0 f_s_SubgroupsOf_F (asL (addL 0 (f_s_SubgroupsOf_t0) (noL))) 4 (bodyOf Try.f88 4) (f_s_SubgroupsOf_fr4 t1 t5 t8 s) (done (klOf f_s_SubgroupsOf_F 4)) = f_s_SubgroupsOf_k4 t1 t5 t8 s.1 s.2 (fun s => some (.norm, f_s_SubgroupsOf_fr4 t1 t5 t8 s)) (fun e => some (f_s_SubgroupsOf_x4_1 t1 t5 t8 e)) := by kernel_rfl
theorem f_s_SubgroupsOf_l4 (t1 : List Sc) (t5 : List Sc) (t8 : Int) : ∀ s r, loopL (f_s_SubgroupsOf_r4 t1 t5 t8) s = some r → LS Try.prog f_s_SubgroupsOf_F (bodyOf Try.f88 4) (f_s_SubgroupsOf_fr4 t1 t5 t8 s) (enX (f_s_SubgroupsOf_x4_1 t1 t5 t8) (f_s_SubgroupsOf_x4_2 t1 t5 t8) r) :=
  loop_true E0ok f_s_SubgroupsOf_Mt (addL_true (f_s_SubgroupsOf_tt0) (noL_true)) f_s_SubgroupsOf_o (fun _ h => by cases h) (fun _ h => by cases h) (fun s => (f_s_SubgroupsOf_e4 t1 t5 t8 s).trans (f_s_SubgroupsOf_p4 t1 t5 t8 s _ _ (fun e => some (f_s_SubgroupsOf_x4_2 t1 t5 t8 e))))
def f_s_SubgroupsOf_t4 (σ : List AV) : Option (Bool × Bool × (X × List AV) × (X × List AV)) := match dec f_s_SubgroupsOf_h4 σ with
  | some [.l t1, .l t4, .l t5, .i t8, .i t9] => some (isOne (loopL (f_s_SubgroupsOf_r4 t1 t5 t8) (t4, t9)), true, f_s_SubgroupsOf_x4_1 t1 t5 t8 (getOne [] (loopL (f_s_SubgroupsOf_r4 t1 t5 t8) (t4, t9))), (.ret, []))
  | _ => none
theorem f_s_SubgroupsOf_tt4 : TTrue Try.prog f_s_SubgroupsOf_F Try.f88 4 (f_s_SubgroupsOf_t4) := by
  intro σ p r r' h
  unfold f_s_SubgroupsOf_t4 at h
  split at h
  · rename_i hd
    rw [← dec_enc hd]
    exact row1 (f_s_SubgroupsOf_l4 _ _ _ _) h
  · cases h
def f_s_SubgroupsOf_h2 : List Sh := [.u, .p .el, .u, .u, .p .sl, .p .sl, .u, .u, .p (.int .i64), .u, .u, .u, .u, .u, .u, .u, .u, .u, .u, .u, .u, .u, .u, .u, .u, .u, .u, .u, .u, .u, .u, .u, .u, .u, .u, .u, .u, .u, .u, .u, .u, .u, .u, .u, .u, .u, .u, .u, .u, .u, .u, .u, .u, .u, .u, .u, .u, .u, .u, .u, .u, .u, .u, .u, .u, .u, .u, .u, .u, .u, .u, .u, .u, .u, .u, .u, .u, .u, .u, .u, .u]
def f_s_SubgroupsOf_fr2 (t1 : List Sc) (t5 : List Sc) (s : List Sc × Int) : List AV := enc f_s_SubgroupsOf_h2 [.l t1, .l s.1, .l t5, .i s.2]
def f_s_SubgroupsOf_g2_1 : List Sh := [.u, .p .el, .u, .u, .p .sl, .p .sl, .u, .u, .p (.int .i64), .u, .u, .u, .u, .u, .u, .u, .u, .u, .u, .u, .u, .u, .u, .u, .u, .u, .u, .u, .u, .u, .u, .u, .u, .u, .u, .u, .u, .u, .u, .u, .u, .u, .u, .u, .u, .u, .u, .u, .u, .u, .u, .u, .u, .u, .u, .u, .u, .u, .u, .u, .u, .u, .u, .u, .u, .u, .u, .u, .u, .u, .u, .u, .u, .u, .u, .u, .u, .u, .u, .u, .u]
def f_s_SubgroupsOf_x2_1 (t1 : List Sc) (t5 : List Sc) (e : List Sc × Int) : X × List AV := (.out 2, enc f_s_SubgroupsOf_g2_1 [.l t1, .l e.1, .l t5, .i e.2])
def f_s_SubgroupsOf_x2_2 (t1 : List Sc) (t5 : List Sc) (_e : Unit) : X × List AV := (.ret, [])
theorem f_s_SubgroupsOf_p2 {R : Type} (t1 : List Sc) (t5 : List Sc) (s : List Sc × Int) (kN : List Sc × Int → Option R) (kA : List Sc × Int → Option R) (kB : Unit → Option R) : f_s_SubgroupsOf_k2 t1 t5 s.1 s.2 kN kA = (f_s_SubgroupsOf_r2 t1 t5 s).bind (Ro.el kN kA kB) := by
  simp only [f_s_SubgroupsOf_k2, f_s_SubgroupsOf_r2, brB, bl1B, someB, Ro.el]
theorem f_s_SubgroupsOf_e2 (t1 : List Sc) (t5 : List Sc) (s : List Sc × Int) : EC E0 f_s_SubgroupsOf_M H0 f_s_SubgroupsOf_F (asL (addL 4 (f_s_SubgroupsOf_t4) (addL 0 (f_s_SubgroupsOf_t0) (noL)))) 2 (bodyOf Try.f88 2) (f_s_SubgroupsOf_fr2 t1 t5 s) (done (klOf f_s_SubgroupsOf_F 2)) = f_s_SubgroupsOf_k2 t1 t5 s.1 s.2 (fun s => some (.norm, f_s_SubgroupsOf_fr2 t1 t5 s)) (fun e => some (f_s_SubgroupsOf_x2_1 t1 t5 e)) := by kernel_rfl
theorem f_s_SubgroupsOf_l2 (t1 : List Sc) (t5 : List Sc) : ∀ s r, loopL (f_s_SubgroupsOf_r2 t1 t5) s = some r → LS Try.prog f_s_SubgroupsOf_F (bodyOf Try.f88 2) (f_s_SubgroupsOf_fr2 t1 t5 s) (enX (f_s_SubgroupsOf_x2_1 t1 t5) (f_s_SubgroupsOf_x2_2 t1 t5) r) :=
  loop_true E0ok f_s_SubgroupsOf_Mt (addL_true (f_s_SubgroupsOf_tt4) (addL_true (f_s_SubgroupsOf_tt0) (noL_true))) f_s_SubgroupsOf_o (fun _ h => by cases h) (fun _ h => by cases h) (fun s => (f_s_SubgroupsOf_e2 t1 t5 s).trans (f_s_SubgroupsOf_p2 t1 t5 s _ _ (fun e => some (f_s_SubgroupsOf_x2_2 t1 t5 e))))
def f_s_SubgroupsOf_t2 (σ : List AV) : Option (Bool × Bool × (X × List AV) × (X × List AV)) := match dec f_s_SubgroupsOf_h2 σ with
  | some [.l t1, .l t4, .l t5, .i t8] => some (isOne (loopL (f_s_SubgroupsOf_r2 t1 t5) (t4, t8)), true, f_s_SubgroupsOf_x2_1 t1 t5 (getOne ([], 0) (loopL (f_s_SubgroupsOf_r2 t1 t5) (t4, t8))), (.ret, []))
  | _ => none
theorem f_s_SubgroupsOf_tt2 : TTrue Try.prog f_s_SubgroupsOf_F Try.f88 2 (f_s_SubgroupsOf_t2) := by
  intro σ p r r' h
  unfold f_s_SubgroupsOf_t2 at h
  split at h
  · rename_i hd
    rw [← dec_enc hd]
    exact row1 (f_s_SubgroupsOf_l2 _ _ _) h
  · cases h
def f_s_SubgroupsOf_h8 : List Sh := [.u, .p .el, .u, .u, .p .sl, .p .sl, .u, .u, .u, .u, .p .sl, .p (.int .i64), .p (.int .i64), .u, .u, .u, .u, .u, .u, .u, .u, .u, .u, .u, .u, .u, .u, .u, .u, .u, .u, .u, .u, .u, .u, .u, .u, .u, .u, .u, .u, .u, .u, .u, .u, .u, .u, .u, .u, .u, .u, .u, .u, .u, .u, .u, .u, .u, .u, .u, .u, .u, .u, .u, .u, .u, .u, .u, .u, .u, .u, .u, .u, .u, .u, .u, .u, .u, .u, .u, .u]
def f_s_SubgroupsOf_fr8 (t1 : List Sc) (t5 : List Sc) (t10 : List Sc) (t11 : Int) (s : List Sc × Int) : List AV := enc f_s_SubgroupsOf_h8 [.l t1, .l s.1, .l t5, .l t10, .i t11, .i s.2]
def f_s_SubgroupsOf_g8_1 : List Sh := [.u, .p .el, .u, .u, .p .sl, .p .sl, .u, .u, .u, .u, .p .sl, .p (.int .i64), .u, .u, .u, .u, .u, .u, .u, .u, .u, .u, .u, .u, .u, .u, .u, .u, .u, .u, .u, .u, .u, .u, .u, .u, .u, .u, .u, .u, .u, .u, .u, .u, .u, .u, .u, .u, .u, .u, .u, .u, .u, .u, .u, .u, .u, .u, .u, .u, .u, .u, .u, .u, .u, .u, .u, .u, .u, .u, .u, .u, .u, .u, .u, .u, .u, .u, .u, .u, .u]
def f_s_SubgroupsOf_x8_1 (t1 : List Sc) (t5 : List Sc) (t10 : List Sc) (t11 : Int) (e : List Sc) : X × List AV := (.out 8, enc f_s_SubgroupsOf_g8_1 [.l t1, .l e, .l t5, .l t10, .i t11])
def f_s_SubgroupsOf_x8_2 (t1 : List Sc) (t5 : List Sc) (t10 : List Sc) (t11 : Int) (_e : Unit) : X × List AV := (.ret, [])
theorem f_s_SubgroupsOf_p8 {R : Type} (t1 : List Sc) (t5 : List Sc) (t10 : List Sc) (t11 : Int) (s : List Sc × Int) (kN : List Sc × Int → Option R) (kA : List Sc → Option R) (kB : Unit → Option R) : f_s_SubgroupsOf_k8 t1 t5 t10 t11 s.1 s.2 kN kA = (f_s_SubgroupsOf_r8 t1 t5 t10 t11 s).bind (Ro.el kN kA kB) := by
  simp only [f_s_SubgroupsOf_k8, f_s_SubgroupsOf_r8, brB, boB, someB, noneB, Ro.el]
theorem f_s_SubgroupsOf_e8 (t1 : List Sc) (t5 : List Sc) (t10 : List Sc) (t11 : Int) (s : List Sc × Int) : EC E0 f_s_SubgroupsOf_M H0 f_s_SubgroupsOf_F (asL (addL 2 (f_s_SubgroupsOf_t2) (addL 4 (f_s_SubgroupsOf_t4) (addL 0 (f_s_SubgroupsOf_t0) (noL))))) 8 (bodyOf Try.f88 8) (f_s_SubgroupsOf_fr8 t1 t5 t10 t11 s) (done (klOf f_s_SubgroupsOf_F 8)) = f_s_SubgroupsOf_k8 t1 t5 t10 t11 s.1 s.2 (fun s => some (.norm, f_s_SubgroupsOf_fr8 t1 t5 t10 t11 s)) (fun e => some (f_s_SubgroupsOf_x8_1 t1 t5 t10 t11 e)) := by kernel_rfl
theorem f_s_SubgroupsOf_l8 (t1 : List Sc) (t5 : List Sc) (t10 : List Sc) (t11 : Int) : ∀ s r, loopL (f_s_SubgroupsOf_r8 t1 t5 t10 t11) s = some r → LS Try.prog f_s_SubgroupsOf_F (bodyOf Try.f88 8) (f_s_SubgroupsOf_fr8 t1 t5 t10 t11 s) (enX (f_s_SubgroupsOf_x8_1 t1 t5 t10 t11) (f_s_SubgroupsOf_x8_2 t1 t5 t10 t11) r) :=
  loop_true E0ok f_s_SubgroupsOf_Mt (addL_true (f_s_SubgroupsOf_tt2) (addL_true (f_s_SubgroupsOf_tt4) (addL_true (f_s_SubgroupsOf_tt0) (noL_true)))) f_s_SubgroupsOf_o (fun _ h => by cases h) (fun _ h => by cases h) (fun s => (f_s_SubgroupsOf_e8 t1 t5 t10 t11 s).trans (f_s_SubgroupsOf_p8 t1 t5 t10 t11 s _ _ (fun e => some (f_s_SubgroupsOf_x8_2 t1 t5 t10 t11 e))))
def f_s_SubgroupsOf_t8 (σ : List AV) : Option (Bool × Bool × (X × List AV) × (X × List AV)) := match dec f_s_SubgroupsOf_h8 σ with
  | some [.l t1, .l t4, .l t5, .l t10, .i t11, .i t12] => some (isOne (loopL (f_s_SubgroupsOf_r8 t1 t5 t10 t11) (t4, t12)), true, f_s_SubgroupsOf_x8_1 t1 t5 t10 t11 (getOne [] (loopL (f_s_SubgroupsOf_r8 t1 t5 t10 t11) (t4, t12))), (.ret, []))
  | _ => none
theorem f_s_SubgroupsOf_tt8 : TTrue Try.prog f_s_SubgroupsOf_F Try.f88 8 (f_s_SubgroupsOf_t8) := by
  intro σ p r r' h
  unfold f_s_SubgroupsOf_t8 at h
  split at h
  · rename_i hd
    rw [← dec_enc hd]
    exact row1 (f_s_SubgroupsOf_l8 _ _ _ _ _) h
  · cases h
def f_s_SubgroupsOf_h6 : List Sh := [.u, .p .el, .u, .u, .p .sl, .p .sl, .u, .u, .u, .u, .p .sl, .p (.int .i64), .u, .u, .u, .u, .u, .u, .u, .u, .u, .u, .u, .u, .u, .u, .u, .u, .u, .u, .u, .u, .u, .u, .u, .u, .u, .u, .u, .u, .u, .u, .u, .u, .u, .u, .u, .u, .u, .u, .u, .u, .u, .u, .u, .u, .u, .u, .u, .u, .u, .u, .u, .u, .u, .u, .u, .u, .u, .u, .u, .u, .u, .u, .u, .u, .u, .u, .u, .u, .u]
def f_s_SubgroupsOf_fr6 (t1 : List Sc) (t5 : List Sc) (t10 : List Sc) (s : List Sc × Int) : List AV := enc f_s_SubgroupsOf_h6 [.l t1, .l s.1, .l t5, .l t10, .i s.2]
def f_s_SubgroupsOf_g6_1 : List Sh := [.u, .p .el, .u, .u, .p .sl, .p .sl, .u, .u, .u, .u, .p .sl, .p (.int .i64), .u, .u, .u, .u, .u, .u, .u, .u, .u, .u, .u, .u, .u, .u, .u, .u, .u, .u, .u, .u, .u, .u, .u, .u, .u, .u, .u, .u, .u, .u, .u, .u, .u, .u, .u, .u, .u, .u, .u, .u, .u, .u, .u, .u, .u, .u, .u, .u, .u, .u, .u, .u, .u, .u, .u, .u, .u, .u, .u, .u, .u, .u, .u, .u, .u, .u, .u, .u, .u]
def f_s_SubgroupsOf_x6_1 (t1 : List Sc) (t5 : List Sc) (t10 : List Sc) (e : List Sc × Int) : X × List AV := (.out 6, enc f_s_SubgroupsOf_g6_1 [.l t1, .l e.1, .l t5, .l t10, .i e.2])
def f_s_SubgroupsOf_x6_2 (t1 : List Sc) (t5 : List Sc) (t10 : List Sc) (_e : Unit) : X × List AV := (.ret, [])
theorem f_s_SubgroupsOf_p6 {R : Type} (t1 : List Sc) (t5 : List Sc) (t10 : List Sc) (s : List Sc × Int) (kN : List Sc × Int → Option R) (kA : List Sc × Int → Option R) (kB : Unit → Option R) : f_s_SubgroupsOf_k6 t1 t5 t10 s.1 s.2 kN kA = (f_s_SubgroupsOf_r6 t1 t5 t10 s).bind (Ro.el kN kA kB) := by
  simp only [f_s_SubgroupsOf_k6, f_s_SubgroupsOf_r6, brB, bl1B, someB, Ro.el]
theorem f_s_SubgroupsOf_e6 (t1 : List Sc) (t5 : List Sc) (t10 : List Sc) (s : List Sc × Int) : EC E0 f_s_SubgroupsOf_M H0 f_s_SubgroupsOf_F (asL (addL 8 (f_s_SubgroupsOf_t8) (addL 2 (f_s_SubgroupsOf_t2) (addL 4 (f_s_SubgroupsOf_t4) (addL 0 (f_s_SubgroupsOf_t0) (noL)))))) 6 (bodyOf Try.f88 6) (f_s_SubgroupsOf_fr6 t1 t5 t10 s) (done (klOf f_s_SubgroupsOf_F 6)) = f_s_SubgroupsOf_k6 t1 t5 t10 s.1 s.2 (fun s => some (.norm, f_s_SubgroupsOf_fr6 t1 t5 t10 s)) (fun e => some (f_s_SubgroupsOf_x6_1 t1 t5 t10 e)) := by kernel_rfl
theorem f_s_SubgroupsOf_l6 (t1 : List Sc) (t5 : List Sc) (t10 : List Sc) : ∀ s r, loopL (f_s_SubgroupsOf_r6 t1 t5 t10) s = some r → LS Try.prog f_s_SubgroupsOf_F (bodyOf Try.f88 6) (f_s_SubgroupsOf_fr6 t1 t5 t10 s) (enX (f_s_SubgroupsOf_x6_1 t1 t5 t10) (f_s_SubgroupsOf_x6_2 t1 t5 t10) r) :=
  loop_true E0ok f_s_SubgroupsOf_Mt (addL_true (f_s_SubgroupsOf_tt8) (addL_true (f_s_SubgroupsOf_tt2) (addL_true (f_s_SubgroupsOf_tt4) (addL_true (f_s_SubgroupsOf_tt0) (noL_true))))) f_s_SubgroupsOf_o (fun _ h => by cases h) (fun _ h => by cases h) (fun s => (f_s_SubgroupsOf_e6 t1 t5 t10 s).trans (f_s_SubgroupsOf_p6 t1 t5 t10 s _ _ (fun e => some (f_s_SubgroupsOf_x6_2 t1 t5 t10 e))))
def f_s_SubgroupsOf_t6 (σ : List AV) : Option (Bool × Bool × (X × List AV) × (X × List AV)) := match dec f_s_SubgroupsOf_h6 σ with
  | some [.l t1, .l t4, .l t5, .l t10, .i t11] => some (isOne (loopL (f_s_SubgroupsOf_r6 t1 t5 t10) (t4, t11)), true, f_s_SubgroupsOf_x6_1 t1 t5 t10 (getOne ([], 0) (loopL (f_s_SubgroupsOf_r6 t1 t5 t10) (t4, t11))), (.ret, []))
  | _ => none
theorem f_s_SubgroupsOf_tt6 : TTrue Try.prog f_s_SubgroupsOf_F Try.f88 6 (f_s_SubgroupsOf_t6) := by
  intro σ p r r' h
  unfold f_s_SubgroupsOf_t6 at h
  split at h
  · rename_i hd
    rw [← dec_enc hd]
    exact row1 (f_s_SubgroupsOf_l6 _ _ _ _) h
  · cases h
theorem f_s_SubgroupsOf_p {R : Type} (L0 : List Sc) (kR : List Sc × Bool → Option R) : f_s_SubgroupsOf_k L0 kR = (f_s_SubgroupsOf_k L0 some).bind kR := by
  simp only [f_s_SubgroupsOf_k, brB, boB, bl1B, someB]
theorem f_s_SubgroupsOf_e (L0 : List Sc) : runFn E0 f_s_SubgroupsOf_M H0 f_s_SubgroupsOf_F (asL (addL 6 (f_s_SubgroupsOf_t6) (addL 8 (f_s_SubgroupsOf_t8) (addL 2 (f_s_SubgroupsOf_t2) (addL 4 (f_s_SubgroupsOf_t4) (addL 0 (f_s_SubgroupsOf_t0) (noL))))))) Try.f88 (f_s_SubgroupsOf_a L0) (f_s_SubgroupsOf_i L0) = f_s_SubgroupsOf_k L0 (fun r => some (f_s_SubgroupsOf_en r)) := by kernel_rfl
theorem f_s_SubgroupsOf_ok (L0 : List Sc) (r : List Sc × Bool) (h : f_s_SubgroupsOf L0 = some r) : CS Try.prog 88 (f_s_SubgroupsOf_a L0) (f_s_SubgroupsOf_i L0) (f_s_SubgroupsOf_en r).1 (f_s_SubgroupsOf_en r).2 :=
  fn_true (Gk := fun k => f_s_SubgroupsOf_k L0 k) (en := f_s_SubgroupsOf_en) Try.func88 E0ok f_s_SubgroupsOf_Mt (addL_true (f_s_SubgroupsOf_tt6) (addL_true (f_s_SubgroupsOf_tt8) (addL_true (f_s_SubgroupsOf_tt2) (addL_true (f_s_SubgroupsOf_tt4) (addL_true (f_s_SubgroupsOf_tt0) (noL_true)))))) f_s_SubgroupsOf_o (f_s_SubgroupsOf_e L0) (f_s_SubgroupsOf_p L0) h
def f_s_SubgroupsOf_c : CRow := fun args inh => match dec2 [.p .gr] [] args inh with
  | some ([.l L0], []) => some ((f_s_SubgroupsOf L0).isSome, (f_s_SubgroupsOf_en ((f_s_SubgroupsOf L0).getD ([], false))).1, (f_s_SubgroupsOf_en ((f_s_SubgroupsOf L0).getD ([], false))).2)
  | _ => none
theorem f_s_SubgroupsOf_cc : CTrue Try.prog 88 f_s_SubgroupsOf_c := by
  intro args inh rs out h
  unfold f_s_SubgroupsOf_c at h
  split at h
  · rename_i hd
    obtain ⟨h1, h2⟩ := dec2_enc hd
    rw [← h1, ← h2]
    exact rowC (f_s_SubgroupsOf_ok _) h
  · cases h

def f_s_l1Once_io_F : Fi := { nv := 3, nc := 3, m := 3, vt := [], kl := [], sk := [], mvs := [], fz := [] }
def f_s_l1Once_io_a (n1 : Int) (h0 : List Sc) (h1 : Int) (h2 : Int) : List AV := enc [.p (.pt 0 3), .p (.int .i64)] [.i n1]
def f_s_l1Once_io_i (n1 : Int) (h0 : List Sc) (h1 : Int) (h2 : Int) : List AV := enc [.p .sl, .p (.int .i64), .p (.int .i64)] [.l h0, .i h1, .i h2]
def f_s_l1Once_io_en (r : Bool × List Sc × Int × Int) : List AV × List AV := (enc [.p .boo] [.b r.1], enc [.p .sl, .p (.int .i64), .p (.int .i64)] [.l r.2.1, .i r.2.2.1, .i r.2.2.2])
def f_s_l1Once_io_M : Calling := addC 71 f_s_l1Below_io_c (noC)
theorem f_s_l1Once_io_Mt : CallOk Try.prog (f_s_l1Once_io_M) := addC_true f_s_l1Below_io_cc (noC_true)
theorem f_s_l1Once_io_o : loopsOnce Try.f69 = true := by kernel_rfl
theorem f_s_l1Once_io_p {R : Type} (n1 : Int) (h0 : List Sc) (h1 : Int) (h2 : Int) (kR : Bool × List Sc × Int × Int → Option R) : f_s_l1Once_io_k n1 h0 h1 h2 kR = (f_s_l1Once_io_k n1 h0 h1 h2 some).bind kR := by
  simp only [f_s_l1Once_io_k, boB, someB]
theorem f_s_l1Once_io_e (n1 : Int) (h0 : List Sc) (h1 : Int) (h2 : Int) : runFn E0 f_s_l1Once_io_M H0 f_s_l1Once_io_F (asL (noL)) Try.f69 (f_s_l1Once_io_a n1 h0 h1 h2) (f_s_l1Once_io_i n1 h0 h1 h2) = f_s_l1Once_io_k n1 h0 h1 h2 (fun r => some (f_s_l1Once_io_en r)) := by kernel_rfl
theorem f_s_l1Once_io_ok (n1 : Int) (h0 : List Sc) (h1 : Int) (h2 : Int) (r : Bool × List Sc × Int × Int) (h : f_s_l1Once_io n1 h0 h1 h2 = some r) : CS Try.prog 69 (f_s_l1Once_io_a n1 h0 h1 h2) (f_s_l1Once_io_i n1 h0 h1 h2) (f_s_l1Once_io_en r).1 (f_s_l1Once_io_en r).2 :=
  fn_true (Gk := fun k => f_s_l1Once_io_k n1 h0 h1 h2 k) (en := f_s_l1Once_io_en) Try.func69 E0ok f_s_l1Once_io_Mt (noL_true) f_s_l1Once_io_o (f_s_l1Once_io_e n1 h0 h1 h2) (f_s_l1Once_io_p n1 h0 h1 h2) h
def f_s_l1Once_io_c : CRow := fun args inh => match dec2 [.p (.pt 0 3), .p (.int .i64)] [.p .sl, .p (.int .i64), .p (.int .i64)] args inh with
  | some ([.i n1], [.l h0, .i h1, .i h2]) => some ((f_s_l1Once_io n1 h0 h1 h2).isSome, (f_s_l1Once_io_en ((f_s_l1Once_io n1 h0 h1 h2).getD (false, [], 0, 0))).1, (f_s_l1Once_io_en ((f_s_l1Once_io n1 h0 h1 h2).getD (false, [], 0, 0))).2)
  | _ => none
theorem f_s_l1Once_io_cc : CTrue Try.prog 69 f_s_l1Once_io_c := by
  intro args inh rs out h
  unfold f_s_l1Once_io_c at h
  split at h
  · rename_i hd
    obtain ⟨h1, h2⟩ := dec2_enc hd
    rw [← h1, ← h2]
    exact rowC (f_s_l1Once_io_ok _ _ _ _) h
  · cases h

def f_s_OrderOf_F : Fi := { nv := 0, nc := 0, m := 0, vt := [], kl := [], sk := [], mvs := [], fz := [] }
def f_s_OrderOf_a (g0 : List Sc) : List AV := enc [.p .gr] [.l g0]
def f_s_OrderOf_i (g0 : List Sc) : List AV := enc [] []
def f_s_OrderOf_en (r : Int) : List AV × List AV := (enc [.p (.int .i64)] [.i r], enc [] [])
def f_s_OrderOf_M : Calling := addC 39 f_s_IsGroup_c (addC 33 f_s_l2Order_c (noC))
theorem f_s_OrderOf_Mt : CallOk Try.prog (f_s_OrderOf_M) := addC_true f_s_IsGroup_cc (addC_true f_s_l2Order_cc (noC_true))
theorem f_s_OrderOf_o : loopsOnce Try.f15 = true := by kernel_rfl
theorem f_s_OrderOf_p {R : Type} (g0 : List Sc) (kR : Int → Option R) : f_s_OrderOf_k g0 kR = (f_s_OrderOf_k g0 some).bind kR := by
  simp only [f_s_OrderOf_k, brB, boB, someB]
theorem f_s_OrderOf_e (g0 : List Sc) : runFn E0 f_s_OrderOf_M H0 f_s_OrderOf_F (asL (noL)) Try.f15 (f_s_OrderOf_a g0) (f_s_OrderOf_i g0) = f_s_OrderOf_k g0 (fun r => some (f_s_OrderOf_en r)) := by kernel_rfl
theorem f_s_OrderOf_ok (g0 : List Sc) (r : Int) (h : f_s_OrderOf g0 = some r) : CS Try.prog 15 (f_s_OrderOf_a g0) (f_s_OrderOf_i g0) (f_s_OrderOf_en r).1 (f_s_OrderOf_en r).2 :=
  fn_true (Gk := fun k => f_s_OrderOf_k g0 k) (en := f_s_OrderOf_en) Try.func15 E0ok f_s_OrderOf_Mt (noL_true) f_s_OrderOf_o (f_s_OrderOf_e g0) (f_s_OrderOf_p g0) h
def f_s_OrderOf_c : CRow := fun args inh => match dec2 [.p .gr] [] args inh with
  | some ([.l g0], []) => some ((f_s_OrderOf g0).isSome, (f_s_OrderOf_en ((f_s_OrderOf g0).getD 0)).1, (f_s_OrderOf_en ((f_s_OrderOf g0).getD 0)).2)
  | _ => none
theorem f_s_OrderOf_cc : CTrue Try.prog 15 f_s_OrderOf_c := by
  intro args inh rs out h
  unfold f_s_OrderOf_c at h
  split at h
  · rename_i hd
    obtain ⟨h1, h2⟩ := dec2_enc hd
    rw [← h1, ← h2]
    exact rowC (f_s_OrderOf_ok _) h
  · cases h

def f_s_l3Set_io_F : Fi := { nv := 3, nc := 3, m := 3, vt := [], kl := [(0, ([4, 5, 6, 7, 11, 12, 13, 14, 15, 16, 17, 18, 19, 20, 21, 22, 23, 24, 25, 26, 27, 28, 29, 30, 31, 32, 33, 34, 35, 36, 37, 38], [4, 5, 6, 7, 10, 11, 12, 13, 14, 15, 16, 17, 18, 19, 20, 21, 22, 23, 24, 25, 26, 27, 28, 29, 30, 31, 32, 33, 34, 35, 36, 37, 38], [3, 4, 5, 6, 8, 9, 10, 11, 12, 13, 14, 15, 16, 17, 18, 19, 20, 21, 22, 23, 24, 25, 26, 27, 28, 29, 30, 31, 32, 33, 34, 35, 36, 37, 38]))], sk := [], mvs := [], fz := [] }
def f_s_l3Set_io_a (g1 : List Sc) (h0 : List Sc) (h1 : Int) (h2 : Int) : List AV := enc [.p (.pt 0 3), .p .gr] [.l g1]
def f_s_l3Set_io_i (g1 : List Sc) (h0 : List Sc) (h1 : Int) (h2 : Int) : List AV := enc [.p .sl, .p (.int .i64), .p (.int .i64)] [.l h0, .i h1, .i h2]
def f_s_l3Set_io_en (r : Int × List Sc × Int × Int) : List AV × List AV := (enc [.p (.int .i64)] [.i r.1], enc [.p .sl, .p (.int .i64), .p (.int .i64)] [.l r.2.1, .i r.2.2.1, .i r.2.2.2])
def f_s_l3Set_io_M : Calling := addC 15 f_s_OrderOf_c (addC 71 f_s_l1Below_io_c (addC 91 f_s_l1PickInt_io_c (noC)))
theorem f_s_l3Set_io_Mt : CallOk Try.prog (f_s_l3Set_io_M) := addC_true f_s_OrderOf_cc (addC_true f_s_l1Below_io_cc (addC_true f_s_l1PickInt_io_cc (noC_true)))
theorem f_s_l3Set_io_o : loopsOnce Try.f72 = true := by kernel_rfl
def f_s_l3Set_io_h0 : List Sh := [.p .sl, .p (.int .i64), .p (.int .i64), .p (.pt 0 3), .u, .u, .u, .u, .p (.int .i64), .p (.int .i64), .p (.int .i64), .u, .u, .u, .u, .u, .u, .u, .u, .u, .u, .u, .u, .u, .u, .u, .u, .u, .u, .u, .u, .u, .u, .u, .u, .u, .u, .u, .u]
def f_s_l3Set_io_fr0 (n5 : Int) (s : List Sc × Int × Int × Int × Int) : List AV := enc f_s_l3Set_io_h0 [.l s.1, .i s.2.1, .i s.2.2.1, .i n5, .i s.2.2.2.1, .i s.2.2.2.2]
def f_s_l3Set_io_g0_1 : List Sh := [.p .sl, .p (.int .i64), .p (.int .i64), .p (.pt 0 3), .u, .u, .u, .u, .p (.int .i64), .p (.int .i64), .u, .u, .u, .u, .u, .u, .u, .u, .u, .u, .u, .u, .u, .u, .u, .u, .u, .u, .u, .u, .u, .u, .u, .u, .u, .u, .u, .u, .u]
def f_s_l3Set_io_x0_1 (n5 : Int) (e : List Sc × Int × Int × Int) : X × List AV := (.out 0, enc f_s_l3Set_io_g0_1 [.l e.1, .i e.2.1, .i e.2.2.1, .i n5, .i e.2.2.2])
def f_s_l3Set_io_x0_2 (n5 : Int) (_e : Unit) : X × List AV := (.ret, [])
theorem f_s_l3Set_io_p0 {R : Type} (n5 : Int) (s : List Sc × Int × Int × Int × Int) (kN : List Sc × Int × Int × Int × Int → Option R) (kA : List Sc × Int × Int × Int → Option R) (kB : Unit → Option R) : f_s_l3Set_io_k0 n5 s.1 s.2.1 s.2.2.1 s.2.2.2.1 s.2.2.2.2 kN kA = (f_s_l3Set_io_r0 n5 s).bind (Ro.el kN kA kB) := by
  simp only [f_s_l3Set_io_k0, f_s_l3Set_io_r0, brB, boB, someB, noneB, Ro.el]
theorem f_s_l3Set_io_e0 (n5 : Int) (s : List Sc × Int × Int × Int × Int) : EC E0 f_s_l3Set_io_M H0 f_s_l3Set_io_F (asL (noL)) 0 (bodyOf Try.f72 0) (f_s_l3Set_io_fr0 n5 s) (done (klOf f_s_l3Set_io_F 0)) = f_s_l3Set_io_k0 n5 s.1 s.2.1 s.2.2.1 s.2.2.2.1 s.2.2.2.2 (fun s => some (.norm, f_s_l3Set_io_fr0 n5 s)) (fun e => some (f_s_l3Set_io_x0_1 n5 e)) := by kernel_rfl
theorem f_s_l3Set_io_l0 (n5 : Int) : ∀ s r, loopL (f_s_l3Set_io_r0 n5) s = some r → LS Try.prog f_s_l3Set_io_F (bodyOf Try.f72 0) (f_s_l3Set_io_fr0 n5 s) (enX (f_s_l3Set_io_x0_1 n5) (f_s_l3Set_io_x0_2 n5) r) :=
  loop_true E0ok f_s_l3Set_io_Mt (noL_true) f_s_l3Set_io_o (fun _ h => by cases h) (fun _ h => by cases h) (fun s => (f_s_l3Set_io_e0 n5 s).trans (f_s_l3Set_io_p0 n5 s _ _ (fun e => some (f_s_l3Set_io_x0_2 n5 e))))
def f_s_l3Set_io_t0 (σ : List AV) : Option (Bool × Bool × (X × List AV) × (X × List AV)) := match dec f_s_l3Set_io_h0 σ with
  | some [.l v0, .i v1, .i v2, .i n5, .i a6, .i k7] => some (isOne (loopL (f_s_l3Set_io_r0 n5) (v0, v1, v2, a6, k7)), true, f_s_l3Set_io_x0_1 n5 (getOne ([], 0, 0, 0) (loopL (f_s_l3Set_io_r0 n5) (v0, v1, v2, a6, k7))), (.ret, []))
  | _ => none
theorem f_s_l3Set_io_tt0 : TTrue Try.prog f_s_l3Set_io_F Try.f72 0 (f_s_l3Set_io_t0) := by
  intro σ p r r' h
  unfold f_s_l3Set_io_t0 at h
  split at h
  · rename_i hd
    rw [← dec_enc hd]
    exact row1 (f_s_l3Set_io_l0 _ _) h
  · cases h
theorem f_s_l3Set_io_p {R : Type} (g1 : List Sc) (h0 : List Sc) (h1 : Int) (h2 : Int) (kR : Int × List Sc × Int × Int → Option R) : f_s_l3Set_io_k g1 h0 h1 h2 kR = (f_s_l3Set_io_k g1 h0 h1 h2 some).bind kR := by
  simp only [f_s_l3Set_io_k, brB, boB, bl1B, someB, noneB]
theorem f_s_l3Set_io_e (g1 : List Sc) (h0 : List Sc) (h1 : Int) (h2 : Int) : runFn E0 f_s_l3Set_io_M H0 f_s_l3Set_io_F (asL (addL 0 (f_s_l3Set_io_t0) (noL))) Try.f72 (f_s_l3Set_io_a g1 h0 h1 h2) (f_s_l3Set_io_i g1 h0 h1 h2) = f_s_l3Set_io_k g1 h0 h1 h2 (fun r => some (f_s_l3Set_io_en r)) := by kernel_rfl
theorem f_s_l3Set_io_ok (g1 : List Sc) (h0 : List Sc) (h1 : Int) (h2 : Int) (r : Int × List Sc × Int × Int) (h : f_s_l3Set_io g1 h0 h1 h2 = some r) : CS Try.prog 72 (f_s_l3Set_io_a g1 h0 h1 h2) (f_s_l3Set_io_i g1 h0 h1 h2) (f_s_l3Set_io_en r).1 (f_s_l3Set_io_en r).2 :=
  fn_true (Gk := fun k => f_s_l3Set_io_k g1 h0 h1 h2 k) (en := f_s_l3Set_io_en) Try.func72 E0ok f_s_l3Set_io_Mt (addL_true (f_s_l3Set_io_tt0) (noL_true)) f_s_l3Set_io_o (f_s_l3Set_io_e g1 h0 h1 h2) (f_s_l3Set_io_p g1 h0 h1 h2) h
def f_s_l3Set_io_c : CRow := fun args inh => match dec2 [.p (.pt 0 3), .p .gr] [.p .sl, .p (.int .i64), .p (.int .i64)] args inh with
  | some ([.l g1], [.l h0, .i h1, .i h2]) => some ((f_s_l3Set_io g1 h0 h1 h2).isSome, (f_s_l3Set_io_en ((f_s_l3Set_io g1 h0 h1 h2).getD (0, [], 0, 0))).1, (f_s_l3Set_io_en ((f_s_l3Set_io g1 h0 h1 h2).getD (0, [], 0, 0))).2)
  | _ => none
theorem f_s_l3Set_io_cc : CTrue Try.prog 72 f_s_l3Set_io_c := by
  intro args inh rs out h
  unfold f_s_l3Set_io_c at h
  split at h
  · rename_i hd
    obtain ⟨h1, h2⟩ := dec2_enc hd
    rw [← h1, ← h2]
    exact rowC (f_s_l3Set_io_ok _ _ _ _) h
  · cases h

def f_s_l5Group_io_F : Fi := { nv := 6, nc := 5, m := 3, vt := [(2, 3), (4, 4), (8, 5)], kl := [(100004, ([5, 7, 9, 11, 12, 13, 14, 15, 16, 17, 18, 19, 20, 21, 22, 23, 24, 25, 26, 27, 28, 29, 30, 31, 32, 33, 34, 35, 36, 37], [4, 5, 6, 7, 10, 11, 12, 13, 14, 15, 16, 17, 18, 19, 20, 21, 22, 23, 24, 25, 26, 27, 28, 29, 30, 31, 32, 33, 34, 35, 36, 37], [])), (100005, ([5, 7, 9, 12, 13, 14, 15, 16, 17, 18, 19, 20, 21, 22, 23, 24, 25, 26, 27, 28, 29, 30, 31, 32, 33, 34, 35, 36, 37], [4, 5, 6, 7, 10, 11, 12, 13, 14, 15, 16, 17, 18, 19, 20, 21, 22, 23, 24, 25, 26, 27, 28, 29, 30, 31, 32, 33, 34, 35, 36, 37], []))], sk := [], mvs := [5], fz := [], tb := [4, 5] }
def f_s_l5Group_io_a (h0 : List Sc) (h1 : Int) (h2 : Int) : List AV := enc [.p (.pt 0 3)] []
def f_s_l5Group_io_i (h0 : List Sc) (h1 : Int) (h2 : Int) : List AV := enc [.p .sl, .p (.int .i64), .p (.int .i64)] [.l h0, .i h1, .i h2]
def f_s_l5Group_io_en (r : List Sc × Int × List Sc × Int × Int) : List AV × List AV := (enc [.p .gr, .p (.int .i64)] [.l r.1, .i r.2.1], enc [.p .sl, .p (.int .i64), .p (.int .i64)] [.l r.2.2.1, .i r.2.2.2.1, .i r.2.2.2.2])
def f_s_l5Group_io_M : Calling := addC 87 f_s_l2Any_io_c (addC 88 f_s_SubgroupsOf_c (addC 69 f_s_l1Once_io_c (addC 72 f_s_l3Set_io_c (addC 71 f_s_l1Below_io_c (noC)))))
theorem f_s_l5Group_io_Mt : CallOk Try.prog (f_s_l5Group_io_M) := addC_true f_s_l2Any_io_cc (addC_true f_s_SubgroupsOf_cc (addC_true f_s_l1Once_io_cc (addC_true f_s_l3Set_io_cc (addC_true f_s_l1Below_io_cc (noC_true)))))
theorem f_s_l5Group_io_o : loopsOnce Try.f67 = true := by kernel_rfl
def f_s_l5Group_io_hg4 : List Sh := [.p .sl, .p (.int .i64), .p (.int .i64), .p .sl, .fr 3, .u, .p (.pt 0 3), .u, .p (.pt 3 1), .u, .p (.pt 4 1), .u, .u, .u, .u, .u, .u, .u, .u, .u, .u, .u, .u, .u, .u, .u, .u, .u, .u, .u, .u, .u, .u, .u, .u, .u, .u, .u]
def f_s_l5Group_io_frg4 (v0 : List Sc) (v1 : Int) (v2 : Int) (v3 : List Sc) (v4 : List Sc) : List AV := enc f_s_l5Group_io_hg4 [.l v0, .i v1, .i v2, .l v3, .l v4]
def f_s_l5Group_io_xg4 (v0 : List Sc) (v1 : Int) (v2 : Int) (v3 : List Sc) (v4 : List Sc) (e : List Sc × Int × Int × Int) : X × List AV := (.norm, enc [.p .sl, .p (.int .i64), .p (.int .i64), .p .sl, .u, .u, .u, .u, .p (.pt 3 1), .p (.int .i64), .u, .u, .u, .u, .u, .u, .u, .u, .u, .u, .u, .u, .u, .u, .u, .u, .u, .u, .u, .u, .u, .u, .u, .u, .u, .u, .u, .u] [.l e.1, .i e.2.1, .i e.2.2.1, .l v4, .i e.2.2.2])
theorem f_s_l5Group_io_pg4 {R : Type} (v0 : List Sc) (v1 : Int) (v2 : Int) (v3 : List Sc) (v4 : List Sc) (kA : List Sc × Int × Int × Int → Option R) : f_s_l5Group_io_g4_k v0 v1 v2 v3 v4 kA = (f_s_l5Group_io_g4 v0 v1 v2 v3 v4).bind kA := by
  simp only [f_s_l5Group_io_g4_k, f_s_l5Group_io_g4, boB, someB]
theorem f_s_l5Group_io_bg4 : bodyOf Try.f67 100004 = .region 4 (opsAt (bodyOf Try.f67 100004)) true := by kernel_rfl
def f_s_l5Group_io_Dg4 : List (Array Bool) := [#[false, false, false, false, false, false], #[true, false, false, false, false, false], #[false, true, false, false, false, false], #[false, false, true, false, false, false], #[true, true, false, false, false, false], #[true, false, true, false, false, false], #[false, true, true, false, false, false], #[true, true, true, false, false, false], #[false, true, true, true, false, false], #[true, true, true, true, false, false], #[true, true, true, true, true, false], #[true, true, true, true, true, true]]
theorem f_s_l5Group_io_cg4 : closedB (opsAt (bodyOf Try.f67 100004)) f_s_l5Group_io_Dg4 = true := by kernel_rfl
def f_s_l5Group_io_sg4_0 (v0 : List Sc) (v1 : Int) (v2 : Int) (v3 : List Sc) (v4 : List Sc) (fr : List AV) : Option (List AV) :=
  some (setAll [] fr)
def f_s_l5Group_io_sg4_1 (v0 : List Sc) (v1 : Int) (v2 : Int) (v3 : List Sc) (v4 : List Sc) (fr : List AV) : Option (List AV) :=
  some (setAll [(26, .p (.gr v4))] fr)
def f_s_l5Group_io_sg4_2 (v0 : List Sc) (v1 : Int) (v2 : Int) (v3 : List Sc) (v4 : List Sc) (fr : List AV) : Option (List AV) :=
  some (setAll [(27, .p (.pt 0 3))] fr)
def f_s_l5Group_io_sg4_4 (v0 : List Sc) (v1 : Int) (v2 : Int) (v3 : List Sc) (v4 : List Sc) (fr : List AV) : Option (List AV) :=
  some (setAll [(28, .p (.gr v4))] fr)
def f_s_l5Group_io_sg4_3 (v0 : List Sc) (v1 : Int) (v2 : Int) (v3 : List Sc) (v4 : List Sc) (fr : List AV) : Option (List AV) :=
  some (setAll [(26, .p (.gr v4)), (27, .p (.pt 0 3))] fr)
def f_s_l5Group_io_sg4_5 (v0 : List Sc) (v1 : Int) (v2 : Int) (v3 : List Sc) (v4 : List Sc) (fr : List AV) : Option (List AV) :=
  some (setAll [(26, .p (.gr v4)), (28, .p (.gr v4))] fr)
def f_s_l5Group_io_sg4_6 (v0 : List Sc) (v1 : Int) (v2 : Int) (v3 : List Sc) (v4 : List Sc) (fr : List AV) : Option (List AV) :=
  some (setAll [(27, .p (.pt 0 3)), (28, .p (.gr v4))] fr)
def f_s_l5Group_io_sg4_7 (v0 : List Sc) (v1 : Int) (v2 : Int) (v3 : List Sc) (v4 : List Sc) (fr : List AV) : Option (List AV) :=
  some (setAll [(26, .p (.gr v4)), (27, .p (.pt 0 3)), (28, .p (.gr v4))] fr)
def f_s_l5Group_io_sg4_14 (v0 : List Sc) (v1 : Int) (v2 : Int) (v3 : List Sc) (v4 : List Sc) (fr : List AV) : Option (List AV) :=
  bo (f_s_l3Set_io v4 v0 v1 v2) (0, [], 0, 0) fun r5 =>
  some (setAll [(0, .p (.sl r5.2.1)), (1, .p (.sc (Sc.n .i64 r5.2.2.1))), (2, .p (.sc (Sc.n .i64 r5.2.2.2))), (27, .p (.pt 0 3)), (28, .p (.gr v4)), (29, .p (.sc (Sc.n .i64 r5.1)))] fr)
def f_s_l5Group_io_sg4_15 (v0 : List Sc) (v1 : Int) (v2 : Int) (v3 : List Sc) (v4 : List Sc) (fr : List AV) : Option (List AV) :=
  bo (f_s_l3Set_io v4 v0 v1 v2) (0, [], 0, 0) fun r6 =>
  some (setAll [(0, .p (.sl r6.2.1)), (1, .p (.sc (Sc.n .i64 r6.2.2.1))), (2, .p (.sc (Sc.n .i64 r6.2.2.2))), (26, .p (.gr v4)), (27, .p (.pt 0 3)), (28, .p (.gr v4)), (29, .p (.sc (Sc.n .i64 r6.1)))] fr)
def f_s_l5Group_io_sg4_31 (v0 : List Sc) (v1 : Int) (v2 : Int) (v3 : List Sc) (v4 : List Sc) (fr : List AV) : Option (List AV) :=
  bo (f_s_l3Set_io v4 v0 v1 v2) (0, [], 0, 0) fun r7 =>
  some (setAll [(0, .p (.sl r7.2.1)), (1, .p (.sc (Sc.n .i64 r7.2.2.1))), (2, .p (.sc (Sc.n .i64 r7.2.2.2))), (3, .p (.sl v4)), (26, .p (.gr v4)), (27, .p (.pt 0 3)), (28, .p (.gr v4)), (29, .p (.sc (Sc.n .i64 r7.1)))] fr)
def f_s_l5Group_io_sg4_63 (v0 : List Sc) (v1 : Int) (v2 : Int) (v3 : List Sc) (v4 : List Sc) (fr : List AV) : Option (List AV) :=
  bo (f_s_l3Set_io v4 v0 v1 v2) (0, [], 0, 0) fun r8 =>
  some (setAll [(0, .p (.sl r8.2.1)), (1, .p (.sc (Sc.n .i64 r8.2.2.1))), (2, .p (.sc (Sc.n .i64 r8.2.2.2))), (3, .p (.sl v4)), (9, .p (.sc (Sc.n .i64 r8.1))), (26, .p (.gr v4)), (27, .p (.pt 0 3)), (28, .p (.gr v4)), (29, .p (.sc (Sc.n .i64 r8.1)))] fr)
def f_s_l5Group_io_Eg4 (v0 : List Sc) (v1 : Int) (v2 : Int) (v3 : List Sc) (v4 : List Sc) (fr : List AV) : List (Option (List AV)) := [f_s_l5Group_io_sg4_1 v0 v1 v2 v3 v4 fr, f_s_l5Group_io_sg4_2 v0 v1 v2 v3 v4 fr, f_s_l5Group_io_sg4_4 v0 v1 v2 v3 v4 fr, f_s_l5Group_io_sg4_3 v0 v1 v2 v3 v4 fr, f_s_l5Group_io_sg4_5 v0 v1 v2 v3 v4 fr, f_s_l5Group_io_sg4_3 v0 v1 v2 v3 v4 fr, f_s_l5Group_io_sg4_6 v0 v1 v2 v3 v4 fr, f_s_l5Group_io_sg4_5 v0 v1 v2 v3 v4 fr, f_s_l5Group_io_sg4_6 v0 v1 v2 v3 v4 fr, f_s_l5Group_io_sg4_7 v0 v1 v2 v3 v4 fr, f_s_l5Group_io_sg4_7 v0 v1 v2 v3 v4 fr, f_s_l5Group_io_sg4_7 v0 v1 v2 v3 v4 fr, f_s_l5Group_io_sg4_14 v0 v1 v2 v3 v4 fr, f_s_l5Group_io_sg4_15 v0 v1 v2 v3 v4 fr, f_s_l5Group_io_sg4_15 v0 v1 v2 v3 v4 fr, f_s_l5Group_io_sg4_31 v0 v1 v2 v3 v4 fr, f_s_l5Group_io_sg4_63 v0 v1 v2 v3 v4 fr]
theorem f_s_l5Group_io_dLg4 (v0 : List Sc) (v1 : Int) (v2 : Int) (v3 : List Sc) (v4 : List Sc) : edgeL E0 f_s_l5Group_io_M H0 f_s_l5Group_io_F (opsAt (bodyOf Try.f67 100004)) f_s_l5Group_io_Dg4 (f_s_l5Group_io_frg4 v0 v1 v2 v3 v4) = f_s_l5Group_io_Eg4 v0 v1 v2 v3 v4 (f_s_l5Group_io_frg4 v0 v1 v2 v3 v4) := by kernel_rfl
theorem f_s_l5Group_io_dRg4 (v0 : List Sc) (v1 : Int) (v2 : Int) (v3 : List Sc) (v4 : List Sc) : edgeR E0 f_s_l5Group_io_M H0 f_s_l5Group_io_F (opsAt (bodyOf Try.f67 100004)) f_s_l5Group_io_Dg4 (f_s_l5Group_io_frg4 v0 v1 v2 v3 v4) = f_s_l5Group_io_Eg4 v0 v1 v2 v3 v4 (f_s_l5Group_io_frg4 v0 v1 v2 v3 v4) := by kernel_rfl
theorem f_s_l5Group_io_dg4 (v0 : List Sc) (v1 : Int) (v2 : Int) (v3 : List Sc) (v4 : List Sc) : edgeL E0 f_s_l5Group_io_M H0 f_s_l5Group_io_F (opsAt (bodyOf Try.f67 100004)) f_s_l5Group_io_Dg4 (f_s_l5Group_io_frg4 v0 v1 v2 v3 v4) = edgeR E0 f_s_l5Group_io_M H0 f_s_l5Group_io_F (opsAt (bodyOf Try.f67 100004)) f_s_l5Group_io_Dg4 (f_s_l5Group_io_frg4 v0 v1 v2 v3 v4) := (f_s_l5Group_io_dLg4 v0 v1 v2 v3 v4).trans (f_s_l5Group_io_dRg4 v0 v1 v2 v3 v4).symm
theorem f_s_l5Group_io_eg4 (v0 : List Sc) (v1 : Int) (v2 : Int) (v3 : List Sc) (v4 : List Sc) : goL E0 f_s_l5Group_io_M H0 f_s_l5Group_io_F (opsAt (bodyOf Try.f67 100004)) (Array.replicate (opsAt (bodyOf Try.f67 100004)).size true) (opsAt (bodyOf Try.f67 100004)).toList 0 (f_s_l5Group_io_frg4 v0 v1 v2 v3 v4) (fun s => some (X.norm, clear (klOf f_s_l5Group_io_F 100004).2.1 s)) = f_s_l5Group_io_g4_k v0 v1 v2 v3 v4 (fun e => some (f_s_l5Group_io_xg4 v0 v1 v2 v3 v4 e)) := by kernel_rfl
theorem f_s_l5Group_io_lg4 (v0 : List Sc) (v1 : Int) (v2 : Int) (v3 : List Sc) (v4 : List Sc) (r : List Sc × Int × Int × Int) (h : f_s_l5Group_io_g4 v0 v1 v2 v3 v4 = some r) : LS Try.prog f_s_l5Group_io_F (bodyOf Try.f67 100004) (f_s_l5Group_io_frg4 v0 v1 v2 v3 v4) (f_s_l5Group_io_xg4 v0 v1 v2 v3 v4 r) :=
  region_true (S := Unit) (id := 4) (G := fun _ => f_s_l5Group_io_g4 v0 v1 v2 v3 v4) (Gk := fun _ k => f_s_l5Group_io_g4_k v0 v1 v2 v3 v4 k) (fr := fun _ => f_s_l5Group_io_frg4 v0 v1 v2 v3 v4) (f1 := fun e => f_s_l5Group_io_xg4 v0 v1 v2 v3 v4 e) E0ok f_s_l5Group_io_Mt f_s_l5Group_io_bg4 f_s_l5Group_io_cg4 (fun _ => f_s_l5Group_io_dg4 v0 v1 v2 v3 v4) (fun _ => rfl) (fun _ => f_s_l5Group_io_eg4 v0 v1 v2 v3 v4) (fun _ k => f_s_l5Group_io_pg4 v0 v1 v2 v3 v4 k) () r h
def f_s_l5Group_io_tg4 (σ : List AV) : Option (Bool × Bool × (X × List AV) × (X × List AV)) := match dec f_s_l5Group_io_hg4 σ with
  | some [.l v0, .i v1, .i v2, .l v3, .l v4] => some ((f_s_l5Group_io_g4 v0 v1 v2 v3 v4).isSome, true, f_s_l5Group_io_xg4 v0 v1 v2 v3 v4 ((f_s_l5Group_io_g4 v0 v1 v2 v3 v4).getD ([], 0, 0, 0)), (.ret, []))
  | _ => none
theorem f_s_l5Group_io_ttg4 : TTrue Try.prog f_s_l5Group_io_F Try.f67 100004 f_s_l5Group_io_tg4 := by
  intro σ p r r' h
  unfold f_s_l5Group_io_tg4 at h
  split at h
  · rename_i hd
    rw [← dec_enc hd]
    exact rowR (f_s_l5Group_io_lg4 _ _ _ _ _) h
  · cases h
def f_s_l5Group_io_hg5 : List Sh := [.p .sl, .p (.int .i64), .p (.int .i64), .p .sl, .fr 3, .u, .p (.pt 0 3), .u, .p (.pt 3 1), .u, .p (.pt 4 1), .p .sl, .u, .u, .u, .u, .u, .u, .u, .u, .u, .u, .u, .u, .u, .u, .u, .u, .u, .u, .u, .u, .u, .u, .u, .u, .u, .u]
def f_s_l5Group_io_frg5 (v0 : List Sc) (v1 : Int) (v2 : Int) (v3 : List Sc) (v4 : List Sc) (t5 : List Sc) : List AV := enc f_s_l5Group_io_hg5 [.l v0, .i v1, .i v2, .l v3, .l v4, .l t5]
def f_s_l5Group_io_xg5 (v0 : List Sc) (v1 : Int) (v2 : Int) (v3 : List Sc) (v4 : List Sc) (t5 : List Sc) (e : List Sc × Int × Int × Int) : X × List AV := (.norm, enc [.p .sl, .p (.int .i64), .p (.int .i64), .p .sl, .u, .u, .u, .u, .p (.pt 3 1), .p (.int .i64), .u, .u, .u, .u, .u, .u, .u, .u, .u, .u, .u, .u, .u, .u, .u, .u, .u, .u, .u, .u, .u, .u, .u, .u, .u, .u, .u, .u] [.l e.1, .i e.2.1, .i e.2.2.1, .l v4, .i e.2.2.2])
theorem f_s_l5Group_io_pg5 {R : Type} (v0 : List Sc) (v1 : Int) (v2 : Int) (v3 : List Sc) (v4 : List Sc) (t5 : List Sc) (kA : List Sc × Int × Int × Int → Option R) : f_s_l5Group_io_g5_k v0 v1 v2 v3 v4 t5 kA = (f_s_l5Group_io_g5 v0 v1 v2 v3 v4 t5).bind kA := by
  simp only [f_s_l5Group_io_g5_k, f_s_l5Group_io_g5, brB, boB, someB, noneB]
theorem f_s_l5Group_io_bg5 : bodyOf Try.f67 100005 = .region 5 (opsAt (bodyOf Try.f67 100005)) true := by kernel_rfl
def f_s_l5Group_io_Dg5 : List (Array Bool) := [#[false, false, false, false, false, false, false, false, false, false], #[true, false, false, false, false, false, false, false, false, false], #[false, true, false, false, false, false, false, false, false, false], #[false, false, true, false, false, false, false, false, false, false], #[false, false, false, true, false, false, false, false, false, false], #[true, true, false, false, false, false, false, false, false, false], #[true, false, true, false, false, false, false, false, false, false], #[true, false, false, true, false, false, false, false, false, false], #[false, true, true, false, false, false, false, false, false, false], #[false, true, false, true, false, false, false, false, false, false], #[false, false, true, true, false, false, false, false, false, false], #[false, false, false, true, true, false, false, false, false, false], #[true, true, true, false, false, false, false, false, false, false], #[true, true, false, true, false, false, false, false, false, false], #[true, false, true, true, false, false, false, false, false, false], #[true, false, false, true, true, false, false, false, false, false], #[false, true, true, true, false, false, false, false, false, false], #[false, true, false, true, true, false, false, false, false, false], #[false, false, true, true, true, false, false, false, false, false], #[true, true, true, true, false, false, false, false, false, false], #[true, true, false, true, true, false, false, false, false, false], #[true, false, true, true, true, false, false, false, false, false], #[false, true, true, true, true, false, false, false, false, false], #[false, false, true, true, true, true, false, false, false, false], #[true, true, true, true, true, false, false, false, false, false], #[true, false, true, true, true, true, false, false, false, false], #[false, true, true, true, true, true, false, false, false, false], #[true, true, true, true, true, true, false, false, false, false], #[true, false, true, true, true, true, false, false, true, false], #[false, true, true, true, true, true, true, false, false, false], #[true, true, true, true, true, true, true, false, false, false], #[true, true, true, true, true, true, false, false, true, false], #[false, true, true, true, true, true, true, true, false, false], #[true, true, true, true, true, true, true, true, false, false], #[true, true, true, true, true, true, true, false, true, false], #[true, true, true, true, true, true, true, true, true, false], #[true, true, true, true, true, true, true, true, true, true]]
theorem f_s_l5Group_io_cg5 : closedB (opsAt (bodyOf Try.f67 100005)) f_s_l5Group_io_Dg5 = true := by kernel_rfl
def f_s_l5Group_io_sg5_0 (v0 : List Sc) (v1 : Int) (v2 : Int) (v3 : List Sc) (v4 : List Sc) (t5 : List Sc) (fr : List AV) : Option (List AV) :=
  some (setAll [] fr)
def f_s_l5Group_io_sg5_1 (v0 : List Sc) (v1 : Int) (v2 : Int) (v3 : List Sc) (v4 : List Sc) (t5 : List Sc) (fr : List AV) : Option (List AV) :=
  some (setAll [(30, .p (.gr v4))] fr)
def f_s_l5Group_io_sg5_2 (v0 : List Sc) (v1 : Int) (v2 : Int) (v3 : List Sc) (v4 : List Sc) (t5 : List Sc) (fr : List AV) : Option (List AV) :=
  some (setAll [(31, .p (.sl t5))] fr)
def f_s_l5Group_io_sg5_4 (v0 : List Sc) (v1 : Int) (v2 : Int) (v3 : List Sc) (v4 : List Sc) (t5 : List Sc) (fr : List AV) : Option (List AV) :=
  some (setAll [(32, .p (.pt 0 3))] fr)
def f_s_l5Group_io_sg5_8 (v0 : List Sc) (v1 : Int) (v2 : Int) (v3 : List Sc) (v4 : List Sc) (t5 : List Sc) (fr : List AV) : Option (List AV) :=
  some (setAll [(33, .p (.sl t5))] fr)
def f_s_l5Group_io_sg5_3 (v0 : List Sc) (v1 : Int) (v2 : Int) (v3 : List Sc) (v4 : List Sc) (t5 : List Sc) (fr : List AV) : Option (List AV) :=
  some (setAll [(30, .p (.gr v4)), (31, .p (.sl t5))] fr)
def f_s_l5Group_io_sg5_5 (v0 : List Sc) (v1 : Int) (v2 : Int) (v3 : List Sc) (v4 : List Sc) (t5 : List Sc) (fr : List AV) : Option (List AV) :=
  some (setAll [(30, .p (.gr v4)), (32, .p (.pt 0 3))] fr)
def f_s_l5Group_io_sg5_9 (v0 : List Sc) (v1 : Int) (v2 : Int) (v3 : List Sc) (v4 : List Sc) (t5 : List Sc) (fr : List AV) : Option (List AV) :=
  some (setAll [(30, .p (.gr v4)), (33, .p (.sl t5))] fr)
def f_s_l5Group_io_sg5_6 (v0 : List Sc) (v1 : Int) (v2 : Int) (v3 : List Sc) (v4 : List Sc) (t5 : List Sc) (fr : List AV) : Option (List AV) :=
  some (setAll [(31, .p (.sl t5)), (32, .p (.pt 0 3))] fr)
def f_s_l5Group_io_sg5_10 (v0 : List Sc) (v1 : Int) (v2 : Int) (v3 : List Sc) (v4 : List Sc) (t5 : List Sc) (fr : List AV) : Option (List AV) :=
  some (setAll [(31, .p (.sl t5)), (33, .p (.sl t5))] fr)
def f_s_l5Group_io_sg5_12 (v0 : List Sc) (v1 : Int) (v2 : Int) (v3 : List Sc) (v4 : List Sc) (t5 : List Sc) (fr : List AV) : Option (List AV) :=
  some (setAll [(32, .p (.pt 0 3)), (33, .p (.sl t5))] fr)
def f_s_l5Group_io_sg5_24 (v0 : List Sc) (v1 : Int) (v2 : Int) (v3 : List Sc) (v4 : List Sc) (t5 : List Sc) (fr : List AV) : Option (List AV) :=
  some (setAll [(33, .p (.sl t5)), (34, .p (.sc (Sc.n .i64 (t5.length : Int))))] fr)
def f_s_l5Group_io_sg5_7 (v0 : List Sc) (v1 : Int) (v2 : Int) (v3 : List Sc) (v4 : List Sc) (t5 : List Sc) (fr : List AV) : Option (List AV) :=
  some (setAll [(30, .p (.gr v4)), (31, .p (.sl t5)), (32, .p (.pt 0 3))] fr)
def f_s_l5Group_io_sg5_11 (v0 : List Sc) (v1 : Int) (v2 : Int) (v3 : List Sc) (v4 : List Sc) (t5 : List Sc) (fr : List AV) : Option (List AV) :=
  some (setAll [(30, .p (.gr v4)), (31, .p (.sl t5)), (33, .p (.sl t5))] fr)
def f_s_l5Group_io_sg5_13 (v0 : List Sc) (v1 : Int) (v2 : Int) (v3 : List Sc) (v4 : List Sc) (t5 : List Sc) (fr : List AV) : Option (List AV) :=
  some (setAll [(30, .p (.gr v4)), (32, .p (.pt 0 3)), (33, .p (.sl t5))] fr)
def f_s_l5Group_io_sg5_25 (v0 : List Sc) (v1 : Int) (v2 : Int) (v3 : List Sc) (v4 : List Sc) (t5 : List Sc) (fr : List AV) : Option (List AV) :=
  some (setAll [(30, .p (.gr v4)), (33, .p (.sl t5)), (34, .p (.sc (Sc.n .i64 (t5.length : Int))))] fr)
def f_s_l5Group_io_sg5_14 (v0 : List Sc) (v1 : Int) (v2 : Int) (v3 : List Sc) (v4 : List Sc) (t5 : List Sc) (fr : List AV) : Option (List AV) :=
  some (setAll [(31, .p (.sl t5)), (32, .p (.pt 0 3)), (33, .p (.sl t5))] fr)
def f_s_l5Group_io_sg5_26 (v0 : List Sc) (v1 : Int) (v2 : Int) (v3 : List Sc) (v4 : List Sc) (t5 : List Sc) (fr : List AV) : Option (List AV) :=
  some (setAll [(31, .p (.sl t5)), (33, .p (.sl t5)), (34, .p (.sc (Sc.n .i64 (t5.length : Int))))] fr)
def f_s_l5Group_io_sg5_28 (v0 : List Sc) (v1 : Int) (v2 : Int) (v3 : List Sc) (v4 : List Sc) (t5 : List Sc) (fr : List AV) : Option (List AV) :=
  some (setAll [(32, .p (.pt 0 3)), (33, .p (.sl t5)), (34, .p (.sc (Sc.n .i64 (t5.length : Int))))] fr)
def f_s_l5Group_io_sg5_15 (v0 : List Sc) (v1 : Int) (v2 : Int) (v3 : List Sc) (v4 : List Sc) (t5 : List Sc) (fr : List AV) : Option (List AV) :=
  some (setAll [(30, .p (.gr v4)), (31, .p (.sl t5)), (32, .p (.pt 0 3)), (33, .p (.sl t5))] fr)
def f_s_l5Group_io_sg5_27 (v0 : List Sc) (v1 : Int) (v2 : Int) (v3 : List Sc) (v4 : List Sc) (t5 : List Sc) (fr : List AV) : Option (List AV) :=
  some (setAll [(30, .p (.gr v4)), (31, .p (.sl t5)), (33, .p (.sl t5)), (34, .p (.sc (Sc.n .i64 (t5.length : Int))))] fr)
def f_s_l5Group_io_sg5_29 (v0 : List Sc) (v1 : Int) (v2 : Int) (v3 : List Sc) (v4 : List Sc) (t5 : List Sc) (fr : List AV) : Option (List AV) :=
  some (setAll [(30, .p (.gr v4)), (32, .p (.pt 0 3)), (33, .p (.sl t5)), (34, .p (.sc (Sc.n .i64 (t5.length : Int))))] fr)
def f_s_l5Group_io_sg5_30 (v0 : List Sc) (v1 : Int) (v2 : Int) (v3 : List Sc) (v4 : List Sc) (t5 : List Sc) (fr : List AV) : Option (List AV) :=
  some (setAll [(31, .p (.sl t5)), (32, .p (.pt 0 3)), (33, .p (.sl t5)), (34, .p (.sc (Sc.n .i64 (t5.length : Int))))] fr)
def f_s_l5Group_io_sg5_60 (v0 : List Sc) (v1 : Int) (v2 : Int) (v3 : List Sc) (v4 : List Sc) (t5 : List Sc) (fr : List AV) : Option (List AV) :=
  bo (f_s_l1Below_io (t5.length : Int) v0 v1 v2) (0, [], 0, 0) fun r11 =>
  some (setAll [(0, .p (.sl r11.2.1)), (1, .p (.sc (Sc.n .i64 r11.2.2.1))), (2, .p (.sc (Sc.n .i64 r11.2.2.2))), (32, .p (.pt 0 3)), (33, .p (.sl t5)), (34, .p (.sc (Sc.n .i64 (t5.length : Int)))), (35, .p (.sc (Sc.n .i64 r11.1)))] fr)
def f_s_l5Group_io_sg5_31 (v0 : List Sc) (v1 : Int) (v2 : Int) (v3 : List Sc) (v4 : List Sc) (t5 : List Sc) (fr : List AV) : Option (List AV) :=
  some (setAll [(30, .p (.gr v4)), (31, .p (.sl t5)), (32, .p (.pt 0 3)), (33, .p (.sl t5)), (34, .p (.sc (Sc.n .i64 (t5.length : Int))))] fr)
def f_s_l5Group_io_sg5_61 (v0 : List Sc) (v1 : Int) (v2 : Int) (v3 : List Sc) (v4 : List Sc) (t5 : List Sc) (fr : List AV) : Option (List AV) :=
  bo (f_s_l1Below_io (t5.length : Int) v0 v1 v2) (0, [], 0, 0) fun r12 =>
  some (setAll [(0, .p (.sl r12.2.1)), (1, .p (.sc (Sc.n .i64 r12.2.2.1))), (2, .p (.sc (Sc.n .i64 r12.2.2.2))), (30, .p (.gr v4)), (32, .p (.pt 0 3)), (33, .p (.sl t5)), (34, .p (.sc (Sc.n .i64 (t5.length : Int)))), (35, .p (.sc (Sc.n .i64 r12.1)))] fr)
def f_s_l5Group_io_sg5_62 (v0 : List Sc) (v1 : Int) (v2 : Int) (v3 : List Sc) (v4 : List Sc) (t5 : List Sc) (fr : List AV) : Option (List AV) :=
  bo (f_s_l1Below_io (t5.length : Int) v0 v1 v2) (0, [], 0, 0) fun r13 =>
  some (setAll [(0, .p (.sl r13.2.1)), (1, .p (.sc (Sc.n .i64 r13.2.2.1))), (2, .p (.sc (Sc.n .i64 r13.2.2.2))), (31, .p (.sl t5)), (32, .p (.pt 0 3)), (33, .p (.sl t5)), (34, .p (.sc (Sc.n .i64 (t5.length : Int)))), (35, .p (.sc (Sc.n .i64 r13.1)))] fr)
def f_s_l5Group_io_sg5_63 (v0 : List Sc) (v1 : Int) (v2 : Int) (v3 : List Sc) (v4 : List Sc) (t5 : List Sc) (fr : List AV) : Option (List AV) :=
  bo (f_s_l1Below_io (t5.length : Int) v0 v1 v2) (0, [], 0, 0) fun r14 =>
  some (setAll [(0, .p (.sl r14.2.1)), (1, .p (.sc (Sc.n .i64 r14.2.2.1))), (2, .p (.sc (Sc.n .i64 r14.2.2.2))), (30, .p (.gr v4)), (31, .p (.sl t5)), (32, .p (.pt 0 3)), (33, .p (.sl t5)), (34, .p (.sc (Sc.n .i64 (t5.length : Int)))), (35, .p (.sc (Sc.n .i64 r14.1)))] fr)
def f_s_l5Group_io_sg5_317 (v0 : List Sc) (v1 : Int) (v2 : Int) (v3 : List Sc) (v4 : List Sc) (t5 : List Sc) (fr : List AV) : Option (List AV) :=
  bo (f_s_l1Below_io (t5.length : Int) v0 v1 v2) (0, [], 0, 0) fun r15 =>
  some (setAll [(0, .p (.sl r15.2.1)), (1, .p (.sc (Sc.n .i64 r15.2.2.1))), (2, .p (.sc (Sc.n .i64 r15.2.2.2))), (3, .p (.sl v4)), (30, .p (.gr v4)), (32, .p (.pt 0 3)), (33, .p (.sl t5)), (34, .p (.sc (Sc.n .i64 (t5.length : Int)))), (35, .p (.sc (Sc.n .i64 r15.1)))] fr)
def f_s_l5Group_io_sg5_126 (v0 : List Sc) (v1 : Int) (v2 : Int) (v3 : List Sc) (v4 : List Sc) (t5 : List Sc) (fr : List AV) : Option (List AV) :=
  bo (f_s_l1Below_io (t5.length : Int) v0 v1 v2) (0, [], 0, 0) fun r16 =>
  br (okAt t5 r16.1)
    (some (setAll [(0, .p (.sl r16.2.1)), (1, .p (.sc (Sc.n .i64 r16.2.2.1))), (2, .p (.sc (Sc.n .i64 r16.2.2.2))), (31, .p (.sl t5)), (32, .p (.pt 0 3)), (33, .p (.sl t5)), (34, .p (.sc (Sc.n .i64 (t5.length : Int)))), (35, .p (.sc (Sc.n .i64 r16.1))), (36, .p (.ev (Sc.n .i64 (atI t5 r16.1))))] fr))
    none
def f_s_l5Group_io_sg5_127 (v0 : List Sc) (v1 : Int) (v2 : Int) (v3 : List Sc) (v4 : List Sc) (t5 : List Sc) (fr : List AV) : Option (List AV) :=
  bo (f_s_l1Below_io (t5.length : Int) v0 v1 v2) (0, [], 0, 0) fun r17 =>
  br (okAt t5 r17.1)
    (some (setAll [(0, .p (.sl r17.2.1)), (1, .p (.sc (Sc.n .i64 r17.2.2.1))), (2, .p (.sc (Sc.n .i64 r17.2.2.2))), (30, .p (.gr v4)), (31, .p (.sl t5)), (32, .p (.pt 0 3)), (33, .p (.sl t5)), (34, .p (.sc (Sc.n .i64 (t5.length : Int)))), (35, .p (.sc (Sc.n .i64 r17.1))), (36, .p (.ev (Sc.n .i64 (atI t5 r17.1))))] fr))
    none
def f_s_l5Group_io_sg5_319 (v0 : List Sc) (v1 : Int) (v2 : Int) (v3 : List Sc) (v4 : List Sc) (t5 : List Sc) (fr : List AV) : Option (List AV) :=
  bo (f_s_l1Below_io (t5.length : Int) v0 v1 v2) (0, [], 0, 0) fun r18 =>
  some (setAll [(0, .p (.sl r18.2.1)), (1, .p (.sc (Sc.n .i64 r18.2.2.1))), (2, .p (.sc (Sc.n .i64 r18.2.2.2))), (3, .p (.sl v4)), (30, .p (.gr v4)), (31, .p (.sl t5)), (32, .p (.pt 0 3)), (33, .p (.sl t5)), (34, .p (.sc (Sc.n .i64 (t5.length : Int)))), (35, .p (.sc (Sc.n .i64 r18.1)))] fr)
def f_s_l5Group_io_sg5_254 (v0 : List Sc) (v1 : Int) (v2 : Int) (v3 : List Sc) (v4 : List Sc) (t5 : List Sc) (fr : List AV) : Option (List AV) :=
  bo (f_s_l1Below_io (t5.length : Int) v0 v1 v2) (0, [], 0, 0) fun r19 =>
  br (okAt t5 r19.1)
    (some (setAll [(0, .p (.sl r19.2.1)), (1, .p (.sc (Sc.n .i64 r19.2.2.1))), (2, .p (.sc (Sc.n .i64 r19.2.2.2))), (31, .p (.sl t5)), (32, .p (.pt 0 3)), (33, .p (.sl t5)), (34, .p (.sc (Sc.n .i64 (t5.length : Int)))), (35, .p (.sc (Sc.n .i64 r19.1))), (36, .p (.ev (Sc.n .i64 (atI t5 r19.1)))), (37, .p (.sc (Sc.n .i64 (atI t5 r19.1))))] fr))
    none
def f_s_l5Group_io_sg5_255 (v0 : List Sc) (v1 : Int) (v2 : Int) (v3 : List Sc) (v4 : List Sc) (t5 : List Sc) (fr : List AV) : Option (List AV) :=
  bo (f_s_l1Below_io (t5.length : Int) v0 v1 v2) (0, [], 0, 0) fun r20 =>
  br (okAt t5 r20.1)
    (some (setAll [(0, .p (.sl r20.2.1)), (1, .p (.sc (Sc.n .i64 r20.2.2.1))), (2, .p (.sc (Sc.n .i64 r20.2.2.2))), (30, .p (.gr v4)), (31, .p (.sl t5)), (32, .p (.pt 0 3)), (33, .p (.sl t5)), (34, .p (.sc (Sc.n .i64 (t5.length : Int)))), (35, .p (.sc (Sc.n .i64 r20.1))), (36, .p (.ev (Sc.n .i64 (atI t5 r20.1)))), (37, .p (.sc (Sc.n .i64 (atI t5 r20.1))))] fr))
    none
def f_s_l5Group_io_sg5_383 (v0 : List Sc) (v1 : Int) (v2 : Int) (v3 : List Sc) (v4 : List Sc) (t5 : List Sc) (fr : List AV) : Option (List AV) :=
  bo (f_s_l1Below_io (t5.length : Int) v0 v1 v2) (0, [], 0, 0) fun r21 =>
  br (okAt t5 r21.1)
    (some (setAll [(0, .p (.sl r21.2.1)), (1, .p (.sc (Sc.n .i64 r21.2.2.1))), (2, .p (.sc (Sc.n .i64 r21.2.2.2))), (3, .p (.sl v4)), (30, .p (.gr v4)), (31, .p (.sl t5)), (32, .p (.pt 0 3)), (33, .p (.sl t5)), (34, .p (.sc (Sc.n .i64 (t5.length : Int)))), (35, .p (.sc (Sc.n .i64 r21.1))), (36, .p (.ev (Sc.n .i64 (atI t5 r21.1))))] fr))
    none
def f_s_l5Group_io_sg5_511 (v0 : List Sc) (v1 : Int) (v2 : Int) (v3 : List Sc) (v4 : List Sc) (t5 : List Sc) (fr : List AV) : Option (List AV) :=
  bo (f_s_l1Below_io (t5.length : Int) v0 v1 v2) (0, [], 0, 0) fun r22 =>
  br (okAt t5 r22.1)
    (some (setAll [(0, .p (.sl r22.2.1)), (1, .p (.sc (Sc.n .i64 r22.2.2.1))), (2, .p (.sc (Sc.n .i64 r22.2.2.2))), (3, .p (.sl v4)), (30, .p (.gr v4)), (31, .p (.sl t5)), (32, .p (.pt 0 3)), (33, .p (.sl t5)), (34, .p (.sc (Sc.n .i64 (t5.length : Int)))), (35, .p (.sc (Sc.n .i64 r22.1))), (36, .p (.ev (Sc.n .i64 (atI t5 r22.1)))), (37, .p (.sc (Sc.n .i64 (atI t5 r22.1))))] fr))
    none
def f_s_l5Group_io_sg5_1023 (v0 : List Sc) (v1 : Int) (v2 : Int) (v3 : List Sc) (v4 : List Sc) (t5 : List Sc) (fr : List AV) : Option (List AV) :=
  bo (f_s_l1Below_io (t5.length : Int) v0 v1 v2) (0, [], 0, 0) fun r23 =>
  br (okAt t5 r23.1)
    (some (setAll [(0, .p (.sl r23.2.1)), (1, .p (.sc (Sc.n .i64 r23.2.2.1))), (2, .p (.sc (Sc.n .i64 r23.2.2.2))), (3, .p (.sl v4)), (9, .p (.sc (Sc.n .i64 (atI t5 r23.1)))), (30, .p (.gr v4)), (31, .p (.sl t5)), (32, .p (.pt 0 3)), (33, .p (.sl t5)), (34, .p (.sc (Sc.n .i64 (t5.length : Int)))), (35, .p (.sc (Sc.n .i64 r23.1))), (36, .p (.ev (Sc.n .i64 (atI t5 r23.1)))), (37, .p (.sc (Sc.n .i64 (atI t5 r23.1))))] fr))
    none
def f_s_l5Group_io_Eg5 (v0 : List Sc) (v1 : Int) (v2 : Int) (v3 : List Sc) (v4 : List Sc) (t5 : List Sc) (fr : List AV) : List (Option (List AV)) := [f_s_l5Group_io_sg5_1 v0 v1 v2 v3 v4 t5 fr, f_s_l5Group_io_sg5_2 v0 v1 v2 v3 v4 t5 fr, f_s_l5Group_io_sg5_4 v0 v1 v2 v3 v4 t5 fr, f_s_l5Group_io_sg5_8 v0 v1 v2 v3 v4 t5 fr, f_s_l5Group_io_sg5_3 v0 v1 v2 v3 v4 t5 fr, f_s_l5Group_io_sg5_5 v0 v1 v2 v3 v4 t5 fr, f_s_l5Group_io_sg5_9 v0 v1 v2 v3 v4 t5 fr, f_s_l5Group_io_sg5_3 v0 v1 v2 v3 v4 t5 fr, f_s_l5Group_io_sg5_6 v0 v1 v2 v3 v4 t5 fr, f_s_l5Group_io_sg5_10 v0 v1 v2 v3 v4 t5 fr, f_s_l5Group_io_sg5_5 v0 v1 v2 v3 v4 t5 fr, f_s_l5Group_io_sg5_6 v0 v1 v2 v3 v4 t5 fr, f_s_l5Group_io_sg5_12 v0 v1 v2 v3 v4 t5 fr, f_s_l5Group_io_sg5_9 v0 v1 v2 v3 v4 t5 fr, f_s_l5Group_io_sg5_10 v0 v1 v2 v3 v4 t5 fr, f_s_l5Group_io_sg5_12 v0 v1 v2 v3 v4 t5 fr, f_s_l5Group_io_sg5_24 v0 v1 v2 v3 v4 t5 fr, f_s_l5Group_io_sg5_7 v0 v1 v2 v3 v4 t5 fr, f_s_l5Group_io_sg5_11 v0 v1 v2 v3 v4 t5 fr, f_s_l5Group_io_sg5_7 v0 v1 v2 v3 v4 t5 fr, f_s_l5Group_io_sg5_13 v0 v1 v2 v3 v4 t5 fr, f_s_l5Group_io_sg5_11 v0 v1 v2 v3 v4 t5 fr, f_s_l5Group_io_sg5_13 v0 v1 v2 v3 v4 t5 fr, f_s_l5Group_io_sg5_25 v0 v1 v2 v3 v4 t5 fr, f_s_l5Group_io_sg5_7 v0 v1 v2 v3 v4 t5 fr, f_s_l5Group_io_sg5_14 v0 v1 v2 v3 v4 t5 fr, f_s_l5Group_io_sg5_11 v0 v1 v2 v3 v4 t5 fr, f_s_l5Group_io_sg5_14 v0 v1 v2 v3 v4 t5 fr, f_s_l5Group_io_sg5_26 v0 v1 v2 v3 v4 t5 fr, f_s_l5Group_io_sg5_13 v0 v1 v2 v3 v4 t5 fr, f_s_l5Group_io_sg5_14 v0 v1 v2 v3 v4 t5 fr, f_s_l5Group_io_sg5_28 v0 v1 v2 v3 v4 t5 fr, f_s_l5Group_io_sg5_25 v0 v1 v2 v3 v4 t5 fr, f_s_l5Group_io_sg5_26 v0 v1 v2 v3 v4 t5 fr, f_s_l5Group_io_sg5_28 v0 v1 v2 v3 v4 t5 fr, f_s_l5Group_io_sg5_15 v0 v1 v2 v3 v4 t5 fr, f_s_l5Group_io_sg5_15 v0 v1 v2 v3 v4 t5 fr, f_s_l5Group_io_sg5_27 v0 v1 v2 v3 v4 t5 fr, f_s_l5Group_io_sg5_15 v0 v1 v2 v3 v4 t5 fr, f_s_l5Group_io_sg5_29 v0 v1 v2 v3 v4 t5 fr, f_s_l5Group_io_sg5_27 v0 v1 v2 v3 v4 t5 fr, f_s_l5Group_io_sg5_29 v0 v1 v2 v3 v4 t5 fr, f_s_l5Group_io_sg5_15 v0 v1 v2 v3 v4 t5 fr, f_s_l5Group_io_sg5_30 v0 v1 v2 v3 v4 t5 fr, f_s_l5Group_io_sg5_27 v0 v1 v2 v3 v4 t5 fr, f_s_l5Group_io_sg5_30 v0 v1 v2 v3 v4 t5 fr, f_s_l5Group_io_sg5_29 v0 v1 v2 v3 v4 t5 fr, f_s_l5Group_io_sg5_30 v0 v1 v2 v3 v4 t5 fr, f_s_l5Group_io_sg5_60 v0 v1 v2 v3 v4 t5 fr, f_s_l5Group_io_sg5_31 v0 v1 v2 v3 v4 t5 fr, f_s_l5Group_io_sg5_31 v0 v1 v2 v3 v4 t5 fr, f_s_l5Group_io_sg5_31 v0 v1 v2 v3 v4 t5 fr, f_s_l5Group_io_sg5_61 v0 v1 v2 v3 v4 t5 fr, f_s_l5Group_io_sg5_31 v0 v1 v2 v3 v4 t5 fr, f_s_l5Group_io_sg5_62 v0 v1 v2 v3 v4 t5 fr, f_s_l5Group_io_sg5_61 v0 v1 v2 v3 v4 t5 fr, f_s_l5Group_io_sg5_62 v0 v1 v2 v3 v4 t5 fr, f_s_l5Group_io_sg5_63 v0 v1 v2 v3 v4 t5 fr, f_s_l5Group_io_sg5_63 v0 v1 v2 v3 v4 t5 fr, f_s_l5Group_io_sg5_317 v0 v1 v2 v3 v4 t5 fr, f_s_l5Group_io_sg5_63 v0 v1 v2 v3 v4 t5 fr, f_s_l5Group_io_sg5_126 v0 v1 v2 v3 v4 t5 fr, f_s_l5Group_io_sg5_127 v0 v1 v2 v3 v4 t5 fr, f_s_l5Group_io_sg5_319 v0 v1 v2 v3 v4 t5 fr, f_s_l5Group_io_sg5_319 v0 v1 v2 v3 v4 t5 fr, f_s_l5Group_io_sg5_127 v0 v1 v2 v3 v4 t5 fr, f_s_l5Group_io_sg5_254 v0 v1 v2 v3 v4 t5 fr, f_s_l5Group_io_sg5_255 v0 v1 v2 v3 v4 t5 fr, f_s_l5Group_io_sg5_383 v0 v1 v2 v3 v4 t5 fr, f_s_l5Group_io_sg5_383 v0 v1 v2 v3 v4 t5 fr, f_s_l5Group_io_sg5_255 v0 v1 v2 v3 v4 t5 fr, f_s_l5Group_io_sg5_511 v0 v1 v2 v3 v4 t5 fr, f_s_l5Group_io_sg5_511 v0 v1 v2 v3 v4 t5 fr, f_s_l5Group_io_sg5_1023 v0 v1 v2 v3 v4 t5 fr]
theorem f_s_l5Group_io_dLg5 (v0 : List Sc) (v1 : Int) (v2 : Int) (v3 : List Sc) (v4 : List Sc) (t5 : List Sc) : edgeL E0 f_s_l5Group_io_M H0 f_s_l5Group_io_F (opsAt (bodyOf Try.f67 100005)) f_s_l5Group_io_Dg5 (f_s_l5Group_io_frg5 v0 v1 v2 v3 v4 t5) = f_s_l5Group_io_Eg5 v0 v1 v2 v3 v4 t5 (f_s_l5Group_io_frg5 v0 v1 v2 v3 v4 t5) := by kernel_rfl
theorem f_s_l5Group_io_dRg5 (v0 : List Sc) (v1 : Int) (v2 : Int) (v3 : List Sc) (v4 : List Sc) (t5 : List Sc) : edgeR E0 f_s_l5Group_io_M H0 f_s_l5Group_io_F (opsAt (bodyOf Try.f67 100005)) f_s_l5Group_io_Dg5 (f_s_l5Group_io_frg5 v0 v1 v2 v3 v4 t5) = f_s_l5Group_io_Eg5 v0 v1 v2 v3 v4 t5 (f_s_l5Group_io_frg5 v0 v1 v2 v3 v4 t5) := by kernel_rfl
theorem f_s_l5Group_io_dg5 (v0 : List Sc) (v1 : Int) (v2 : Int) (v3 : List Sc) (v4 : List Sc) (t5 : List Sc) : edgeL E0 f_s_l5Group_io_M H0 f_s_l5Group_io_F (opsAt (bodyOf Try.f67 100005)) f_s_l5Group_io_Dg5 (f_s_l5Group_io_frg5 v0 v1 v2 v3 v4 t5) = edgeR E0 f_s_l5Group_io_M H0 f_s_l5Group_io_F (opsAt (bodyOf Try.f67 100005)) f_s_l5Group_io_Dg5 (f_s_l5Group_io_frg5 v0 v1 v2 v3 v4 t5) := (f_s_l5Group_io_dLg5 v0 v1 v2 v3 v4 t5).trans (f_s_l5Group_io_dRg5 v0 v1 v2 v3 v4 t5).symm
theorem f_s_l5Group_io_eg5 (v0 : List Sc) (v1 : Int) (v2 : Int) (v3 : List Sc) (v4 : List Sc) (t5 : List Sc) : goL E0 f_s_l5Group_io_M H0 f_s_l5Group_io_F (opsAt (bodyOf Try.f67 100005)) (Array.replicate (opsAt (bodyOf Try.f67 100005)).size true) (opsAt (bodyOf Try.f67 100005)).toList 0 (f_s_l5Group_io_frg5 v0 v1 v2 v3 v4 t5) (fun s => some (X.norm, clear (klOf f_s_l5Group_io_F 100005).2.1 s)) = f_s_l5Group_io_g5_k v0 v1 v2 v3 v4 t5 (fun e => some (f_s_l5Group_io_xg5 v0 v1 v2 v3 v4 t5 e)) := by kernel_rfl
theorem f_s_l5Group_io_lg5 (v0 : List Sc) (v1 : Int) (v2 : Int) (v3 : List Sc) (v4 : List Sc) (t5 : List Sc) (r : List Sc × Int × Int × Int) (h : f_s_l5Group_io_g5 v0 v1 v2 v3 v4 t5 = some r) : LS Try.prog f_s_l5Group_io_F (bodyOf Try.f67 100005) (f_s_l5Group_io_frg5 v0 v1 v2 v3 v4 t5) (f_s_l5Group_io_xg5 v0 v1 v2 v3 v4 t5 r) :=
  region_true (S := Unit) (id := 5) (G := fun _ => f_s_l5Group_io_g5 v0 v1 v2 v3 v4 t5) (Gk := fun _ k => f_s_l5Group_io_g5_k v0 v1 v2 v3 v4 t5 k) (fr := fun _ => f_s_l5Group_io_frg5 v0 v1 v2 v3 v4 t5) (f1 := fun e => f_s_l5Group_io_xg5 v0 v1 v2 v3 v4 t5 e) E0ok f_s_l5Group_io_Mt f_s_l5Group_io_bg5 f_s_l5Group_io_cg5 (fun _ => f_s_l5Group_io_dg5 v0 v1 v2 v3 v4 t5) (fun _ => rfl) (fun _ => f_s_l5Group_io_eg5 v0 v1 v2 v3 v4 t5) (fun _ k => f_s_l5Group_io_pg5 v0 v1 v2 v3 v4 t5 k) () r h
def f_s_l5Group_io_tg5 (σ : List AV) : Option (Bool × Bool × (X × List AV) × (X × List AV)) := match dec f_s_l5Group_io_hg5 σ with
  | some [.l v0, .i v1, .i v2, .l v3, .l v4, .l t5] => some ((f_s_l5Group_io_g5 v0 v1 v2 v3 v4 t5).isSome, true, f_s_l5Group_io_xg5 v0 v1 v2 v3 v4 t5 ((f_s_l5Group_io_g5 v0 v1 v2 v3 v4 t5).getD ([], 0, 0, 0)), (.ret, []))
  | _ => none
theorem f_s_l5Group_io_ttg5 : TTrue Try.prog f_s_l5Group_io_F Try.f67 100005 f_s_l5Group_io_tg5 := by
  intro σ p r r' h
  unfold f_s_l5Group_io_tg5 at h
  split at h
  · rename_i hd
    rw [← dec_enc hd]
    exact rowR (f_s_l5Group_io_lg5 _ _ _ _ _ _) h
  · cases h
theorem f_s_l5Group_io_p {R : Type} (h0 : List Sc) (h1 : Int) (h2 : Int) (kR : List Sc × Int × List Sc × Int × Int → Option R) : f_s_l5Group_io_k h0 h1 h2 kR = (f_s_l5Group_io_k h0 h1 h2 some).bind kR := by
  simp only [f_s_l5Group_io_k, brB, boB, someB]
theorem f_s_l5Group_io_e (h0 : List Sc) (h1 : Int) (h2 : Int) : runFn E0 f_s_l5Group_io_M H0 f_s_l5Group_io_F (asL (addL 100005 f_s_l5Group_io_tg5 (addL 100004 f_s_l5Group_io_tg4 (noL)))) Try.f67 (f_s_l5Group_io_a h0 h1 h2) (f_s_l5Group_io_i h0 h1 h2) = f_s_l5Group_io_k h0 h1 h2 (fun r => some (f_s_l5Group_io_en r)) := by kernel_rfl
theorem f_s_l5Group_io_ok (h0 : List Sc) (h1 : Int) (h2 : Int) (r : List Sc × Int × List Sc × Int × Int) (h : f_s_l5Group_io h0 h1 h2 = some r) : CS Try.prog 67 (f_s_l5Group_io_a h0 h1 h2) (f_s_l5Group_io_i h0 h1 h2) (f_s_l5Group_io_en r).1 (f_s_l5Group_io_en r).2 :=
  fn_true (Gk := fun k => f_s_l5Group_io_k h0 h1 h2 k) (en := f_s_l5Group_io_en) Try.func67 E0ok f_s_l5Group_io_Mt (addL_true f_s_l5Group_io_ttg5 (addL_true f_s_l5Group_io_ttg4 (noL_true))) f_s_l5Group_io_o (f_s_l5Group_io_e h0 h1 h2) (f_s_l5Group_io_p h0 h1 h2) h
def f_s_l5Group_io_c : CRow := fun args inh => match dec2 [.p (.pt 0 3)] [.p .sl, .p (.int .i64), .p (.int .i64)] args inh with
  | some ([], [.l h0, .i h1, .i h2]) => some ((f_s_l5Group_io h0 h1 h2).isSome, (f_s_l5Group_io_en ((f_s_l5Group_io h0 h1 h2).getD ([], 0, [], 0, 0))).1, (f_s_l5Group_io_en ((f_s_l5Group_io h0 h1 h2).getD ([], 0, [], 0, 0))).2)
  | _ => none
theorem f_s_l5Group_io_cc : CTrue Try.prog 67 f_s_l5Group_io_c := by
  intro args inh rs out h
  unfold f_s_l5Group_io_c at h
  split at h
  · rename_i hd
    obtain ⟨h1, h2⟩ := dec2_enc hd
    rw [← h1, ← h2]
    exact rowC (f_s_l5Group_io_ok _ _ _) h
  · cases h

def f_s_IsSet_F : Fi := { nv := 0, nc := 0, m := 0, vt := [], kl := [], sk := [], mvs := [], fz := [] }
def f_s_IsSet_a (g0 : List Sc) (a1 : Int) : List AV := enc [.p .gr, .p (.int .i64)] [.l g0, .i a1]
def f_s_IsSet_i (g0 : List Sc) (a1 : Int) : List AV := enc [] []
def f_s_IsSet_en (r : Bool) : List AV × List AV := (enc [.p .boo] [.b r], enc [] [])
def f_s_IsSet_M : Calling := addC 39 f_s_IsGroup_c (addC 33 f_s_l2Order_c (addC 57 f_s_l1In_c (noC)))
theorem f_s_IsSet_Mt : CallOk Try.prog (f_s_IsSet_M) := addC_true f_s_IsGroup_cc (addC_true f_s_l2Order_cc (addC_true f_s_l1In_cc (noC_true)))
theorem f_s_IsSet_o : loopsOnce Try.f31 = true := by kernel_rfl
theorem f_s_IsSet_p {R : Type} (g0 : List Sc) (a1 : Int) (kR : Bool → Option R) : f_s_IsSet_k g0 a1 kR = (f_s_IsSet_k g0 a1 some).bind kR := by
  simp only [f_s_IsSet_k, brB, boB, someB, noneB]
theorem f_s_IsSet_e (g0 : List Sc) (a1 : Int) : runFn E0 f_s_IsSet_M H0 f_s_IsSet_F (asL (noL)) Try.f31 (f_s_IsSet_a g0 a1) (f_s_IsSet_i g0 a1) = f_s_IsSet_k g0 a1 (fun r => some (f_s_IsSet_en r)) := by kernel_rfl
theorem f_s_IsSet_ok (g0 : List Sc) (a1 : Int) (r : Bool) (h : f_s_IsSet g0 a1 = some r) : CS Try.prog 31 (f_s_IsSet_a g0 a1) (f_s_IsSet_i g0 a1) (f_s_IsSet_en r).1 (f_s_IsSet_en r).2 :=
  fn_true (Gk := fun k => f_s_IsSet_k g0 a1 k) (en := f_s_IsSet_en) Try.func31 E0ok f_s_IsSet_Mt (noL_true) f_s_IsSet_o (f_s_IsSet_e g0 a1) (f_s_IsSet_p g0 a1) h
def f_s_IsSet_c : CRow := fun args inh => match dec2 [.p .gr, .p (.int .i64)] [] args inh with
  | some ([.l g0, .i a1], []) => some ((f_s_IsSet g0 a1).isSome, (f_s_IsSet_en ((f_s_IsSet g0 a1).getD false)).1, (f_s_IsSet_en ((f_s_IsSet g0 a1).getD false)).2)
  | _ => none
theorem f_s_IsSet_cc : CTrue Try.prog 31 f_s_IsSet_c := by
  intro args inh rs out h
  unfold f_s_IsSet_c at h
  split at h
  · rename_i hd
    obtain ⟨h1, h2⟩ := dec2_enc hd
    rw [← h1, ← h2]
    exact rowC (f_s_IsSet_ok _ _) h
  · cases h

def f_s_IsSubgroup_F : Fi := { nv := 0, nc := 0, m := 0, vt := [], kl := [], sk := [], mvs := [], fz := [] }
def f_s_IsSubgroup_a (g0 : List Sc) (a1 : Int) : List AV := enc [.p .gr, .p (.int .i64)] [.l g0, .i a1]
def f_s_IsSubgroup_i (g0 : List Sc) (a1 : Int) : List AV := enc [] []
def f_s_IsSubgroup_en (r : Bool) : List AV × List AV := (enc [.p .boo] [.b r], enc [] [])
def f_s_IsSubgroup_M : Calling := addC 31 f_s_IsSet_c (addC 89 f_s_l5Closure_c (noC))
theorem f_s_IsSubgroup_Mt : CallOk Try.prog (f_s_IsSubgroup_M) := addC_true f_s_IsSet_cc (addC_true f_s_l5Closure_cc (noC_true))
theorem f_s_IsSubgroup_o : loopsOnce Try.f68 = true := by kernel_rfl
theorem f_s_IsSubgroup_p {R : Type} (g0 : List Sc) (a1 : Int) (kR : Bool → Option R) : f_s_IsSubgroup_k g0 a1 kR = (f_s_IsSubgroup_k g0 a1 some).bind kR := by
  simp only [f_s_IsSubgroup_k, brB, boB, someB]
theorem f_s_IsSubgroup_e (g0 : List Sc) (a1 : Int) : runFn E0 f_s_IsSubgroup_M H0 f_s_IsSubgroup_F (asL (noL)) Try.f68 (f_s_IsSubgroup_a g0 a1) (f_s_IsSubgroup_i g0 a1) = f_s_IsSubgroup_k g0 a1 (fun r => some (f_s_IsSubgroup_en r)) := by kernel_rfl
theorem f_s_IsSubgroup_ok (g0 : List Sc) (a1 : Int) (r : Bool) (h : f_s_IsSubgroup g0 a1 = some r) : CS Try.prog 68 (f_s_IsSubgroup_a g0 a1) (f_s_IsSubgroup_i g0 a1) (f_s_IsSubgroup_en r).1 (f_s_IsSubgroup_en r).2 :=
  fn_true (Gk := fun k => f_s_IsSubgroup_k g0 a1 k) (en := f_s_IsSubgroup_en) Try.func68 E0ok f_s_IsSubgroup_Mt (noL_true) f_s_IsSubgroup_o (f_s_IsSubgroup_e g0 a1) (f_s_IsSubgroup_p g0 a1) h
def f_s_IsSubgroup_c : CRow := fun args inh => match dec2 [.p .gr, .p (.int .i64)] [] args inh with
  | some ([.l g0, .i a1], []) => some ((f_s_IsSubgroup g0 a1).isSome, (f_s_IsSubgroup_en ((f_s_IsSubgroup g0 a1).getD false)).1, (f_s_IsSubgroup_en ((f_s_IsSubgroup g0 a1).getD false)).2)
  | _ => none
theorem f_s_IsSubgroup_cc : CTrue Try.prog 68 f_s_IsSubgroup_c := by
  intro args inh rs out h
  unfold f_s_IsSubgroup_c at h
  split at h
  · rename_i hd
    obtain ⟨h1, h2⟩ := dec2_enc hd
    rw [← h1, ← h2]
    exact rowC (f_s_IsSubgroup_ok _ _) h
  · cases h

def f_s_CosetsOf_F : Fi := { nv := 0, nc := 0, m := 0, vt := [], kl := [(0, ([0, 3, 4, 5, 9, 10, 11, 12, 13, 14, 15, 16, 17, 18, 19, 20, 21, 22, 23, 24, 25, 26, 27, 28, 29, 30, 31, 32, 33, 34, 35, 36, 37, 38], [0, 1, 2, 3, 4, 5, 7, 8, 9, 10, 11, 12, 13, 14, 15, 16, 17, 18, 19, 20, 21, 22, 23, 24, 25, 26, 27, 28, 29, 30, 31, 32, 33, 34, 35, 36, 37, 38], [0, 1, 2, 3, 6, 7, 8, 9, 10, 11, 12, 13, 14, 15, 16, 17, 18, 19, 20, 21, 22, 23, 24, 25, 26, 27, 28, 29, 30, 31, 32, 33, 34, 35, 36, 37, 38]))], sk := [], mvs := [], fz := [] }
def f_s_CosetsOf_a (g0 : List Sc) (h1 : Int) : List AV := enc [.p .gr, .p (.int .i64)] [.l g0, .i h1]
def f_s_CosetsOf_i (g0 : List Sc) (h1 : Int) : List AV := enc [] []
def f_s_CosetsOf_en (r : List Sc × Bool) : List AV × List AV := (enc [.p (.al 0), .p .boo] [.b r.2], enc [.own 3] [.l r.1])
def f_s_CosetsOf_M : Calling := addC 68 f_s_IsSubgroup_c (addC 33 f_s_l2Order_c (addC 61 f_s_l3Shift_c (noC)))
theorem f_s_CosetsOf_Mt : CallOk Try.prog (f_s_CosetsOf_M) := addC_true f_s_IsSubgroup_cc (addC_true f_s_l2Order_cc (addC_true f_s_l3Shift_cc (noC_true)))
theorem f_s_CosetsOf_o : loopsOnce Try.f70 = true := by kernel_rfl
def f_s_CosetsOf_h0 : List Sh := [.u, .p (.int .i64), .p .el, .u, .u, .u, .own 3, .p (.int .i64), .p (.int .i64), .u, .u, .u, .u, .u, .u, .u, .u, .u, .u, .u, .u, .u, .u, .u, .u, .u, .u, .u, .u, .u, .u, .u, .u, .u, .u, .u, .u, .u, .u]
def f_s_CosetsOf_fr0 (h1 : Int) (g2 : List Sc) (s : List Sc × Int × Int) : List AV := enc f_s_CosetsOf_h0 [.i h1, .l g2, .l s.1, .i s.2.1, .i s.2.2]
def f_s_CosetsOf_g0_1 : List Sh := [.u, .u, .u, .u, .u, .u, .own 3, .u, .u, .u, .u, .u, .u, .u, .u, .u, .u, .u, .u, .u, .u, .u, .u, .u, .u, .u, .u, .u, .u, .u, .u, .u, .u, .u, .u, .u, .u, .u, .u]
def f_s_CosetsOf_x0_1 (h1 : Int) (g2 : List Sc) (e : List Sc) : X × List AV := (.out 0, enc f_s_CosetsOf_g0_1 [.l e])
def f_s_CosetsOf_x0_2 (h1 : Int) (g2 : List Sc) (_e : Unit) : X × List AV := (.ret, [])
theorem f_s_CosetsOf_p0 {R : Type} (h1 : Int) (g2 : List Sc) (s : List Sc × Int × Int) (kN : List Sc × Int × Int → Option R) (kA : List Sc → Option R) (kB : Unit → Option R) : f_s_CosetsOf_k0 h1 g2 s.1 s.2.1 s.2.2 kN kA = (f_s_CosetsOf_r0 h1 g2 s).bind (Ro.el kN kA kB) := by
  simp only [f_s_CosetsOf_k0, f_s_CosetsOf_r0, brB, boB, someB, noneB, Ro.el]
theorem f_s_CosetsOf_e0 (h1 : Int) (g2 : List Sc) (s : List Sc × Int × Int) : EC E0 f_s_CosetsOf_M H0 f_s_CosetsOf_F (asL (noL)) 0 (bodyOf Try.f70 0) (f_s_CosetsOf_fr0 h1 g2 s) (done (klOf f_s_CosetsOf_F 0)) = f_s_CosetsOf_k0 h1 g2 s.1 s.2.1 s.2.2 (fun s => some (.norm, f_s_CosetsOf_fr0 h1 g2 s)) (fun e => some (f_s_CosetsOf_x0_1 h1 g2 e)) := by kernel_rfl
theorem f_s_CosetsOf_l0 (h1 : Int) (g2 : List Sc) : ∀ s r, loopL (f_s_CosetsOf_r0 h1 g2) s = some r → LS Try.prog f_s_CosetsOf_F (bodyOf Try.f70 0) (f_s_CosetsOf_fr0 h1 g2 s) (enX (f_s_CosetsOf_x0_1 h1 g2) (f_s_CosetsOf_x0_2 h1 g2) r) :=
  loop_true E0ok f_s_CosetsOf_Mt (noL_true) f_s_CosetsOf_o (fun _ h => by cases h) (fun _ h => by cases h) (fun s => (f_s_CosetsOf_e0 h1 g2 s).trans (f_s_CosetsOf_p0 h1 g2 s _ _ (fun e => some (f_s_CosetsOf_x0_2 h1 g2 e))))
def f_s_CosetsOf_t0 (σ : List AV) : Option (Bool × Bool × (X × List AV) × (X × List AV)) := match dec f_s_CosetsOf_h0 σ with
  | some [.i h1, .l g2, .l out6, .i seen7, .i x8] => some (isOne (loopL (f_s_CosetsOf_r0 h1 g2) (out6, seen7, x8)), true, f_s_CosetsOf_x0_1 h1 g2 (getOne [] (loopL (f_s_CosetsOf_r0 h1 g2) (out6, seen7, x8))), (.ret, []))
  | _ => none
theorem f_s_CosetsOf_tt0 : TTrue Try.prog f_s_CosetsOf_F Try.f70 0 (f_s_CosetsOf_t0) := by
  intro σ p r r' h
  unfold f_s_CosetsOf_t0 at h
  split at h
  · rename_i hd
    rw [← dec_enc hd]
    exact row1 (f_s_CosetsOf_l0 _ _ _) h
  · cases h
theorem f_s_CosetsOf_p {R : Type} (g0 : List Sc) (h1 : Int) (kR : List Sc × Bool → Option R) : f_s_CosetsOf_k g0 h1 kR = (f_s_CosetsOf_k g0 h1 some).bind kR := by
  simp only [f_s_CosetsOf_k, brB, boB, bl1B, someB]
theorem f_s_CosetsOf_e (g0 : List Sc) (h1 : Int) : runFn E0 f_s_CosetsOf_M H0 f_s_CosetsOf_F (asL (addL 0 (f_s_CosetsOf_t0) (noL))) Try.f70 (f_s_CosetsOf_a g0 h1) (f_s_CosetsOf_i g0 h1) = f_s_CosetsOf_k g0 h1 (fun r => some (f_s_CosetsOf_en r)) := by kernel_rfl
theorem f_s_CosetsOf_ok (g0 : List Sc) (h1 : Int) (r : List Sc × Bool) (h : f_s_CosetsOf g0 h1 = some r) : CS Try.prog 70 (f_s_CosetsOf_a g0 h1) (f_s_CosetsOf_i g0 h1) (f_s_CosetsOf_en r).1 (f_s_CosetsOf_en r).2 :=
  fn_true (Gk := fun k => f_s_CosetsOf_k g0 h1 k) (en := f_s_CosetsOf_en) Try.func70 E0ok f_s_CosetsOf_Mt (addL_true (f_s_CosetsOf_tt0) (noL_true)) f_s_CosetsOf_o (f_s_CosetsOf_e g0 h1) (f_s_CosetsOf_p g0 h1) h
def f_s_CosetsOf_c : CRow := fun args inh => match dec2 [.p .gr, .p (.int .i64)] [] args inh with
  | some ([.l g0, .i h1], []) => some ((f_s_CosetsOf g0 h1).isSome, (f_s_CosetsOf_en ((f_s_CosetsOf g0 h1).getD ([], false))).1, (f_s_CosetsOf_en ((f_s_CosetsOf g0 h1).getD ([], false))).2)
  | _ => none
theorem f_s_CosetsOf_cc : CTrue Try.prog 70 f_s_CosetsOf_c := by
  intro args inh rs out h
  unfold f_s_CosetsOf_c at h
  split at h
  · rename_i hd
    obtain ⟨h1, h2⟩ := dec2_enc hd
    rw [← h1, ← h2]
    exact rowC (f_s_CosetsOf_ok _ _) h
  · cases h

def f_s_l2Negate_F : Fi := { nv := 0, nc := 0, m := 0, vt := [], kl := [(0, ([0, 3, 4, 8, 9, 10, 11, 12, 13, 14, 15, 16, 17, 18, 19, 20, 21, 22, 23, 24, 25, 26, 27, 28, 29, 30, 31, 32, 33, 34, 35, 36, 37, 38], [0, 1, 2, 3, 4, 6, 7, 8, 9, 10, 11, 12, 13, 14, 15, 16, 17, 18, 19, 20, 21, 22, 23, 24, 25, 26, 27, 28, 29, 30, 31, 32, 33, 34, 35, 36, 37, 38], [0, 1, 2, 3, 5, 6, 7, 8, 9, 10, 11, 12, 13, 14, 15, 16, 17, 18, 19, 20, 21, 22, 23, 24, 25, 26, 27, 28, 29, 30, 31, 32, 33, 34, 35, 36, 37, 38]))], sk := [], mvs := [], fz := [] }
def f_s_l2Negate_a (g0 : List Sc) (x1 : Int) : List AV := enc [.p .gr, .p (.int .i64)] [.l g0, .i x1]
def f_s_l2Negate_i (g0 : List Sc) (x1 : Int) : List AV := enc [] []
def f_s_l2Negate_en (r : Int) : List AV × List AV := (enc [.p (.int .i64)] [.i r], enc [] [])
def f_s_l2Negate_M : Calling := noC
theorem f_s_l2Negate_Mt : CallOk Try.prog (f_s_l2Negate_M) := noC_true
theorem f_s_l2Negate_o : loopsOnce Try.f60 = true := by kernel_rfl
def f_s_l2Negate_h0 : List Sh := [.u, .p (.int .i64), .p .el, .u, .u, .p (.int .i64), .p (.int .i64), .p (.int .i64), .u, .u, .u, .u, .u, .u, .u, .u, .u, .u, .u, .u, .u, .u, .u, .u, .u, .u, .u, .u, .u, .u, .u, .u, .u, .u, .u, .u, .u, .u, .u]
def f_s_l2Negate_fr0 (g2 : List Sc) (s : Int × Int × Int × Int) : List AV := enc f_s_l2Negate_h0 [.i s.1, .l g2, .i s.2.1, .i s.2.2.1, .i s.2.2.2]
def f_s_l2Negate_g0_1 : List Sh := [.u, .u, .u, .u, .u, .p (.int .i64), .u, .u, .u, .u, .u, .u, .u, .u, .u, .u, .u, .u, .u, .u, .u, .u, .u, .u, .u, .u, .u, .u, .u, .u, .u, .u, .u, .u, .u, .u, .u, .u, .u]
def f_s_l2Negate_x0_1 (g2 : List Sc) (e : Int) : X × List AV := (.out 0, enc f_s_l2Negate_g0_1 [.i e])
def f_s_l2Negate_x0_2 (g2 : List Sc) (_e : Unit) : X × List AV := (.ret, [])
theorem f_s_l2Negate_p0 {R : Type} (g2 : List Sc) (s : Int × Int × Int × Int) (kN : Int × Int × Int × Int → Option R) (kA : Int → Option R) (kB : Unit → Option R) : f_s_l2Negate_k0 g2 s.1 s.2.1 s.2.2.1 s.2.2.2 kN kA = (f_s_l2Negate_r0 g2 s).bind (Ro.el kN kA kB) := by
  simp only [f_s_l2Negate_k0, f_s_l2Negate_r0, brB, someB, noneB, Ro.el]
theorem f_s_l2Negate_e0 (g2 : List Sc) (s : Int × Int × Int × Int) : EC E0 f_s_l2Negate_M H0 f_s_l2Negate_F (asL (noL)) 0 (bodyOf Try.f60 0) (f_s_l2Negate_fr0 g2 s) (done (klOf f_s_l2Negate_F 0)) = f_s_l2Negate_k0 g2 s.1 s.2.1 s.2.2.1 s.2.2.2 (fun s => some (.norm, f_s_l2Negate_fr0 g2 s)) (fun e => some (f_s_l2Negate_x0_1 g2 e)) := by kernel_rfl
theorem f_s_l2Negate_l0 (g2 : List Sc) : ∀ s r, loopL (f_s_l2Negate_r0 g2) s = some r → LS Try.prog f_s_l2Negate_F (bodyOf Try.f60 0) (f_s_l2Negate_fr0 g2 s) (enX (f_s_l2Negate_x0_1 g2) (f_s_l2Negate_x0_2 g2) r) :=
  loop_true E0ok f_s_l2Negate_Mt (noL_true) f_s_l2Negate_o (fun _ h => by cases h) (fun _ h => by cases h) (fun s => (f_s_l2Negate_e0 g2 s).trans (f_s_l2Negate_p0 g2 s _ _ (fun e => some (f_s_l2Negate_x0_2 g2 e))))
def f_s_l2Negate_t0 (σ : List AV) : Option (Bool × Bool × (X × List AV) × (X × List AV)) := match dec f_s_l2Negate_h0 σ with
  | some [.i x1, .l g2, .i z5, .i step6, .i i7] => some (isOne (loopL (f_s_l2Negate_r0 g2) (x1, z5, step6, i7)), true, f_s_l2Negate_x0_1 g2 (getOne 0 (loopL (f_s_l2Negate_r0 g2) (x1, z5, step6, i7))), (.ret, []))
  | _ => none
theorem f_s_l2Negate_tt0 : TTrue Try.prog f_s_l2Negate_F Try.f60 0 (f_s_l2Negate_t0) := by
  intro σ p r r' h
  unfold f_s_l2Negate_t0 at h
  split at h
  · rename_i hd
    rw [← dec_enc hd]
    exact row1 (f_s_l2Negate_l0 _ _) h
  · cases h
theorem f_s_l2Negate_p {R : Type} (g0 : List Sc) (x1 : Int) (kR : Int → Option R) : f_s_l2Negate_k g0 x1 kR = (f_s_l2Negate_k g0 x1 some).bind kR := by
  simp only [f_s_l2Negate_k, bl1B, someB]
theorem f_s_l2Negate_e (g0 : List Sc) (x1 : Int) : runFn E0 f_s_l2Negate_M H0 f_s_l2Negate_F (asL (addL 0 (f_s_l2Negate_t0) (noL))) Try.f60 (f_s_l2Negate_a g0 x1) (f_s_l2Negate_i g0 x1) = f_s_l2Negate_k g0 x1 (fun r => some (f_s_l2Negate_en r)) := by kernel_rfl
theorem f_s_l2Negate_ok (g0 : List Sc) (x1 : Int) (r : Int) (h : f_s_l2Negate g0 x1 = some r) : CS Try.prog 60 (f_s_l2Negate_a g0 x1) (f_s_l2Negate_i g0 x1) (f_s_l2Negate_en r).1 (f_s_l2Negate_en r).2 :=
  fn_true (Gk := fun k => f_s_l2Negate_k g0 x1 k) (en := f_s_l2Negate_en) Try.func60 E0ok f_s_l2Negate_Mt (addL_true (f_s_l2Negate_tt0) (noL_true)) f_s_l2Negate_o (f_s_l2Negate_e g0 x1) (f_s_l2Negate_p g0 x1) h
def f_s_l2Negate_c : CRow := fun args inh => match dec2 [.p .gr, .p (.int .i64)] [] args inh with
  | some ([.l g0, .i x1], []) => some ((f_s_l2Negate g0 x1).isSome, (f_s_l2Negate_en ((f_s_l2Negate g0 x1).getD 0)).1, (f_s_l2Negate_en ((f_s_l2Negate g0 x1).getD 0)).2)
  | _ => none
theorem f_s_l2Negate_cc : CTrue Try.prog 60 f_s_l2Negate_c := by
  intro args inh rs out h
  unfold f_s_l2Negate_c at h
  split at h
  · rename_i hd
    obtain ⟨h1, h2⟩ := dec2_enc hd
    rw [← h1, ← h2]
    exact rowC (f_s_l2Negate_ok _ _) h
  · cases h

def f_s_l20Search_F : Fi := { nv := 0, nc := 0, m := 0, vt := [], kl := [(2, ([0, 7, 8, 9, 10, 11, 12, 17, 18, 19, 20, 21, 22, 23, 24, 25, 26, 27, 28, 29, 30, 31, 32, 33, 34, 35, 36, 37, 38, 39, 40, 41, 42, 43, 44, 45, 46, 47, 48, 49, 50, 51, 52, 53, 54, 55, 56, 57, 58, 59, 60, 61, 62, 63, 64, 65, 66, 67, 68, 69, 70, 71, 72, 73, 74, 75, 76, 77, 78, 79, 80], [0, 1, 2, 3, 4, 5, 6, 7, 8, 9, 10, 11, 12, 13, 15, 16, 17, 18, 19, 20, 21, 22, 23, 24, 25, 26, 27, 28, 29, 30, 31, 32, 33, 34, 35, 36, 37, 38, 39, 40, 41, 42, 43, 44, 45, 46, 47, 48, 49, 50, 51, 52, 53, 54, 55, 56, 57, 58, 59, 60, 61, 62, 63, 64, 65, 66, 67, 68, 69, 70, 71, 72, 73, 74, 75, 76, 77, 78, 79, 80], [0, 1, 2, 3, 4, 5, 6, 7, 8, 9, 10, 11, 13, 14, 15, 16, 17, 18, 19, 20, 21, 22, 23, 24, 25, 26, 27, 28, 29, 30, 31, 32, 33, 34, 35, 36, 37, 38, 39, 40, 41, 42, 43, 44, 45, 46, 47, 48, 49, 50, 51, 52, 53, 54, 55, 56, 57, 58, 59, 60, 61, 62, 63, 64, 65, 66, 67, 68, 69, 70, 71, 72, 73, 74, 75, 76, 77, 78, 79, 80])), (0, ([0, 7, 8, 9, 10, 11, 12, 14, 15, 16, 17, 18, 19, 20, 21, 22, 23, 24, 25, 26, 27, 28, 29, 30, 31, 32, 33, 34, 35, 36, 37, 38, 39, 40, 41, 42, 43, 44, 45, 46, 47, 48, 49, 50, 51, 52, 53, 54, 55, 56, 57, 58, 59, 60, 61, 62, 63, 64, 65, 66, 67, 68, 69, 70, 71, 72, 73, 74, 75, 76, 77, 78, 79, 80], [0, 7, 8, 9, 10, 11, 12, 14, 15, 16, 17, 18, 19, 20, 21, 22, 23, 24, 25, 26, 27, 28, 29, 30, 31, 32, 33, 34, 35, 36, 37, 38, 39, 40, 41, 42, 43, 44, 45, 46, 47, 48, 49, 50, 51, 52, 53, 54, 55, 56, 57, 58, 59, 60, 61, 62, 63, 64, 65, 66, 67, 68, 69, 70, 71, 72, 73, 74, 75, 76, 77, 78, 79, 80], [0, 1, 2, 3, 4, 5, 6, 7, 8, 9, 10, 11, 13, 14, 15, 16, 17, 18, 19, 20, 21, 22, 23, 24, 25, 26, 27, 28, 29, 30, 31, 32, 33, 34, 35, 36, 37, 38, 39, 40, 41, 42, 43, 44, 45, 46, 47, 48, 49, 50, 51, 52, 53, 54, 55, 56, 57, 58, 59, 60, 61, 62, 63, 64, 65, 66, 67, 68, 69, 70, 71, 72, 73, 74, 75, 76, 77, 78, 79, 80]))], sk := [], mvs := [], fz := [] }
def f_s_l20Search_a (L0 : List Sc) (p1 : Int) (p2 : Int) (p3 : Int) (p4 : Int) (p5 : Int) : List AV := enc [.p .gr, .p (.int .i64), .p (.int .i64), .p (.int .i64), .p (.int .i64), .p (.int .i64)] [.l L0, .i p1, .i p2, .i p3, .i p4, .i p5]
def f_s_l20Search_i (L0 : List Sc) (p1 : Int) (p2 : Int) (p3 : Int) (p4 : Int) (p5 : Int) : List AV := enc [] []
def f_s_l20Search_en (r : List Sc) : List AV × List AV := (enc [.p (.al 0)] [], enc [.own 3] [.l r])
def f_s_l20Search_cs (self : (List Sc × Int × Int × Int × Int × Int) → Option (List Sc)) : CRow := fun args inh => match dec2 [.p .gr, .p (.int .i64), .p (.int .i64), .p (.int .i64), .p (.int .i64), .p (.int .i64)] [] args inh with
  | some ([.l L0, .i p1, .i p2, .i p3, .i p4, .i p5], []) => some ((self (L0, p1, p2, p3, p4, p5)).isSome, (f_s_l20Search_en ((self (L0, p1, p2, p3, p4, p5)).getD [])).1, (f_s_l20Search_en ((self (L0, p1, p2, p3, p4, p5)).getD [])).2)
  | _ => none
theorem f_s_l20Search_cst (self : (List Sc × Int × Int × Int × Int × Int) → Option (List Sc)) (hs : ∀ a r, self a = some r → CS Try.prog 32 (f_s_l20Search_a a.1 a.2.1 a.2.2.1 a.2.2.2.1 a.2.2.2.2.1 a.2.2.2.2.2) (f_s_l20Search_i a.1 a.2.1 a.2.2.1 a.2.2.2.1 a.2.2.2.2.1 a.2.2.2.2.2) (f_s_l20Search_en r).1 (f_s_l20Search_en r).2) : CTrue Try.prog 32 (f_s_l20Search_cs self) := by
  intro args inh rs out h
  unfold f_s_l20Search_cs at h
  split at h
  · rename_i hd
    obtain ⟨h1, h2⟩ := dec2_enc hd
    rw [← h1, ← h2]
    exact rowC (hs _) h
  · cases h
def f_s_l20Search_M (self : (List Sc × Int × Int × Int × Int × Int) → Option (List Sc)) : Calling := addC 32 (f_s_l20Search_cs self) (addC 58 f_s_l3List_c (addC 60 f_s_l2Negate_c (addC 59 f_s_l2Add_c (addC 61 f_s_l3Shift_c (noC)))))
theorem f_s_l20Search_Mt (self : (List Sc × Int × Int × Int × Int × Int) → Option (List Sc)) (hs : ∀ a r, self a = some r → CS Try.prog 32 (f_s_l20Search_a a.1 a.2.1 a.2.2.1 a.2.2.2.1 a.2.2.2.2.1 a.2.2.2.2.2) (f_s_l20Search_i a.1 a.2.1 a.2.2.1 a.2.2.2.1 a.2.2.2.2.1 a.2.2.2.2.2) (f_s_l20Search_en r).1 (f_s_l20Search_en r).2) : CallOk Try.prog (f_s_l20Search_M self) := addC_true (f_s_l20Search_cst self hs) (addC_true f_s_l3List_cc (addC_true f_s_l2Negate_cc (addC_true f_s_l2Add_cc (addC_true f_s_l3Shift_cc (noC_true)))))
theorem f_s_l20Search_o : loopsOnce Try.f32 = true := by kernel_rfl
def f_s_l20Search_h0 : List Sh := [.u, .p (.int .i64), .p (.int .i64), .p (.int .i64), .p (.int .i64), .p (.int .i64), .p .el, .u, .u, .u, .u, .u, .u, .p (.int .i64), .u, .u, .u, .u, .u, .u, .u, .u, .u, .u, .u, .u, .u, .u, .u, .u, .u, .u, .u, .u, .u, .u, .u, .u, .u, .u, .u, .u, .u, .u, .u, .u, .u, .u, .u, .u, .u, .u, .u, .u, .u, .u, .u, .u, .u, .u, .u, .u, .u, .u, .u, .u, .u, .u, .u, .u, .u, .u, .u, .u, .u, .u, .u, .u, .u, .u, .u]
def f_s_l20Search_fr0 (self : (List Sc × Int × Int × Int × Int × Int) → Option (List Sc)) (t1 : Int) (t2 : Int) (t3 : Int) (t4 : Int) (t5 : Int) (t6 : List Sc) (s : Int) : List AV := enc f_s_l20Search_h0 [.i t1, .i t2, .i t3, .i t4, .i t5, .l t6, .i s]
def f_s_l20Search_g0_1 : List Sh := [.u, .p (.int .i64), .p (.int .i64), .p (.int .i64), .p (.int .i64), .p (.int .i64), .p .el, .u, .u, .u, .u, .u, .u, .p (.int .i64), .u, .u, .u, .u, .u, .u, .u, .u, .u, .u, .u, .u, .u, .u, .u, .u, .u, .u, .u, .u, .u, .u, .u, .u, .u, .u, .u, .u, .u, .u, .u, .u, .u, .u, .u, .u, .u, .u, .u, .u, .u, .u, .u, .u, .u, .u, .u, .u, .u, .u, .u, .u, .u, .u, .u, .u, .u, .u, .u, .u, .u, .u, .u, .u, .u, .u, .u]
def f_s_l20Search_x0_1 (self : (List Sc × Int × Int × Int × Int × Int) → Option (List Sc)) (t1 : Int) (t2 : Int) (t3 : Int) (t4 : Int) (t5 : Int) (t6 : List Sc) (e : Int) : X × List AV := (.out 0, enc f_s_l20Search_g0_1 [.i t1, .i t2, .i t3, .i t4, .i t5, .l t6, .i e])
def f_s_l20Search_x0_2 (self : (List Sc × Int × Int × Int × Int × Int) → Option (List Sc)) (t1 : Int) (t2 : Int) (t3 : Int) (t4 : Int) (t5 : Int) (t6 : List Sc) (_e : Unit) : X × List AV := (.ret, [])
theorem f_s_l20Search_p0 {R : Type} (self : (List Sc × Int × Int × Int × Int × Int) → Option (List Sc)) (t1 : Int) (t2 : Int) (t3 : Int) (t4 : Int) (t5 : Int) (t6 : List Sc) (s : Int) (kN : Int → Option R) (kA : Int → Option R) (kB : Unit → Option R) : f_s_l20Search_k0 self t1 t2 t3 t4 t5 t6 s kN kA = (f_s_l20Search_r0 self t1 t2 t3 t4 t5 t6 s).bind (Ro.el kN kA kB) := by
  simp only [f_s_l20Search_k0, f_s_l20Search_r0, brB, someB, noneB, Ro.el]
theorem f_s_l20Search_e0 (self : (List Sc × Int × Int × Int × Int × Int) → Option (List Sc)) (t1 : Int) (t2 : Int) (t3 : Int) (t4 : Int) (t5 : Int) (t6 : List Sc) (s : Int) : EC E0 (f_s_l20Search_M self) H0 f_s_l20Search_F (asL (noL)) 0 (bodyOf Try.f32 0) (f_s_l20Search_fr0 self t1 t2 t3 t4 t5 t6 s) (done (klOf f_s_l20Search_F 0)) = f_s_l20Search_k0 self t1 t2 t3 t4 t5 t6 s (fun s => some (.norm, f_s_l20Search_fr0 self t1 t2 t3 t4 t5 t6 s)) (fun e => some (f_s_l20Search_x0_1 self t1 t2 t3 t4 t5 t6 e)) := by kernel_rfl
theorem f_s_l20Search_l0 (self : (List Sc × Int × Int × Int × Int × Int) → Option (List Sc)) (hs : ∀ a r, self a = some r → CS Try.prog 32 (f_s_l20Search_a a.1 a.2.1 a.2.2.1 a.2.2.2.1 a.2.2.2.2.1 a.2.2.2.2.2) (f_s_l20Search_i a.1 a.2.1 a.2.2.1 a.2.2.2.1 a.2.2.2.2.1 a.2.2.2.2.2) (f_s_l20Search_en r).1 (f_s_l20Search_en r).2) (t1 : Int) (t2 : Int) (t3 : Int) (t4 : Int) (t5 : Int) (t6 : List Sc) : ∀ s r, loopL (f_s_l20Search_r0 self t1 t2 t3 t4 t5 t6) s = some r → LS Try.prog f_s_l20Search_F (bodyOf Try.f32 0) (f_s_l20Search_fr0 self t1 t2 t3 t4 t5 t6 s) (enX (f_s_l20Search_x0_1 self t1 t2 t3 t4 t5 t6) (f_s_l20Search_x0_2 self t1 t2 t3 t4 t5 t6) r) :=
  loop_true E0ok (f_s_l20Search_Mt self hs) (noL_true) f_s_l20Search_o (fun _ h => by cases h) (fun _ h => by cases h) (fun s => (f_s_l20Search_e0 self t1 t2 t3 t4 t5 t6 s).trans (f_s_l20Search_p0 self t1 t2 t3 t4 t5 t6 s _ _ (fun e => some (f_s_l20Search_x0_2 self t1 t2 t3 t4 t5 t6 e))))
def f_s_l20Search_t0 (self : (List Sc × Int × Int × Int × Int × Int) → Option (List Sc)) (σ : List AV) : Option (Bool × Bool × (X × List AV) × (X × List AV)) := match dec f_s_l20Search_h0 σ with
  | some [.i t1, .i t2, .i t3, .i t4, .i t5, .l t6, .i t13] => some (isOne (loopL (f_s_l20Search_r0 self t1 t2 t3 t4 t5 t6) t13), true, f_s_l20Search_x0_1 self t1 t2 t3 t4 t5 t6 (getOne 0 (loopL (f_s_l20Search_r0 self t1 t2 t3 t4 t5 t6) t13)), (.ret, []))
  | _ => none
theorem f_s_l20Search_tt0 (self : (List Sc × Int × Int × Int × Int × Int) → Option (List Sc)) (hs : ∀ a r, self a = some r → CS Try.prog 32 (f_s_l20Search_a a.1 a.2.1 a.2.2.1 a.2.2.2.1 a.2.2.2.2.1 a.2.2.2.2.2) (f_s_l20Search_i a.1 a.2.1 a.2.2.1 a.2.2.2.1 a.2.2.2.2.1 a.2.2.2.2.2) (f_s_l20Search_en r).1 (f_s_l20Search_en r).2) : TTrue Try.prog f_s_l20Search_F Try.f32 0 (f_s_l20Search_t0 self) := by
  intro σ p r r' h
  unfold f_s_l20Search_t0 at h
  split at h
  · rename_i hd
    rw [← dec_enc hd]
    exact row1 (f_s_l20Search_l0 self hs _ _ _ _ _ _ _) h
  · cases h
def f_s_l20Search_h2 : List Sh := [.u, .p (.int .i64), .p (.int .i64), .p (.int .i64), .p (.int .i64), .p (.int .i64), .p .el, .u, .u, .u, .u, .u, .u, .p (.int .i64), .own 3, .own 3, .p (.int .i64), .u, .u, .u, .u, .u, .u, .u, .u, .u, .u, .u, .u, .u, .u, .u, .u, .u, .u, .u, .u, .u, .u, .u, .u, .u, .u, .u, .u, .u, .u, .u, .u, .u, .u, .u, .u, .u, .u, .u, .u, .u, .u, .u, .u, .u, .u, .u, .u, .u, .u, .u, .u, .u, .u, .u, .u, .u, .u, .u, .u, .u, .u, .u, .u]
def f_s_l20Search_fr2 (self : (List Sc × Int × Int × Int × Int × Int) → Option (List Sc)) (t1 : Int) (t2 : Int) (t3 : Int) (t4 : Int) (t5 : Int) (t6 : List Sc) (t13 : Int) (s : List Sc × List Sc × Int) : List AV := enc f_s_l20Search_h2 [.i t1, .i t2, .i t3, .i t4, .i t5, .l t6, .i t13, .l s.1, .l s.2.1, .i s.2.2]
def f_s_l20Search_g2_1 : List Sh := [.u, .u, .u, .u, .u, .u, .u, .u, .u, .u, .u, .u, .u, .u, .own 3, .u, .u, .u, .u, .u, .u, .u, .u, .u, .u, .u, .u, .u, .u, .u, .u, .u, .u, .u, .u, .u, .u, .u, .u, .u, .u, .u, .u, .u, .u, .u, .u, .u, .u, .u, .u, .u, .u, .u, .u, .u, .u, .u, .u, .u, .u, .u, .u, .u, .u, .u, .u, .u, .u, .u, .u, .u, .u, .u, .u, .u, .u, .u, .u, .u, .u]
def f_s_l20Search_x2_1 (self : (List Sc × Int × Int × Int × Int × Int) → Option (List Sc)) (t1 : Int) (t2 : Int) (t3 : Int) (t4 : Int) (t5 : Int) (t6 : List Sc) (t13 : Int) (e : List Sc) : X × List AV := (.out 2, enc f_s_l20Search_g2_1 [.l e])
def f_s_l20Search_x2_2 (self : (List Sc × Int × Int × Int × Int × Int) → Option (List Sc)) (t1 : Int) (t2 : Int) (t3 : Int) (t4 : Int) (t5 : Int) (t6 : List Sc) (t13 : Int) (_e : Unit) : X × List AV := (.ret, [])
theorem f_s_l20Search_p2 {R : Type} (self : (List Sc × Int × Int × Int × Int × Int) → Option (List Sc)) (t1 : Int) (t2 : Int) (t3 : Int) (t4 : Int) (t5 : Int) (t6 : List Sc) (t13 : Int) (s : List Sc × List Sc × Int) (kN : List Sc × List Sc × Int → Option R) (kA : List Sc → Option R) (kB : Unit → Option R) : f_s_l20Search_k2 self t1 t2 t3 t4 t5 t6 t13 s.1 s.2.1 s.2.2 kN kA = (f_s_l20Search_r2 self t1 t2 t3 t4 t5 t6 t13 s).bind (Ro.el kN kA kB) := by
  simp only [f_s_l20Search_k2, f_s_l20Search_r2, brB, boB, someB, noneB, Ro.el]
theorem f_s_l20Search_e2 (self : (List Sc × Int × Int × Int × Int × Int) → Option (List Sc)) (t1 : Int) (t2 : Int) (t3 : Int) (t4 : Int) (t5 : Int) (t6 : List Sc) (t13 : Int) (s : List Sc × List Sc × Int) : EC E0 (f_s_l20Search_M self) H0 f_s_l20Search_F (asL (addL 0 (f_s_l20Search_t0 self) (noL))) 2 (bodyOf Try.f32 2) (f_s_l20Search_fr2 self t1 t2 t3 t4 t5 t6 t13 s) (done (klOf f_s_l20Search_F 2)) = f_s_l20Search_k2 self t1 t2 t3 t4 t5 t6 t13 s.1 s.2.1 s.2.2 (fun s => some (.norm, f_s_l20Search_fr2 self t1 t2 t3 t4 t5 t6 t13 s)) (fun e => some (f_s_l20Search_x2_1 self t1 t2 t3 t4 t5 t6 t13 e)) := by kernel_rfl
theorem f_s_l20Search_l2 (self : (List Sc × Int × Int × Int × Int × Int) → Option (List Sc)) (hs : ∀ a r, self a = some r → CS Try.prog 32 (f_s_l20Search_a a.1 a.2.1 a.2.2.1 a.2.2.2.1 a.2.2.2.2.1 a.2.2.2.2.2) (f_s_l20Search_i a.1 a.2.1 a.2.2.1 a.2.2.2.1 a.2.2.2.2.1 a.2.2.2.2.2) (f_s_l20Search_en r).1 (f_s_l20Search_en r).2) (t1 : Int) (t2 : Int) (t3 : Int) (t4 : Int) (t5 : Int) (t6 : List Sc) (t13 : Int) : ∀ s r, loopL (f_s_l20Search_r2 self t1 t2 t3 t4 t5 t6 t13) s = some r → LS Try.prog f_s_l20Search_F (bodyOf Try.f32 2) (f_s_l20Search_fr2 self t1 t2 t3 t4 t5 t6 t13 s) (enX (f_s_l20Search_x2_1 self t1 t2 t3 t4 t5 t6 t13) (f_s_l20Search_x2_2 self t1 t2 t3 t4 t5 t6 t13) r) :=
  loop_true E0ok (f_s_l20Search_Mt self hs) (addL_true (f_s_l20Search_tt0 self hs) (noL_true)) f_s_l20Search_o (fun _ h => by cases h) (fun _ h => by cases h) (fun s => (f_s_l20Search_e2 self t1 t2 t3 t4 t5 t6 t13 s).trans (f_s_l20Search_p2 self t1 t2 t3 t4 t5 t6 t13 s _ _ (fun e => some (f_s_l20Search_x2_2 self t1 t2 t3 t4 t5 t6 t13 e))))
def f_s_l20Search_t2 (self : (List Sc × Int × Int × Int × Int × Int) → Option (List Sc)) (σ : List AV) : Option (Bool × Bool × (X × List AV) × (X × List AV)) := match dec f_s_l20Search_h2 σ with
  | some [.i t1, .i t2, .i t3, .i t4, .i t5, .l t6, .i t13, .l t14, .l t15, .i t16] => some (isOne (loopL (f_s_l20Search_r2 self t1 t2 t3 t4 t5 t6 t13) (t14, t15, t16)), true, f_s_l20Search_x2_1 self t1 t2 t3 t4 t5 t6 t13 (getOne [] (loopL (f_s_l20Search_r2 self t1 t2 t3 t4 t5 t6 t13) (t14, t15, t16))), (.ret, []))
  | _ => none
theorem f_s_l20Search_tt2 (self : (List Sc × Int × Int × Int × Int × Int) → Option (List Sc)) (hs : ∀ a r, self a = some r → CS Try.prog 32 (f_s_l20Search_a a.1 a.2.1 a.2.2.1 a.2.2.2.1 a.2.2.2.2.1 a.2.2.2.2.2) (f_s_l20Search_i a.1 a.2.1 a.2.2.1 a.2.2.2.1 a.2.2.2.2.1 a.2.2.2.2.2) (f_s_l20Search_en r).1 (f_s_l20Search_en r).2) : TTrue Try.prog f_s_l20Search_F Try.f32 2 (f_s_l20Search_t2 self) := by
  intro σ p r r' h
  unfold f_s_l20Search_t2 at h
  split at h
  · rename_i hd
    rw [← dec_enc hd]
    exact row1 (f_s_l20Search_l2 self hs _ _ _ _ _ _ _ _) h
  · cases h
theorem f_s_l20Search_p {R : Type} (self : (List Sc × Int × Int × Int × Int × Int) → Option (List Sc)) (L0 : List Sc) (p1 : Int) (p2 : Int) (p3 : Int) (p4 : Int) (p5 : Int) (kR : List Sc → Option R) : f_s_l20Search_k self L0 p1 p2 p3 p4 p5 kR = (f_s_l20Search_k self L0 p1 p2 p3 p4 p5 some).bind kR := by
  simp only [f_s_l20Search_k, brB, boB, bl1B, someB]
theorem f_s_l20Search_e (self : (List Sc × Int × Int × Int × Int × Int) → Option (List Sc)) (L0 : List Sc) (p1 : Int) (p2 : Int) (p3 : Int) (p4 : Int) (p5 : Int) : runFn E0 (f_s_l20Search_M self) H0 f_s_l20Search_F (asL (addL 2 (f_s_l20Search_t2 self) (addL 0 (f_s_l20Search_t0 self) (noL)))) Try.f32 (f_s_l20Search_a L0 p1 p2 p3 p4 p5) (f_s_l20Search_i L0 p1 p2 p3 p4 p5) = f_s_l20Search_k self L0 p1 p2 p3 p4 p5 (fun r => some (f_s_l20Search_en r)) := by kernel_rfl
theorem f_s_l20Search_ks (self : (List Sc × Int × Int × Int × Int × Int) → Option (List Sc)) (hs : ∀ a r, self a = some r → CS Try.prog 32 (f_s_l20Search_a a.1 a.2.1 a.2.2.1 a.2.2.2.1 a.2.2.2.2.1 a.2.2.2.2.2) (f_s_l20Search_i a.1 a.2.1 a.2.2.1 a.2.2.2.1 a.2.2.2.2.1 a.2.2.2.2.2) (f_s_l20Search_en r).1 (f_s_l20Search_en r).2) (L0 : List Sc) (p1 : Int) (p2 : Int) (p3 : Int) (p4 : Int) (p5 : Int) (r : List Sc) (h : f_s_l20Search_k self L0 p1 p2 p3 p4 p5 some = some r) : CS Try.prog 32 (f_s_l20Search_a L0 p1 p2 p3 p4 p5) (f_s_l20Search_i L0 p1 p2 p3 p4 p5) (f_s_l20Search_en r).1 (f_s_l20Search_en r).2 :=
  fn_true (Gk := fun k => f_s_l20Search_k self L0 p1 p2 p3 p4 p5 k) (en := f_s_l20Search_en) Try.func32 E0ok (f_s_l20Search_Mt self hs) (addL_true (f_s_l20Search_tt2 self hs) (addL_true (f_s_l20Search_tt0 self hs) (noL_true))) f_s_l20Search_o (f_s_l20Search_e self L0 p1 p2 p3 p4 p5) (f_s_l20Search_p self L0 p1 p2 p3 p4 p5) h
theorem f_s_l20Search_ns : ∀ n a r, f_s_l20Search_n n a = some r → CS Try.prog 32 (f_s_l20Search_a a.1 a.2.1 a.2.2.1 a.2.2.2.1 a.2.2.2.2.1 a.2.2.2.2.2) (f_s_l20Search_i a.1 a.2.1 a.2.2.1 a.2.2.2.1 a.2.2.2.2.1 a.2.2.2.2.2) (f_s_l20Search_en r).1 (f_s_l20Search_en r).2
  | 0, _, _, h => by cases h
  | n + 1, a, r, h => f_s_l20Search_ks (f_s_l20Search_n n) (f_s_l20Search_ns n) a.1 a.2.1 a.2.2.1 a.2.2.2.1 a.2.2.2.2.1 a.2.2.2.2.2 r h
theorem f_s_l20Search_ok (L0 : List Sc) (p1 : Int) (p2 : Int) (p3 : Int) (p4 : Int) (p5 : Int) (r : List Sc) (h : f_s_l20Search L0 p1 p2 p3 p4 p5 = some r) : CS Try.prog 32 (f_s_l20Search_a L0 p1 p2 p3 p4 p5) (f_s_l20Search_i L0 p1 p2 p3 p4 p5) (f_s_l20Search_en r).1 (f_s_l20Search_en r).2 := by
  obtain ⟨n, hn⟩ := limF_some h
  exact f_s_l20Search_ns n _ r hn
def f_s_l20Search_c : CRow := fun args inh => match dec2 [.p .gr, .p (.int .i64), .p (.int .i64), .p (.int .i64), .p (.int .i64), .p (.int .i64)] [] args inh with
  | some ([.l L0, .i p1, .i p2, .i p3, .i p4, .i p5], []) => some ((f_s_l20Search L0 p1 p2 p3 p4 p5).isSome, (f_s_l20Search_en ((f_s_l20Search L0 p1 p2 p3 p4 p5).getD [])).1, (f_s_l20Search_en ((f_s_l20Search L0 p1 p2 p3 p4 p5).getD [])).2)
  | _ => none
theorem f_s_l20Search_cc : CTrue Try.prog 32 f_s_l20Search_c := by
  intro args inh rs out h
  unfold f_s_l20Search_c at h
  split at h
  · rename_i hd
    obtain ⟨h1, h2⟩ := dec2_enc hd
    rw [← h1, ← h2]
    exact rowC (f_s_l20Search_ok _ _ _ _ _ _) h
  · cases h

def f_s_FindTile_F : Fi := { nv := 0, nc := 0, m := 0, vt := [], kl := [], sk := [], mvs := [], fz := [] }
def f_s_FindTile_a (g0 : List Sc) (a1 : Int) : List AV := enc [.p .gr, .p (.int .i64)] [.l g0, .i a1]
def f_s_FindTile_i (g0 : List Sc) (a1 : Int) : List AV := enc [] []
def f_s_FindTile_en (r : Int × Bool) : List AV × List AV := (enc [.p (.int .i64), .p .boo] [.i r.1, .b r.2], enc [] [])
def f_s_FindTile_M : Calling := addC 31 f_s_IsSet_c (addC 33 f_s_l2Order_c (addC 32 f_s_l20Search_c (noC)))
theorem f_s_FindTile_Mt : CallOk Try.prog (f_s_FindTile_M) := addC_true f_s_IsSet_cc (addC_true f_s_l2Order_cc (addC_true f_s_l20Search_cc (noC_true)))
theorem f_s_FindTile_o : loopsOnce Try.f9 = true := by kernel_rfl
theorem f_s_FindTile_p {R : Type} (g0 : List Sc) (a1 : Int) (kR : Int × Bool → Option R) : f_s_FindTile_k g0 a1 kR = (f_s_FindTile_k g0 a1 some).bind kR := by
  simp only [f_s_FindTile_k, brB, boB, someB, noneB]
theorem f_s_FindTile_e (g0 : List Sc) (a1 : Int) : runFn E0 f_s_FindTile_M H0 f_s_FindTile_F (asL (noL)) Try.f9 (f_s_FindTile_a g0 a1) (f_s_FindTile_i g0 a1) = f_s_FindTile_k g0 a1 (fun r => some (f_s_FindTile_en r)) := by kernel_rfl
theorem f_s_FindTile_ok (g0 : List Sc) (a1 : Int) (r : Int × Bool) (h : f_s_FindTile g0 a1 = some r) : CS Try.prog 9 (f_s_FindTile_a g0 a1) (f_s_FindTile_i g0 a1) (f_s_FindTile_en r).1 (f_s_FindTile_en r).2 :=
  fn_true (Gk := fun k => f_s_FindTile_k g0 a1 k) (en := f_s_FindTile_en) Try.func9 E0ok f_s_FindTile_Mt (noL_true) f_s_FindTile_o (f_s_FindTile_e g0 a1) (f_s_FindTile_p g0 a1) h
def f_s_FindTile_c : CRow := fun args inh => match dec2 [.p .gr, .p (.int .i64)] [] args inh with
  | some ([.l g0, .i a1], []) => some ((f_s_FindTile g0 a1).isSome, (f_s_FindTile_en ((f_s_FindTile g0 a1).getD (0, false))).1, (f_s_FindTile_en ((f_s_FindTile g0 a1).getD (0, false))).2)
  | _ => none
theorem f_s_FindTile_cc : CTrue Try.prog 9 f_s_FindTile_c := by
  intro args inh rs out h
  unfold f_s_FindTile_c at h
  split at h
  · rename_i hd
    obtain ⟨h1, h2⟩ := dec2_enc hd
    rw [← h1, ← h2]
    exact rowC (f_s_FindTile_ok _ _) h
  · cases h

def f_s_l20Pair_io_F : Fi := { nv := 6, nc := 5, m := 3, vt := [(2, 3), (5, 4), (30, 5)], kl := [(0, ([5, 7, 9, 10, 14, 17, 18, 19, 20, 21, 22, 23, 24, 25, 26, 27, 28, 29, 30, 31, 32, 33, 34, 35, 36, 37, 38, 39, 40, 41, 42, 43, 44, 45, 46, 47, 48, 49, 50, 51, 52, 53, 54, 55, 56, 57, 58, 59, 60, 61, 62, 63, 64, 65, 66, 67, 68, 69, 70, 71, 72, 73, 74, 75, 76, 77, 78, 79, 80], [5, 6, 7, 9, 10, 13, 14, 16, 17, 18, 19, 20, 21, 22, 23, 24, 25, 26, 27, 28, 29, 30, 31, 32, 33, 34, 35, 36, 37, 38, 39, 40, 41, 42, 43, 44, 45, 46, 47, 48, 49, 50, 51, 52, 53, 54, 55, 56, 57, 58, 59, 60, 61, 62, 63, 64, 65, 66, 67, 68, 69, 70, 71, 72, 73, 74, 75, 76, 77, 78, 79, 80], [4, 5, 6, 7, 11, 12, 13, 14, 15, 16, 17, 18, 19, 20, 21, 22, 23, 24, 25, 26, 27, 28, 29, 30, 31, 32, 33, 34, 35, 36, 37, 38, 39, 40, 41, 42, 43, 44, 45, 46, 47, 48, 49, 50, 51, 52, 53, 54, 55, 56, 57, 58, 59, 60, 61, 62, 63, 64, 65, 66, 67, 68, 69, 70, 71, 72, 73, 74, 75, 76, 77, 78, 79, 80])), (100015, ([5, 7, 9, 10, 12, 13, 14, 15, 16, 17, 19, 20, 21, 22, 23, 24, 25, 26, 27, 28, 29, 30, 31, 32, 33, 34, 35, 36, 37, 38, 39, 40, 41, 42, 43, 44, 45, 46, 47, 48, 49, 50, 51, 52, 53, 54, 55, 56, 57, 58, 59, 60, 61, 62, 63, 64, 65, 66, 67, 68, 69, 70, 71, 72, 73, 74, 75, 76, 77, 78, 79, 80], [4, 5, 6, 7, 11, 12, 13, 14, 15, 16, 17, 18, 19, 20, 21, 22, 23, 24, 25, 26, 27, 28, 29, 30, 31, 32, 33, 34, 35, 36, 37, 38, 39, 40, 41, 42, 43, 44, 45, 46, 47, 48, 49, 50, 51, 52, 53, 54, 55, 56, 57, 58, 59, 60, 61, 62, 63, 64, 65, 66, 67, 68, 69, 70, 71, 72, 73, 74, 75, 76, 77, 78, 79, 80], []))], sk := [], mvs := [5], fz := [], tb := [15] }
def f_s_l20Pair_io_a (h0 : List Sc) (h1 : Int) (h2 : Int) : List AV := enc [.p (.pt 0 3)] []
def f_s_l20Pair_io_i (h0 : List Sc) (h1 : Int) (h2 : Int) : List AV := enc [.p .sl, .p (.int .i64), .p (.int .i64)] [.l h0, .i h1, .i h2]
def f_s_l20Pair_io_en (r : List Sc × Int × Int × List Sc × Int × Int) : List AV × List AV := (enc [.p .gr, .p (.int .i64), .p (.int .i64)] [.l r.1, .i r.2.1, .i r.2.2.1], enc [.p .sl, .p (.int .i64), .p (.int .i64)] [.l r.2.2.2.1, .i r.2.2.2.2.1, .i r.2.2.2.2.2])
def f_s_l20Pair_io_M : Calling := addC 67 f_s_l5Group_io_c (addC 68 f_s_IsSubgroup_c (addC 69 f_s_l1Once_io_c (addC 70 f_s_CosetsOf_c (addC 58 f_s_l3List_c (addC 71 f_s_l1Below_io_c (addC 72 f_s_l3Set_io_c (addC 9 f_s_FindTile_c (noC))))))))
theorem f_s_l20Pair_io_Mt : CallOk Try.prog (f_s_l20Pair_io_M) := addC_true f_s_l5Group_io_cc (addC_true f_s_IsSubgroup_cc (addC_true f_s_l1Once_io_cc (addC_true f_s_CosetsOf_cc (addC_true f_s_l3List_cc (addC_true f_s_l1Below_io_cc (addC_true f_s_l3Set_io_cc (addC_true f_s_FindTile_cc (noC_true))))))))
theorem f_s_l20Pair_io_o : loopsOnce Try.f46 = true := by kernel_rfl
def f_s_l20Pair_io_hg15 : List Sh := [.p .sl, .p (.int .i64), .p (.int .i64), .p .sl, .p .sl, .u, .p (.pt 0 3), .u, .p (.pt 3 1), .u, .u, .p (.pt 4 1), .u, .u, .u, .u, .u, .u, .p (.int .i64), .u, .u, .u, .u, .u, .u, .u, .u, .u, .u, .u, .u, .u, .u, .u, .u, .u, .u, .u, .u, .u, .u, .u, .u, .u, .u, .u, .u, .u, .u, .u, .u, .u, .u, .u, .u, .u, .u, .u, .u, .u, .u, .u, .u, .u, .u, .u, .u, .u, .u, .u, .u, .u, .u, .u, .u, .u, .u, .u, .u, .u, .u]
def f_s_l20Pair_io_frg15 (v0 : List Sc) (v1 : Int) (v2 : Int) (v3 : List Sc) (v4 : List Sc) (t12 : Int) : List AV := enc f_s_l20Pair_io_hg15 [.l v0, .i v1, .i v2, .l v3, .l v4, .i t12]
def f_s_l20Pair_io_xg15 (v0 : List Sc) (v1 : Int) (v2 : Int) (v3 : List Sc) (v4 : List Sc) (t12 : Int) (e : List Sc × Int × Int × Int) : X × List AV := (.norm, enc [.p .sl, .p (.int .i64), .p (.int .i64), .p .sl, .u, .u, .u, .u, .p (.pt 3 1), .p (.int .i64), .p (.int .i64), .u, .u, .u, .u, .u, .u, .u, .u, .u, .u, .u, .u, .u, .u, .u, .u, .u, .u, .u, .u, .u, .u, .u, .u, .u, .u, .u, .u, .u, .u, .u, .u, .u, .u, .u, .u, .u, .u, .u, .u, .u, .u, .u, .u, .u, .u, .u, .u, .u, .u, .u, .u, .u, .u, .u, .u, .u, .u, .u, .u, .u, .u, .u, .u, .u, .u, .u, .u, .u, .u] [.l e.1, .i e.2.1, .i e.2.2.1, .l v4, .i t12, .i e.2.2.2])
theorem f_s_l20Pair_io_pg15 {R : Type} (v0 : List Sc) (v1 : Int) (v2 : Int) (v3 : List Sc) (v4 : List Sc) (t12 : Int) (kA : List Sc × Int × Int × Int → Option R) : f_s_l20Pair_io_g15_k v0 v1 v2 v3 v4 t12 kA = (f_s_l20Pair_io_g15 v0 v1 v2 v3 v4 t12).bind kA := by
  simp only [f_s_l20Pair_io_g15_k, f_s_l20Pair_io_g15, boB, someB]
theorem f_s_l20Pair_io_bg15 : bodyOf Try.f46 100015 = .region 15 (opsAt (bodyOf Try.f46 100015)) true := by kernel_rfl
def f_s_l20Pair_io_Dg15 : List (Array Bool) := [#[false, false, false, false, false, false, false, false], #[true, false, false, false, false, false, false, false], #[false, true, false, false, false, false, false, false], #[false, false, true, false, false, false, false, false], #[false, false, false, true, false, false, false, false], #[true, true, false, false, false, false, false, false], #[true, false, true, false, false, false, false, false], #[true, false, false, true, false, false, false, false], #[false, true, true, false, false, false, false, false], #[false, true, false, true, false, false, false, false], #[false, false, true, true, false, false, false, false], #[true, true, true, false, false, false, false, false], #[true, true, false, true, false, false, false, false], #[true, false, true, true, false, false, false, false], #[false, true, true, true, false, false, false, false], #[false, false, true, true, true, false, false, false], #[true, true, true, true, false, false, false, false], #[true, false, true, true, true, false, false, false], #[false, true, true, true, true, false, false, false], #[true, true, true, true, true, false, false, false], #[true, false, true, true, true, true, false, false], #[true, true, true, true, true, true, false, false], #[true, true, true, true, true, true, true, false], #[true, true, true, true, true, true, true, true]]
theorem f_s_l20Pair_io_cg15 : closedB (opsAt (bodyOf Try.f46 100015)) f_s_l20Pair_io_Dg15 = true := by kernel_rfl
def f_s_l20Pair_io_sg15_0 (v0 : List Sc) (v1 : Int) (v2 : Int) (v3 : List Sc) (v4 : List Sc) (t12 : Int) (fr : List AV) : Option (List AV) :=
  some (setAll [] fr)
def f_s_l20Pair_io_sg15_1 (v0 : List Sc) (v1 : Int) (v2 : Int) (v3 : List Sc) (v4 : List Sc) (t12 : Int) (fr : List AV) : Option (List AV) :=
  some (setAll [(76, .p (.gr v4))] fr)
def f_s_l20Pair_io_sg15_2 (v0 : List Sc) (v1 : Int) (v2 : Int) (v3 : List Sc) (v4 : List Sc) (t12 : Int) (fr : List AV) : Option (List AV) :=
  some (setAll [(77, .p (.sc (Sc.n .i64 t12)))] fr)
def f_s_l20Pair_io_sg15_4 (v0 : List Sc) (v1 : Int) (v2 : Int) (v3 : List Sc) (v4 : List Sc) (t12 : Int) (fr : List AV) : Option (List AV) :=
  some (setAll [(78, .p (.pt 0 3))] fr)
def f_s_l20Pair_io_sg15_8 (v0 : List Sc) (v1 : Int) (v2 : Int) (v3 : List Sc) (v4 : List Sc) (t12 : Int) (fr : List AV) : Option (List AV) :=
  some (setAll [(79, .p (.gr v4))] fr)
def f_s_l20Pair_io_sg15_3 (v0 : List Sc) (v1 : Int) (v2 : Int) (v3 : List Sc) (v4 : List Sc) (t12 : Int) (fr : List AV) : Option (List AV) :=
  some (setAll [(76, .p (.gr v4)), (77, .p (.sc (Sc.n .i64 t12)))] fr)
def f_s_l20Pair_io_sg15_5 (v0 : List Sc) (v1 : Int) (v2 : Int) (v3 : List Sc) (v4 : List Sc) (t12 : Int) (fr : List AV) : Option (List AV) :=
  some (setAll [(76, .p (.gr v4)), (78, .p (.pt 0 3))] fr)
def f_s_l20Pair_io_sg15_9 (v0 : List Sc) (v1 : Int) (v2 : Int) (v3 : List Sc) (v4 : List Sc) (t12 : Int) (fr : List AV) : Option (List AV) :=
  some (setAll [(76, .p (.gr v4)), (79, .p (.gr v4))] fr)
def f_s_l20Pair_io_sg15_6 (v0 : List Sc) (v1 : Int) (v2 : Int) (v3 : List Sc) (v4 : List Sc) (t12 : Int) (fr : List AV) : Option (List AV) :=
  some (setAll [(77, .p (.sc (Sc.n .i64 t12))), (78, .p (.pt 0 3))] fr)
def f_s_l20Pair_io_sg15_10 (v0 : List Sc) (v1 : Int) (v2 : Int) (v3 : List Sc) (v4 : List Sc) (t12 : Int) (fr : List AV) : Option (List AV) :=
  some (setAll [(77, .p (.sc (Sc.n .i64 t12))), (79, .p (.gr v4))] fr)
def f_s_l20Pair_io_sg15_12 (v0 : List Sc) (v1 : Int) (v2 : Int) (v3 : List Sc) (v4 : List Sc) (t12 : Int) (fr : List AV) : Option (List AV) :=
  some (setAll [(78, .p (.pt 0 3)), (79, .p (.gr v4))] fr)
def f_s_l20Pair_io_sg15_7 (v0 : List Sc) (v1 : Int) (v2 : Int) (v3 : List Sc) (v4 : List Sc) (t12 : Int) (fr : List AV) : Option (List AV) :=
  some (setAll [(76, .p (.gr v4)), (77, .p (.sc (Sc.n .i64 t12))), (78, .p (.pt 0 3))] fr)
def f_s_l20Pair_io_sg15_11 (v0 : List Sc) (v1 : Int) (v2 : Int) (v3 : List Sc) (v4 : List Sc) (t12 : Int) (fr : List AV) : Option (List AV) :=
  some (setAll [(76, .p (.gr v4)), (77, .p (.sc (Sc.n .i64 t12))), (79, .p (.gr v4))] fr)
def f_s_l20Pair_io_sg15_13 (v0 : List Sc) (v1 : Int) (v2 : Int) (v3 : List Sc) (v4 : List Sc) (t12 : Int) (fr : List AV) : Option (List AV) :=
  some (setAll [(76, .p (.gr v4)), (78, .p (.pt 0 3)), (79, .p (.gr v4))] fr)
def f_s_l20Pair_io_sg15_14 (v0 : List Sc) (v1 : Int) (v2 : Int) (v3 : List Sc) (v4 : List Sc) (t12 : Int) (fr : List AV) : Option (List AV) :=
  some (setAll [(77, .p (.sc (Sc.n .i64 t12))), (78, .p (.pt 0 3)), (79, .p (.gr v4))] fr)
def f_s_l20Pair_io_sg15_28 (v0 : List Sc) (v1 : Int) (v2 : Int) (v3 : List Sc) (v4 : List Sc) (t12 : Int) (fr : List AV) : Option (List AV) :=
  bo (f_s_l3Set_io v4 v0 v1 v2) (0, [], 0, 0) fun r11 =>
  some (setAll [(0, .p (.sl r11.2.1)), (1, .p (.sc (Sc.n .i64 r11.2.2.1))), (2, .p (.sc (Sc.n .i64 r11.2.2.2))), (78, .p (.pt 0 3)), (79, .p (.gr v4)), (80, .p (.sc (Sc.n .i64 r11.1)))] fr)
def f_s_l20Pair_io_sg15_15 (v0 : List Sc) (v1 : Int) (v2 : Int) (v3 : List Sc) (v4 : List Sc) (t12 : Int) (fr : List AV) : Option (List AV) :=
  some (setAll [(76, .p (.gr v4)), (77, .p (.sc (Sc.n .i64 t12))), (78, .p (.pt 0 3)), (79, .p (.gr v4))] fr)
def f_s_l20Pair_io_sg15_29 (v0 : List Sc) (v1 : Int) (v2 : Int) (v3 : List Sc) (v4 : List Sc) (t12 : Int) (fr : List AV) : Option (List AV) :=
  bo (f_s_l3Set_io v4 v0 v1 v2) (0, [], 0, 0) fun r12 =>
  some (setAll [(0, .p (.sl r12.2.1)), (1, .p (.sc (Sc.n .i64 r12.2.2.1))), (2, .p (.sc (Sc.n .i64 r12.2.2.2))), (76, .p (.gr v4)), (78, .p (.pt 0 3)), (79, .p (.gr v4)), (80, .p (.sc (Sc.n .i64 r12.1)))] fr)
def f_s_l20Pair_io_sg15_30 (v0 : List Sc) (v1 : Int) (v2 : Int) (v3 : List Sc) (v4 : List Sc) (t12 : Int) (fr : List AV) : Option (List AV) :=
  bo (f_s_l3Set_io v4 v0 v1 v2) (0, [], 0, 0) fun r13 =>
  some (setAll [(0, .p (.sl r13.2.1)), (1, .p (.sc (Sc.n .i64 r13.2.2.1))), (2, .p (.sc (Sc.n .i64 r13.2.2.2))), (77, .p (.sc (Sc.n .i64 t12))), (78, .p (.pt 0 3)), (79, .p (.gr v4)), (80, .p (.sc (Sc.n .i64 r13.1)))] fr)
def f_s_l20Pair_io_sg15_31 (v0 : List Sc) (v1 : Int) (v2 : Int) (v3 : List Sc) (v4 : List Sc) (t12 : Int) (fr : List AV) : Option (List AV) :=
  bo (f_s_l3Set_io v4 v0 v1 v2) (0, [], 0, 0) fun r14 =>
  some (setAll [(0, .p (.sl r14.2.1)), (1, .p (.sc (Sc.n .i64 r14.2.2.1))), (2, .p (.sc (Sc.n .i64 r14.2.2.2))), (76, .p (.gr v4)), (77, .p (.sc (Sc.n .i64 t12))), (78, .p (.pt 0 3)), (79, .p (.gr v4)), (80, .p (.sc (Sc.n .i64 r14.1)))] fr)
def f_s_l20Pair_io_sg15_61 (v0 : List Sc) (v1 : Int) (v2 : Int) (v3 : List Sc) (v4 : List Sc) (t12 : Int) (fr : List AV) : Option (List AV) :=
  bo (f_s_l3Set_io v4 v0 v1 v2) (0, [], 0, 0) fun r15 =>
  some (setAll [(0, .p (.sl r15.2.1)), (1, .p (.sc (Sc.n .i64 r15.2.2.1))), (2, .p (.sc (Sc.n .i64 r15.2.2.2))), (3, .p (.sl v4)), (76, .p (.gr v4)), (78, .p (.pt 0 3)), (79, .p (.gr v4)), (80, .p (.sc (Sc.n .i64 r15.1)))] fr)
def f_s_l20Pair_io_sg15_63 (v0 : List Sc) (v1 : Int) (v2 : Int) (v3 : List Sc) (v4 : List Sc) (t12 : Int) (fr : List AV) : Option (List AV) :=
  bo (f_s_l3Set_io v4 v0 v1 v2) (0, [], 0, 0) fun r16 =>
  some (setAll [(0, .p (.sl r16.2.1)), (1, .p (.sc (Sc.n .i64 r16.2.2.1))), (2, .p (.sc (Sc.n .i64 r16.2.2.2))), (3, .p (.sl v4)), (76, .p (.gr v4)), (77, .p (.sc (Sc.n .i64 t12))), (78, .p (.pt 0 3)), (79, .p (.gr v4)), (80, .p (.sc (Sc.n .i64 r16.1)))] fr)
def f_s_l20Pair_io_sg15_127 (v0 : List Sc) (v1 : Int) (v2 : Int) (v3 : List Sc) (v4 : List Sc) (t12 : Int) (fr : List AV) : Option (List AV) :=
  bo (f_s_l3Set_io v4 v0 v1 v2) (0, [], 0, 0) fun r17 =>
  some (setAll [(0, .p (.sl r17.2.1)), (1, .p (.sc (Sc.n .i64 r17.2.2.1))), (2, .p (.sc (Sc.n .i64 r17.2.2.2))), (3, .p (.sl v4)), (9, .p (.sc (Sc.n .i64 t12))), (76, .p (.gr v4)), (77, .p (.sc (Sc.n .i64 t12))), (78, .p (.pt 0 3)), (79, .p (.gr v4)), (80, .p (.sc (Sc.n .i64 r17.1)))] fr)
def f_s_l20Pair_io_sg15_255 (v0 : List Sc) (v1 : Int) (v2 : Int) (v3 : List Sc) (v4 : List Sc) (t12 : Int) (fr : List AV) : Option (List AV) :=
  bo (f_s_l3Set_io v4 v0 v1 v2) (0, [], 0, 0) fun r18 =>
  some (setAll [(0, .p (.sl r18.2.1)), (1, .p (.sc (Sc.n .i64 r18.2.2.1))), (2, .p (.sc (Sc.n .i64 r18.2.2.2))), (3, .p (.sl v4)), (9, .p (.sc (Sc.n .i64 t12))), (10, .p (.sc (Sc.n .i64 r18.1))), (76, .p (.gr v4)), (77, .p (.sc (Sc.n .i64 t12))), (78, .p (.pt 0 3)), (79, .p (.gr v4)), (80, .p (.sc (Sc.n .i64 r18.1)))] fr)
def f_s_l20Pair_io_Eg15 (v0 : List Sc) (v1 : Int) (v2 : Int) (v3 : List Sc) (v4 : List Sc) (t12 : Int) (fr : List AV) : List (Option (List AV)) := [f_s_l20Pair_io_sg15_1 v0 v1 v2 v3 v4 t12 fr, f_s_l20Pair_io_sg15_2 v0 v1 v2 v3 v4 t12 fr, f_s_l20Pair_io_sg15_4 v0 v1 v2 v3 v4 t12 fr, f_s_l20Pair_io_sg15_8 v0 v1 v2 v3 v4 t12 fr, f_s_l20Pair_io_sg15_3 v0 v1 v2 v3 v4 t12 fr, f_s_l20Pair_io_sg15_5 v0 v1 v2 v3 v4 t12 fr, f_s_l20Pair_io_sg15_9 v0 v1 v2 v3 v4 t12 fr, f_s_l20Pair_io_sg15_3 v0 v1 v2 v3 v4 t12 fr, f_s_l20Pair_io_sg15_6 v0 v1 v2 v3 v4 t12 fr, f_s_l20Pair_io_sg15_10 v0 v1 v2 v3 v4 t12 fr, f_s_l20Pair_io_sg15_5 v0 v1 v2 v3 v4 t12 fr, f_s_l20Pair_io_sg15_6 v0 v1 v2 v3 v4 t12 fr, f_s_l20Pair_io_sg15_12 v0 v1 v2 v3 v4 t12 fr, f_s_l20Pair_io_sg15_9 v0 v1 v2 v3 v4 t12 fr, f_s_l20Pair_io_sg15_10 v0 v1 v2 v3 v4 t12 fr, f_s_l20Pair_io_sg15_12 v0 v1 v2 v3 v4 t12 fr, f_s_l20Pair_io_sg15_7 v0 v1 v2 v3 v4 t12 fr, f_s_l20Pair_io_sg15_11 v0 v1 v2 v3 v4 t12 fr, f_s_l20Pair_io_sg15_7 v0 v1 v2 v3 v4 t12 fr, f_s_l20Pair_io_sg15_13 v0 v1 v2 v3 v4 t12 fr, f_s_l20Pair_io_sg15_11 v0 v1 v2 v3 v4 t12 fr, f_s_l20Pair_io_sg15_13 v0 v1 v2 v3 v4 t12 fr, f_s_l20Pair_io_sg15_7 v0 v1 v2 v3 v4 t12 fr, f_s_l20Pair_io_sg15_14 v0 v1 v2 v3 v4 t12 fr, f_s_l20Pair_io_sg15_11 v0 v1 v2 v3 v4 t12 fr, f_s_l20Pair_io_sg15_14 v0 v1 v2 v3 v4 t12 fr, f_s_l20Pair_io_sg15_13 v0 v1 v2 v3 v4 t12 fr, f_s_l20Pair_io_sg15_14 v0 v1 v2 v3 v4 t12 fr, f_s_l20Pair_io_sg15_28 v0 v1 v2 v3 v4 t12 fr, f_s_l20Pair_io_sg15_15 v0 v1 v2 v3 v4 t12 fr, f_s_l20Pair_io_sg15_15 v0 v1 v2 v3 v4 t12 fr, f_s_l20Pair_io_sg15_15 v0 v1 v2 v3 v4 t12 fr, f_s_l20Pair_io_sg15_29 v0 v1 v2 v3 v4 t12 fr, f_s_l20Pair_io_sg15_15 v0 v1 v2 v3 v4 t12 fr, f_s_l20Pair_io_sg15_30 v0 v1 v2 v3 v4 t12 fr, f_s_l20Pair_io_sg15_29 v0 v1 v2 v3 v4 t12 fr, f_s_l20Pair_io_sg15_30 v0 v1 v2 v3 v4 t12 fr, f_s_l20Pair_io_sg15_31 v0 v1 v2 v3 v4 t12 fr, f_s_l20Pair_io_sg15_31 v0 v1 v2 v3 v4 t12 fr, f_s_l20Pair_io_sg15_61 v0 v1 v2 v3 v4 t12 fr, f_s_l20Pair_io_sg15_31 v0 v1 v2 v3 v4 t12 fr, f_s_l20Pair_io_sg15_63 v0 v1 v2 v3 v4 t12 fr, f_s_l20Pair_io_sg15_63 v0 v1 v2 v3 v4 t12 fr, f_s_l20Pair_io_sg15_127 v0 v1 v2 v3 v4 t12 fr, f_s_l20Pair_io_sg15_255 v0 v1 v2 v3 v4 t12 fr]
theorem f_s_l20Pair_io_dLg15 (v0 : List Sc) (v1 : Int) (v2 : Int) (v3 : List Sc) (v4 : List Sc) (t12 : Int) : edgeL E0 f_s_l20Pair_io_M H0 f_s_l20Pair_io_F (opsAt (bodyOf Try.f46 100015)) f_s_l20Pair_io_Dg15 (f_s_l20Pair_io_frg15 v0 v1 v2 v3 v4 t12) = f_s_l20Pair_io_Eg15 v0 v1 v2 v3 v4 t12 (f_s_l20Pair_io_frg15 v0 v1 v2 v3 v4 t12) := by kernel_rfl
theorem f_s_l20Pair_io_dRg15 (v0 : List Sc) (v1 : Int) (v2 : Int) (v3 : List Sc) (v4 : List Sc) (t12 : Int) : edgeR E0 f_s_l20Pair_io_M H0 f_s_l20Pair_io_F (opsAt (bodyOf Try.f46 100015)) f_s_l20Pair_io_Dg15 (f_s_l20Pair_io_frg15 v0 v1 v2 v3 v4 t12) = f_s_l20Pair_io_Eg15 v0 v1 v2 v3 v4 t12 (f_s_l20Pair_io_frg15 v0 v1 v2 v3 v4 t12) := by kernel_rfl
theorem f_s_l20Pair_io_dg15 (v0 : List Sc) (v1 : Int) (v2 : Int) (v3 : List Sc) (v4 : List Sc) (t12 : Int) : edgeL E0 f_s_l20Pair_io_M H0 f_s_l20Pair_io_F (opsAt (bodyOf Try.f46 100015)) f_s_l20Pair_io_Dg15 (f_s_l20Pair_io_frg15 v0 v1 v2 v3 v4 t12) = edgeR E0 f_s_l20Pair_io_M H0 f_s_l20Pair_io_F (opsAt (bodyOf Try.f46 100015)) f_s_l20Pair_io_Dg15 (f_s_l20Pair_io_frg15 v0 v1 v2 v3 v4 t12) := (f_s_l20Pair_io_dLg15 v0 v1 v2 v3 v4 t12).trans (f_s_l20Pair_io_dRg15 v0 v1 v2 v3 v4 t12).symm
theorem f_s_l20Pair_io_eg15 (v0 : List Sc) (v1 : Int) (v2 : Int) (v3 : List Sc) (v4 : List Sc) (t12 : Int) : goL E0 f_s_l20Pair_io_M H0 f_s_l20Pair_io_F (opsAt (bodyOf Try.f46 100015)) (Array.replicate (opsAt (bodyOf Try.f46 100015)).size true) (opsAt (bodyOf Try.f46 100015)).toList 0 (f_s_l20Pair_io_frg15 v0 v1 v2 v3 v4 t12) (fun s => some (X.norm, clear (klOf f_s_l20Pair_io_F 100015).2.1 s)) = f_s_l20Pair_io_g15_k v0 v1 v2 v3 v4 t12 (fun e => some (f_s_l20Pair_io_xg15 v0 v1 v2 v3 v4 t12 e)) := by kernel_rfl
theorem f_s_l20Pair_io_lg15 (v0 : List Sc) (v1 : Int) (v2 : Int) (v3 : List Sc) (v4 : List Sc) (t12 : Int) (r : List Sc × Int × Int × Int) (h : f_s_l20Pair_io_g15 v0 v1 v2 v3 v4 t12 = some r) : LS Try.prog f_s_l20Pair_io_F (bodyOf Try.f46 100015) (f_s_l20Pair_io_frg15 v0 v1 v2 v3 v4 t12) (f_s_l20Pair_io_xg15 v0 v1 v2 v3 v4 t12 r) :=
  region_true (S := Unit) (id := 15) (G := fun _ => f_s_l20Pair_io_g15 v0 v1 v2 v3 v4 t12) (Gk := fun _ k => f_s_l20Pair_io_g15_k v0 v1 v2 v3 v4 t12 k) (fr := fun _ => f_s_l20Pair_io_frg15 v0 v1 v2 v3 v4 t12) (f1 := fun e => f_s_l20Pair_io_xg15 v0 v1 v2 v3 v4 t12 e) E0ok f_s_l20Pair_io_Mt f_s_l20Pair_io_bg15 f_s_l20Pair_io_cg15 (fun _ => f_s_l20Pair_io_dg15 v0 v1 v2 v3 v4 t12) (fun _ => rfl) (fun _ => f_s_l20Pair_io_eg15 v0 v1 v2 v3 v4 t12) (fun _ k => f_s_l20Pair_io_pg15 v0 v1 v2 v3 v4 t12 k) () r h
def f_s_l20Pair_io_tg15 (σ : List AV) : Option (Bool × Bool × (X × List AV) × (X × List AV)) := match dec f_s_l20Pair_io_hg15 σ with
  | some [.l v0, .i v1, .i v2, .l v3, .l v4, .i t12] => some ((f_s_l20Pair_io_g15 v0 v1 v2 v3 v4 t12).isSome, true, f_s_l20Pair_io_xg15 v0 v1 v2 v3 v4 t12 ((f_s_l20Pair_io_g15 v0 v1 v2 v3 v4 t12).getD ([], 0, 0, 0)), (.ret, []))
  | _ => none
theorem f_s_l20Pair_io_ttg15 : TTrue Try.prog f_s_l20Pair_io_F Try.f46 100015 f_s_l20Pair_io_tg15 := by
  intro σ p r r' h
  unfold f_s_l20Pair_io_tg15 at h
  split at h
  · rename_i hd
    rw [← dec_enc hd]
    exact rowR (f_s_l20Pair_io_lg15 _ _ _ _ _ _) h
  · cases h
def f_s_l20Pair_io_h0 : List Sh := [.p .sl, .p (.int .i64), .p (.int .i64), .p .sl, .p .sl, .u, .p (.pt 0 3), .u, .p (.pt 3 1), .u, .u, .p (.pt 4 1), .p (.int .i64), .own 3, .u, .p (.int .i64), .p (.int .i64), .u, .u, .u, .u, .u, .u, .u, .u, .u, .u, .u, .u, .u, .u, .u, .u, .u, .u, .u, .u, .u, .u, .u, .u, .u, .u, .u, .u, .u, .u, .u, .u, .u, .u, .u, .u, .u, .u, .u, .u, .u, .u, .u, .u, .u, .u, .u, .u, .u, .u, .u, .u, .u, .u, .u, .u, .u, .u, .u, .u, .u, .u, .u, .u]
def f_s_l20Pair_io_fr0 (t6 : Int) (s : List Sc × Int × Int × List Sc × List Sc × List Sc × Int × Int) : List AV := enc f_s_l20Pair_io_h0 [.l s.1, .i s.2.1, .i s.2.2.1, .l s.2.2.2.1, .l s.2.2.2.2.1, .i t6, .l s.2.2.2.2.2.1, .i s.2.2.2.2.2.2.1, .i s.2.2.2.2.2.2.2]
def f_s_l20Pair_io_g0_1 : List Sh := [.p .sl, .p (.int .i64), .p (.int .i64), .p .sl, .p .sl, .u, .u, .u, .p (.pt 3 1), .u, .u, .p (.pt 4 1), .p (.int .i64), .u, .u, .p (.int .i64), .u, .u, .u, .u, .u, .u, .u, .u, .u, .u, .u, .u, .u, .u, .u, .u, .u, .u, .u, .u, .u, .u, .u, .u, .u, .u, .u, .u, .u, .u, .u, .u, .u, .u, .u, .u, .u, .u, .u, .u, .u, .u, .u, .u, .u, .u, .u, .u, .u, .u, .u, .u, .u, .u, .u, .u, .u, .u, .u, .u, .u, .u, .u, .u, .u]
def f_s_l20Pair_io_x0_1 (t6 : Int) (e : List Sc × Int × Int × List Sc × List Sc × Int) : X × List AV := (.out 0, enc f_s_l20Pair_io_g0_1 [.l e.1, .i e.2.1, .i e.2.2.1, .l e.2.2.2.1, .l e.2.2.2.2.1, .i t6, .i e.2.2.2.2.2])
def f_s_l20Pair_io_x0_2 (t6 : Int) (_e : Unit) : X × List AV := (.ret, [])
theorem f_s_l20Pair_io_p0 {R : Type} (t6 : Int) (s : List Sc × Int × Int × List Sc × List Sc × List Sc × Int × Int) (kN : List Sc × Int × Int × List Sc × List Sc × List Sc × Int × Int → Option R) (kA : List Sc × Int × Int × List Sc × List Sc × Int → Option R) (kB : Unit → Option R) : f_s_l20Pair_io_k0 t6 s.1 s.2.1 s.2.2.1 s.2.2.2.1 s.2.2.2.2.1 s.2.2.2.2.2.1 s.2.2.2.2.2.2.1 s.2.2.2.2.2.2.2 kN kA = (f_s_l20Pair_io_r0 t6 s).bind (Ro.el kN kA kB) := by
  simp only [f_s_l20Pair_io_k0, f_s_l20Pair_io_r0, brB, boB, someB, noneB, Ro.el]
theorem f_s_l20Pair_io_e0 (t6 : Int) (s : List Sc × Int × Int × List Sc × List Sc × List Sc × Int × Int) : EC E0 f_s_l20Pair_io_M H0 f_s_l20Pair_io_F (asL (addL 100015 f_s_l20Pair_io_tg15 (noL))) 0 (bodyOf Try.f46 0) (f_s_l20Pair_io_fr0 t6 s) (done (klOf f_s_l20Pair_io_F 0)) = f_s_l20Pair_io_k0 t6 s.1 s.2.1 s.2.2.1 s.2.2.2.1 s.2.2.2.2.1 s.2.2.2.2.2.1 s.2.2.2.2.2.2.1 s.2.2.2.2.2.2.2 (fun s => some (.norm, f_s_l20Pair_io_fr0 t6 s)) (fun e => some (f_s_l20Pair_io_x0_1 t6 e)) := by kernel_rfl
theorem f_s_l20Pair_io_l0 (t6 : Int) : ∀ s r, loopL (f_s_l20Pair_io_r0 t6) s = some r → LS Try.prog f_s_l20Pair_io_F (bodyOf Try.f46 0) (f_s_l20Pair_io_fr0 t6 s) (enX (f_s_l20Pair_io_x0_1 t6) (f_s_l20Pair_io_x0_2 t6) r) :=
  loop_true E0ok f_s_l20Pair_io_Mt (addL_true f_s_l20Pair_io_ttg15 (noL_true)) f_s_l20Pair_io_o (fun _ h => by cases h) (fun _ h => by cases h) (fun s => (f_s_l20Pair_io_e0 t6 s).trans (f_s_l20Pair_io_p0 t6 s _ _ (fun e => some (f_s_l20Pair_io_x0_2 t6 e))))
def f_s_l20Pair_io_t0 (σ : List AV) : Option (Bool × Bool × (X × List AV) × (X × List AV)) := match dec f_s_l20Pair_io_h0 σ with
  | some [.l v0, .i v1, .i v2, .l v3, .l v4, .i t6, .l t7, .i t9, .i t10] => some (isOne (loopL (f_s_l20Pair_io_r0 t6) (v0, v1, v2, v3, v4, t7, t9, t10)), true, f_s_l20Pair_io_x0_1 t6 (getOne ([], 0, 0, [], [], 0) (loopL (f_s_l20Pair_io_r0 t6) (v0, v1, v2, v3, v4, t7, t9, t10))), (.ret, []))
  | _ => none
theorem f_s_l20Pair_io_tt0 : TTrue Try.prog f_s_l20Pair_io_F Try.f46 0 (f_s_l20Pair_io_t0) := by
  intro σ p r r' h
  unfold f_s_l20Pair_io_t0 at h
  split at h
  · rename_i hd
    rw [← dec_enc hd]
    exact row1 (f_s_l20Pair_io_l0 _ _) h
  · cases h
theorem f_s_l20Pair_io_p {R : Type} (h0 : List Sc) (h1 : Int) (h2 : Int) (kR : List Sc × Int × Int × List Sc × Int × Int → Option R) : f_s_l20Pair_io_k h0 h1 h2 kR = (f_s_l20Pair_io_k h0 h1 h2 some).bind kR := by
  simp only [f_s_l20Pair_io_k, brB, boB, bl1B, someB]
theorem f_s_l20Pair_io_e (h0 : List Sc) (h1 : Int) (h2 : Int) : runFn E0 f_s_l20Pair_io_M H0 f_s_l20Pair_io_F (asL (addL 0 (f_s_l20Pair_io_t0) (addL 100015 f_s_l20Pair_io_tg15 (noL)))) Try.f46 (f_s_l20Pair_io_a h0 h1 h2) (f_s_l20Pair_io_i h0 h1 h2) = f_s_l20Pair_io_k h0 h1 h2 (fun r => some (f_s_l20Pair_io_en r)) := by kernel_rfl
theorem f_s_l20Pair_io_ok (h0 : List Sc) (h1 : Int) (h2 : Int) (r : List Sc × Int × Int × List Sc × Int × Int) (h : f_s_l20Pair_io h0 h1 h2 = some r) : CS Try.prog 46 (f_s_l20Pair_io_a h0 h1 h2) (f_s_l20Pair_io_i h0 h1 h2) (f_s_l20Pair_io_en r).1 (f_s_l20Pair_io_en r).2 :=
  fn_true (Gk := fun k => f_s_l20Pair_io_k h0 h1 h2 k) (en := f_s_l20Pair_io_en) Try.func46 E0ok f_s_l20Pair_io_Mt (addL_true (f_s_l20Pair_io_tt0) (addL_true f_s_l20Pair_io_ttg15 (noL_true))) f_s_l20Pair_io_o (f_s_l20Pair_io_e h0 h1 h2) (f_s_l20Pair_io_p h0 h1 h2) h
def f_s_l20Pair_io_c : CRow := fun args inh => match dec2 [.p (.pt 0 3)] [.p .sl, .p (.int .i64), .p (.int .i64)] args inh with
  | some ([], [.l h0, .i h1, .i h2]) => some ((f_s_l20Pair_io h0 h1 h2).isSome, (f_s_l20Pair_io_en ((f_s_l20Pair_io h0 h1 h2).getD ([], 0, 0, [], 0, 0))).1, (f_s_l20Pair_io_en ((f_s_l20Pair_io h0 h1 h2).getD ([], 0, 0, [], 0, 0))).2)
  | _ => none
theorem f_s_l20Pair_io_cc : CTrue Try.prog 46 f_s_l20Pair_io_c := by
  intro args inh rs out h
  unfold f_s_l20Pair_io_c at h
  split at h
  · rename_i hd
    obtain ⟨h1, h2⟩ := dec2_enc hd
    rw [← h1, ← h2]
    exact rowC (f_s_l20Pair_io_ok _ _ _) h
  · cases h

def f_s_l20Both_F : Fi := { nv := 5, nc := 5, m := 0, vt := [(2, 0), (5, 1), (10, 2)], kl := [], sk := [], mvs := [], fz := [] }
def f_s_l20Both_a (code0 : List Sc) : List AV := enc [.p .sl] [.l code0]
def f_s_l20Both_i (code0 : List Sc) : List AV := enc [] []
def f_s_l20Both_en (r : List Sc × Int × Int) : List AV × List AV := (enc [.p .gr, .p (.int .i64), .p (.int .i64)] [.l r.1, .i r.2.1, .i r.2.2], enc [] [])
def f_s_l20Both_M : Calling := addC 47 f_s_l1New_c (addC 46 f_s_l20Pair_io_c (noC))
theorem f_s_l20Both_Mt : CallOk Try.prog (f_s_l20Both_M) := addC_true f_s_l1New_cc (addC_true f_s_l20Pair_io_cc (noC_true))
theorem f_s_l20Both_o : loopsOnce Try.f27 = true := by kernel_rfl
theorem f_s_l20Both_p {R : Type} (code0 : List Sc) (kR : List Sc × Int × Int → Option R) : f_s_l20Both_k code0 kR = (f_s_l20Both_k code0 some).bind kR := by
  simp only [f_s_l20Both_k, boB, someB]
theorem f_s_l20Both_e (code0 : List Sc) : runFn E0 f_s_l20Both_M H0 f_s_l20Both_F (asL (noL)) Try.f27 (f_s_l20Both_a code0) (f_s_l20Both_i code0) = f_s_l20Both_k code0 (fun r => some (f_s_l20Both_en r)) := by kernel_rfl
theorem f_s_l20Both_ok (code0 : List Sc) (r : List Sc × Int × Int) (h : f_s_l20Both code0 = some r) : CS Try.prog 27 (f_s_l20Both_a code0) (f_s_l20Both_i code0) (f_s_l20Both_en r).1 (f_s_l20Both_en r).2 :=
  fn_true (Gk := fun k => f_s_l20Both_k code0 k) (en := f_s_l20Both_en) Try.func27 E0ok f_s_l20Both_Mt (noL_true) f_s_l20Both_o (f_s_l20Both_e code0) (f_s_l20Both_p code0) h
def f_s_l20Both_c : CRow := fun args inh => match dec2 [.p .sl] [] args inh with
  | some ([.l code0], []) => some ((f_s_l20Both code0).isSome, (f_s_l20Both_en ((f_s_l20Both code0).getD ([], 0, 0))).1, (f_s_l20Both_en ((f_s_l20Both code0).getD ([], 0, 0))).2)
  | _ => none
theorem f_s_l20Both_cc : CTrue Try.prog 27 f_s_l20Both_c := by
  intro args inh rs out h
  unfold f_s_l20Both_c at h
  split at h
  · rename_i hd
    obtain ⟨h1, h2⟩ := dec2_enc hd
    rw [← h1, ← h2]
    exact rowC (f_s_l20Both_ok _) h
  · cases h

def f_s_DrawTilesOf_F : Fi := { nv := 2, nc := 2, m := 0, vt := [(2, 0), (4, 1)], kl := [], sk := [], mvs := [], fz := [] }
def f_s_DrawTilesOf_a (code0 : List Sc) : List AV := enc [.p .sl] [.l code0]
def f_s_DrawTilesOf_i (code0 : List Sc) : List AV := enc [] []
def f_s_DrawTilesOf_en (r : List Sc × Int) : List AV × List AV := (enc [.p .gr, .p (.int .i64)] [.l r.1, .i r.2], enc [] [])
def f_s_DrawTilesOf_M : Calling := addC 27 f_s_l20Both_c (noC)
theorem f_s_DrawTilesOf_Mt : CallOk Try.prog (f_s_DrawTilesOf_M) := addC_true f_s_l20Both_cc (noC_true)
theorem f_s_DrawTilesOf_o : loopsOnce Try.f5 = true := by kernel_rfl
theorem f_s_DrawTilesOf_p {R : Type} (code0 : List Sc) (kR : List Sc × Int → Option R) : f_s_DrawTilesOf_k code0 kR = (f_s_DrawTilesOf_k code0 some).bind kR := by
  simp only [f_s_DrawTilesOf_k, boB, someB]
theorem f_s_DrawTilesOf_e (code0 : List Sc) : runFn E0 f_s_DrawTilesOf_M H0 f_s_DrawTilesOf_F (asL (noL)) Try.f5 (f_s_DrawTilesOf_a code0) (f_s_DrawTilesOf_i code0) = f_s_DrawTilesOf_k code0 (fun r => some (f_s_DrawTilesOf_en r)) := by kernel_rfl
theorem f_s_DrawTilesOf_ok (code0 : List Sc) (r : List Sc × Int) (h : f_s_DrawTilesOf code0 = some r) : CS Try.prog 5 (f_s_DrawTilesOf_a code0) (f_s_DrawTilesOf_i code0) (f_s_DrawTilesOf_en r).1 (f_s_DrawTilesOf_en r).2 :=
  fn_true (Gk := fun k => f_s_DrawTilesOf_k code0 k) (en := f_s_DrawTilesOf_en) Try.func5 E0ok f_s_DrawTilesOf_Mt (noL_true) f_s_DrawTilesOf_o (f_s_DrawTilesOf_e code0) (f_s_DrawTilesOf_p code0) h
def f_s_DrawTilesOf_c : CRow := fun args inh => match dec2 [.p .sl] [] args inh with
  | some ([.l code0], []) => some ((f_s_DrawTilesOf code0).isSome, (f_s_DrawTilesOf_en ((f_s_DrawTilesOf code0).getD ([], 0))).1, (f_s_DrawTilesOf_en ((f_s_DrawTilesOf code0).getD ([], 0))).2)
  | _ => none
theorem f_s_DrawTilesOf_cc : CTrue Try.prog 5 f_s_DrawTilesOf_c := by
  intro args inh rs out h
  unfold f_s_DrawTilesOf_c at h
  split at h
  · rename_i hd
    obtain ⟨h1, h2⟩ := dec2_enc hd
    rw [← h1, ← h2]
    exact rowC (f_s_DrawTilesOf_ok _) h
  · cases h

def f_i_within_F : Fi := { nv := 0, nc := 0, m := 0, vt := [], kl := [], sk := [], mvs := [], fz := [] }
def f_i_within_a (x0 : Int) (lo1 : Int) (hi2 : Int) : List AV := enc [.p (.int .i64), .p (.int .i64), .p (.int .i64)] [.i x0, .i lo1, .i hi2]
def f_i_within_i (x0 : Int) (lo1 : Int) (hi2 : Int) : List AV := enc [] []
def f_i_within_en (r : Bool) : List AV × List AV := (enc [.p .boo] [.b r], enc [] [])
def f_i_within_M : Calling := noC
theorem f_i_within_Mt : CallOk Try.prog (f_i_within_M) := noC_true
theorem f_i_within_o : loopsOnce Try.f62 = true := by kernel_rfl
theorem f_i_within_p {R : Type} (x0 : Int) (lo1 : Int) (hi2 : Int) (kR : Bool → Option R) : f_i_within_k x0 lo1 hi2 kR = (f_i_within_k x0 lo1 hi2 some).bind kR := by
  simp only [f_i_within_k, brB, someB]
theorem f_i_within_e (x0 : Int) (lo1 : Int) (hi2 : Int) : runFn E0 f_i_within_M H0 f_i_within_F (asL (noL)) Try.f62 (f_i_within_a x0 lo1 hi2) (f_i_within_i x0 lo1 hi2) = f_i_within_k x0 lo1 hi2 (fun r => some (f_i_within_en r)) := by kernel_rfl
theorem f_i_within_ok (x0 : Int) (lo1 : Int) (hi2 : Int) (r : Bool) (h : f_i_within x0 lo1 hi2 = some r) : CS Try.prog 62 (f_i_within_a x0 lo1 hi2) (f_i_within_i x0 lo1 hi2) (f_i_within_en r).1 (f_i_within_en r).2 :=
  fn_true (Gk := fun k => f_i_within_k x0 lo1 hi2 k) (en := f_i_within_en) Try.func62 E0ok f_i_within_Mt (noL_true) f_i_within_o (f_i_within_e x0 lo1 hi2) (f_i_within_p x0 lo1 hi2) h
def f_i_within_c : CRow := fun args inh => match dec2 [.p (.int .i64), .p (.int .i64), .p (.int .i64)] [] args inh with
  | some ([.i x0, .i lo1, .i hi2], []) => some ((f_i_within x0 lo1 hi2).isSome, (f_i_within_en ((f_i_within x0 lo1 hi2).getD false)).1, (f_i_within_en ((f_i_within x0 lo1 hi2).getD false)).2)
  | _ => none
theorem f_i_within_cc : CTrue Try.prog 62 f_i_within_c := by
  intro args inh rs out h
  unfold f_i_within_c at h
  split at h
  · rename_i hd
    obtain ⟨h1, h2⟩ := dec2_enc hd
    rw [← h1, ← h2]
    exact rowC (f_i_within_ok _ _ _) h
  · cases h
end
end Go.Proofs.Ytgbjlmhokkhiaaa
