/-
  That the program computes just that (printed by gen2.py).
-/
import Derived.Test.YtdocbpiocinllaaShal
import Derived.Test.YtdocbpiocinllaaRows
import Derived.WalkKit
import Derived.Test.YtdocbpiocinllaaCmpF
set_option linter.unusedVariables false
set_option linter.unusedSimpArgs false
namespace Go.Proofs.Ytdocbpiocinllaa
open Go Ev
noncomputable section
def E0 : Env := { sl := [(22, 3, .n .i64 0), (31, 1000022, .l []), (37, 2000031, .l [])], gr := [(24, 22), (27, 22)], sc := [3, 4, 5, 9, 21, 72, 78, 86, 88, 97], bl := [4], ik := [(3, .i64), (5, .u8), (21, .i32), (72, .u64), (78, .i64), (86, .u32), (88, .u64), (97, .u64)], st := [9], one := [3, 4, 5, 9, 21, 72, 78, 86, 88, 97, 22, 31, 37, 1, 25, 26, 28, 29, 30, 33, 34, 35, 36, 39, 40, 41, 42, 43, 44, 45, 46, 48, 49, 50, 51, 52, 53, 54, 55, 56, 57, 58, 59, 60, 61, 62, 63, 64, 65, 66, 67, 68, 69, 70, 71, 74, 75, 76, 77, 80, 81, 82, 84, 85, 87, 89, 90, 91, 92, 93, 94, 95, 96, 98, 99, 100, 102, 103, 104, 106, 107, 108, 114, 117], al := [(3, [.sc (.n .i64 0)]), (4, [.sc (.b false)]), (5, [.sc (.n .u8 0)]), (9, [.sc (.s ByteArray.empty)]), (21, [.sc (.n .i32 0)]), (72, [.sc (.n .u64 0)]), (78, [.sc (.n .i64 0)]), (86, [.sc (.n .u32 0)]), (88, [.sc (.n .u64 0)]), (97, [.sc (.n .u64 0)]), (22, [.sl]), (31, [.sl]), (37, [.sl]), (1, [.fn]), (24, [.sl]), (25, [.fn]), (26, [.fn]), (27, [.sl]), (28, [.fn]), (29, [.fn]), (30, [.fn]), (33, [.fn]), (34, [.fn]), (35, [.fn]), (36, [.fn]), (39, [.fn]), (40, [.fn]), (41, [.fn]), (42, [.fn]), (43, [.fn]), (44, [.fn]), (45, [.fn]), (46, [.fn]), (48, [.fn]), (49, [.fn]), (50, [.fn]), (51, [.fn]), (52, [.fn]), (53, [.fn]), (54, [.fn]), (55, [.fn]), (56, [.fn]), (57, [.fn]), (58, [.fn]), (59, [.fn]), (60, [.fn]), (61, [.fn]), (62, [.fn]), (63, [.fn]), (64, [.fn]), (65, [.fn]), (66, [.fn]), (67, [.fn]), (68, [.fn]), (69, [.fn]), (70, [.fn]), (71, [.fn]), (74, [.fn]), (75, [.fn]), (76, [.fn]), (77, [.fn]), (80, [.fn]), (81, [.fn]), (82, [.fn]), (84, [.fn]), (85, [.fn]), (87, [.fn]), (89, [.fn]), (90, [.fn]), (91, [.fn]), (92, [.fn]), (93, [.fn]), (94, [.fn]), (95, [.fn]), (96, [.fn]), (98, [.fn]), (99, [.fn]), (100, [.fn]), (102, [.fn]), (103, [.fn]), (104, [.fn]), (106, [.fn]), (107, [.fn]), (108, [.fn]), (114, [.fn]), (117, [.fn])], fd := [(24, 1), (27, 1)] }
def H0 : Hints := { md := [(16, [.io]), (17, [.io]), (24, [.io]), (25, [.io]), (35, [.ro, .ro, .ro, .ro, .io]), (39, [.ro, .fz, .ro, .io]), (54, [.io]), (55, [.io]), (45, [.io, .io]), (68, [.io, .ro, .ro, .ro, .io]), (79, [.io, .ro, .ro, .io]), (80, [.io, .ro, .ro, .io]), (81, [.io, .ro, .ro, .io]), (82, [.io, .ro, .ro, .io]), (83, [.io, .ro, .ro, .io]), (84, [.io, .ro, .ro, .io]), (85, [.io, .ro, .ro, .ro, .io]), (86, [.io, .ro, .ro, .ro, .io]), (102, [.io, .ro, .ro, .ro, .io]), (105, [.io, .ro, .io, .io]), (106, [.io, .ro, .ro, .ro, .io, .io]), (111, [.io, .ro, .ro, .io, .io]), (104, [.io])], soft := [13, 14, 19, 35, 39, 40, 45, 49, 52, 72] }
theorem E0ok : EnvOk Try.prog E0 := okEnv_spec (by kernel_rfl)

def f_l_szIntS_F : Fi := { nv := 0, nc := 0, m := 0, vt := [], kl := [], sk := [], mvs := [], fz := [] }
def f_l_szIntS_a (a0 : List Sc) (left1 : Int) : List AV := enc [.p .sl, .p (.int .i64)] [.l a0, .i left1]
def f_l_szIntS_i (a0 : List Sc) (left1 : Int) : List AV := enc [] []
def f_l_szIntS_en (r : Int) : List AV × List AV := (enc [.p (.int .i64)] [.i r], enc [] [])
def f_l_szIntS_M : Calling := noC
theorem f_l_szIntS_Mt : CallOk Try.prog (f_l_szIntS_M) := noC_true
theorem f_l_szIntS_o : loopsOnce Try.f32 = true := by kernel_rfl
theorem f_l_szIntS_p {R : Type} (a0 : List Sc) (left1 : Int) (kR : Int → Option R) : f_l_szIntS_k a0 left1 kR = (f_l_szIntS_k a0 left1 some).bind kR := by
  simp only [f_l_szIntS_k, brB, someB]
theorem f_l_szIntS_e (a0 : List Sc) (left1 : Int) : runFn E0 f_l_szIntS_M H0 f_l_szIntS_F (asL (noL)) Try.f32 (f_l_szIntS_a a0 left1) (f_l_szIntS_i a0 left1) = f_l_szIntS_k a0 left1 (fun r => some (f_l_szIntS_en r)) := by kernel_rfl
theorem f_l_szIntS_ok (a0 : List Sc) (left1 : Int) (r : Int) (h : f_l_szIntS a0 left1 = some r) : CS Try.prog 32 (f_l_szIntS_a a0 left1) (f_l_szIntS_i a0 left1) (f_l_szIntS_en r).1 (f_l_szIntS_en r).2 :=
  fn_true (Gk := fun k => f_l_szIntS_k a0 left1 k) (en := f_l_szIntS_en) Try.func32 E0ok f_l_szIntS_Mt (noL_true) f_l_szIntS_o (f_l_szIntS_e a0 left1) (f_l_szIntS_p a0 left1) h
def f_l_szIntS_c : CRow := fun args inh => match dec2 [.p .sl, .p (.int .i64)] [] args inh with
  | some ([.l a0, .i left1], []) => some ((f_l_szIntS a0 left1).isSome, (f_l_szIntS_en ((f_l_szIntS a0 left1).getD 0)).1, (f_l_szIntS_en ((f_l_szIntS a0 left1).getD 0)).2)
  | _ => none
theorem f_l_szIntS_cc : CTrue Try.prog 32 f_l_szIntS_c := by
  intro args inh rs out h
  unfold f_l_szIntS_c at h
  split at h
  · rename_i hd
    obtain ⟨h1, h2⟩ := dec2_enc hd
    rw [← h1, ← h2]
    exact rowC (f_l_szIntS_ok _ _) h
  · cases h

def f_l_szGroup_F : Fi := { nv := 0, nc := 0, m := 0, vt := [], kl := [], sk := [], mvs := [], fz := [] }
def f_l_szGroup_a (a0 : List Sc) (left1 : Int) : List AV := enc [.p .gr, .p (.int .i64)] [.l a0, .i left1]
def f_l_szGroup_i (a0 : List Sc) (left1 : Int) : List AV := enc [] []
def f_l_szGroup_en (r : Int) : List AV × List AV := (enc [.p (.int .i64)] [.i r], enc [] [])
def f_l_szGroup_M : Calling := addC 32 f_l_szIntS_c (noC)
theorem f_l_szGroup_Mt : CallOk Try.prog (f_l_szGroup_M) := addC_true f_l_szIntS_cc (noC_true)
theorem f_l_szGroup_o : loopsOnce Try.f8 = true := by kernel_rfl
theorem f_l_szGroup_p {R : Type} (a0 : List Sc) (left1 : Int) (kR : Int → Option R) : f_l_szGroup_k a0 left1 kR = (f_l_szGroup_k a0 left1 some).bind kR := by
  simp only [f_l_szGroup_k, brB, boB, someB]
theorem f_l_szGroup_e (a0 : List Sc) (left1 : Int) : runFn E0 f_l_szGroup_M H0 f_l_szGroup_F (asL (noL)) Try.f8 (f_l_szGroup_a a0 left1) (f_l_szGroup_i a0 left1) = f_l_szGroup_k a0 left1 (fun r => some (f_l_szGroup_en r)) := by kernel_rfl
theorem f_l_szGroup_ok (a0 : List Sc) (left1 : Int) (r : Int) (h : f_l_szGroup a0 left1 = some r) : CS Try.prog 8 (f_l_szGroup_a a0 left1) (f_l_szGroup_i a0 left1) (f_l_szGroup_en r).1 (f_l_szGroup_en r).2 :=
  fn_true (Gk := fun k => f_l_szGroup_k a0 left1 k) (en := f_l_szGroup_en) Try.func8 E0ok f_l_szGroup_Mt (noL_true) f_l_szGroup_o (f_l_szGroup_e a0 left1) (f_l_szGroup_p a0 left1) h
def f_l_szGroup_c : CRow := fun args inh => match dec2 [.p .gr, .p (.int .i64)] [] args inh with
  | some ([.l a0, .i left1], []) => some ((f_l_szGroup a0 left1).isSome, (f_l_szGroup_en ((f_l_szGroup a0 left1).getD 0)).1, (f_l_szGroup_en ((f_l_szGroup a0 left1).getD 0)).2)
  | _ => none
theorem f_l_szGroup_cc : CTrue Try.prog 8 f_l_szGroup_c := by
  intro args inh rs out h
  unfold f_l_szGroup_c at h
  split at h
  · rename_i hd
    obtain ⟨h1, h2⟩ := dec2_enc hd
    rw [← h1, ← h2]
    exact rowC (f_l_szGroup_ok _ _) h
  · cases h

def f_l_toIntS_F : Fi := { nv := 0, nc := 0, m := 0, vt := [], kl := [(0, ([1, 2, 5, 6, 7, 8, 9, 10, 11, 12, 13, 14, 15, 16, 17, 18, 19, 20, 21], [0, 1, 2, 4, 5, 6, 7, 8, 9, 10, 11, 12, 13, 14, 15, 16, 17, 18, 19, 20, 21], [0, 1, 3, 4, 5, 6, 7, 8, 9, 10, 11, 12, 13, 14, 15, 16, 17, 18, 19, 20, 21]))], sk := [], mvs := [], fz := [] }
def f_l_toIntS_a (a0 : List Sc) : List AV := enc [.p .sl] [.l a0]
def f_l_toIntS_i (a0 : List Sc) : List AV := enc [] []
def f_l_toIntS_en (r : List Sc) : List AV × List AV := (enc [.p (.al 0)] [], enc [.own 3] [.l r])
def f_l_toIntS_M : Calling := noC
theorem f_l_toIntS_Mt : CallOk Try.prog (f_l_toIntS_M) := noC_true
theorem f_l_toIntS_o : loopsOnce Try.f20 = true := by kernel_rfl
def f_l_toIntS_h0 : List Sh := [.p .sl, .u, .u, .own 3, .p (.int .i64), .u, .u, .u, .u, .u, .u, .u, .u, .u, .u, .u, .u, .u, .u, .u, .u, .u]
def f_l_toIntS_fr0 (a0 : List Sc) (s : List Sc × Int) : List AV := enc f_l_toIntS_h0 [.l a0, .l s.1, .i s.2]
def f_l_toIntS_g0_1 : List Sh := [.u, .u, .u, .own 3, .u, .u, .u, .u, .u, .u, .u, .u, .u, .u, .u, .u, .u, .u, .u, .u, .u, .u]
def f_l_toIntS_x0_1 (a0 : List Sc) (e : List Sc) : X × List AV := (.out 0, enc f_l_toIntS_g0_1 [.l e])
def f_l_toIntS_x0_2 (a0 : List Sc) (_e : Unit) : X × List AV := (.ret, [])
theorem f_l_toIntS_p0 {R : Type} (a0 : List Sc) (s : List Sc × Int) (kN : List Sc × Int → Option R) (kA : List Sc → Option R) (kB : Unit → Option R) : f_l_toIntS_k0 a0 s.1 s.2 kN kA = (f_l_toIntS_r0 a0 s).bind (Ro.el kN kA kB) := by
  simp only [f_l_toIntS_k0, f_l_toIntS_r0, brB, someB, noneB, Ro.el]
theorem f_l_toIntS_e0 (a0 : List Sc) (s : List Sc × Int) : EC E0 f_l_toIntS_M H0 f_l_toIntS_F (asL (noL)) 0 (bodyOf Try.f20 0) (f_l_toIntS_fr0 a0 s) (done (klOf f_l_toIntS_F 0)) = f_l_toIntS_k0 a0 s.1 s.2 (fun s => some (.norm, f_l_toIntS_fr0 a0 s)) (fun e => some (f_l_toIntS_x0_1 a0 e)) := by kernel_rfl
theorem f_l_toIntS_l0 (a0 : List Sc) : ∀ s r, loopL (f_l_toIntS_r0 a0) s = some r → LS Try.prog f_l_toIntS_F (bodyOf Try.f20 0) (f_l_toIntS_fr0 a0 s) (enX (f_l_toIntS_x0_1 a0) (f_l_toIntS_x0_2 a0) r) :=
  loop_true E0ok f_l_toIntS_Mt (noL_true) f_l_toIntS_o (fun _ h => by cases h) (fun _ h => by cases h) (fun _ h => by cases h) (fun _ h => by cases h) (fun s => (f_l_toIntS_e0 a0 s).trans (f_l_toIntS_p0 a0 s _ _ (fun e => some (f_l_toIntS_x0_2 a0 e))))
def f_l_toIntS_t0 (σ : List AV) : Option (Bool × Bool × (X × List AV) × (X × List AV)) := match dec f_l_toIntS_h0 σ with
  | some [.l a0, .l out3, .i i4] => some (isOne (loopL (f_l_toIntS_r0 a0) (out3, i4)), true, f_l_toIntS_x0_1 a0 (getOne [] (loopL (f_l_toIntS_r0 a0) (out3, i4))), (.ret, []))
  | _ => none
theorem f_l_toIntS_tt0 : TTrue Try.prog f_l_toIntS_F Try.f20 0 (f_l_toIntS_t0) := by
  intro σ p r r' h
  unfold f_l_toIntS_t0 at h
  split at h
  · rename_i hd
    rw [← dec_enc hd]
    exact row1 (f_l_toIntS_l0 _ _) h
  · cases h
theorem f_l_toIntS_p {R : Type} (a0 : List Sc) (kR : List Sc → Option R) : f_l_toIntS_k a0 kR = (f_l_toIntS_k a0 some).bind kR := by
  simp only [f_l_toIntS_k, brB, bl1B, someB, noneB]
theorem f_l_toIntS_e (a0 : List Sc) : runFn E0 f_l_toIntS_M H0 f_l_toIntS_F (asL (addL 0 (f_l_toIntS_t0) (noL))) Try.f20 (f_l_toIntS_a a0) (f_l_toIntS_i a0) = f_l_toIntS_k a0 (fun r => some (f_l_toIntS_en r)) := by kernel_rfl
theorem f_l_toIntS_ok (a0 : List Sc) (r : List Sc) (h : f_l_toIntS a0 = some r) : CS Try.prog 20 (f_l_toIntS_a a0) (f_l_toIntS_i a0) (f_l_toIntS_en r).1 (f_l_toIntS_en r).2 :=
  fn_true (Gk := fun k => f_l_toIntS_k a0 k) (en := f_l_toIntS_en) Try.func20 E0ok f_l_toIntS_Mt (addL_true (f_l_toIntS_tt0) (noL_true)) f_l_toIntS_o (f_l_toIntS_e a0) (f_l_toIntS_p a0) h
def f_l_toIntS_c : CRow := fun args inh => match dec2 [.p .sl] [] args inh with
  | some ([.l a0], []) => some ((f_l_toIntS a0).isSome, (f_l_toIntS_en ((f_l_toIntS a0).getD [])).1, (f_l_toIntS_en ((f_l_toIntS a0).getD [])).2)
  | _ => none
theorem f_l_toIntS_cc : CTrue Try.prog 20 f_l_toIntS_c := by
  intro args inh rs out h
  unfold f_l_toIntS_c at h
  split at h
  · rename_i hd
    obtain ⟨h1, h2⟩ := dec2_enc hd
    rw [← h1, ← h2]
    exact rowC (f_l_toIntS_ok _) h
  · cases h

def f_l_toGroup_F : Fi := { nv := 2, nc := 2, m := 0, vt := [(2, 0), (3, 1)], kl := [], sk := [], mvs := [], fz := [] }
def f_l_toGroup_a (a0 : List Sc) : List AV := enc [.p .gr] [.l a0]
def f_l_toGroup_i (a0 : List Sc) : List AV := enc [] []
def f_l_toGroup_en (r : List Sc) : List AV × List AV := (enc [.p (.go 0)] [], enc [.own 3] [.l r])
def f_l_toGroup_M : Calling := addC 20 f_l_toIntS_c (noC)
theorem f_l_toGroup_Mt : CallOk Try.prog (f_l_toGroup_M) := addC_true f_l_toIntS_cc (noC_true)
theorem f_l_toGroup_o : loopsOnce Try.f10 = true := by kernel_rfl
theorem f_l_toGroup_p {R : Type} (a0 : List Sc) (kR : List Sc → Option R) : f_l_toGroup_k a0 kR = (f_l_toGroup_k a0 some).bind kR := by
  simp only [f_l_toGroup_k, boB, someB]
theorem f_l_toGroup_e (a0 : List Sc) : runFn E0 f_l_toGroup_M H0 f_l_toGroup_F (asL (noL)) Try.f10 (f_l_toGroup_a a0) (f_l_toGroup_i a0) = f_l_toGroup_k a0 (fun r => some (f_l_toGroup_en r)) := by kernel_rfl
theorem f_l_toGroup_ok (a0 : List Sc) (r : List Sc) (h : f_l_toGroup a0 = some r) : CS Try.prog 10 (f_l_toGroup_a a0) (f_l_toGroup_i a0) (f_l_toGroup_en r).1 (f_l_toGroup_en r).2 :=
  fn_true (Gk := fun k => f_l_toGroup_k a0 k) (en := f_l_toGroup_en) Try.func10 E0ok f_l_toGroup_Mt (noL_true) f_l_toGroup_o (f_l_toGroup_e a0) (f_l_toGroup_p a0) h
def f_l_toGroup_c : CRow := fun args inh => match dec2 [.p .gr] [] args inh with
  | some ([.l a0], []) => some ((f_l_toGroup a0).isSome, (f_l_toGroup_en ((f_l_toGroup a0).getD [])).1, (f_l_toGroup_en ((f_l_toGroup a0).getD [])).2)
  | _ => none
theorem f_l_toGroup_cc : CTrue Try.prog 10 f_l_toGroup_c := by
  intro args inh rs out h
  unfold f_l_toGroup_c at h
  split at h
  · rename_i hd
    obtain ⟨h1, h2⟩ := dec2_enc hd
    rw [← h1, ← h2]
    exact rowC (f_l_toGroup_ok _) h
  · cases h

def f_s_l1In_F : Fi := { nv := 0, nc := 0, m := 0, vt := [], kl := [], sk := [], mvs := [], fz := [] }
def f_s_l1In_a (x0 : Int) (low1 : Int) (high2 : Int) : List AV := enc [.p (.int .i64), .p (.int .i64), .p (.int .i64)] [.i x0, .i low1, .i high2]
def f_s_l1In_i (x0 : Int) (low1 : Int) (high2 : Int) : List AV := enc [] []
def f_s_l1In_en (r : Bool) : List AV × List AV := (enc [.p .boo] [.b r], enc [] [])
def f_s_l1In_M : Calling := noC
theorem f_s_l1In_Mt : CallOk Try.prog (f_s_l1In_M) := noC_true
theorem f_s_l1In_o : loopsOnce Try.f58 = true := by kernel_rfl
theorem f_s_l1In_p {R : Type} (x0 : Int) (low1 : Int) (high2 : Int) (kR : Bool → Option R) : f_s_l1In_k x0 low1 high2 kR = (f_s_l1In_k x0 low1 high2 some).bind kR := by
  simp only [f_s_l1In_k, brB, someB]
theorem f_s_l1In_e (x0 : Int) (low1 : Int) (high2 : Int) : runFn E0 f_s_l1In_M H0 f_s_l1In_F (asL (noL)) Try.f58 (f_s_l1In_a x0 low1 high2) (f_s_l1In_i x0 low1 high2) = f_s_l1In_k x0 low1 high2 (fun r => some (f_s_l1In_en r)) := by kernel_rfl
theorem f_s_l1In_ok (x0 : Int) (low1 : Int) (high2 : Int) (r : Bool) (h : f_s_l1In x0 low1 high2 = some r) : CS Try.prog 58 (f_s_l1In_a x0 low1 high2) (f_s_l1In_i x0 low1 high2) (f_s_l1In_en r).1 (f_s_l1In_en r).2 :=
  fn_true (Gk := fun k => f_s_l1In_k x0 low1 high2 k) (en := f_s_l1In_en) Try.func58 E0ok f_s_l1In_Mt (noL_true) f_s_l1In_o (f_s_l1In_e x0 low1 high2) (f_s_l1In_p x0 low1 high2) h
def f_s_l1In_c : CRow := fun args inh => match dec2 [.p (.int .i64), .p (.int .i64), .p (.int .i64)] [] args inh with
  | some ([.i x0, .i low1, .i high2], []) => some ((f_s_l1In x0 low1 high2).isSome, (f_s_l1In_en ((f_s_l1In x0 low1 high2).getD false)).1, (f_s_l1In_en ((f_s_l1In x0 low1 high2).getD false)).2)
  | _ => none
theorem f_s_l1In_cc : CTrue Try.prog 58 f_s_l1In_c := by
  intro args inh rs out h
  unfold f_s_l1In_c at h
  split at h
  · rename_i hd
    obtain ⟨h1, h2⟩ := dec2_enc hd
    rw [← h1, ← h2]
    exact rowC (f_s_l1In_ok _ _ _) h
  · cases h

def f_s_IsGroup_F : Fi := { nv := 0, nc := 0, m := 0, vt := [], kl := [(0, ([0, 2, 5, 6, 7, 8, 9, 10, 11, 12, 13, 14, 15, 16, 17, 18, 19, 20, 21, 22, 23, 24, 25, 26, 27, 28, 29, 30, 31], [0, 1, 2, 4, 5, 6, 7, 8, 9, 10, 11, 12, 13, 14, 15, 16, 17, 18, 19, 20, 21, 22, 23, 24, 25, 26, 27, 28, 29, 30, 31], [0, 1, 3, 4, 5, 6, 7, 8, 9, 10, 11, 12, 13, 14, 15, 16, 17, 18, 19, 20, 21, 22, 23, 24, 25, 26, 27, 28, 29, 30, 31]))], sk := [], mvs := [], fz := [] }
def f_s_IsGroup_a (g0 : List Sc) : List AV := enc [.p .gr] [.l g0]
def f_s_IsGroup_i (g0 : List Sc) : List AV := enc [] []
def f_s_IsGroup_en (r : Bool) : List AV × List AV := (enc [.p .boo] [.b r], enc [] [])
def f_s_IsGroup_M : Calling := addC 58 f_s_l1In_c (noC)
theorem f_s_IsGroup_Mt : CallOk Try.prog (f_s_IsGroup_M) := addC_true f_s_l1In_cc (noC_true)
theorem f_s_IsGroup_o : loopsOnce Try.f33 = true := by kernel_rfl
def f_s_IsGroup_h0 : List Sh := [.u, .p .el, .u, .p (.int .i64), .p (.int .i64), .u, .u, .u, .u, .u, .u, .u, .u, .u, .u, .u, .u, .u, .u, .u, .u, .u, .u, .u, .u, .u, .u, .u, .u, .u, .u, .u]
def f_s_IsGroup_fr0 (g1 : List Sc) (s : Int × Int) : List AV := enc f_s_IsGroup_h0 [.l g1, .i s.1, .i s.2]
def f_s_IsGroup_g0_1 : List Sh := [.u, .u, .u, .p (.int .i64), .u, .u, .u, .u, .u, .u, .u, .u, .u, .u, .u, .u, .u, .u, .u, .u, .u, .u, .u, .u, .u, .u, .u, .u, .u, .u, .u, .u]
def f_s_IsGroup_x0_1 (g1 : List Sc) (e : Int) : X × List AV := (.out 0, enc f_s_IsGroup_g0_1 [.i e])
def f_s_IsGroup_g0_2 : List Sh := [.u, .u, .p .boo, .u, .u, .u, .u, .u, .u, .u, .u, .u, .u, .u, .u, .u, .u, .u, .u, .u, .u, .u, .u, .u, .u, .u, .u, .u, .u, .u, .u, .u]
def f_s_IsGroup_x0_2 (g1 : List Sc) (e : Unit) : X × List AV := (.ret, enc f_s_IsGroup_g0_2 [.b false])
theorem f_s_IsGroup_p0 {R : Type} (g1 : List Sc) (s : Int × Int) (kN : Int × Int → Option R) (kA : Int → Option R) (kB : Unit → Option R) : f_s_IsGroup_k0 g1 s.1 s.2 kN kA kB = (f_s_IsGroup_r0 g1 s).bind (Ro.el kN kA kB) := by
  simp only [f_s_IsGroup_k0, f_s_IsGroup_r0, brB, boB, someB, noneB, Ro.el]
theorem f_s_IsGroup_e0 (g1 : List Sc) (s : Int × Int) : EC E0 f_s_IsGroup_M H0 f_s_IsGroup_F (asL (noL)) 0 (bodyOf Try.f33 0) (f_s_IsGroup_fr0 g1 s) (done (klOf f_s_IsGroup_F 0)) = f_s_IsGroup_k0 g1 s.1 s.2 (fun s => some (.norm, f_s_IsGroup_fr0 g1 s)) (fun e => some (f_s_IsGroup_x0_1 g1 e)) (fun e => some (f_s_IsGroup_x0_2 g1 e)) := by kernel_rfl
theorem f_s_IsGroup_l0 (g1 : List Sc) : ∀ s r, loopL (f_s_IsGroup_r0 g1) s = some r → LS Try.prog f_s_IsGroup_F (bodyOf Try.f33 0) (f_s_IsGroup_fr0 g1 s) (enX (f_s_IsGroup_x0_1 g1) (f_s_IsGroup_x0_2 g1) r) :=
  loop_true E0ok f_s_IsGroup_Mt (noL_true) f_s_IsGroup_o (fun _ h => by cases h) (fun _ h => by cases h) (fun _ h => by cases h) (fun _ h => by cases h) (fun s => (f_s_IsGroup_e0 g1 s).trans (f_s_IsGroup_p0 g1 s _ _ (fun e => some (f_s_IsGroup_x0_2 g1 e))))
def f_s_IsGroup_t0 (σ : List AV) : Option (Bool × Bool × (X × List AV) × (X × List AV)) := match dec f_s_IsGroup_h0 σ with
  | some [.l g1, .i n3, .i i4] => some ((loopL (f_s_IsGroup_r0 g1) (n3, i4)).isSome, isOne (loopL (f_s_IsGroup_r0 g1) (n3, i4)), f_s_IsGroup_x0_1 g1 (getOne 0 (loopL (f_s_IsGroup_r0 g1) (n3, i4))), f_s_IsGroup_x0_2 g1 (getTwo () (loopL (f_s_IsGroup_r0 g1) (n3, i4))))
  | _ => none
theorem f_s_IsGroup_tt0 : TTrue Try.prog f_s_IsGroup_F Try.f33 0 (f_s_IsGroup_t0) := by
  intro σ p r r' h
  unfold f_s_IsGroup_t0 at h
  split at h
  · rename_i hd
    rw [← dec_enc hd]
    exact row2 (f_s_IsGroup_l0 _ _) h
  · cases h
theorem f_s_IsGroup_p {R : Type} (g0 : List Sc) (kR : Bool → Option R) : f_s_IsGroup_k g0 kR = (f_s_IsGroup_k g0 some).bind kR := by
  simp only [f_s_IsGroup_k, blB, someB]
theorem f_s_IsGroup_e (g0 : List Sc) : runFn E0 f_s_IsGroup_M H0 f_s_IsGroup_F (asL (addL 0 (f_s_IsGroup_t0) (noL))) Try.f33 (f_s_IsGroup_a g0) (f_s_IsGroup_i g0) = f_s_IsGroup_k g0 (fun r => some (f_s_IsGroup_en r)) := by kernel_rfl
theorem f_s_IsGroup_ok (g0 : List Sc) (r : Bool) (h : f_s_IsGroup g0 = some r) : CS Try.prog 33 (f_s_IsGroup_a g0) (f_s_IsGroup_i g0) (f_s_IsGroup_en r).1 (f_s_IsGroup_en r).2 :=
  fn_true (Gk := fun k => f_s_IsGroup_k g0 k) (en := f_s_IsGroup_en) Try.func33 E0ok f_s_IsGroup_Mt (addL_true (f_s_IsGroup_tt0) (noL_true)) f_s_IsGroup_o (f_s_IsGroup_e g0) (f_s_IsGroup_p g0) h
def f_s_IsGroup_c : CRow := fun args inh => match dec2 [.p .gr] [] args inh with
  | some ([.l g0], []) => some ((f_s_IsGroup g0).isSome, (f_s_IsGroup_en ((f_s_IsGroup g0).getD false)).1, (f_s_IsGroup_en ((f_s_IsGroup g0).getD false)).2)
  | _ => none
theorem f_s_IsGroup_cc : CTrue Try.prog 33 f_s_IsGroup_c := by
  intro args inh rs out h
  unfold f_s_IsGroup_c at h
  split at h
  · rename_i hd
    obtain ⟨h1, h2⟩ := dec2_enc hd
    rw [← h1, ← h2]
    exact rowC (f_s_IsGroup_ok _) h
  · cases h

def f_s_l2Order_F : Fi := { nv := 0, nc := 0, m := 0, vt := [], kl := [(0, ([0, 2, 5, 6, 7, 8, 9, 10, 11, 12, 13, 14, 15, 16, 17, 18, 19], [0, 1, 2, 4, 5, 6, 7, 8, 9, 10, 11, 12, 13, 14, 15, 16, 17, 18, 19], [0, 1, 3, 4, 5, 6, 7, 8, 9, 10, 11, 12, 13, 14, 15, 16, 17, 18, 19]))], sk := [], mvs := [], fz := [] }
def f_s_l2Order_a (g0 : List Sc) : List AV := enc [.p .gr] [.l g0]
def f_s_l2Order_i (g0 : List Sc) : List AV := enc [] []
def f_s_l2Order_en (r : Int) : List AV × List AV := (enc [.p (.int .i64)] [.i r], enc [] [])
def f_s_l2Order_M : Calling := noC
theorem f_s_l2Order_Mt : CallOk Try.prog (f_s_l2Order_M) := noC_true
theorem f_s_l2Order_o : loopsOnce Try.f34 = true := by kernel_rfl
def f_s_l2Order_h0 : List Sh := [.u, .p .el, .u, .p (.int .i64), .p (.int .i64), .u, .u, .u, .u, .u, .u, .u, .u, .u, .u, .u, .u, .u, .u, .u]
def f_s_l2Order_fr0 (g1 : List Sc) (s : Int × Int) : List AV := enc f_s_l2Order_h0 [.l g1, .i s.1, .i s.2]
def f_s_l2Order_g0_1 : List Sh := [.u, .u, .u, .p (.int .i64), .u, .u, .u, .u, .u, .u, .u, .u, .u, .u, .u, .u, .u, .u, .u, .u]
def f_s_l2Order_x0_1 (g1 : List Sc) (e : Int) : X × List AV := (.out 0, enc f_s_l2Order_g0_1 [.i e])
def f_s_l2Order_x0_2 (g1 : List Sc) (_e : Unit) : X × List AV := (.ret, [])
theorem f_s_l2Order_p0 {R : Type} (g1 : List Sc) (s : Int × Int) (kN : Int × Int → Option R) (kA : Int → Option R) (kB : Unit → Option R) : f_s_l2Order_k0 g1 s.1 s.2 kN kA = (f_s_l2Order_r0 g1 s).bind (Ro.el kN kA kB) := by
  simp only [f_s_l2Order_k0, f_s_l2Order_r0, brB, someB, noneB, Ro.el]
theorem f_s_l2Order_e0 (g1 : List Sc) (s : Int × Int) : EC E0 f_s_l2Order_M H0 f_s_l2Order_F (asL (noL)) 0 (bodyOf Try.f34 0) (f_s_l2Order_fr0 g1 s) (done (klOf f_s_l2Order_F 0)) = f_s_l2Order_k0 g1 s.1 s.2 (fun s => some (.norm, f_s_l2Order_fr0 g1 s)) (fun e => some (f_s_l2Order_x0_1 g1 e)) := by kernel_rfl
theorem f_s_l2Order_l0 (g1 : List Sc) : ∀ s r, loopL (f_s_l2Order_r0 g1) s = some r → LS Try.prog f_s_l2Order_F (bodyOf Try.f34 0) (f_s_l2Order_fr0 g1 s) (enX (f_s_l2Order_x0_1 g1) (f_s_l2Order_x0_2 g1) r) :=
  loop_true E0ok f_s_l2Order_Mt (noL_true) f_s_l2Order_o (fun _ h => by cases h) (fun _ h => by cases h) (fun _ h => by cases h) (fun _ h => by cases h) (fun s => (f_s_l2Order_e0 g1 s).trans (f_s_l2Order_p0 g1 s _ _ (fun e => some (f_s_l2Order_x0_2 g1 e))))
def f_s_l2Order_t0 (σ : List AV) : Option (Bool × Bool × (X × List AV) × (X × List AV)) := match dec f_s_l2Order_h0 σ with
  | some [.l g1, .i n3, .i i4] => some (isOne (loopL (f_s_l2Order_r0 g1) (n3, i4)), true, f_s_l2Order_x0_1 g1 (getOne 0 (loopL (f_s_l2Order_r0 g1) (n3, i4))), (.ret, []))
  | _ => none
theorem f_s_l2Order_tt0 : TTrue Try.prog f_s_l2Order_F Try.f34 0 (f_s_l2Order_t0) := by
  intro σ p r r' h
  unfold f_s_l2Order_t0 at h
  split at h
  · rename_i hd
    rw [← dec_enc hd]
    exact row1 (f_s_l2Order_l0 _ _) h
  · cases h
theorem f_s_l2Order_p {R : Type} (g0 : List Sc) (kR : Int → Option R) : f_s_l2Order_k g0 kR = (f_s_l2Order_k g0 some).bind kR := by
  simp only [f_s_l2Order_k, bl1B, someB]
theorem f_s_l2Order_e (g0 : List Sc) : runFn E0 f_s_l2Order_M H0 f_s_l2Order_F (asL (addL 0 (f_s_l2Order_t0) (noL))) Try.f34 (f_s_l2Order_a g0) (f_s_l2Order_i g0) = f_s_l2Order_k g0 (fun r => some (f_s_l2Order_en r)) := by kernel_rfl
theorem f_s_l2Order_ok (g0 : List Sc) (r : Int) (h : f_s_l2Order g0 = some r) : CS Try.prog 34 (f_s_l2Order_a g0) (f_s_l2Order_i g0) (f_s_l2Order_en r).1 (f_s_l2Order_en r).2 :=
  fn_true (Gk := fun k => f_s_l2Order_k g0 k) (en := f_s_l2Order_en) Try.func34 E0ok f_s_l2Order_Mt (addL_true (f_s_l2Order_tt0) (noL_true)) f_s_l2Order_o (f_s_l2Order_e g0) (f_s_l2Order_p g0) h
def f_s_l2Order_c : CRow := fun args inh => match dec2 [.p .gr] [] args inh with
  | some ([.l g0], []) => some ((f_s_l2Order g0).isSome, (f_s_l2Order_en ((f_s_l2Order g0).getD 0)).1, (f_s_l2Order_en ((f_s_l2Order g0).getD 0)).2)
  | _ => none
theorem f_s_l2Order_cc : CTrue Try.prog 34 f_s_l2Order_c := by
  intro args inh rs out h
  unfold f_s_l2Order_c at h
  split at h
  · rename_i hd
    obtain ⟨h1, h2⟩ := dec2_enc hd
    rw [← h1, ← h2]
    exact rowC (f_s_l2Order_ok _) h
  · cases h

def f_s_l2Add_F : Fi := { nv := 0, nc := 0, m := 0, vt := [], kl := [(0, ([0, 4, 5, 6, 10, 11, 12, 13, 14, 15, 16, 17, 18, 19, 20, 21, 22, 23, 24, 25, 26, 27, 28, 29, 30, 31, 32, 33, 34, 35, 36, 37, 38, 39, 40, 41, 42, 43, 44, 45], [0, 1, 2, 3, 4, 5, 6, 8, 9, 10, 11, 12, 13, 14, 15, 16, 17, 18, 19, 20, 21, 22, 23, 24, 25, 26, 27, 28, 29, 30, 31, 32, 33, 34, 35, 36, 37, 38, 39, 40, 41, 42, 43, 44, 45], [0, 1, 2, 3, 4, 5, 7, 8, 9, 10, 11, 12, 13, 14, 15, 16, 17, 18, 19, 20, 21, 22, 23, 24, 25, 26, 27, 28, 29, 30, 31, 32, 33, 34, 35, 36, 37, 38, 39, 40, 41, 42, 43, 44, 45]))], sk := [], mvs := [], fz := [] }
def f_s_l2Add_a (g0 : List Sc) (x1 : Int) (y2 : Int) : List AV := enc [.p .gr, .p (.int .i64), .p (.int .i64)] [.l g0, .i x1, .i y2]
def f_s_l2Add_i (g0 : List Sc) (x1 : Int) (y2 : Int) : List AV := enc [] []
def f_s_l2Add_en (r : Int) : List AV × List AV := (enc [.p (.int .i64)] [.i r], enc [] [])
def f_s_l2Add_M : Calling := noC
theorem f_s_l2Add_Mt : CallOk Try.prog (f_s_l2Add_M) := noC_true
theorem f_s_l2Add_o : loopsOnce Try.f76 = true := by kernel_rfl
def f_s_l2Add_h0 : List Sh := [.u, .p (.int .i64), .p (.int .i64), .p .el, .u, .u, .u, .p (.int .i64), .p (.int .i64), .p (.int .i64), .u, .u, .u, .u, .u, .u, .u, .u, .u, .u, .u, .u, .u, .u, .u, .u, .u, .u, .u, .u, .u, .u, .u, .u, .u, .u, .u, .u, .u, .u, .u, .u, .u, .u, .u, .u]
def f_s_l2Add_fr0 (g3 : List Sc) (s : Int × Int × Int × Int × Int) : List AV := enc f_s_l2Add_h0 [.i s.1, .i s.2.1, .l g3, .i s.2.2.1, .i s.2.2.2.1, .i s.2.2.2.2]
def f_s_l2Add_g0_1 : List Sh := [.u, .u, .u, .u, .u, .u, .u, .p (.int .i64), .u, .u, .u, .u, .u, .u, .u, .u, .u, .u, .u, .u, .u, .u, .u, .u, .u, .u, .u, .u, .u, .u, .u, .u, .u, .u, .u, .u, .u, .u, .u, .u, .u, .u, .u, .u, .u, .u]
def f_s_l2Add_x0_1 (g3 : List Sc) (e : Int) : X × List AV := (.out 0, enc f_s_l2Add_g0_1 [.i e])
def f_s_l2Add_x0_2 (g3 : List Sc) (_e : Unit) : X × List AV := (.ret, [])
theorem f_s_l2Add_p0 {R : Type} (g3 : List Sc) (s : Int × Int × Int × Int × Int) (kN : Int × Int × Int × Int × Int → Option R) (kA : Int → Option R) (kB : Unit → Option R) : f_s_l2Add_k0 g3 s.1 s.2.1 s.2.2.1 s.2.2.2.1 s.2.2.2.2 kN kA = (f_s_l2Add_r0 g3 s).bind (Ro.el kN kA kB) := by
  simp only [f_s_l2Add_k0, f_s_l2Add_r0, brB, someB, noneB, Ro.el]
theorem f_s_l2Add_e0 (g3 : List Sc) (s : Int × Int × Int × Int × Int) : EC E0 f_s_l2Add_M H0 f_s_l2Add_F (asL (noL)) 0 (bodyOf Try.f76 0) (f_s_l2Add_fr0 g3 s) (done (klOf f_s_l2Add_F 0)) = f_s_l2Add_k0 g3 s.1 s.2.1 s.2.2.1 s.2.2.2.1 s.2.2.2.2 (fun s => some (.norm, f_s_l2Add_fr0 g3 s)) (fun e => some (f_s_l2Add_x0_1 g3 e)) := by kernel_rfl
theorem f_s_l2Add_l0 (g3 : List Sc) : ∀ s r, loopL (f_s_l2Add_r0 g3) s = some r → LS Try.prog f_s_l2Add_F (bodyOf Try.f76 0) (f_s_l2Add_fr0 g3 s) (enX (f_s_l2Add_x0_1 g3) (f_s_l2Add_x0_2 g3) r) :=
  loop_true E0ok f_s_l2Add_Mt (noL_true) f_s_l2Add_o (fun _ h => by cases h) (fun _ h => by cases h) (fun _ h => by cases h) (fun _ h => by cases h) (fun s => (f_s_l2Add_e0 g3 s).trans (f_s_l2Add_p0 g3 s _ _ (fun e => some (f_s_l2Add_x0_2 g3 e))))
def f_s_l2Add_t0 (σ : List AV) : Option (Bool × Bool × (X × List AV) × (X × List AV)) := match dec f_s_l2Add_h0 σ with
  | some [.i x1, .i y2, .l g3, .i z7, .i step8, .i i9] => some (isOne (loopL (f_s_l2Add_r0 g3) (x1, y2, z7, step8, i9)), true, f_s_l2Add_x0_1 g3 (getOne 0 (loopL (f_s_l2Add_r0 g3) (x1, y2, z7, step8, i9))), (.ret, []))
  | _ => none
theorem f_s_l2Add_tt0 : TTrue Try.prog f_s_l2Add_F Try.f76 0 (f_s_l2Add_t0) := by
  intro σ p r r' h
  unfold f_s_l2Add_t0 at h
  split at h
  · rename_i hd
    rw [← dec_enc hd]
    exact row1 (f_s_l2Add_l0 _ _) h
  · cases h
theorem f_s_l2Add_p {R : Type} (g0 : List Sc) (x1 : Int) (y2 : Int) (kR : Int → Option R) : f_s_l2Add_k g0 x1 y2 kR = (f_s_l2Add_k g0 x1 y2 some).bind kR := by
  simp only [f_s_l2Add_k, bl1B, someB]
theorem f_s_l2Add_e (g0 : List Sc) (x1 : Int) (y2 : Int) : runFn E0 f_s_l2Add_M H0 f_s_l2Add_F (asL (addL 0 (f_s_l2Add_t0) (noL))) Try.f76 (f_s_l2Add_a g0 x1 y2) (f_s_l2Add_i g0 x1 y2) = f_s_l2Add_k g0 x1 y2 (fun r => some (f_s_l2Add_en r)) := by kernel_rfl
theorem f_s_l2Add_ok (g0 : List Sc) (x1 : Int) (y2 : Int) (r : Int) (h : f_s_l2Add g0 x1 y2 = some r) : CS Try.prog 76 (f_s_l2Add_a g0 x1 y2) (f_s_l2Add_i g0 x1 y2) (f_s_l2Add_en r).1 (f_s_l2Add_en r).2 :=
  fn_true (Gk := fun k => f_s_l2Add_k g0 x1 y2 k) (en := f_s_l2Add_en) Try.func76 E0ok f_s_l2Add_Mt (addL_true (f_s_l2Add_tt0) (noL_true)) f_s_l2Add_o (f_s_l2Add_e g0 x1 y2) (f_s_l2Add_p g0 x1 y2) h
def f_s_l2Add_c : CRow := fun args inh => match dec2 [.p .gr, .p (.int .i64), .p (.int .i64)] [] args inh with
  | some ([.l g0, .i x1, .i y2], []) => some ((f_s_l2Add g0 x1 y2).isSome, (f_s_l2Add_en ((f_s_l2Add g0 x1 y2).getD 0)).1, (f_s_l2Add_en ((f_s_l2Add g0 x1 y2).getD 0)).2)
  | _ => none
theorem f_s_l2Add_cc : CTrue Try.prog 76 f_s_l2Add_c := by
  intro args inh rs out h
  unfold f_s_l2Add_c at h
  split at h
  · rename_i hd
    obtain ⟨h1, h2⟩ := dec2_enc hd
    rw [← h1, ← h2]
    exact rowC (f_s_l2Add_ok _ _ _) h
  · cases h

def f_s_l16Sum_F : Fi := { nv := 0, nc := 0, m := 0, vt := [], kl := [(0, ([0, 3, 4, 7, 8, 9, 10, 11, 12, 13, 14, 15, 16, 17, 18, 19, 20], [0, 1, 2, 3, 4, 6, 7, 8, 9, 10, 11, 12, 13, 14, 15, 16, 17, 18, 19, 20], [0, 1, 2, 3, 5, 6, 7, 8, 9, 10, 11, 12, 13, 14, 15, 16, 17, 18, 19, 20]))], sk := [], mvs := [], fz := [] }
def f_s_l16Sum_a (g0 : List Sc) (l1 : List Sc) : List AV := enc [.p .gr, .p .sl] [.l g0, .l l1]
def f_s_l16Sum_i (g0 : List Sc) (l1 : List Sc) : List AV := enc [] []
def f_s_l16Sum_en (r : Int) : List AV × List AV := (enc [.p (.int .i64)] [.i r], enc [] [])
def f_s_l16Sum_M : Calling := addC 76 f_s_l2Add_c (noC)
theorem f_s_l16Sum_Mt : CallOk Try.prog (f_s_l16Sum_M) := addC_true f_s_l2Add_cc (noC_true)
theorem f_s_l16Sum_o : loopsOnce Try.f60 = true := by kernel_rfl
def f_s_l16Sum_h0 : List Sh := [.u, .p .sl, .p .el, .u, .u, .p (.int .i64), .p (.int .i64), .u, .u, .u, .u, .u, .u, .u, .u, .u, .u, .u, .u, .u, .u]
def f_s_l16Sum_fr0 (l1 : List Sc) (g2 : List Sc) (s : Int × Int) : List AV := enc f_s_l16Sum_h0 [.l l1, .l g2, .i s.1, .i s.2]
def f_s_l16Sum_g0_1 : List Sh := [.u, .u, .u, .u, .u, .p (.int .i64), .u, .u, .u, .u, .u, .u, .u, .u, .u, .u, .u, .u, .u, .u, .u]
def f_s_l16Sum_x0_1 (l1 : List Sc) (g2 : List Sc) (e : Int) : X × List AV := (.out 0, enc f_s_l16Sum_g0_1 [.i e])
def f_s_l16Sum_x0_2 (l1 : List Sc) (g2 : List Sc) (_e : Unit) : X × List AV := (.ret, [])
theorem f_s_l16Sum_p0 {R : Type} (l1 : List Sc) (g2 : List Sc) (s : Int × Int) (kN : Int × Int → Option R) (kA : Int → Option R) (kB : Unit → Option R) : f_s_l16Sum_k0 l1 g2 s.1 s.2 kN kA = (f_s_l16Sum_r0 l1 g2 s).bind (Ro.el kN kA kB) := by
  simp only [f_s_l16Sum_k0, f_s_l16Sum_r0, brB, boB, someB, noneB, Ro.el]
theorem f_s_l16Sum_e0 (l1 : List Sc) (g2 : List Sc) (s : Int × Int) : EC E0 f_s_l16Sum_M H0 f_s_l16Sum_F (asL (noL)) 0 (bodyOf Try.f60 0) (f_s_l16Sum_fr0 l1 g2 s) (done (klOf f_s_l16Sum_F 0)) = f_s_l16Sum_k0 l1 g2 s.1 s.2 (fun s => some (.norm, f_s_l16Sum_fr0 l1 g2 s)) (fun e => some (f_s_l16Sum_x0_1 l1 g2 e)) := by kernel_rfl
theorem f_s_l16Sum_l0 (l1 : List Sc) (g2 : List Sc) : ∀ s r, loopL (f_s_l16Sum_r0 l1 g2) s = some r → LS Try.prog f_s_l16Sum_F (bodyOf Try.f60 0) (f_s_l16Sum_fr0 l1 g2 s) (enX (f_s_l16Sum_x0_1 l1 g2) (f_s_l16Sum_x0_2 l1 g2) r) :=
  loop_true E0ok f_s_l16Sum_Mt (noL_true) f_s_l16Sum_o (fun _ h => by cases h) (fun _ h => by cases h) (fun _ h => by cases h) (fun _ h => by cases h) (fun s => (f_s_l16Sum_e0 l1 g2 s).trans (f_s_l16Sum_p0 l1 g2 s _ _ (fun e => some (f_s_l16Sum_x0_2 l1 g2 e))))
def f_s_l16Sum_t0 (σ : List AV) : Option (Bool × Bool × (X × List AV) × (X × List AV)) := match dec f_s_l16Sum_h0 σ with
  | some [.l l1, .l g2, .i z5, .i i6] => some (isOne (loopL (f_s_l16Sum_r0 l1 g2) (z5, i6)), true, f_s_l16Sum_x0_1 l1 g2 (getOne 0 (loopL (f_s_l16Sum_r0 l1 g2) (z5, i6))), (.ret, []))
  | _ => none
theorem f_s_l16Sum_tt0 : TTrue Try.prog f_s_l16Sum_F Try.f60 0 (f_s_l16Sum_t0) := by
  intro σ p r r' h
  unfold f_s_l16Sum_t0 at h
  split at h
  · rename_i hd
    rw [← dec_enc hd]
    exact row1 (f_s_l16Sum_l0 _ _ _) h
  · cases h
theorem f_s_l16Sum_p {R : Type} (g0 : List Sc) (l1 : List Sc) (kR : Int → Option R) : f_s_l16Sum_k g0 l1 kR = (f_s_l16Sum_k g0 l1 some).bind kR := by
  simp only [f_s_l16Sum_k, bl1B, someB]
theorem f_s_l16Sum_e (g0 : List Sc) (l1 : List Sc) : runFn E0 f_s_l16Sum_M H0 f_s_l16Sum_F (asL (addL 0 (f_s_l16Sum_t0) (noL))) Try.f60 (f_s_l16Sum_a g0 l1) (f_s_l16Sum_i g0 l1) = f_s_l16Sum_k g0 l1 (fun r => some (f_s_l16Sum_en r)) := by kernel_rfl
theorem f_s_l16Sum_ok (g0 : List Sc) (l1 : List Sc) (r : Int) (h : f_s_l16Sum g0 l1 = some r) : CS Try.prog 60 (f_s_l16Sum_a g0 l1) (f_s_l16Sum_i g0 l1) (f_s_l16Sum_en r).1 (f_s_l16Sum_en r).2 :=
  fn_true (Gk := fun k => f_s_l16Sum_k g0 l1 k) (en := f_s_l16Sum_en) Try.func60 E0ok f_s_l16Sum_Mt (addL_true (f_s_l16Sum_tt0) (noL_true)) f_s_l16Sum_o (f_s_l16Sum_e g0 l1) (f_s_l16Sum_p g0 l1) h
def f_s_l16Sum_c : CRow := fun args inh => match dec2 [.p .gr, .p .sl] [] args inh with
  | some ([.l g0, .l l1], []) => some ((f_s_l16Sum g0 l1).isSome, (f_s_l16Sum_en ((f_s_l16Sum g0 l1).getD 0)).1, (f_s_l16Sum_en ((f_s_l16Sum g0 l1).getD 0)).2)
  | _ => none
theorem f_s_l16Sum_cc : CTrue Try.prog 60 f_s_l16Sum_c := by
  intro args inh rs out h
  unfold f_s_l16Sum_c at h
  split at h
  · rename_i hd
    obtain ⟨h1, h2⟩ := dec2_enc hd
    rw [← h1, ← h2]
    exact rowC (f_s_l16Sum_ok _ _) h
  · cases h

def f_s_l2Negate_F : Fi := { nv := 0, nc := 0, m := 0, vt := [], kl := [(0, ([0, 3, 4, 8, 9, 10, 11, 12, 13, 14, 15, 16, 17, 18, 19, 20, 21, 22, 23, 24, 25, 26, 27, 28, 29, 30, 31, 32, 33, 34, 35, 36, 37, 38], [0, 1, 2, 3, 4, 6, 7, 8, 9, 10, 11, 12, 13, 14, 15, 16, 17, 18, 19, 20, 21, 22, 23, 24, 25, 26, 27, 28, 29, 30, 31, 32, 33, 34, 35, 36, 37, 38], [0, 1, 2, 3, 5, 6, 7, 8, 9, 10, 11, 12, 13, 14, 15, 16, 17, 18, 19, 20, 21, 22, 23, 24, 25, 26, 27, 28, 29, 30, 31, 32, 33, 34, 35, 36, 37, 38]))], sk := [], mvs := [], fz := [] }
def f_s_l2Negate_a (g0 : List Sc) (x1 : Int) : List AV := enc [.p .gr, .p (.int .i64)] [.l g0, .i x1]
def f_s_l2Negate_i (g0 : List Sc) (x1 : Int) : List AV := enc [] []
def f_s_l2Negate_en (r : Int) : List AV × List AV := (enc [.p (.int .i64)] [.i r], enc [] [])
def f_s_l2Negate_M : Calling := noC
theorem f_s_l2Negate_Mt : CallOk Try.prog (f_s_l2Negate_M) := noC_true
theorem f_s_l2Negate_o : loopsOnce Try.f59 = true := by kernel_rfl
def f_s_l2Negate_h0 : List Sh := [.u, .p (.int .i64), .p .el, .u, .u, .p (.int .i64), .p (.int .i64), .p (.int .i64), .u, .u, .u, .u, .u, .u, .u, .u, .u, .u, .u, .u, .u, .u, .u, .u, .u, .u, .u, .u, .u, .u, .u, .u, .u, .u, .u, .u, .u, .u, .u]
def f_s_l2Negate_fr0 (g2 : List Sc) (s : Int × Int × Int × Int) : List AV := enc f_s_l2Negate_h0 [.i s.1, .l g2, .i s.2.1, .i s.2.2.1, .i s.2.2.2]
def f_s_l2Negate_g0_1 : List Sh := [.u, .u, .u, .u, .u, .p (.int .i64), .u, .u, .u, .u, .u, .u, .u, .u, .u, .u, .u, .u, .u, .u, .u, .u, .u, .u, .u, .u, .u, .u, .u, .u, .u, .u, .u, .u, .u, .u, .u, .u, .u]
def f_s_l2Negate_x0_1 (g2 : List Sc) (e : Int) : X × List AV := (.out 0, enc f_s_l2Negate_g0_1 [.i e])
def f_s_l2Negate_x0_2 (g2 : List Sc) (_e : Unit) : X × List AV := (.ret, [])
theorem f_s_l2Negate_p0 {R : Type} (g2 : List Sc) (s : Int × Int × Int × Int) (kN : Int × Int × Int × Int → Option R) (kA : Int → Option R) (kB : Unit → Option R) : f_s_l2Negate_k0 g2 s.1 s.2.1 s.2.2.1 s.2.2.2 kN kA = (f_s_l2Negate_r0 g2 s).bind (Ro.el kN kA kB) := by
  simp only [f_s_l2Negate_k0, f_s_l2Negate_r0, brB, someB, noneB, Ro.el]
theorem f_s_l2Negate_e0 (g2 : List Sc) (s : Int × Int × Int × Int) : EC E0 f_s_l2Negate_M H0 f_s_l2Negate_F (asL (noL)) 0 (bodyOf Try.f59 0) (f_s_l2Negate_fr0 g2 s) (done (klOf f_s_l2Negate_F 0)) = f_s_l2Negate_k0 g2 s.1 s.2.1 s.2.2.1 s.2.2.2 (fun s => some (.norm, f_s_l2Negate_fr0 g2 s)) (fun e => some (f_s_l2Negate_x0_1 g2 e)) := by kernel_rfl
theorem f_s_l2Negate_l0 (g2 : List Sc) : ∀ s r, loopL (f_s_l2Negate_r0 g2) s = some r → LS Try.prog f_s_l2Negate_F (bodyOf Try.f59 0) (f_s_l2Negate_fr0 g2 s) (enX (f_s_l2Negate_x0_1 g2) (f_s_l2Negate_x0_2 g2) r) :=
  loop_true E0ok f_s_l2Negate_Mt (noL_true) f_s_l2Negate_o (fun _ h => by cases h) (fun _ h => by cases h) (fun _ h => by cases h) (fun _ h => by cases h) (fun s => (f_s_l2Negate_e0 g2 s).trans (f_s_l2Negate_p0 g2 s _ _ (fun e => some (f_s_l2Negate_x0_2 g2 e))))
def f_s_l2Negate_t0 (σ : List AV) : Option (Bool × Bool × (X × List AV) × (X × List AV)) := match dec f_s_l2Negate_h0 σ with
  | some [.i x1, .l g2, .i z5, .i step6, .i i7] => some (isOne (loopL (f_s_l2Negate_r0 g2) (x1, z5, step6, i7)), true, f_s_l2Negate_x0_1 g2 (getOne 0 (loopL (f_s_l2Negate_r0 g2) (x1, z5, step6, i7))), (.ret, []))
  | _ => none
theorem f_s_l2Negate_tt0 : TTrue Try.prog f_s_l2Negate_F Try.f59 0 (f_s_l2Negate_t0) := by
  intro σ p r r' h
  unfold f_s_l2Negate_t0 at h
  split at h
  · rename_i hd
    rw [← dec_enc hd]
    exact row1 (f_s_l2Negate_l0 _ _) h
  · cases h
theorem f_s_l2Negate_p {R : Type} (g0 : List Sc) (x1 : Int) (kR : Int → Option R) : f_s_l2Negate_k g0 x1 kR = (f_s_l2Negate_k g0 x1 some).bind kR := by
  simp only [f_s_l2Negate_k, bl1B, someB]
theorem f_s_l2Negate_e (g0 : List Sc) (x1 : Int) : runFn E0 f_s_l2Negate_M H0 f_s_l2Negate_F (asL (addL 0 (f_s_l2Negate_t0) (noL))) Try.f59 (f_s_l2Negate_a g0 x1) (f_s_l2Negate_i g0 x1) = f_s_l2Negate_k g0 x1 (fun r => some (f_s_l2Negate_en r)) := by kernel_rfl
theorem f_s_l2Negate_ok (g0 : List Sc) (x1 : Int) (r : Int) (h : f_s_l2Negate g0 x1 = some r) : CS Try.prog 59 (f_s_l2Negate_a g0 x1) (f_s_l2Negate_i g0 x1) (f_s_l2Negate_en r).1 (f_s_l2Negate_en r).2 :=
  fn_true (Gk := fun k => f_s_l2Negate_k g0 x1 k) (en := f_s_l2Negate_en) Try.func59 E0ok f_s_l2Negate_Mt (addL_true (f_s_l2Negate_tt0) (noL_true)) f_s_l2Negate_o (f_s_l2Negate_e g0 x1) (f_s_l2Negate_p g0 x1) h
def f_s_l2Negate_c : CRow := fun args inh => match dec2 [.p .gr, .p (.int .i64)] [] args inh with
  | some ([.l g0, .i x1], []) => some ((f_s_l2Negate g0 x1).isSome, (f_s_l2Negate_en ((f_s_l2Negate g0 x1).getD 0)).1, (f_s_l2Negate_en ((f_s_l2Negate g0 x1).getD 0)).2)
  | _ => none
theorem f_s_l2Negate_cc : CTrue Try.prog 59 f_s_l2Negate_c := by
  intro args inh rs out h
  unfold f_s_l2Negate_c at h
  split at h
  · rename_i hd
    obtain ⟨h1, h2⟩ := dec2_enc hd
    rw [← h1, ← h2]
    exact rowC (f_s_l2Negate_ok _ _) h
  · cases h

def f_s_l3List_F : Fi := { nv := 0, nc := 0, m := 0, vt := [], kl := [(0, ([0, 1, 2, 6, 7, 8, 9, 10, 11, 12, 13, 14, 15, 16, 17, 18, 19, 20, 21], [0, 1, 2, 4, 5, 6, 7, 8, 9, 10, 11, 12, 13, 14, 15, 16, 17, 18, 19, 20, 21], [0, 1, 3, 4, 5, 6, 7, 8, 9, 10, 11, 12, 13, 14, 15, 16, 17, 18, 19, 20, 21]))], sk := [], mvs := [], fz := [] }
def f_s_l3List_a (a0 : Int) : List AV := enc [.p (.int .i64)] [.i a0]
def f_s_l3List_i (a0 : Int) : List AV := enc [] []
def f_s_l3List_en (r : List Sc) : List AV × List AV := (enc [.p (.al 0)] [], enc [.own 3] [.l r])
def f_s_l3List_M : Calling := noC
theorem f_s_l3List_Mt : CallOk Try.prog (f_s_l3List_M) := noC_true
theorem f_s_l3List_o : loopsOnce Try.f78 = true := by kernel_rfl
def f_s_l3List_h0 : List Sh := [.u, .u, .u, .own 3, .p (.int .i64), .p (.int .i64), .u, .u, .u, .u, .u, .u, .u, .u, .u, .u, .u, .u, .u, .u, .u, .u]
def f_s_l3List_fr0 (s : List Sc × Int × Int) : List AV := enc f_s_l3List_h0 [.l s.1, .i s.2.1, .i s.2.2]
def f_s_l3List_g0_1 : List Sh := [.u, .u, .u, .own 3, .u, .u, .u, .u, .u, .u, .u, .u, .u, .u, .u, .u, .u, .u, .u, .u, .u, .u]
def f_s_l3List_x0_1 (e : List Sc) : X × List AV := (.out 0, enc f_s_l3List_g0_1 [.l e])
def f_s_l3List_x0_2 (_e : Unit) : X × List AV := (.ret, [])
theorem f_s_l3List_p0 {R : Type} (s : List Sc × Int × Int) (kN : List Sc × Int × Int → Option R) (kA : List Sc → Option R) (kB : Unit → Option R) : f_s_l3List_k0 s.1 s.2.1 s.2.2 kN kA = (f_s_l3List_r0 s).bind (Ro.el kN kA kB) := by
  simp only [f_s_l3List_k0, f_s_l3List_r0, brB, someB, noneB, Ro.el]
theorem f_s_l3List_e0 (s : List Sc × Int × Int) : EC E0 f_s_l3List_M H0 f_s_l3List_F (asL (noL)) 0 (bodyOf Try.f78 0) (f_s_l3List_fr0 s) (done (klOf f_s_l3List_F 0)) = f_s_l3List_k0 s.1 s.2.1 s.2.2 (fun s => some (.norm, f_s_l3List_fr0 s)) (fun e => some (f_s_l3List_x0_1 e)) := by kernel_rfl
theorem f_s_l3List_l0 : ∀ s r, loopL (f_s_l3List_r0) s = some r → LS Try.prog f_s_l3List_F (bodyOf Try.f78 0) (f_s_l3List_fr0 s) (enX (f_s_l3List_x0_1) (f_s_l3List_x0_2) r) :=
  loop_true E0ok f_s_l3List_Mt (noL_true) f_s_l3List_o (fun _ h => by cases h) (fun _ h => by cases h) (fun _ h => by cases h) (fun _ h => by cases h) (fun s => (f_s_l3List_e0 s).trans (f_s_l3List_p0 s _ _ (fun e => some (f_s_l3List_x0_2 e))))
def f_s_l3List_t0 (σ : List AV) : Option (Bool × Bool × (X × List AV) × (X × List AV)) := match dec f_s_l3List_h0 σ with
  | some [.l out3, .i i4, .i x5] => some (isOne (loopL (f_s_l3List_r0) (out3, i4, x5)), true, f_s_l3List_x0_1 (getOne [] (loopL (f_s_l3List_r0) (out3, i4, x5))), (.ret, []))
  | _ => none
theorem f_s_l3List_tt0 : TTrue Try.prog f_s_l3List_F Try.f78 0 (f_s_l3List_t0) := by
  intro σ p r r' h
  unfold f_s_l3List_t0 at h
  split at h
  · rename_i hd
    rw [← dec_enc hd]
    exact row1 (f_s_l3List_l0 _) h
  · cases h
theorem f_s_l3List_p {R : Type} (a0 : Int) (kR : List Sc → Option R) : f_s_l3List_k a0 kR = (f_s_l3List_k a0 some).bind kR := by
  simp only [f_s_l3List_k, bl1B, someB]
theorem f_s_l3List_e (a0 : Int) : runFn E0 f_s_l3List_M H0 f_s_l3List_F (asL (addL 0 (f_s_l3List_t0) (noL))) Try.f78 (f_s_l3List_a a0) (f_s_l3List_i a0) = f_s_l3List_k a0 (fun r => some (f_s_l3List_en r)) := by kernel_rfl
theorem f_s_l3List_ok (a0 : Int) (r : List Sc) (h : f_s_l3List a0 = some r) : CS Try.prog 78 (f_s_l3List_a a0) (f_s_l3List_i a0) (f_s_l3List_en r).1 (f_s_l3List_en r).2 :=
  fn_true (Gk := fun k => f_s_l3List_k a0 k) (en := f_s_l3List_en) Try.func78 E0ok f_s_l3List_Mt (addL_true (f_s_l3List_tt0) (noL_true)) f_s_l3List_o (f_s_l3List_e a0) (f_s_l3List_p a0) h
def f_s_l3List_c : CRow := fun args inh => match dec2 [.p (.int .i64)] [] args inh with
  | some ([.i a0], []) => some ((f_s_l3List a0).isSome, (f_s_l3List_en ((f_s_l3List a0).getD [])).1, (f_s_l3List_en ((f_s_l3List a0).getD [])).2)
  | _ => none
theorem f_s_l3List_cc : CTrue Try.prog 78 f_s_l3List_c := by
  intro args inh rs out h
  unfold f_s_l3List_c at h
  split at h
  · rename_i hd
    obtain ⟨h1, h2⟩ := dec2_enc hd
    rw [← h1, ← h2]
    exact rowC (f_s_l3List_ok _) h
  · cases h

def f_s_l3Shift_F : Fi := { nv := 0, nc := 0, m := 0, vt := [], kl := [(0, ([0, 1, 4, 5, 6, 10, 11, 12, 13, 14, 15, 16, 17, 18, 19, 20, 21, 22, 23, 24, 25, 26, 27, 28], [0, 1, 2, 3, 4, 5, 6, 8, 9, 10, 11, 12, 13, 14, 15, 16, 17, 18, 19, 20, 21, 22, 23, 24, 25, 26, 27, 28], [0, 1, 2, 3, 4, 5, 7, 8, 9, 10, 11, 12, 13, 14, 15, 16, 17, 18, 19, 20, 21, 22, 23, 24, 25, 26, 27, 28]))], sk := [], mvs := [], fz := [] }
def f_s_l3Shift_a (g0 : List Sc) (a1 : Int) (x2 : Int) : List AV := enc [.p .gr, .p (.int .i64), .p (.int .i64)] [.l g0, .i a1, .i x2]
def f_s_l3Shift_i (g0 : List Sc) (a1 : Int) (x2 : Int) : List AV := enc [] []
def f_s_l3Shift_en (r : Int) : List AV × List AV := (enc [.p (.int .i64)] [.i r], enc [] [])
def f_s_l3Shift_M : Calling := addC 78 f_s_l3List_c (addC 76 f_s_l2Add_c (noC))
theorem f_s_l3Shift_Mt : CallOk Try.prog (f_s_l3Shift_M) := addC_true f_s_l3List_cc (addC_true f_s_l2Add_cc (noC_true))
theorem f_s_l3Shift_o : loopsOnce Try.f62 = true := by kernel_rfl
def f_s_l3Shift_h0 : List Sh := [.u, .u, .p (.int .i64), .p .el, .u, .u, .u, .p (.int .i64), .own 3, .p (.int .i64), .u, .u, .u, .u, .u, .u, .u, .u, .u, .u, .u, .u, .u, .u, .u, .u, .u, .u, .u]
def f_s_l3Shift_fr0 (x2 : Int) (g3 : List Sc) (s : Int × List Sc × Int) : List AV := enc f_s_l3Shift_h0 [.i x2, .l g3, .i s.1, .l s.2.1, .i s.2.2]
def f_s_l3Shift_g0_1 : List Sh := [.u, .u, .u, .u, .u, .u, .u, .p (.int .i64), .u, .u, .u, .u, .u, .u, .u, .u, .u, .u, .u, .u, .u, .u, .u, .u, .u, .u, .u, .u, .u]
def f_s_l3Shift_x0_1 (x2 : Int) (g3 : List Sc) (e : Int) : X × List AV := (.out 0, enc f_s_l3Shift_g0_1 [.i e])
def f_s_l3Shift_x0_2 (x2 : Int) (g3 : List Sc) (_e : Unit) : X × List AV := (.ret, [])
theorem f_s_l3Shift_p0 {R : Type} (x2 : Int) (g3 : List Sc) (s : Int × List Sc × Int) (kN : Int × List Sc × Int → Option R) (kA : Int → Option R) (kB : Unit → Option R) : f_s_l3Shift_k0 x2 g3 s.1 s.2.1 s.2.2 kN kA = (f_s_l3Shift_r0 x2 g3 s).bind (Ro.el kN kA kB) := by
  simp only [f_s_l3Shift_k0, f_s_l3Shift_r0, brB, boB, someB, noneB, Ro.el]
theorem f_s_l3Shift_e0 (x2 : Int) (g3 : List Sc) (s : Int × List Sc × Int) : EC E0 f_s_l3Shift_M H0 f_s_l3Shift_F (asL (noL)) 0 (bodyOf Try.f62 0) (f_s_l3Shift_fr0 x2 g3 s) (done (klOf f_s_l3Shift_F 0)) = f_s_l3Shift_k0 x2 g3 s.1 s.2.1 s.2.2 (fun s => some (.norm, f_s_l3Shift_fr0 x2 g3 s)) (fun e => some (f_s_l3Shift_x0_1 x2 g3 e)) := by kernel_rfl
theorem f_s_l3Shift_l0 (x2 : Int) (g3 : List Sc) : ∀ s r, loopL (f_s_l3Shift_r0 x2 g3) s = some r → LS Try.prog f_s_l3Shift_F (bodyOf Try.f62 0) (f_s_l3Shift_fr0 x2 g3 s) (enX (f_s_l3Shift_x0_1 x2 g3) (f_s_l3Shift_x0_2 x2 g3) r) :=
  loop_true E0ok f_s_l3Shift_Mt (noL_true) f_s_l3Shift_o (fun _ h => by cases h) (fun _ h => by cases h) (fun _ h => by cases h) (fun _ h => by cases h) (fun s => (f_s_l3Shift_e0 x2 g3 s).trans (f_s_l3Shift_p0 x2 g3 s _ _ (fun e => some (f_s_l3Shift_x0_2 x2 g3 e))))
def f_s_l3Shift_t0 (σ : List AV) : Option (Bool × Bool × (X × List AV) × (X × List AV)) := match dec f_s_l3Shift_h0 σ with
  | some [.i x2, .l g3, .i out7, .l l8, .i i9] => some (isOne (loopL (f_s_l3Shift_r0 x2 g3) (out7, l8, i9)), true, f_s_l3Shift_x0_1 x2 g3 (getOne 0 (loopL (f_s_l3Shift_r0 x2 g3) (out7, l8, i9))), (.ret, []))
  | _ => none
theorem f_s_l3Shift_tt0 : TTrue Try.prog f_s_l3Shift_F Try.f62 0 (f_s_l3Shift_t0) := by
  intro σ p r r' h
  unfold f_s_l3Shift_t0 at h
  split at h
  · rename_i hd
    rw [← dec_enc hd]
    exact row1 (f_s_l3Shift_l0 _ _ _) h
  · cases h
theorem f_s_l3Shift_p {R : Type} (g0 : List Sc) (a1 : Int) (x2 : Int) (kR : Int → Option R) : f_s_l3Shift_k g0 a1 x2 kR = (f_s_l3Shift_k g0 a1 x2 some).bind kR := by
  simp only [f_s_l3Shift_k, boB, bl1B, someB]
theorem f_s_l3Shift_e (g0 : List Sc) (a1 : Int) (x2 : Int) : runFn E0 f_s_l3Shift_M H0 f_s_l3Shift_F (asL (addL 0 (f_s_l3Shift_t0) (noL))) Try.f62 (f_s_l3Shift_a g0 a1 x2) (f_s_l3Shift_i g0 a1 x2) = f_s_l3Shift_k g0 a1 x2 (fun r => some (f_s_l3Shift_en r)) := by kernel_rfl
theorem f_s_l3Shift_ok (g0 : List Sc) (a1 : Int) (x2 : Int) (r : Int) (h : f_s_l3Shift g0 a1 x2 = some r) : CS Try.prog 62 (f_s_l3Shift_a g0 a1 x2) (f_s_l3Shift_i g0 a1 x2) (f_s_l3Shift_en r).1 (f_s_l3Shift_en r).2 :=
  fn_true (Gk := fun k => f_s_l3Shift_k g0 a1 x2 k) (en := f_s_l3Shift_en) Try.func62 E0ok f_s_l3Shift_Mt (addL_true (f_s_l3Shift_tt0) (noL_true)) f_s_l3Shift_o (f_s_l3Shift_e g0 a1 x2) (f_s_l3Shift_p g0 a1 x2) h
def f_s_l3Shift_c : CRow := fun args inh => match dec2 [.p .gr, .p (.int .i64), .p (.int .i64)] [] args inh with
  | some ([.l g0, .i a1, .i x2], []) => some ((f_s_l3Shift g0 a1 x2).isSome, (f_s_l3Shift_en ((f_s_l3Shift g0 a1 x2).getD 0)).1, (f_s_l3Shift_en ((f_s_l3Shift g0 a1 x2).getD 0)).2)
  | _ => none
theorem f_s_l3Shift_cc : CTrue Try.prog 62 f_s_l3Shift_c := by
  intro args inh rs out h
  unfold f_s_l3Shift_c at h
  split at h
  · rename_i hd
    obtain ⟨h1, h2⟩ := dec2_enc hd
    rw [← h1, ← h2]
    exact rowC (f_s_l3Shift_ok _ _ _) h
  · cases h

def f_s_l16Subsums_F : Fi := { nv := 0, nc := 0, m := 0, vt := [], kl := [(0, ([0, 3, 4, 7, 8, 9, 10, 11, 12, 13, 14, 15, 16, 17, 18, 19, 20, 21, 22, 23, 24, 25, 26, 27, 28], [0, 1, 2, 3, 4, 6, 7, 8, 9, 10, 11, 12, 13, 14, 15, 16, 17, 18, 19, 20, 21, 22, 23, 24, 25, 26, 27, 28], [0, 1, 2, 3, 5, 6, 7, 8, 9, 10, 11, 12, 13, 14, 15, 16, 17, 18, 19, 20, 21, 22, 23, 24, 25, 26, 27, 28]))], sk := [], mvs := [], fz := [] }
def f_s_l16Subsums_a (g0 : List Sc) (l1 : List Sc) : List AV := enc [.p .gr, .p .sl] [.l g0, .l l1]
def f_s_l16Subsums_i (g0 : List Sc) (l1 : List Sc) : List AV := enc [] []
def f_s_l16Subsums_en (r : Int) : List AV × List AV := (enc [.p (.int .i64)] [.i r], enc [] [])
def f_s_l16Subsums_M : Calling := addC 62 f_s_l3Shift_c (noC)
theorem f_s_l16Subsums_Mt : CallOk Try.prog (f_s_l16Subsums_M) := addC_true f_s_l3Shift_cc (noC_true)
theorem f_s_l16Subsums_o : loopsOnce Try.f77 = true := by kernel_rfl
def f_s_l16Subsums_h0 : List Sh := [.u, .p .sl, .p .el, .u, .u, .p (.int .i64), .p (.int .i64), .u, .u, .u, .u, .u, .u, .u, .u, .u, .u, .u, .u, .u, .u, .u, .u, .u, .u, .u, .u, .u, .u]
def f_s_l16Subsums_fr0 (l1 : List Sc) (g2 : List Sc) (s : Int × Int) : List AV := enc f_s_l16Subsums_h0 [.l l1, .l g2, .i s.1, .i s.2]
def f_s_l16Subsums_g0_1 : List Sh := [.u, .u, .u, .u, .u, .p (.int .i64), .u, .u, .u, .u, .u, .u, .u, .u, .u, .u, .u, .u, .u, .u, .u, .u, .u, .u, .u, .u, .u, .u, .u]
def f_s_l16Subsums_x0_1 (l1 : List Sc) (g2 : List Sc) (e : Int) : X × List AV := (.out 0, enc f_s_l16Subsums_g0_1 [.i e])
def f_s_l16Subsums_x0_2 (l1 : List Sc) (g2 : List Sc) (_e : Unit) : X × List AV := (.ret, [])
theorem f_s_l16Subsums_p0 {R : Type} (l1 : List Sc) (g2 : List Sc) (s : Int × Int) (kN : Int × Int → Option R) (kA : Int → Option R) (kB : Unit → Option R) : f_s_l16Subsums_k0 l1 g2 s.1 s.2 kN kA = (f_s_l16Subsums_r0 l1 g2 s).bind (Ro.el kN kA kB) := by
  simp only [f_s_l16Subsums_k0, f_s_l16Subsums_r0, brB, boB, someB, noneB, Ro.el]
theorem f_s_l16Subsums_e0 (l1 : List Sc) (g2 : List Sc) (s : Int × Int) : EC E0 f_s_l16Subsums_M H0 f_s_l16Subsums_F (asL (noL)) 0 (bodyOf Try.f77 0) (f_s_l16Subsums_fr0 l1 g2 s) (done (klOf f_s_l16Subsums_F 0)) = f_s_l16Subsums_k0 l1 g2 s.1 s.2 (fun s => some (.norm, f_s_l16Subsums_fr0 l1 g2 s)) (fun e => some (f_s_l16Subsums_x0_1 l1 g2 e)) := by kernel_rfl
theorem f_s_l16Subsums_l0 (l1 : List Sc) (g2 : List Sc) : ∀ s r, loopL (f_s_l16Subsums_r0 l1 g2) s = some r → LS Try.prog f_s_l16Subsums_F (bodyOf Try.f77 0) (f_s_l16Subsums_fr0 l1 g2 s) (enX (f_s_l16Subsums_x0_1 l1 g2) (f_s_l16Subsums_x0_2 l1 g2) r) :=
  loop_true E0ok f_s_l16Subsums_Mt (noL_true) f_s_l16Subsums_o (fun _ h => by cases h) (fun _ h => by cases h) (fun _ h => by cases h) (fun _ h => by cases h) (fun s => (f_s_l16Subsums_e0 l1 g2 s).trans (f_s_l16Subsums_p0 l1 g2 s _ _ (fun e => some (f_s_l16Subsums_x0_2 l1 g2 e))))
def f_s_l16Subsums_t0 (σ : List AV) : Option (Bool × Bool × (X × List AV) × (X × List AV)) := match dec f_s_l16Subsums_h0 σ with
  | some [.l l1, .l g2, .i out5, .i i6] => some (isOne (loopL (f_s_l16Subsums_r0 l1 g2) (out5, i6)), true, f_s_l16Subsums_x0_1 l1 g2 (getOne 0 (loopL (f_s_l16Subsums_r0 l1 g2) (out5, i6))), (.ret, []))
  | _ => none
theorem f_s_l16Subsums_tt0 : TTrue Try.prog f_s_l16Subsums_F Try.f77 0 (f_s_l16Subsums_t0) := by
  intro σ p r r' h
  unfold f_s_l16Subsums_t0 at h
  split at h
  · rename_i hd
    rw [← dec_enc hd]
    exact row1 (f_s_l16Subsums_l0 _ _ _) h
  · cases h
theorem f_s_l16Subsums_p {R : Type} (g0 : List Sc) (l1 : List Sc) (kR : Int → Option R) : f_s_l16Subsums_k g0 l1 kR = (f_s_l16Subsums_k g0 l1 some).bind kR := by
  simp only [f_s_l16Subsums_k, bl1B, someB]
theorem f_s_l16Subsums_e (g0 : List Sc) (l1 : List Sc) : runFn E0 f_s_l16Subsums_M H0 f_s_l16Subsums_F (asL (addL 0 (f_s_l16Subsums_t0) (noL))) Try.f77 (f_s_l16Subsums_a g0 l1) (f_s_l16Subsums_i g0 l1) = f_s_l16Subsums_k g0 l1 (fun r => some (f_s_l16Subsums_en r)) := by kernel_rfl
theorem f_s_l16Subsums_ok (g0 : List Sc) (l1 : List Sc) (r : Int) (h : f_s_l16Subsums g0 l1 = some r) : CS Try.prog 77 (f_s_l16Subsums_a g0 l1) (f_s_l16Subsums_i g0 l1) (f_s_l16Subsums_en r).1 (f_s_l16Subsums_en r).2 :=
  fn_true (Gk := fun k => f_s_l16Subsums_k g0 l1 k) (en := f_s_l16Subsums_en) Try.func77 E0ok f_s_l16Subsums_Mt (addL_true (f_s_l16Subsums_tt0) (noL_true)) f_s_l16Subsums_o (f_s_l16Subsums_e g0 l1) (f_s_l16Subsums_p g0 l1) h
def f_s_l16Subsums_c : CRow := fun args inh => match dec2 [.p .gr, .p .sl] [] args inh with
  | some ([.l g0, .l l1], []) => some ((f_s_l16Subsums g0 l1).isSome, (f_s_l16Subsums_en ((f_s_l16Subsums g0 l1).getD 0)).1, (f_s_l16Subsums_en ((f_s_l16Subsums g0 l1).getD 0)).2)
  | _ => none
theorem f_s_l16Subsums_cc : CTrue Try.prog 77 f_s_l16Subsums_c := by
  intro args inh rs out h
  unfold f_s_l16Subsums_c at h
  split at h
  · rename_i hd
    obtain ⟨h1, h2⟩ := dec2_enc hd
    rw [← h1, ← h2]
    exact rowC (f_s_l16Subsums_ok _ _) h
  · cases h

def f_s_l19Minimal_F : Fi := { nv := 0, nc := 0, m := 0, vt := [], kl := [(0, ([0, 3, 4, 6, 7, 8, 9, 10, 11, 12, 13, 14, 15, 16, 17, 18, 19, 20, 21, 22, 23, 24, 25, 26, 27], [0, 1, 2, 3, 4, 5, 6, 7, 8, 9, 10, 11, 12, 13, 14, 15, 16, 17, 18, 19, 20, 21, 22, 23, 24, 25, 26, 27], [0, 1, 2, 3, 5, 6, 7, 8, 9, 10, 11, 12, 13, 14, 15, 16, 17, 18, 19, 20, 21, 22, 23, 24, 25, 26, 27]))], sk := [], mvs := [], fz := [] }
def f_s_l19Minimal_a (g0 : List Sc) (l1 : List Sc) : List AV := enc [.p .gr, .p .sl] [.l g0, .l l1]
def f_s_l19Minimal_i (g0 : List Sc) (l1 : List Sc) : List AV := enc [] []
def f_s_l19Minimal_en (r : Bool) : List AV × List AV := (enc [.p .boo] [.b r], enc [] [])
def f_s_l19Minimal_M : Calling := addC 77 f_s_l16Subsums_c (noC)
theorem f_s_l19Minimal_Mt : CallOk Try.prog (f_s_l19Minimal_M) := addC_true f_s_l16Subsums_cc (noC_true)
theorem f_s_l19Minimal_o : loopsOnce Try.f61 = true := by kernel_rfl
def f_s_l19Minimal_h0 : List Sh := [.u, .p .sl, .p .el, .u, .u, .p (.int .i64), .u, .u, .u, .u, .u, .u, .u, .u, .u, .u, .u, .u, .u, .u, .u, .u, .u, .u, .u, .u, .u, .u]
def f_s_l19Minimal_fr0 (l1 : List Sc) (g2 : List Sc) (s : Int) : List AV := enc f_s_l19Minimal_h0 [.l l1, .l g2, .i s]
def f_s_l19Minimal_g0_1 : List Sh := [.u, .u, .u, .u, .u, .u, .u, .u, .u, .u, .u, .u, .u, .u, .u, .u, .u, .u, .u, .u, .u, .u, .u, .u, .u, .u, .u, .u]
def f_s_l19Minimal_x0_1 (l1 : List Sc) (g2 : List Sc) (e : Unit) : X × List AV := (.out 0, enc f_s_l19Minimal_g0_1 [])
def f_s_l19Minimal_g0_2 : List Sh := [.u, .u, .u, .u, .p .boo, .u, .u, .u, .u, .u, .u, .u, .u, .u, .u, .u, .u, .u, .u, .u, .u, .u, .u, .u, .u, .u, .u, .u]
def f_s_l19Minimal_x0_2 (l1 : List Sc) (g2 : List Sc) (e : Unit) : X × List AV := (.ret, enc f_s_l19Minimal_g0_2 [.b false])
theorem f_s_l19Minimal_p0 {R : Type} (l1 : List Sc) (g2 : List Sc) (s : Int) (kN : Int → Option R) (kA : Unit → Option R) (kB : Unit → Option R) : f_s_l19Minimal_k0 l1 g2 s kN kA kB = (f_s_l19Minimal_r0 l1 g2 s).bind (Ro.el kN kA kB) := by
  simp only [f_s_l19Minimal_k0, f_s_l19Minimal_r0, brB, boB, someB, noneB, Ro.el]
theorem f_s_l19Minimal_e0 (l1 : List Sc) (g2 : List Sc) (s : Int) : EC E0 f_s_l19Minimal_M H0 f_s_l19Minimal_F (asL (noL)) 0 (bodyOf Try.f61 0) (f_s_l19Minimal_fr0 l1 g2 s) (done (klOf f_s_l19Minimal_F 0)) = f_s_l19Minimal_k0 l1 g2 s (fun s => some (.norm, f_s_l19Minimal_fr0 l1 g2 s)) (fun e => some (f_s_l19Minimal_x0_1 l1 g2 e)) (fun e => some (f_s_l19Minimal_x0_2 l1 g2 e)) := by kernel_rfl
theorem f_s_l19Minimal_l0 (l1 : List Sc) (g2 : List Sc) : ∀ s r, loopL (f_s_l19Minimal_r0 l1 g2) s = some r → LS Try.prog f_s_l19Minimal_F (bodyOf Try.f61 0) (f_s_l19Minimal_fr0 l1 g2 s) (enX (f_s_l19Minimal_x0_1 l1 g2) (f_s_l19Minimal_x0_2 l1 g2) r) :=
  loop_true E0ok f_s_l19Minimal_Mt (noL_true) f_s_l19Minimal_o (fun _ h => by cases h) (fun _ h => by cases h) (fun _ h => by cases h) (fun _ h => by cases h) (fun s => (f_s_l19Minimal_e0 l1 g2 s).trans (f_s_l19Minimal_p0 l1 g2 s _ _ (fun e => some (f_s_l19Minimal_x0_2 l1 g2 e))))
def f_s_l19Minimal_t0 (σ : List AV) : Option (Bool × Bool × (X × List AV) × (X × List AV)) := match dec f_s_l19Minimal_h0 σ with
  | some [.l l1, .l g2, .i i5] => some ((loopL (f_s_l19Minimal_r0 l1 g2) i5).isSome, isOne (loopL (f_s_l19Minimal_r0 l1 g2) i5), f_s_l19Minimal_x0_1 l1 g2 (getOne () (loopL (f_s_l19Minimal_r0 l1 g2) i5)), f_s_l19Minimal_x0_2 l1 g2 (getTwo () (loopL (f_s_l19Minimal_r0 l1 g2) i5)))
  | _ => none
theorem f_s_l19Minimal_tt0 : TTrue Try.prog f_s_l19Minimal_F Try.f61 0 (f_s_l19Minimal_t0) := by
  intro σ p r r' h
  unfold f_s_l19Minimal_t0 at h
  split at h
  · rename_i hd
    rw [← dec_enc hd]
    exact row2 (f_s_l19Minimal_l0 _ _ _) h
  · cases h
theorem f_s_l19Minimal_p {R : Type} (g0 : List Sc) (l1 : List Sc) (kR : Bool → Option R) : f_s_l19Minimal_k g0 l1 kR = (f_s_l19Minimal_k g0 l1 some).bind kR := by
  simp only [f_s_l19Minimal_k, blB, someB]
theorem f_s_l19Minimal_e (g0 : List Sc) (l1 : List Sc) : runFn E0 f_s_l19Minimal_M H0 f_s_l19Minimal_F (asL (addL 0 (f_s_l19Minimal_t0) (noL))) Try.f61 (f_s_l19Minimal_a g0 l1) (f_s_l19Minimal_i g0 l1) = f_s_l19Minimal_k g0 l1 (fun r => some (f_s_l19Minimal_en r)) := by kernel_rfl
theorem f_s_l19Minimal_ok (g0 : List Sc) (l1 : List Sc) (r : Bool) (h : f_s_l19Minimal g0 l1 = some r) : CS Try.prog 61 (f_s_l19Minimal_a g0 l1) (f_s_l19Minimal_i g0 l1) (f_s_l19Minimal_en r).1 (f_s_l19Minimal_en r).2 :=
  fn_true (Gk := fun k => f_s_l19Minimal_k g0 l1 k) (en := f_s_l19Minimal_en) Try.func61 E0ok f_s_l19Minimal_Mt (addL_true (f_s_l19Minimal_tt0) (noL_true)) f_s_l19Minimal_o (f_s_l19Minimal_e g0 l1) (f_s_l19Minimal_p g0 l1) h
def f_s_l19Minimal_c : CRow := fun args inh => match dec2 [.p .gr, .p .sl] [] args inh with
  | some ([.l g0, .l l1], []) => some ((f_s_l19Minimal g0 l1).isSome, (f_s_l19Minimal_en ((f_s_l19Minimal g0 l1).getD false)).1, (f_s_l19Minimal_en ((f_s_l19Minimal g0 l1).getD false)).2)
  | _ => none
theorem f_s_l19Minimal_cc : CTrue Try.prog 61 f_s_l19Minimal_c := by
  intro args inh rs out h
  unfold f_s_l19Minimal_c at h
  split at h
  · rename_i hd
    obtain ⟨h1, h2⟩ := dec2_enc hd
    rw [← h1, ← h2]
    exact rowC (f_s_l19Minimal_ok _ _) h
  · cases h

def f_s_l19Atoms_io_F : Fi := { nv := 1, nc := 1, m := 1, vt := [], kl := [(0, ([1, 4, 7, 8, 9, 10, 11, 12, 13, 15, 16, 17, 18, 19, 20, 21, 22, 23, 24, 25, 26, 27, 28, 29, 30, 31, 32, 33, 34, 35, 36, 37, 38, 39, 40, 41, 42, 43, 44, 45, 46, 47, 48, 49, 50, 51, 52, 53, 54, 55, 56, 57, 58, 59, 60, 61, 62, 63, 64, 65, 66, 67, 68, 69, 70, 71, 72, 73, 74, 75, 76, 77], [1, 2, 3, 4, 6, 7, 8, 9, 10, 11, 12, 13, 14, 15, 16, 17, 18, 19, 20, 21, 22, 23, 24, 25, 26, 27, 28, 29, 30, 31, 32, 33, 34, 35, 36, 37, 38, 39, 40, 41, 42, 43, 44, 45, 46, 47, 48, 49, 50, 51, 52, 53, 54, 55, 56, 57, 58, 59, 60, 61, 62, 63, 64, 65, 66, 67, 68, 69, 70, 71, 72, 73, 74, 75, 76, 77], [1, 2, 3, 4, 5, 6, 7, 8, 9, 10, 12, 13, 14, 15, 16, 17, 18, 19, 20, 21, 22, 23, 24, 25, 26, 27, 28, 29, 30, 31, 32, 33, 34, 35, 36, 37, 38, 39, 40, 41, 42, 43, 44, 45, 46, 47, 48, 49, 50, 51, 52, 53, 54, 55, 56, 57, 58, 59, 60, 61, 62, 63, 64, 65, 66, 67, 68, 69, 70, 71, 72, 73, 74, 75, 76, 77]))], sk := [], mvs := [], fz := [], tk := [4] }
def f_s_l19Atoms_io_a (L0 : List Sc) (p1 : List Sc) (p2 : Int) (p3 : Int) (h0 : List Sc) : List AV := enc [.p .gr, .p .sl, .p (.int .i64), .p (.int .i64), .p (.al 0)] [.l L0, .l p1, .i p2, .i p3]
def f_s_l19Atoms_io_i (L0 : List Sc) (p1 : List Sc) (p2 : Int) (p3 : Int) (h0 : List Sc) : List AV := enc [.own 1000022] [.l h0]
def f_s_l19Atoms_io_en (r : List Sc) : List AV × List AV := (enc [.p (.al 1)] [], enc [.u, .own 1000022] [.l r])
def f_s_l19Atoms_io_cs (self : (List Sc × List Sc × Int × Int × List Sc) → Option (List Sc)) : CRow := fun args inh => match dec2 [.p .gr, .p .sl, .p (.int .i64), .p (.int .i64), .p (.al 0)] [.own 1000022] args inh with
  | some ([.l L0, .l p1, .i p2, .i p3], [.l h0]) => some ((self (L0, p1, p2, p3, h0)).isSome, (f_s_l19Atoms_io_en ((self (L0, p1, p2, p3, h0)).getD [])).1, (f_s_l19Atoms_io_en ((self (L0, p1, p2, p3, h0)).getD [])).2)
  | _ => none
theorem f_s_l19Atoms_io_cst (self : (List Sc × List Sc × Int × Int × List Sc) → Option (List Sc)) (hs : ∀ a r, self a = some r → CS Try.prog 35 (f_s_l19Atoms_io_a a.1 a.2.1 a.2.2.1 a.2.2.2.1 a.2.2.2.2) (f_s_l19Atoms_io_i a.1 a.2.1 a.2.2.1 a.2.2.2.1 a.2.2.2.2) (f_s_l19Atoms_io_en r).1 (f_s_l19Atoms_io_en r).2) : CTrue Try.prog 35 (f_s_l19Atoms_io_cs self) := by
  intro args inh rs out h
  unfold f_s_l19Atoms_io_cs at h
  split at h
  · rename_i hd
    obtain ⟨h1, h2⟩ := dec2_enc hd
    rw [← h1, ← h2]
    exact rowC (hs _) h
  · cases h
def f_s_l19Atoms_io_M (self : (List Sc × List Sc × Int × Int × List Sc) → Option (List Sc)) : Calling := addC 35 (f_s_l19Atoms_io_cs self) (addC 60 f_s_l16Sum_c (addC 59 f_s_l2Negate_c (addC 61 f_s_l19Minimal_c (addC 34 f_s_l2Order_c (addC 62 f_s_l3Shift_c (noC))))))
theorem f_s_l19Atoms_io_Mt (self : (List Sc × List Sc × Int × Int × List Sc) → Option (List Sc)) (hs : ∀ a r, self a = some r → CS Try.prog 35 (f_s_l19Atoms_io_a a.1 a.2.1 a.2.2.1 a.2.2.2.1 a.2.2.2.2) (f_s_l19Atoms_io_i a.1 a.2.1 a.2.2.1 a.2.2.2.1 a.2.2.2.2) (f_s_l19Atoms_io_en r).1 (f_s_l19Atoms_io_en r).2) : CallOk Try.prog (f_s_l19Atoms_io_M self) := addC_true (f_s_l19Atoms_io_cst self hs) (addC_true f_s_l16Sum_cc (addC_true f_s_l2Negate_cc (addC_true f_s_l19Minimal_cc (addC_true f_s_l2Order_cc (addC_true f_s_l3Shift_cc (noC_true))))))
theorem f_s_l19Atoms_io_o : loopsOnce Try.f35 = true := by kernel_rfl
def f_s_l19Atoms_io_h0 : List Sh := [.u, .u, .p .sl, .p (.int .i64), .u, .own 1000022, .p .el, .u, .u, .u, .u, .u, .u, .u, .p (.int .i64), .u, .u, .u, .u, .u, .u, .u, .u, .u, .u, .u, .u, .u, .u, .u, .u, .u, .u, .u, .u, .u, .u, .u, .u, .u, .u, .u, .u, .u, .u, .u, .u, .u, .u, .u, .u, .u, .u, .u, .u, .u, .u, .u, .u, .u, .u, .u, .u, .u, .u, .u, .u, .u, .u, .u, .u, .u, .u, .u, .u, .u, .u, .u]
def f_s_l19Atoms_io_fr0 (self : (List Sc × List Sc × Int × Int × List Sc) → Option (List Sc)) (t1 : List Sc) (t2 : Int) (t5 : List Sc) (s : List Sc × Int) : List AV := enc f_s_l19Atoms_io_h0 [.l t1, .i t2, .l s.1, .l t5, .i s.2]
def f_s_l19Atoms_io_g0_1 : List Sh := [.u, .u, .u, .u, .u, .own 1000022, .u, .u, .u, .u, .u, .u, .u, .u, .u, .u, .u, .u, .u, .u, .u, .u, .u, .u, .u, .u, .u, .u, .u, .u, .u, .u, .u, .u, .u, .u, .u, .u, .u, .u, .u, .u, .u, .u, .u, .u, .u, .u, .u, .u, .u, .u, .u, .u, .u, .u, .u, .u, .u, .u, .u, .u, .u, .u, .u, .u, .u, .u, .u, .u, .u, .u, .u, .u, .u, .u, .u, .u]
def f_s_l19Atoms_io_x0_1 (self : (List Sc × List Sc × Int × Int × List Sc) → Option (List Sc)) (t1 : List Sc) (t2 : Int) (t5 : List Sc) (e : List Sc) : X × List AV := (.out 0, enc f_s_l19Atoms_io_g0_1 [.l e])
def f_s_l19Atoms_io_x0_2 (self : (List Sc × List Sc × Int × Int × List Sc) → Option (List Sc)) (t1 : List Sc) (t2 : Int) (t5 : List Sc) (_e : Unit) : X × List AV := (.ret, [])
theorem f_s_l19Atoms_io_p0 {R : Type} (self : (List Sc × List Sc × Int × Int × List Sc) → Option (List Sc)) (t1 : List Sc) (t2 : Int) (t5 : List Sc) (s : List Sc × Int) (kN : List Sc × Int → Option R) (kA : List Sc → Option R) (kB : Unit → Option R) : f_s_l19Atoms_io_k0 self t1 t2 t5 s.1 s.2 kN kA = (f_s_l19Atoms_io_r0 self t1 t2 t5 s).bind (Ro.el kN kA kB) := by
  simp only [f_s_l19Atoms_io_k0, f_s_l19Atoms_io_r0, brB, boB, someB, noneB, Ro.el]
theorem f_s_l19Atoms_io_e0 (self : (List Sc × List Sc × Int × Int × List Sc) → Option (List Sc)) (t1 : List Sc) (t2 : Int) (t5 : List Sc) (s : List Sc × Int) : EC E0 (f_s_l19Atoms_io_M self) H0 f_s_l19Atoms_io_F (asL (noL)) 0 (bodyOf Try.f35 0) (f_s_l19Atoms_io_fr0 self t1 t2 t5 s) (done (klOf f_s_l19Atoms_io_F 0)) = f_s_l19Atoms_io_k0 self t1 t2 t5 s.1 s.2 (fun s => some (.norm, f_s_l19Atoms_io_fr0 self t1 t2 t5 s)) (fun e => some (f_s_l19Atoms_io_x0_1 self t1 t2 t5 e)) := by kernel_rfl
theorem f_s_l19Atoms_io_l0 (self : (List Sc × List Sc × Int × Int × List Sc) → Option (List Sc)) (hs : ∀ a r, self a = some r → CS Try.prog 35 (f_s_l19Atoms_io_a a.1 a.2.1 a.2.2.1 a.2.2.2.1 a.2.2.2.2) (f_s_l19Atoms_io_i a.1 a.2.1 a.2.2.1 a.2.2.2.1 a.2.2.2.2) (f_s_l19Atoms_io_en r).1 (f_s_l19Atoms_io_en r).2) (t1 : List Sc) (t2 : Int) (t5 : List Sc) : ∀ s r, loopL (f_s_l19Atoms_io_r0 self t1 t2 t5) s = some r → LS Try.prog f_s_l19Atoms_io_F (bodyOf Try.f35 0) (f_s_l19Atoms_io_fr0 self t1 t2 t5 s) (enX (f_s_l19Atoms_io_x0_1 self t1 t2 t5) (f_s_l19Atoms_io_x0_2 self t1 t2 t5) r) :=
  loop_true E0ok (f_s_l19Atoms_io_Mt self hs) (noL_true) f_s_l19Atoms_io_o (fun _ h => by cases h) (fun _ h => by cases h) (fun _ h => by cases h) (fun _ h => by cases h) (fun s => (f_s_l19Atoms_io_e0 self t1 t2 t5 s).trans (f_s_l19Atoms_io_p0 self t1 t2 t5 s _ _ (fun e => some (f_s_l19Atoms_io_x0_2 self t1 t2 t5 e))))
def f_s_l19Atoms_io_t0 (self : (List Sc × List Sc × Int × Int × List Sc) → Option (List Sc)) (σ : List AV) : Option (Bool × Bool × (X × List AV) × (X × List AV)) := match dec f_s_l19Atoms_io_h0 σ with
  | some [.l t1, .i t2, .l t4, .l t5, .i t13] => some (isOne (loopL (f_s_l19Atoms_io_r0 self t1 t2 t5) (t4, t13)), true, f_s_l19Atoms_io_x0_1 self t1 t2 t5 (getOne [] (loopL (f_s_l19Atoms_io_r0 self t1 t2 t5) (t4, t13))), (.ret, []))
  | _ => none
theorem f_s_l19Atoms_io_tt0 (self : (List Sc × List Sc × Int × Int × List Sc) → Option (List Sc)) (hs : ∀ a r, self a = some r → CS Try.prog 35 (f_s_l19Atoms_io_a a.1 a.2.1 a.2.2.1 a.2.2.2.1 a.2.2.2.2) (f_s_l19Atoms_io_i a.1 a.2.1 a.2.2.1 a.2.2.2.1 a.2.2.2.2) (f_s_l19Atoms_io_en r).1 (f_s_l19Atoms_io_en r).2) : TTrue Try.prog f_s_l19Atoms_io_F Try.f35 0 (f_s_l19Atoms_io_t0 self) := by
  intro σ p r r' h
  unfold f_s_l19Atoms_io_t0 at h
  split at h
  · rename_i hd
    rw [← dec_enc hd]
    exact row1 (f_s_l19Atoms_io_l0 self hs _ _ _ _) h
  · cases h
theorem f_s_l19Atoms_io_p {R : Type} (self : (List Sc × List Sc × Int × Int × List Sc) → Option (List Sc)) (L0 : List Sc) (p1 : List Sc) (p2 : Int) (p3 : Int) (h0 : List Sc) (kR : List Sc → Option R) : f_s_l19Atoms_io_k self L0 p1 p2 p3 h0 kR = (f_s_l19Atoms_io_k self L0 p1 p2 p3 h0 some).bind kR := by
  simp only [f_s_l19Atoms_io_k, brB, boB, bl1B, someB, noneB]
theorem f_s_l19Atoms_io_e (self : (List Sc × List Sc × Int × Int × List Sc) → Option (List Sc)) (L0 : List Sc) (p1 : List Sc) (p2 : Int) (p3 : Int) (h0 : List Sc) : runFn E0 (f_s_l19Atoms_io_M self) H0 f_s_l19Atoms_io_F (asL (addL 0 (f_s_l19Atoms_io_t0 self) (noL))) Try.f35 (f_s_l19Atoms_io_a L0 p1 p2 p3 h0) (f_s_l19Atoms_io_i L0 p1 p2 p3 h0) = f_s_l19Atoms_io_k self L0 p1 p2 p3 h0 (fun r => some (f_s_l19Atoms_io_en r)) := by kernel_rfl
theorem f_s_l19Atoms_io_ks (self : (List Sc × List Sc × Int × Int × List Sc) → Option (List Sc)) (hs : ∀ a r, self a = some r → CS Try.prog 35 (f_s_l19Atoms_io_a a.1 a.2.1 a.2.2.1 a.2.2.2.1 a.2.2.2.2) (f_s_l19Atoms_io_i a.1 a.2.1 a.2.2.1 a.2.2.2.1 a.2.2.2.2) (f_s_l19Atoms_io_en r).1 (f_s_l19Atoms_io_en r).2) (L0 : List Sc) (p1 : List Sc) (p2 : Int) (p3 : Int) (h0 : List Sc) (r : List Sc) (h : f_s_l19Atoms_io_k self L0 p1 p2 p3 h0 some = some r) : CS Try.prog 35 (f_s_l19Atoms_io_a L0 p1 p2 p3 h0) (f_s_l19Atoms_io_i L0 p1 p2 p3 h0) (f_s_l19Atoms_io_en r).1 (f_s_l19Atoms_io_en r).2 :=
  fn_true (Gk := fun k => f_s_l19Atoms_io_k self L0 p1 p2 p3 h0 k) (en := f_s_l19Atoms_io_en) Try.func35 E0ok (f_s_l19Atoms_io_Mt self hs) (addL_true (f_s_l19Atoms_io_tt0 self hs) (noL_true)) f_s_l19Atoms_io_o (f_s_l19Atoms_io_e self L0 p1 p2 p3 h0) (f_s_l19Atoms_io_p self L0 p1 p2 p3 h0) h
theorem f_s_l19Atoms_io_ns : ∀ n a r, f_s_l19Atoms_io_n n a = some r → CS Try.prog 35 (f_s_l19Atoms_io_a a.1 a.2.1 a.2.2.1 a.2.2.2.1 a.2.2.2.2) (f_s_l19Atoms_io_i a.1 a.2.1 a.2.2.1 a.2.2.2.1 a.2.2.2.2) (f_s_l19Atoms_io_en r).1 (f_s_l19Atoms_io_en r).2
  | 0, _, _, h => by cases h
  | n + 1, a, r, h => f_s_l19Atoms_io_ks (f_s_l19Atoms_io_n n) (f_s_l19Atoms_io_ns n) a.1 a.2.1 a.2.2.1 a.2.2.2.1 a.2.2.2.2 r h
theorem f_s_l19Atoms_io_ok (L0 : List Sc) (p1 : List Sc) (p2 : Int) (p3 : Int) (h0 : List Sc) (r : List Sc) (h : f_s_l19Atoms_io L0 p1 p2 p3 h0 = some r) : CS Try.prog 35 (f_s_l19Atoms_io_a L0 p1 p2 p3 h0) (f_s_l19Atoms_io_i L0 p1 p2 p3 h0) (f_s_l19Atoms_io_en r).1 (f_s_l19Atoms_io_en r).2 := by
  obtain ⟨n, hn⟩ := limF_some h
  exact f_s_l19Atoms_io_ns n _ r hn
def f_s_l19Atoms_io_c : CRow := fun args inh => match dec2 [.p .gr, .p .sl, .p (.int .i64), .p (.int .i64), .p (.al 0)] [.own 1000022] args inh with
  | some ([.l L0, .l p1, .i p2, .i p3], [.l h0]) => some ((f_s_l19Atoms_io L0 p1 p2 p3 h0).isSome, (f_s_l19Atoms_io_en ((f_s_l19Atoms_io L0 p1 p2 p3 h0).getD [])).1, (f_s_l19Atoms_io_en ((f_s_l19Atoms_io L0 p1 p2 p3 h0).getD [])).2)
  | _ => none
theorem f_s_l19Atoms_io_cc : CTrue Try.prog 35 f_s_l19Atoms_io_c := by
  intro args inh rs out h
  unfold f_s_l19Atoms_io_c at h
  split at h
  · rename_i hd
    obtain ⟨h1, h2⟩ := dec2_enc hd
    rw [← h1, ← h2]
    exact rowC (f_s_l19Atoms_io_ok _ _ _ _ _) h
  · cases h

def f_s_l19Before_F : Fi := { nv := 0, nc := 0, m := 0, vt := [], kl := [(0, ([2, 3, 4, 6, 7, 8, 9, 10, 11, 12, 13, 14, 15, 16, 17, 18, 19, 20, 21, 22, 23, 24, 25, 26, 27, 28, 29, 30, 31, 32, 33, 34, 35, 36, 37, 38, 39], [0, 1, 2, 3, 4, 5, 6, 7, 8, 9, 10, 11, 12, 13, 14, 15, 16, 17, 18, 19, 20, 21, 22, 23, 24, 25, 26, 27, 28, 29, 30, 31, 32, 33, 34, 35, 36, 37, 38, 39], [0, 1, 2, 3, 5, 6, 7, 8, 9, 10, 11, 12, 13, 14, 15, 16, 17, 18, 19, 20, 21, 22, 23, 24, 25, 26, 27, 28, 29, 30, 31, 32, 33, 34, 35, 36, 37, 38, 39]))], sk := [], mvs := [], fz := [] }
def f_s_l19Before_a (a0 : List Sc) (b1 : List Sc) : List AV := enc [.p .sl, .p .sl] [.l a0, .l b1]
def f_s_l19Before_i (a0 : List Sc) (b1 : List Sc) : List AV := enc [] []
def f_s_l19Before_en (r : Bool) : List AV × List AV := (enc [.p .boo] [.b r], enc [] [])
def f_s_l19Before_M : Calling := noC
theorem f_s_l19Before_Mt : CallOk Try.prog (f_s_l19Before_M) := noC_true
theorem f_s_l19Before_o : loopsOnce Try.f36 = true := by kernel_rfl
def f_s_l19Before_h0 : List Sh := [.p .sl, .p .sl, .u, .u, .u, .p (.int .i64), .u, .u, .u, .u, .u, .u, .u, .u, .u, .u, .u, .u, .u, .u, .u, .u, .u, .u, .u, .u, .u, .u, .u, .u, .u, .u, .u, .u, .u, .u, .u, .u, .u, .u]
def f_s_l19Before_fr0 (a0 : List Sc) (b1 : List Sc) (s : Int) : List AV := enc f_s_l19Before_h0 [.l a0, .l b1, .i s]
def f_s_l19Before_g0_1 : List Sh := [.u, .u, .u, .u, .u, .u, .u, .u, .u, .u, .u, .u, .u, .u, .u, .u, .u, .u, .u, .u, .u, .u, .u, .u, .u, .u, .u, .u, .u, .u, .u, .u, .u, .u, .u, .u, .u, .u, .u, .u]
def f_s_l19Before_x0_1 (a0 : List Sc) (b1 : List Sc) (e : Unit) : X × List AV := (.out 0, enc f_s_l19Before_g0_1 [])
def f_s_l19Before_g0_2 : List Sh := [.u, .u, .u, .u, .p .boo, .u, .u, .u, .u, .u, .u, .u, .u, .u, .u, .u, .u, .u, .u, .u, .u, .u, .u, .u, .u, .u, .u, .u, .u, .u, .u, .u, .u, .u, .u, .u, .u, .u, .u, .u]
def f_s_l19Before_x0_2 (a0 : List Sc) (b1 : List Sc) (e : Bool) : X × List AV := (.ret, enc f_s_l19Before_g0_2 [.b e])
theorem f_s_l19Before_p0 {R : Type} (a0 : List Sc) (b1 : List Sc) (s : Int) (kN : Int → Option R) (kA : Unit → Option R) (kB : Bool → Option R) : f_s_l19Before_k0 a0 b1 s kN kA kB = (f_s_l19Before_r0 a0 b1 s).bind (Ro.el kN kA kB) := by
  simp only [f_s_l19Before_k0, f_s_l19Before_r0, brB, someB, noneB, Ro.el]
theorem f_s_l19Before_e0 (a0 : List Sc) (b1 : List Sc) (s : Int) : EC E0 f_s_l19Before_M H0 f_s_l19Before_F (asL (noL)) 0 (bodyOf Try.f36 0) (f_s_l19Before_fr0 a0 b1 s) (done (klOf f_s_l19Before_F 0)) = f_s_l19Before_k0 a0 b1 s (fun s => some (.norm, f_s_l19Before_fr0 a0 b1 s)) (fun e => some (f_s_l19Before_x0_1 a0 b1 e)) (fun e => some (f_s_l19Before_x0_2 a0 b1 e)) := by kernel_rfl
theorem f_s_l19Before_l0 (a0 : List Sc) (b1 : List Sc) : ∀ s r, loopL (f_s_l19Before_r0 a0 b1) s = some r → LS Try.prog f_s_l19Before_F (bodyOf Try.f36 0) (f_s_l19Before_fr0 a0 b1 s) (enX (f_s_l19Before_x0_1 a0 b1) (f_s_l19Before_x0_2 a0 b1) r) :=
  loop_true E0ok f_s_l19Before_Mt (noL_true) f_s_l19Before_o (fun _ h => by cases h) (fun _ h => by cases h) (fun _ h => by cases h) (fun _ h => by cases h) (fun s => (f_s_l19Before_e0 a0 b1 s).trans (f_s_l19Before_p0 a0 b1 s _ _ (fun e => some (f_s_l19Before_x0_2 a0 b1 e))))
def f_s_l19Before_t0 (σ : List AV) : Option (Bool × Bool × (X × List AV) × (X × List AV)) := match dec f_s_l19Before_h0 σ with
  | some [.l a0, .l b1, .i i5] => some ((loopL (f_s_l19Before_r0 a0 b1) i5).isSome, isOne (loopL (f_s_l19Before_r0 a0 b1) i5), f_s_l19Before_x0_1 a0 b1 (getOne () (loopL (f_s_l19Before_r0 a0 b1) i5)), f_s_l19Before_x0_2 a0 b1 (getTwo false (loopL (f_s_l19Before_r0 a0 b1) i5)))
  | _ => none
theorem f_s_l19Before_tt0 : TTrue Try.prog f_s_l19Before_F Try.f36 0 (f_s_l19Before_t0) := by
  intro σ p r r' h
  unfold f_s_l19Before_t0 at h
  split at h
  · rename_i hd
    rw [← dec_enc hd]
    exact row2 (f_s_l19Before_l0 _ _ _) h
  · cases h
theorem f_s_l19Before_p {R : Type} (a0 : List Sc) (b1 : List Sc) (kR : Bool → Option R) : f_s_l19Before_k a0 b1 kR = (f_s_l19Before_k a0 b1 some).bind kR := by
  simp only [f_s_l19Before_k, brB, blB, someB]
theorem f_s_l19Before_e (a0 : List Sc) (b1 : List Sc) : runFn E0 f_s_l19Before_M H0 f_s_l19Before_F (asL (addL 0 (f_s_l19Before_t0) (noL))) Try.f36 (f_s_l19Before_a a0 b1) (f_s_l19Before_i a0 b1) = f_s_l19Before_k a0 b1 (fun r => some (f_s_l19Before_en r)) := by kernel_rfl
theorem f_s_l19Before_ok (a0 : List Sc) (b1 : List Sc) (r : Bool) (h : f_s_l19Before a0 b1 = some r) : CS Try.prog 36 (f_s_l19Before_a a0 b1) (f_s_l19Before_i a0 b1) (f_s_l19Before_en r).1 (f_s_l19Before_en r).2 :=
  fn_true (Gk := fun k => f_s_l19Before_k a0 b1 k) (en := f_s_l19Before_en) Try.func36 E0ok f_s_l19Before_Mt (addL_true (f_s_l19Before_tt0) (noL_true)) f_s_l19Before_o (f_s_l19Before_e a0 b1) (f_s_l19Before_p a0 b1) h
def f_s_l19Before_c : CRow := fun args inh => match dec2 [.p .sl, .p .sl] [] args inh with
  | some ([.l a0, .l b1], []) => some ((f_s_l19Before a0 b1).isSome, (f_s_l19Before_en ((f_s_l19Before a0 b1).getD false)).1, (f_s_l19Before_en ((f_s_l19Before a0 b1).getD false)).2)
  | _ => none
theorem f_s_l19Before_cc : CTrue Try.prog 36 f_s_l19Before_c := by
  intro args inh rs out h
  unfold f_s_l19Before_c at h
  split at h
  · rename_i hd
    obtain ⟨h1, h2⟩ := dec2_enc hd
    rw [← h1, ← h2]
    exact rowC (f_s_l19Before_ok _ _) h
  · cases h

def f_s_AtomsOf_F : Fi := { nv := 0, nc := 0, m := 0, vt := [], kl := [(2, ([0, 1, 2, 3, 8, 9, 10, 11, 12, 13, 14, 15, 16, 17, 18, 19, 20, 21, 22, 23, 24, 25, 26, 27, 28, 29, 30, 31, 32, 33, 34, 35, 36, 37, 38, 39, 40, 41, 42, 43, 44, 45, 46, 47, 48, 49, 50, 51, 52, 53, 54, 55, 56, 57, 58, 59, 60, 61], [0, 1, 2, 3, 8, 9, 10, 11, 12, 13, 14, 15, 16, 17, 18, 19, 20, 21, 22, 23, 24, 25, 26, 27, 28, 29, 30, 31, 32, 33, 34, 35, 36, 37, 38, 39, 40, 41, 42, 43, 44, 45, 46, 47, 48, 49, 50, 51, 52, 53, 54, 55, 56, 57, 58, 59, 60, 61], [0, 1, 4, 5, 6, 7, 8, 9, 10, 11, 12, 13, 14, 15, 16, 17, 18, 19, 20, 21, 22, 23, 24, 25, 26, 27, 28, 29, 30, 31, 32, 33, 34, 35, 36, 37, 38, 39, 40, 41, 42, 43, 44, 45, 46, 47, 48, 49, 50, 51, 52, 53, 54, 55, 56, 57, 58, 59, 60, 61])), (0, ([0, 1, 2, 3, 7, 8, 9, 10, 11, 12, 13, 14, 15, 16, 17, 18, 19, 20, 21, 22, 23, 24, 25, 26, 27, 28, 29, 30, 31, 32, 33, 34, 35, 36, 37, 38, 39, 40, 41, 42, 43, 44, 45, 46, 47, 48, 49, 50, 51, 52, 53, 54, 55, 56, 57, 58, 59, 60, 61], [0, 1, 2, 3, 8, 9, 10, 11, 12, 13, 14, 15, 16, 17, 18, 19, 20, 21, 22, 23, 24, 25, 26, 27, 28, 29, 30, 31, 32, 33, 34, 35, 36, 37, 38, 39, 40, 41, 42, 43, 44, 45, 46, 47, 48, 49, 50, 51, 52, 53, 54, 55, 56, 57, 58, 59, 60, 61], [0, 1, 4, 5, 6, 7, 8, 9, 10, 11, 12, 13, 14, 15, 16, 17, 18, 19, 20, 21, 22, 23, 24, 25, 26, 27, 28, 29, 30, 31, 32, 33, 34, 35, 36, 37, 38, 39, 40, 41, 42, 43, 44, 45, 46, 47, 48, 49, 50, 51, 52, 53, 54, 55, 56, 57, 58, 59, 60, 61]))], sk := [], mvs := [], fz := [], so := true, fa := [4] }
def f_s_AtomsOf_a (g0 : List Sc) : List AV := enc [.p .gr] [.l g0]
def f_s_AtomsOf_i (g0 : List Sc) : List AV := enc [] []
def f_s_AtomsOf_en (r : List Sc × Bool) : List AV × List AV := (enc [.p (.nl 1), .p .boo] [.l r.1, .b r.2], enc [] [])
def f_s_AtomsOf_M : Calling := addC 33 f_s_IsGroup_c (addC 34 f_s_l2Order_c (addC 35 f_s_l19Atoms_io_c (addC 36 f_s_l19Before_c (noC))))
theorem f_s_AtomsOf_Mt : CallOk Try.prog (f_s_AtomsOf_M) := addC_true f_s_IsGroup_cc (addC_true f_s_l2Order_cc (addC_true f_s_l19Atoms_io_cc (addC_true f_s_l19Before_cc (noC_true))))
theorem f_s_AtomsOf_o : loopsOnce Try.f13 = true := by kernel_rfl
def f_s_AtomsOf_h2 : List Sh := [.u, .u, .u, .u, .fr 1000022, .own 1000022, .p (.int .i64), .p (.int .i64), .u, .u, .u, .u, .u, .u, .u, .u, .u, .u, .u, .u, .u, .u, .u, .u, .u, .u, .u, .u, .u, .u, .u, .u, .u, .u, .u, .u, .u, .u, .u, .u, .u, .u, .u, .u, .u, .u, .u, .u, .u, .u, .u, .u, .u, .u, .u, .u, .u, .u, .u, .u, .u, .u]
def f_s_AtomsOf_fr2 (out4 : List Sc) (i6 : Int) (s : List Sc × Int) : List AV := enc f_s_AtomsOf_h2 [.l out4, .l s.1, .i i6, .i s.2]
def f_s_AtomsOf_g2_1 : List Sh := [.u, .u, .u, .u, .fr 1000022, .own 1000022, .p (.int .i64), .p (.int .i64), .u, .u, .u, .u, .u, .u, .u, .u, .u, .u, .u, .u, .u, .u, .u, .u, .u, .u, .u, .u, .u, .u, .u, .u, .u, .u, .u, .u, .u, .u, .u, .u, .u, .u, .u, .u, .u, .u, .u, .u, .u, .u, .u, .u, .u, .u, .u, .u, .u, .u, .u, .u, .u, .u]
def f_s_AtomsOf_x2_1 (out4 : List Sc) (i6 : Int) (e : List Sc × Int) : X × List AV := (.out 2, enc f_s_AtomsOf_g2_1 [.l out4, .l e.1, .i i6, .i e.2])
def f_s_AtomsOf_x2_2 (out4 : List Sc) (i6 : Int) (_e : Unit) : X × List AV := (.ret, [])
theorem f_s_AtomsOf_p2 {R : Type} (out4 : List Sc) (i6 : Int) (s : List Sc × Int) (kN : List Sc × Int → Option R) (kA : List Sc × Int → Option R) (kB : Unit → Option R) : f_s_AtomsOf_k2 out4 i6 s.1 s.2 kN kA = (f_s_AtomsOf_r2 out4 i6 s).bind (Ro.el kN kA kB) := by
  simp only [f_s_AtomsOf_k2, f_s_AtomsOf_r2, brB, boB, someB, noneB, Ro.el]
theorem f_s_AtomsOf_e2 (out4 : List Sc) (i6 : Int) (s : List Sc × Int) : EC E0 f_s_AtomsOf_M H0 f_s_AtomsOf_F (asL (noL)) 2 (bodyOf Try.f13 2) (f_s_AtomsOf_fr2 out4 i6 s) (done (klOf f_s_AtomsOf_F 2)) = f_s_AtomsOf_k2 out4 i6 s.1 s.2 (fun s => some (.norm, f_s_AtomsOf_fr2 out4 i6 s)) (fun e => some (f_s_AtomsOf_x2_1 out4 i6 e)) := by kernel_rfl
theorem f_s_AtomsOf_l2 (out4 : List Sc) (i6 : Int) : ∀ s r, loopL (f_s_AtomsOf_r2 out4 i6) s = some r → LS Try.prog f_s_AtomsOf_F (bodyOf Try.f13 2) (f_s_AtomsOf_fr2 out4 i6 s) (enX (f_s_AtomsOf_x2_1 out4 i6) (f_s_AtomsOf_x2_2 out4 i6) r) :=
  loop_true E0ok f_s_AtomsOf_Mt (noL_true) f_s_AtomsOf_o (fun _ h => by cases h) (fun _ h => by cases h) (fun _ h => by cases h) (fun _ h => by cases h) (fun s => (f_s_AtomsOf_e2 out4 i6 s).trans (f_s_AtomsOf_p2 out4 i6 s _ _ (fun e => some (f_s_AtomsOf_x2_2 out4 i6 e))))
def f_s_AtomsOf_t2 (σ : List AV) : Option (Bool × Bool × (X × List AV) × (X × List AV)) := match dec f_s_AtomsOf_h2 σ with
  | some [.l out4, .l l5, .i i6, .i k7] => some (isOne (loopL (f_s_AtomsOf_r2 out4 i6) (l5, k7)), true, f_s_AtomsOf_x2_1 out4 i6 (getOne ([], 0) (loopL (f_s_AtomsOf_r2 out4 i6) (l5, k7))), (.ret, []))
  | _ => none
theorem f_s_AtomsOf_tt2 : TTrue Try.prog f_s_AtomsOf_F Try.f13 2 (f_s_AtomsOf_t2) := by
  intro σ p r r' h
  unfold f_s_AtomsOf_t2 at h
  split at h
  · rename_i hd
    rw [← dec_enc hd]
    exact row1 (f_s_AtomsOf_l2 _ _ _) h
  · cases h
def f_s_AtomsOf_h0 : List Sh := [.u, .u, .u, .u, .fr 1000022, .own 1000022, .p (.int .i64), .u, .u, .u, .u, .u, .u, .u, .u, .u, .u, .u, .u, .u, .u, .u, .u, .u, .u, .u, .u, .u, .u, .u, .u, .u, .u, .u, .u, .u, .u, .u, .u, .u, .u, .u, .u, .u, .u, .u, .u, .u, .u, .u, .u, .u, .u, .u, .u, .u, .u, .u, .u, .u, .u, .u]
def f_s_AtomsOf_fr0 (s : List Sc × List Sc × Int) : List AV := enc f_s_AtomsOf_h0 [.l s.1, .l s.2.1, .i s.2.2]
def f_s_AtomsOf_g0_1 : List Sh := [.u, .u, .u, .u, .fr 1000022, .own 1000022, .p (.int .i64), .u, .u, .u, .u, .u, .u, .u, .u, .u, .u, .u, .u, .u, .u, .u, .u, .u, .u, .u, .u, .u, .u, .u, .u, .u, .u, .u, .u, .u, .u, .u, .u, .u, .u, .u, .u, .u, .u, .u, .u, .u, .u, .u, .u, .u, .u, .u, .u, .u, .u, .u, .u, .u, .u, .u]
def f_s_AtomsOf_x0_1 (e : List Sc × List Sc × Int) : X × List AV := (.out 0, enc f_s_AtomsOf_g0_1 [.l e.1, .l e.2.1, .i e.2.2])
def f_s_AtomsOf_x0_2 (_e : Unit) : X × List AV := (.ret, [])
theorem f_s_AtomsOf_p0 {R : Type} (s : List Sc × List Sc × Int) (kN : List Sc × List Sc × Int → Option R) (kA : List Sc × List Sc × Int → Option R) (kB : Unit → Option R) : f_s_AtomsOf_k0 s.1 s.2.1 s.2.2 kN kA = (f_s_AtomsOf_r0 s).bind (Ro.el kN kA kB) := by
  simp only [f_s_AtomsOf_k0, f_s_AtomsOf_r0, brB, bl1B, someB, noneB, Ro.el]
theorem f_s_AtomsOf_e0 (s : List Sc × List Sc × Int) : EC E0 f_s_AtomsOf_M H0 f_s_AtomsOf_F (asL (addL 2 (f_s_AtomsOf_t2) (noL))) 0 (bodyOf Try.f13 0) (f_s_AtomsOf_fr0 s) (done (klOf f_s_AtomsOf_F 0)) = f_s_AtomsOf_k0 s.1 s.2.1 s.2.2 (fun s => some (.norm, f_s_AtomsOf_fr0 s)) (fun e => some (f_s_AtomsOf_x0_1 e)) := by kernel_rfl
theorem f_s_AtomsOf_l0 : ∀ s r, loopL (f_s_AtomsOf_r0) s = some r → LS Try.prog f_s_AtomsOf_F (bodyOf Try.f13 0) (f_s_AtomsOf_fr0 s) (enX (f_s_AtomsOf_x0_1) (f_s_AtomsOf_x0_2) r) :=
  loop_true E0ok f_s_AtomsOf_Mt (addL_true (f_s_AtomsOf_tt2) (noL_true)) f_s_AtomsOf_o (fun _ h => by cases h) (fun _ h => by cases h) (fun _ h => by cases h) (fun _ h => by cases h) (fun s => (f_s_AtomsOf_e0 s).trans (f_s_AtomsOf_p0 s _ _ (fun e => some (f_s_AtomsOf_x0_2 e))))
def f_s_AtomsOf_t0 (σ : List AV) : Option (Bool × Bool × (X × List AV) × (X × List AV)) := match dec f_s_AtomsOf_h0 σ with
  | some [.l out4, .l l5, .i i6] => some (isOne (loopL (f_s_AtomsOf_r0) (out4, l5, i6)), true, f_s_AtomsOf_x0_1 (getOne ([], [], 0) (loopL (f_s_AtomsOf_r0) (out4, l5, i6))), (.ret, []))
  | _ => none
theorem f_s_AtomsOf_tt0 : TTrue Try.prog f_s_AtomsOf_F Try.f13 0 (f_s_AtomsOf_t0) := by
  intro σ p r r' h
  unfold f_s_AtomsOf_t0 at h
  split at h
  · rename_i hd
    rw [← dec_enc hd]
    exact row1 (f_s_AtomsOf_l0 _) h
  · cases h
theorem f_s_AtomsOf_p {R : Type} (g0 : List Sc) (kR : List Sc × Bool → Option R) : f_s_AtomsOf_k g0 kR = (f_s_AtomsOf_k g0 some).bind kR := by
  simp only [f_s_AtomsOf_k, brB, boB, bl1B, someB]
theorem f_s_AtomsOf_e (g0 : List Sc) : runFn E0 f_s_AtomsOf_M H0 f_s_AtomsOf_F (asL (addL 0 (f_s_AtomsOf_t0) (addL 2 (f_s_AtomsOf_t2) (noL)))) Try.f13 (f_s_AtomsOf_a g0) (f_s_AtomsOf_i g0) = f_s_AtomsOf_k g0 (fun r => some (f_s_AtomsOf_en r)) := by kernel_rfl
theorem f_s_AtomsOf_ok (g0 : List Sc) (r : List Sc × Bool) (h : f_s_AtomsOf g0 = some r) : CS Try.prog 13 (f_s_AtomsOf_a g0) (f_s_AtomsOf_i g0) (f_s_AtomsOf_en r).1 (f_s_AtomsOf_en r).2 :=
  fn_true (Gk := fun k => f_s_AtomsOf_k g0 k) (en := f_s_AtomsOf_en) Try.func13 E0ok f_s_AtomsOf_Mt (addL_true (f_s_AtomsOf_tt0) (addL_true (f_s_AtomsOf_tt2) (noL_true))) f_s_AtomsOf_o (f_s_AtomsOf_e g0) (f_s_AtomsOf_p g0) h
def f_s_AtomsOf_c : CRow := fun args inh => match dec2 [.p .gr] [] args inh with
  | some ([.l g0], []) => some ((f_s_AtomsOf g0).isSome, (f_s_AtomsOf_en ((f_s_AtomsOf g0).getD ([], false))).1, (f_s_AtomsOf_en ((f_s_AtomsOf g0).getD ([], false))).2)
  | _ => none
theorem f_s_AtomsOf_cc : CTrue Try.prog 13 f_s_AtomsOf_c := by
  intro args inh rs out h
  unfold f_s_AtomsOf_c at h
  split at h
  · rename_i hd
    obtain ⟨h1, h2⟩ := dec2_enc hd
    rw [← h1, ← h2]
    exact rowC (f_s_AtomsOf_ok _) h
  · cases h

def f_s_OrderOf_F : Fi := { nv := 0, nc := 0, m := 0, vt := [], kl := [], sk := [], mvs := [], fz := [] }
def f_s_OrderOf_a (g0 : List Sc) : List AV := enc [.p .gr] [.l g0]
def f_s_OrderOf_i (g0 : List Sc) : List AV := enc [] []
def f_s_OrderOf_en (r : Int) : List AV × List AV := (enc [.p (.int .i64)] [.i r], enc [] [])
def f_s_OrderOf_M : Calling := addC 33 f_s_IsGroup_c (addC 34 f_s_l2Order_c (noC))
theorem f_s_OrderOf_Mt : CallOk Try.prog (f_s_OrderOf_M) := addC_true f_s_IsGroup_cc (addC_true f_s_l2Order_cc (noC_true))
theorem f_s_OrderOf_o : loopsOnce Try.f107 = true := by kernel_rfl
theorem f_s_OrderOf_p {R : Type} (g0 : List Sc) (kR : Int → Option R) : f_s_OrderOf_k g0 kR = (f_s_OrderOf_k g0 some).bind kR := by
  simp only [f_s_OrderOf_k, brB, boB, someB]
theorem f_s_OrderOf_e (g0 : List Sc) : runFn E0 f_s_OrderOf_M H0 f_s_OrderOf_F (asL (noL)) Try.f107 (f_s_OrderOf_a g0) (f_s_OrderOf_i g0) = f_s_OrderOf_k g0 (fun r => some (f_s_OrderOf_en r)) := by kernel_rfl
theorem f_s_OrderOf_ok (g0 : List Sc) (r : Int) (h : f_s_OrderOf g0 = some r) : CS Try.prog 107 (f_s_OrderOf_a g0) (f_s_OrderOf_i g0) (f_s_OrderOf_en r).1 (f_s_OrderOf_en r).2 :=
  fn_true (Gk := fun k => f_s_OrderOf_k g0 k) (en := f_s_OrderOf_en) Try.func107 E0ok f_s_OrderOf_Mt (noL_true) f_s_OrderOf_o (f_s_OrderOf_e g0) (f_s_OrderOf_p g0) h
def f_s_OrderOf_c : CRow := fun args inh => match dec2 [.p .gr] [] args inh with
  | some ([.l g0], []) => some ((f_s_OrderOf g0).isSome, (f_s_OrderOf_en ((f_s_OrderOf g0).getD 0)).1, (f_s_OrderOf_en ((f_s_OrderOf g0).getD 0)).2)
  | _ => none
theorem f_s_OrderOf_cc : CTrue Try.prog 107 f_s_OrderOf_c := by
  intro args inh rs out h
  unfold f_s_OrderOf_c at h
  split at h
  · rename_i hd
    obtain ⟨h1, h2⟩ := dec2_enc hd
    rw [← h1, ← h2]
    exact rowC (f_s_OrderOf_ok _) h
  · cases h

def f_s_l2Is_F : Fi := { nv := 0, nc := 0, m := 0, vt := [], kl := [], sk := [], mvs := [], fz := [] }
def f_s_l2Is_a (g0 : List Sc) (x1 : Int) : List AV := enc [.p .gr, .p (.int .i64)] [.l g0, .i x1]
def f_s_l2Is_i (g0 : List Sc) (x1 : Int) : List AV := enc [] []
def f_s_l2Is_en (r : Bool) : List AV × List AV := (enc [.p .boo] [.b r], enc [] [])
def f_s_l2Is_M : Calling := addC 107 f_s_OrderOf_c (noC)
theorem f_s_l2Is_Mt : CallOk Try.prog (f_s_l2Is_M) := addC_true f_s_OrderOf_cc (noC_true)
theorem f_s_l2Is_o : loopsOnce Try.f90 = true := by kernel_rfl
theorem f_s_l2Is_p {R : Type} (g0 : List Sc) (x1 : Int) (kR : Bool → Option R) : f_s_l2Is_k g0 x1 kR = (f_s_l2Is_k g0 x1 some).bind kR := by
  simp only [f_s_l2Is_k, brB, boB, someB]
theorem f_s_l2Is_e (g0 : List Sc) (x1 : Int) : runFn E0 f_s_l2Is_M H0 f_s_l2Is_F (asL (noL)) Try.f90 (f_s_l2Is_a g0 x1) (f_s_l2Is_i g0 x1) = f_s_l2Is_k g0 x1 (fun r => some (f_s_l2Is_en r)) := by kernel_rfl
theorem f_s_l2Is_ok (g0 : List Sc) (x1 : Int) (r : Bool) (h : f_s_l2Is g0 x1 = some r) : CS Try.prog 90 (f_s_l2Is_a g0 x1) (f_s_l2Is_i g0 x1) (f_s_l2Is_en r).1 (f_s_l2Is_en r).2 :=
  fn_true (Gk := fun k => f_s_l2Is_k g0 x1 k) (en := f_s_l2Is_en) Try.func90 E0ok f_s_l2Is_Mt (noL_true) f_s_l2Is_o (f_s_l2Is_e g0 x1) (f_s_l2Is_p g0 x1) h
def f_s_l2Is_c : CRow := fun args inh => match dec2 [.p .gr, .p (.int .i64)] [] args inh with
  | some ([.l g0, .i x1], []) => some ((f_s_l2Is g0 x1).isSome, (f_s_l2Is_en ((f_s_l2Is g0 x1).getD false)).1, (f_s_l2Is_en ((f_s_l2Is g0 x1).getD false)).2)
  | _ => none
theorem f_s_l2Is_cc : CTrue Try.prog 90 f_s_l2Is_c := by
  intro args inh rs out h
  unfold f_s_l2Is_c at h
  split at h
  · rename_i hd
    obtain ⟨h1, h2⟩ := dec2_enc hd
    rw [← h1, ← h2]
    exact rowC (f_s_l2Is_ok _ _) h
  · cases h

def f_s_IsSequence_F : Fi := { nv := 0, nc := 0, m := 0, vt := [], kl := [(0, ([0, 3, 4, 6, 7, 8, 9, 10, 11, 12, 13, 14, 15, 16, 17, 18, 19, 20, 21, 22, 23, 24, 25, 26, 27, 28, 29, 30, 31, 32, 33, 34, 35, 36, 37, 38, 39, 40, 41], [0, 3, 4, 5, 6, 7, 8, 9, 10, 11, 12, 13, 14, 15, 16, 17, 18, 19, 20, 21, 22, 23, 24, 25, 26, 27, 28, 29, 30, 31, 32, 33, 34, 35, 36, 37, 38, 39, 40, 41], [0, 1, 2, 3, 5, 6, 7, 8, 9, 10, 11, 12, 13, 14, 15, 16, 17, 18, 19, 20, 21, 22, 23, 24, 25, 26, 27, 28, 29, 30, 31, 32, 33, 34, 35, 36, 37, 38, 39, 40, 41]))], sk := [], mvs := [], fz := [] }
def f_s_IsSequence_a (g0 : List Sc) (l1 : List Sc) : List AV := enc [.p .gr, .p .sl] [.l g0, .l l1]
def f_s_IsSequence_i (g0 : List Sc) (l1 : List Sc) : List AV := enc [] []
def f_s_IsSequence_en (r : Bool) : List AV × List AV := (enc [.p .boo] [.b r], enc [] [])
def f_s_IsSequence_M : Calling := addC 90 f_s_l2Is_c (addC 33 f_s_IsGroup_c (noC))
theorem f_s_IsSequence_Mt : CallOk Try.prog (f_s_IsSequence_M) := addC_true f_s_l2Is_cc (addC_true f_s_IsGroup_cc (noC_true))
theorem f_s_IsSequence_o : loopsOnce Try.f71 = true := by kernel_rfl
def f_s_IsSequence_h0 : List Sh := [.u, .p .sl, .p .el, .u, .u, .p (.int .i64), .u, .u, .u, .u, .u, .u, .u, .u, .u, .u, .u, .u, .u, .u, .u, .u, .u, .u, .u, .u, .u, .u, .u, .u, .u, .u, .u, .u, .u, .u, .u, .u, .u, .u, .u, .u]
def f_s_IsSequence_fr0 (l1 : List Sc) (g2 : List Sc) (s : Int) : List AV := enc f_s_IsSequence_h0 [.l l1, .l g2, .i s]
def f_s_IsSequence_g0_1 : List Sh := [.u, .p .sl, .p .el, .u, .u, .u, .u, .u, .u, .u, .u, .u, .u, .u, .u, .u, .u, .u, .u, .u, .u, .u, .u, .u, .u, .u, .u, .u, .u, .u, .u, .u, .u, .u, .u, .u, .u, .u, .u, .u, .u, .u]
def f_s_IsSequence_x0_1 (l1 : List Sc) (g2 : List Sc) (e : Unit) : X × List AV := (.out 0, enc f_s_IsSequence_g0_1 [.l l1, .l g2])
def f_s_IsSequence_g0_2 : List Sh := [.u, .u, .u, .u, .p .boo, .u, .u, .u, .u, .u, .u, .u, .u, .u, .u, .u, .u, .u, .u, .u, .u, .u, .u, .u, .u, .u, .u, .u, .u, .u, .u, .u, .u, .u, .u, .u, .u, .u, .u, .u, .u, .u]
def f_s_IsSequence_x0_2 (l1 : List Sc) (g2 : List Sc) (e : Unit) : X × List AV := (.ret, enc f_s_IsSequence_g0_2 [.b false])
theorem f_s_IsSequence_p0 {R : Type} (l1 : List Sc) (g2 : List Sc) (s : Int) (kN : Int → Option R) (kA : Unit → Option R) (kB : Unit → Option R) : f_s_IsSequence_k0 l1 g2 s kN kA kB = (f_s_IsSequence_r0 l1 g2 s).bind (Ro.el kN kA kB) := by
  simp only [f_s_IsSequence_k0, f_s_IsSequence_r0, brB, boB, someB, noneB, Ro.el]
theorem f_s_IsSequence_e0 (l1 : List Sc) (g2 : List Sc) (s : Int) : EC E0 f_s_IsSequence_M H0 f_s_IsSequence_F (asL (noL)) 0 (bodyOf Try.f71 0) (f_s_IsSequence_fr0 l1 g2 s) (done (klOf f_s_IsSequence_F 0)) = f_s_IsSequence_k0 l1 g2 s (fun s => some (.norm, f_s_IsSequence_fr0 l1 g2 s)) (fun e => some (f_s_IsSequence_x0_1 l1 g2 e)) (fun e => some (f_s_IsSequence_x0_2 l1 g2 e)) := by kernel_rfl
theorem f_s_IsSequence_l0 (l1 : List Sc) (g2 : List Sc) : ∀ s r, loopL (f_s_IsSequence_r0 l1 g2) s = some r → LS Try.prog f_s_IsSequence_F (bodyOf Try.f71 0) (f_s_IsSequence_fr0 l1 g2 s) (enX (f_s_IsSequence_x0_1 l1 g2) (f_s_IsSequence_x0_2 l1 g2) r) :=
  loop_true E0ok f_s_IsSequence_Mt (noL_true) f_s_IsSequence_o (fun _ h => by cases h) (fun _ h => by cases h) (fun _ h => by cases h) (fun _ h => by cases h) (fun s => (f_s_IsSequence_e0 l1 g2 s).trans (f_s_IsSequence_p0 l1 g2 s _ _ (fun e => some (f_s_IsSequence_x0_2 l1 g2 e))))
def f_s_IsSequence_t0 (σ : List AV) : Option (Bool × Bool × (X × List AV) × (X × List AV)) := match dec f_s_IsSequence_h0 σ with
  | some [.l l1, .l g2, .i i5] => some ((loopL (f_s_IsSequence_r0 l1 g2) i5).isSome, isOne (loopL (f_s_IsSequence_r0 l1 g2) i5), f_s_IsSequence_x0_1 l1 g2 (getOne () (loopL (f_s_IsSequence_r0 l1 g2) i5)), f_s_IsSequence_x0_2 l1 g2 (getTwo () (loopL (f_s_IsSequence_r0 l1 g2) i5)))
  | _ => none
theorem f_s_IsSequence_tt0 : TTrue Try.prog f_s_IsSequence_F Try.f71 0 (f_s_IsSequence_t0) := by
  intro σ p r r' h
  unfold f_s_IsSequence_t0 at h
  split at h
  · rename_i hd
    rw [← dec_enc hd]
    exact row2 (f_s_IsSequence_l0 _ _ _) h
  · cases h
theorem f_s_IsSequence_p {R : Type} (g0 : List Sc) (l1 : List Sc) (kR : Bool → Option R) : f_s_IsSequence_k g0 l1 kR = (f_s_IsSequence_k g0 l1 some).bind kR := by
  simp only [f_s_IsSequence_k, brB, boB, blB, someB]
theorem f_s_IsSequence_e (g0 : List Sc) (l1 : List Sc) : runFn E0 f_s_IsSequence_M H0 f_s_IsSequence_F (asL (addL 0 (f_s_IsSequence_t0) (noL))) Try.f71 (f_s_IsSequence_a g0 l1) (f_s_IsSequence_i g0 l1) = f_s_IsSequence_k g0 l1 (fun r => some (f_s_IsSequence_en r)) := by kernel_rfl
theorem f_s_IsSequence_ok (g0 : List Sc) (l1 : List Sc) (r : Bool) (h : f_s_IsSequence g0 l1 = some r) : CS Try.prog 71 (f_s_IsSequence_a g0 l1) (f_s_IsSequence_i g0 l1) (f_s_IsSequence_en r).1 (f_s_IsSequence_en r).2 :=
  fn_true (Gk := fun k => f_s_IsSequence_k g0 l1 k) (en := f_s_IsSequence_en) Try.func71 E0ok f_s_IsSequence_Mt (addL_true (f_s_IsSequence_tt0) (noL_true)) f_s_IsSequence_o (f_s_IsSequence_e g0 l1) (f_s_IsSequence_p g0 l1) h
def f_s_IsSequence_c : CRow := fun args inh => match dec2 [.p .gr, .p .sl] [] args inh with
  | some ([.l g0, .l l1], []) => some ((f_s_IsSequence g0 l1).isSome, (f_s_IsSequence_en ((f_s_IsSequence g0 l1).getD false)).1, (f_s_IsSequence_en ((f_s_IsSequence g0 l1).getD false)).2)
  | _ => none
theorem f_s_IsSequence_cc : CTrue Try.prog 71 f_s_IsSequence_c := by
  intro args inh rs out h
  unfold f_s_IsSequence_c at h
  split at h
  · rename_i hd
    obtain ⟨h1, h2⟩ := dec2_enc hd
    rw [← h1, ← h2]
    exact rowC (f_s_IsSequence_ok _ _) h
  · cases h

def f_s_IsZeroSum_F : Fi := { nv := 0, nc := 0, m := 0, vt := [], kl := [], sk := [], mvs := [], fz := [] }
def f_s_IsZeroSum_a (g0 : List Sc) (l1 : List Sc) : List AV := enc [.p .gr, .p .sl] [.l g0, .l l1]
def f_s_IsZeroSum_i (g0 : List Sc) (l1 : List Sc) : List AV := enc [] []
def f_s_IsZeroSum_en (r : Bool) : List AV × List AV := (enc [.p .boo] [.b r], enc [] [])
def f_s_IsZeroSum_M : Calling := addC 71 f_s_IsSequence_c (addC 60 f_s_l16Sum_c (noC))
theorem f_s_IsZeroSum_Mt : CallOk Try.prog (f_s_IsZeroSum_M) := addC_true f_s_IsSequence_cc (addC_true f_s_l16Sum_cc (noC_true))
theorem f_s_IsZeroSum_o : loopsOnce Try.f48 = true := by kernel_rfl
theorem f_s_IsZeroSum_p {R : Type} (g0 : List Sc) (l1 : List Sc) (kR : Bool → Option R) : f_s_IsZeroSum_k g0 l1 kR = (f_s_IsZeroSum_k g0 l1 some).bind kR := by
  simp only [f_s_IsZeroSum_k, brB, boB, someB]
theorem f_s_IsZeroSum_e (g0 : List Sc) (l1 : List Sc) : runFn E0 f_s_IsZeroSum_M H0 f_s_IsZeroSum_F (asL (noL)) Try.f48 (f_s_IsZeroSum_a g0 l1) (f_s_IsZeroSum_i g0 l1) = f_s_IsZeroSum_k g0 l1 (fun r => some (f_s_IsZeroSum_en r)) := by kernel_rfl
theorem f_s_IsZeroSum_ok (g0 : List Sc) (l1 : List Sc) (r : Bool) (h : f_s_IsZeroSum g0 l1 = some r) : CS Try.prog 48 (f_s_IsZeroSum_a g0 l1) (f_s_IsZeroSum_i g0 l1) (f_s_IsZeroSum_en r).1 (f_s_IsZeroSum_en r).2 :=
  fn_true (Gk := fun k => f_s_IsZeroSum_k g0 l1 k) (en := f_s_IsZeroSum_en) Try.func48 E0ok f_s_IsZeroSum_Mt (noL_true) f_s_IsZeroSum_o (f_s_IsZeroSum_e g0 l1) (f_s_IsZeroSum_p g0 l1) h
def f_s_IsZeroSum_c : CRow := fun args inh => match dec2 [.p .gr, .p .sl] [] args inh with
  | some ([.l g0, .l l1], []) => some ((f_s_IsZeroSum g0 l1).isSome, (f_s_IsZeroSum_en ((f_s_IsZeroSum g0 l1).getD false)).1, (f_s_IsZeroSum_en ((f_s_IsZeroSum g0 l1).getD false)).2)
  | _ => none
theorem f_s_IsZeroSum_cc : CTrue Try.prog 48 f_s_IsZeroSum_c := by
  intro args inh rs out h
  unfold f_s_IsZeroSum_c at h
  split at h
  · rename_i hd
    obtain ⟨h1, h2⟩ := dec2_enc hd
    rw [← h1, ← h2]
    exact rowC (f_s_IsZeroSum_ok _ _) h
  · cases h

def f_s_l19Minus_F : Fi := { nv := 0, nc := 0, m := 0, vt := [], kl := [(2, ([0, 2, 3, 4, 5, 10, 11, 12, 13, 14, 15, 16, 17, 18, 19, 20, 21, 22, 23, 24, 25, 26, 27, 28, 29, 30, 31, 32, 33, 34, 35, 36, 37, 38, 39, 40, 41, 42, 43, 44, 45, 46, 47, 48], [0, 2, 3, 4, 5, 9, 10, 11, 12, 13, 14, 15, 16, 17, 18, 19, 20, 21, 22, 23, 24, 25, 26, 27, 28, 29, 30, 31, 32, 33, 34, 35, 36, 37, 38, 39, 40, 41, 42, 43, 44, 45, 46, 47, 48], [0, 1, 2, 3, 6, 7, 8, 9, 10, 11, 12, 13, 14, 15, 16, 17, 18, 19, 20, 21, 22, 23, 24, 25, 26, 27, 28, 29, 30, 31, 32, 33, 34, 35, 36, 37, 38, 39, 40, 41, 42, 43, 44, 45, 46, 47, 48])), (0, ([0, 2, 3, 4, 5, 8, 9, 10, 11, 12, 13, 14, 15, 16, 17, 18, 19, 20, 21, 22, 23, 24, 25, 26, 27, 28, 29, 30, 31, 32, 33, 34, 35, 36, 37, 38, 39, 40, 41, 42, 43, 44, 45, 46, 47, 48], [0, 2, 3, 4, 5, 9, 10, 11, 12, 13, 14, 15, 16, 17, 18, 19, 20, 21, 22, 23, 24, 25, 26, 27, 28, 29, 30, 31, 32, 33, 34, 35, 36, 37, 38, 39, 40, 41, 42, 43, 44, 45, 46, 47, 48], [0, 1, 2, 3, 6, 7, 8, 9, 10, 11, 12, 13, 14, 15, 16, 17, 18, 19, 20, 21, 22, 23, 24, 25, 26, 27, 28, 29, 30, 31, 32, 33, 34, 35, 36, 37, 38, 39, 40, 41, 42, 43, 44, 45, 46, 47, 48]))], sk := [], mvs := [], fz := [], so := true, fa := [6] }
def f_s_l19Minus_a (l0 : List Sc) (part1 : List Sc) : List AV := enc [.p .sl, .p .sl] [.l l0, .l part1]
def f_s_l19Minus_i (l0 : List Sc) (part1 : List Sc) : List AV := enc [] []
def f_s_l19Minus_en (r : List Sc × Bool) : List AV × List AV := (enc [.p .sl, .p .boo] [.l r.1, .b r.2], enc [] [])
def f_s_l19Minus_M : Calling := noC
theorem f_s_l19Minus_Mt : CallOk Try.prog (f_s_l19Minus_M) := noC_true
theorem f_s_l19Minus_o : loopsOnce Try.f72 = true := by kernel_rfl
def f_s_l19Minus_h2 : List Sh := [.u, .p .sl, .u, .u, .u, .u, .fr 3, .p (.int .i64), .p (.int .i64), .p (.int .i64), .u, .u, .u, .u, .u, .u, .u, .u, .u, .u, .u, .u, .u, .u, .u, .u, .u, .u, .u, .u, .u, .u, .u, .u, .u, .u, .u, .u, .u, .u, .u, .u, .u, .u, .u, .u, .u, .u, .u]
def f_s_l19Minus_fr2 (part1 : List Sc) (out6 : List Sc) (i7 : Int) (s : Int × Int) : List AV := enc f_s_l19Minus_h2 [.l part1, .l out6, .i i7, .i s.1, .i s.2]
def f_s_l19Minus_g2_1 : List Sh := [.u, .p .sl, .u, .u, .u, .u, .fr 3, .p (.int .i64), .p (.int .i64), .u, .u, .u, .u, .u, .u, .u, .u, .u, .u, .u, .u, .u, .u, .u, .u, .u, .u, .u, .u, .u, .u, .u, .u, .u, .u, .u, .u, .u, .u, .u, .u, .u, .u, .u, .u, .u, .u, .u, .u]
def f_s_l19Minus_x2_1 (part1 : List Sc) (out6 : List Sc) (i7 : Int) (e : Int) : X × List AV := (.out 2, enc f_s_l19Minus_g2_1 [.l part1, .l out6, .i i7, .i e])
def f_s_l19Minus_x2_2 (part1 : List Sc) (out6 : List Sc) (i7 : Int) (_e : Unit) : X × List AV := (.ret, [])
theorem f_s_l19Minus_p2 {R : Type} (part1 : List Sc) (out6 : List Sc) (i7 : Int) (s : Int × Int) (kN : Int × Int → Option R) (kA : Int → Option R) (kB : Unit → Option R) : f_s_l19Minus_k2 part1 out6 i7 s.1 s.2 kN kA = (f_s_l19Minus_r2 part1 out6 i7 s).bind (Ro.el kN kA kB) := by
  simp only [f_s_l19Minus_k2, f_s_l19Minus_r2, brB, someB, noneB, Ro.el]
theorem f_s_l19Minus_e2 (part1 : List Sc) (out6 : List Sc) (i7 : Int) (s : Int × Int) : EC E0 f_s_l19Minus_M H0 f_s_l19Minus_F (asL (noL)) 2 (bodyOf Try.f72 2) (f_s_l19Minus_fr2 part1 out6 i7 s) (done (klOf f_s_l19Minus_F 2)) = f_s_l19Minus_k2 part1 out6 i7 s.1 s.2 (fun s => some (.norm, f_s_l19Minus_fr2 part1 out6 i7 s)) (fun e => some (f_s_l19Minus_x2_1 part1 out6 i7 e)) := by kernel_rfl
theorem f_s_l19Minus_l2 (part1 : List Sc) (out6 : List Sc) (i7 : Int) : ∀ s r, loopL (f_s_l19Minus_r2 part1 out6 i7) s = some r → LS Try.prog f_s_l19Minus_F (bodyOf Try.f72 2) (f_s_l19Minus_fr2 part1 out6 i7 s) (enX (f_s_l19Minus_x2_1 part1 out6 i7) (f_s_l19Minus_x2_2 part1 out6 i7) r) :=
  loop_true E0ok f_s_l19Minus_Mt (noL_true) f_s_l19Minus_o (fun _ h => by cases h) (fun _ h => by cases h) (fun _ h => by cases h) (fun _ h => by cases h) (fun s => (f_s_l19Minus_e2 part1 out6 i7 s).trans (f_s_l19Minus_p2 part1 out6 i7 s _ _ (fun e => some (f_s_l19Minus_x2_2 part1 out6 i7 e))))
def f_s_l19Minus_t2 (σ : List AV) : Option (Bool × Bool × (X × List AV) × (X × List AV)) := match dec f_s_l19Minus_h2 σ with
  | some [.l part1, .l out6, .i i7, .i at8, .i k9] => some (isOne (loopL (f_s_l19Minus_r2 part1 out6 i7) (at8, k9)), true, f_s_l19Minus_x2_1 part1 out6 i7 (getOne 0 (loopL (f_s_l19Minus_r2 part1 out6 i7) (at8, k9))), (.ret, []))
  | _ => none
theorem f_s_l19Minus_tt2 : TTrue Try.prog f_s_l19Minus_F Try.f72 2 (f_s_l19Minus_t2) := by
  intro σ p r r' h
  unfold f_s_l19Minus_t2 at h
  split at h
  · rename_i hd
    rw [← dec_enc hd]
    exact row1 (f_s_l19Minus_l2 _ _ _ _) h
  · cases h
def f_s_l19Minus_h0 : List Sh := [.u, .p .sl, .u, .u, .u, .u, .fr 3, .p (.int .i64), .u, .u, .u, .u, .u, .u, .u, .u, .u, .u, .u, .u, .u, .u, .u, .u, .u, .u, .u, .u, .u, .u, .u, .u, .u, .u, .u, .u, .u, .u, .u, .u, .u, .u, .u, .u, .u, .u, .u, .u, .u]
def f_s_l19Minus_fr0 (part1 : List Sc) (s : List Sc × Int) : List AV := enc f_s_l19Minus_h0 [.l part1, .l s.1, .i s.2]
def f_s_l19Minus_g0_1 : List Sh := [.u, .p .sl, .u, .u, .u, .u, .fr 3, .p (.int .i64), .u, .u, .u, .u, .u, .u, .u, .u, .u, .u, .u, .u, .u, .u, .u, .u, .u, .u, .u, .u, .u, .u, .u, .u, .u, .u, .u, .u, .u, .u, .u, .u, .u, .u, .u, .u, .u, .u, .u, .u, .u]
def f_s_l19Minus_x0_1 (part1 : List Sc) (e : List Sc × Int) : X × List AV := (.out 0, enc f_s_l19Minus_g0_1 [.l part1, .l e.1, .i e.2])
def f_s_l19Minus_g0_2 : List Sh := [.u, .u, .u, .u, .own 3, .p .boo, .u, .u, .u, .u, .u, .u, .u, .u, .u, .u, .u, .u, .u, .u, .u, .u, .u, .u, .u, .u, .u, .u, .u, .u, .u, .u, .u, .u, .u, .u, .u, .u, .u, .u, .u, .u, .u, .u, .u, .u, .u, .u, .u]
def f_s_l19Minus_x0_2 (part1 : List Sc) (e : List Sc) : X × List AV := (.ret, enc f_s_l19Minus_g0_2 [.l e, .b false])
theorem f_s_l19Minus_p0 {R : Type} (part1 : List Sc) (s : List Sc × Int) (kN : List Sc × Int → Option R) (kA : List Sc × Int → Option R) (kB : List Sc → Option R) : f_s_l19Minus_k0 part1 s.1 s.2 kN kA kB = (f_s_l19Minus_r0 part1 s).bind (Ro.el kN kA kB) := by
  simp only [f_s_l19Minus_k0, f_s_l19Minus_r0, brB, bl1B, someB, noneB, Ro.el]
theorem f_s_l19Minus_e0 (part1 : List Sc) (s : List Sc × Int) : EC E0 f_s_l19Minus_M H0 f_s_l19Minus_F (asL (addL 2 (f_s_l19Minus_t2) (noL))) 0 (bodyOf Try.f72 0) (f_s_l19Minus_fr0 part1 s) (done (klOf f_s_l19Minus_F 0)) = f_s_l19Minus_k0 part1 s.1 s.2 (fun s => some (.norm, f_s_l19Minus_fr0 part1 s)) (fun e => some (f_s_l19Minus_x0_1 part1 e)) (fun e => some (f_s_l19Minus_x0_2 part1 e)) := by kernel_rfl
theorem f_s_l19Minus_l0 (part1 : List Sc) : ∀ s r, loopL (f_s_l19Minus_r0 part1) s = some r → LS Try.prog f_s_l19Minus_F (bodyOf Try.f72 0) (f_s_l19Minus_fr0 part1 s) (enX (f_s_l19Minus_x0_1 part1) (f_s_l19Minus_x0_2 part1) r) :=
  loop_true E0ok f_s_l19Minus_Mt (addL_true (f_s_l19Minus_tt2) (noL_true)) f_s_l19Minus_o (fun _ h => by cases h) (fun _ h => by cases h) (fun _ h => by cases h) (fun _ h => by cases h) (fun s => (f_s_l19Minus_e0 part1 s).trans (f_s_l19Minus_p0 part1 s _ _ (fun e => some (f_s_l19Minus_x0_2 part1 e))))
def f_s_l19Minus_t0 (σ : List AV) : Option (Bool × Bool × (X × List AV) × (X × List AV)) := match dec f_s_l19Minus_h0 σ with
  | some [.l part1, .l out6, .i i7] => some ((loopL (f_s_l19Minus_r0 part1) (out6, i7)).isSome, isOne (loopL (f_s_l19Minus_r0 part1) (out6, i7)), f_s_l19Minus_x0_1 part1 (getOne ([], 0) (loopL (f_s_l19Minus_r0 part1) (out6, i7))), f_s_l19Minus_x0_2 part1 (getTwo [] (loopL (f_s_l19Minus_r0 part1) (out6, i7))))
  | _ => none
theorem f_s_l19Minus_tt0 : TTrue Try.prog f_s_l19Minus_F Try.f72 0 (f_s_l19Minus_t0) := by
  intro σ p r r' h
  unfold f_s_l19Minus_t0 at h
  split at h
  · rename_i hd
    rw [← dec_enc hd]
    exact row2 (f_s_l19Minus_l0 _ _) h
  · cases h
theorem f_s_l19Minus_p {R : Type} (l0 : List Sc) (part1 : List Sc) (kR : List Sc × Bool → Option R) : f_s_l19Minus_k l0 part1 kR = (f_s_l19Minus_k l0 part1 some).bind kR := by
  simp only [f_s_l19Minus_k, brB, blB, someB, noneB]
theorem f_s_l19Minus_e (l0 : List Sc) (part1 : List Sc) : runFn E0 f_s_l19Minus_M H0 f_s_l19Minus_F (asL (addL 0 (f_s_l19Minus_t0) (addL 2 (f_s_l19Minus_t2) (noL)))) Try.f72 (f_s_l19Minus_a l0 part1) (f_s_l19Minus_i l0 part1) = f_s_l19Minus_k l0 part1 (fun r => some (f_s_l19Minus_en r)) := by kernel_rfl
theorem f_s_l19Minus_ok (l0 : List Sc) (part1 : List Sc) (r : List Sc × Bool) (h : f_s_l19Minus l0 part1 = some r) : CS Try.prog 72 (f_s_l19Minus_a l0 part1) (f_s_l19Minus_i l0 part1) (f_s_l19Minus_en r).1 (f_s_l19Minus_en r).2 :=
  fn_true (Gk := fun k => f_s_l19Minus_k l0 part1 k) (en := f_s_l19Minus_en) Try.func72 E0ok f_s_l19Minus_Mt (addL_true (f_s_l19Minus_tt0) (addL_true (f_s_l19Minus_tt2) (noL_true))) f_s_l19Minus_o (f_s_l19Minus_e l0 part1) (f_s_l19Minus_p l0 part1) h
def f_s_l19Minus_c : CRow := fun args inh => match dec2 [.p .sl, .p .sl] [] args inh with
  | some ([.l l0, .l part1], []) => some ((f_s_l19Minus l0 part1).isSome, (f_s_l19Minus_en ((f_s_l19Minus l0 part1).getD ([], false))).1, (f_s_l19Minus_en ((f_s_l19Minus l0 part1).getD ([], false))).2)
  | _ => none
theorem f_s_l19Minus_cc : CTrue Try.prog 72 f_s_l19Minus_c := by
  intro args inh rs out h
  unfold f_s_l19Minus_c at h
  split at h
  · rename_i hd
    obtain ⟨h1, h2⟩ := dec2_enc hd
    rw [← h1, ← h2]
    exact rowC (f_s_l19Minus_ok _ _) h
  · cases h

def f_s_l19Factor_F : Fi := { nv := 0, nc := 0, m := 0, vt := [], kl := [(2, ([2, 3, 4, 5, 6, 9, 10, 13, 14, 15, 16, 17, 18, 19, 20, 21, 22, 23, 24, 25, 26, 27, 28, 29, 30, 31, 32, 33, 34, 35, 36, 37, 38, 39, 40, 41, 42, 43, 44, 45, 46, 47, 48, 49, 50, 51, 52, 53, 54, 55, 56, 57, 58, 59, 60, 61, 62, 63, 64], [2, 3, 4, 5, 6, 9, 10, 11, 12, 13, 14, 15, 16, 17, 18, 19, 20, 21, 22, 23, 24, 25, 26, 27, 28, 29, 30, 31, 32, 33, 34, 35, 36, 37, 38, 39, 40, 41, 42, 43, 44, 45, 46, 47, 48, 49, 50, 51, 52, 53, 54, 55, 56, 57, 58, 59, 60, 61, 62, 63, 64], [0, 1, 2, 3, 4, 5, 7, 8, 9, 10, 11, 12, 13, 14, 15, 16, 17, 18, 19, 20, 21, 22, 23, 24, 25, 26, 27, 28, 29, 30, 31, 32, 33, 34, 35, 36, 37, 38, 39, 40, 41, 42, 43, 44, 45, 46, 47, 48, 49, 50, 51, 52, 53, 54, 55, 56, 57, 58, 59, 60, 61, 62, 63, 64])), (0, ([2, 3, 4, 5, 6, 9, 10, 11, 12, 13, 14, 15, 16, 17, 18, 19, 20, 21, 22, 23, 24, 25, 26, 27, 28, 29, 30, 31, 32, 33, 34, 35, 36, 37, 38, 39, 40, 41, 42, 43, 44, 45, 46, 47, 48, 49, 50, 51, 52, 53, 54, 55, 56, 57, 58, 59, 60, 61, 62, 63, 64], [2, 3, 4, 5, 6, 9, 10, 11, 12, 13, 14, 15, 16, 17, 18, 19, 20, 21, 22, 23, 24, 25, 26, 27, 28, 29, 30, 31, 32, 33, 34, 35, 36, 37, 38, 39, 40, 41, 42, 43, 44, 45, 46, 47, 48, 49, 50, 51, 52, 53, 54, 55, 56, 57, 58, 59, 60, 61, 62, 63, 64], [0, 1, 2, 3, 4, 5, 7, 8, 9, 10, 11, 12, 13, 14, 15, 16, 17, 18, 19, 20, 21, 22, 23, 24, 25, 26, 27, 28, 29, 30, 31, 32, 33, 34, 35, 36, 37, 38, 39, 40, 41, 42, 43, 44, 45, 46, 47, 48, 49, 50, 51, 52, 53, 54, 55, 56, 57, 58, 59, 60, 61, 62, 63, 64]))], sk := [], mvs := [], fz := [] }
def f_s_l19Factor_a (L0 : List Sc) (p1 : List Sc) (p2 : Int) : List AV := enc [.p (.nl 1), .p .sl, .p (.int .i64)] [.l L0, .l p1, .i p2]
def f_s_l19Factor_i (L0 : List Sc) (p1 : List Sc) (p2 : Int) : List AV := enc [] []
def f_s_l19Factor_en (r : List Sc) : List AV × List AV := (enc [.p (.al 0)] [], enc [.own 2000031] [.l r])
def f_s_l19Factor_cs (self : (List Sc × List Sc × Int) → Option (List Sc)) : CRow := fun args inh => match dec2 [.p (.nl 1), .p .sl, .p (.int .i64)] [] args inh with
  | some ([.l L0, .l p1, .i p2], []) => some ((self (L0, p1, p2)).isSome, (f_s_l19Factor_en ((self (L0, p1, p2)).getD [])).1, (f_s_l19Factor_en ((self (L0, p1, p2)).getD [])).2)
  | _ => none
theorem f_s_l19Factor_cst (self : (List Sc × List Sc × Int) → Option (List Sc)) (hs : ∀ a r, self a = some r → CS Try.prog 49 (f_s_l19Factor_a a.1 a.2.1 a.2.2) (f_s_l19Factor_i a.1 a.2.1 a.2.2) (f_s_l19Factor_en r).1 (f_s_l19Factor_en r).2) : CTrue Try.prog 49 (f_s_l19Factor_cs self) := by
  intro args inh rs out h
  unfold f_s_l19Factor_cs at h
  split at h
  · rename_i hd
    obtain ⟨h1, h2⟩ := dec2_enc hd
    rw [← h1, ← h2]
    exact rowC (hs _) h
  · cases h
def f_s_l19Factor_M (self : (List Sc × List Sc × Int) → Option (List Sc)) : Calling := addC 49 (f_s_l19Factor_cs self) (addC 72 f_s_l19Minus_c (noC))
theorem f_s_l19Factor_Mt (self : (List Sc × List Sc × Int) → Option (List Sc)) (hs : ∀ a r, self a = some r → CS Try.prog 49 (f_s_l19Factor_a a.1 a.2.1 a.2.2) (f_s_l19Factor_i a.1 a.2.1 a.2.2) (f_s_l19Factor_en r).1 (f_s_l19Factor_en r).2) : CallOk Try.prog (f_s_l19Factor_M self) := addC_true (f_s_l19Factor_cst self hs) (addC_true f_s_l19Minus_cc (noC_true))
theorem f_s_l19Factor_o : loopsOnce Try.f49 = true := by kernel_rfl
def f_s_l19Factor_h2 : List Sh := [.p (.nl 1), .p .sl, .u, .u, .u, .u, .u, .own 2000031, .p (.int .i64), .u, .u, .own 2000031, .p (.int .i64), .u, .u, .u, .u, .u, .u, .u, .u, .u, .u, .u, .u, .u, .u, .u, .u, .u, .u, .u, .u, .u, .u, .u, .u, .u, .u, .u, .u, .u, .u, .u, .u, .u, .u, .u, .u, .u, .u, .u, .u, .u, .u, .u, .u, .u, .u, .u, .u, .u, .u, .u, .u]
def f_s_l19Factor_fr2 (self : (List Sc × List Sc × Int) → Option (List Sc)) (L0 : List Sc) (t1 : List Sc) (t8 : Int) (s : List Sc × List Sc × Int) : List AV := enc f_s_l19Factor_h2 [.l L0, .l t1, .l s.1, .i t8, .l s.2.1, .i s.2.2]
def f_s_l19Factor_g2_1 : List Sh := [.p (.nl 1), .p .sl, .u, .u, .u, .u, .u, .own 2000031, .p (.int .i64), .u, .u, .u, .u, .u, .u, .u, .u, .u, .u, .u, .u, .u, .u, .u, .u, .u, .u, .u, .u, .u, .u, .u, .u, .u, .u, .u, .u, .u, .u, .u, .u, .u, .u, .u, .u, .u, .u, .u, .u, .u, .u, .u, .u, .u, .u, .u, .u, .u, .u, .u, .u, .u, .u, .u, .u]
def f_s_l19Factor_x2_1 (self : (List Sc × List Sc × Int) → Option (List Sc)) (L0 : List Sc) (t1 : List Sc) (t8 : Int) (e : List Sc) : X × List AV := (.out 2, enc f_s_l19Factor_g2_1 [.l L0, .l t1, .l e, .i t8])
def f_s_l19Factor_x2_2 (self : (List Sc × List Sc × Int) → Option (List Sc)) (L0 : List Sc) (t1 : List Sc) (t8 : Int) (_e : Unit) : X × List AV := (.ret, [])
theorem f_s_l19Factor_p2 {R : Type} (self : (List Sc × List Sc × Int) → Option (List Sc)) (L0 : List Sc) (t1 : List Sc) (t8 : Int) (s : List Sc × List Sc × Int) (kN : List Sc × List Sc × Int → Option R) (kA : List Sc → Option R) (kB : Unit → Option R) : f_s_l19Factor_k2 self L0 t1 t8 s.1 s.2.1 s.2.2 kN kA = (f_s_l19Factor_r2 self L0 t1 t8 s).bind (Ro.el kN kA kB) := by
  simp only [f_s_l19Factor_k2, f_s_l19Factor_r2, brB, someB, noneB, Ro.el]
theorem f_s_l19Factor_e2 (self : (List Sc × List Sc × Int) → Option (List Sc)) (L0 : List Sc) (t1 : List Sc) (t8 : Int) (s : List Sc × List Sc × Int) : EC E0 (f_s_l19Factor_M self) H0 f_s_l19Factor_F (asL (noL)) 2 (bodyOf Try.f49 2) (f_s_l19Factor_fr2 self L0 t1 t8 s) (done (klOf f_s_l19Factor_F 2)) = f_s_l19Factor_k2 self L0 t1 t8 s.1 s.2.1 s.2.2 (fun s => some (.norm, f_s_l19Factor_fr2 self L0 t1 t8 s)) (fun e => some (f_s_l19Factor_x2_1 self L0 t1 t8 e)) := by kernel_rfl
theorem f_s_l19Factor_l2 (self : (List Sc × List Sc × Int) → Option (List Sc)) (hs : ∀ a r, self a = some r → CS Try.prog 49 (f_s_l19Factor_a a.1 a.2.1 a.2.2) (f_s_l19Factor_i a.1 a.2.1 a.2.2) (f_s_l19Factor_en r).1 (f_s_l19Factor_en r).2) (L0 : List Sc) (t1 : List Sc) (t8 : Int) : ∀ s r, loopL (f_s_l19Factor_r2 self L0 t1 t8) s = some r → LS Try.prog f_s_l19Factor_F (bodyOf Try.f49 2) (f_s_l19Factor_fr2 self L0 t1 t8 s) (enX (f_s_l19Factor_x2_1 self L0 t1 t8) (f_s_l19Factor_x2_2 self L0 t1 t8) r) :=
  loop_true E0ok (f_s_l19Factor_Mt self hs) (noL_true) f_s_l19Factor_o (fun _ h => by cases h) (fun _ h => by cases h) (fun _ h => by cases h) (fun _ h => by cases h) (fun s => (f_s_l19Factor_e2 self L0 t1 t8 s).trans (f_s_l19Factor_p2 self L0 t1 t8 s _ _ (fun e => some (f_s_l19Factor_x2_2 self L0 t1 t8 e))))
def f_s_l19Factor_t2 (self : (List Sc × List Sc × Int) → Option (List Sc)) (σ : List AV) : Option (Bool × Bool × (X × List AV) × (X × List AV)) := match dec f_s_l19Factor_h2 σ with
  | some [.l L0, .l t1, .l t7, .i t8, .l t11, .i t12] => some (isOne (loopL (f_s_l19Factor_r2 self L0 t1 t8) (t7, t11, t12)), true, f_s_l19Factor_x2_1 self L0 t1 t8 (getOne [] (loopL (f_s_l19Factor_r2 self L0 t1 t8) (t7, t11, t12))), (.ret, []))
  | _ => none
theorem f_s_l19Factor_tt2 (self : (List Sc × List Sc × Int) → Option (List Sc)) (hs : ∀ a r, self a = some r → CS Try.prog 49 (f_s_l19Factor_a a.1 a.2.1 a.2.2) (f_s_l19Factor_i a.1 a.2.1 a.2.2) (f_s_l19Factor_en r).1 (f_s_l19Factor_en r).2) : TTrue Try.prog f_s_l19Factor_F Try.f49 2 (f_s_l19Factor_t2 self) := by
  intro σ p r r' h
  unfold f_s_l19Factor_t2 at h
  split at h
  · rename_i hd
    rw [← dec_enc hd]
    exact row1 (f_s_l19Factor_l2 self hs _ _ _ _) h
  · cases h
def f_s_l19Factor_h0 : List Sh := [.p (.nl 1), .p .sl, .u, .u, .u, .u, .u, .own 2000031, .p (.int .i64), .u, .u, .u, .u, .u, .u, .u, .u, .u, .u, .u, .u, .u, .u, .u, .u, .u, .u, .u, .u, .u, .u, .u, .u, .u, .u, .u, .u, .u, .u, .u, .u, .u, .u, .u, .u, .u, .u, .u, .u, .u, .u, .u, .u, .u, .u, .u, .u, .u, .u, .u, .u, .u, .u, .u, .u]
def f_s_l19Factor_fr0 (self : (List Sc × List Sc × Int) → Option (List Sc)) (L0 : List Sc) (t1 : List Sc) (s : List Sc × Int) : List AV := enc f_s_l19Factor_h0 [.l L0, .l t1, .l s.1, .i s.2]
def f_s_l19Factor_g0_1 : List Sh := [.p (.nl 1), .p .sl, .u, .u, .u, .u, .u, .own 2000031, .p (.int .i64), .u, .u, .u, .u, .u, .u, .u, .u, .u, .u, .u, .u, .u, .u, .u, .u, .u, .u, .u, .u, .u, .u, .u, .u, .u, .u, .u, .u, .u, .u, .u, .u, .u, .u, .u, .u, .u, .u, .u, .u, .u, .u, .u, .u, .u, .u, .u, .u, .u, .u, .u, .u, .u, .u, .u, .u]
def f_s_l19Factor_x0_1 (self : (List Sc × List Sc × Int) → Option (List Sc)) (L0 : List Sc) (t1 : List Sc) (e : List Sc × Int) : X × List AV := (.out 0, enc f_s_l19Factor_g0_1 [.l L0, .l t1, .l e.1, .i e.2])
def f_s_l19Factor_x0_2 (self : (List Sc × List Sc × Int) → Option (List Sc)) (L0 : List Sc) (t1 : List Sc) (_e : Unit) : X × List AV := (.ret, [])
theorem f_s_l19Factor_p0 {R : Type} (self : (List Sc × List Sc × Int) → Option (List Sc)) (L0 : List Sc) (t1 : List Sc) (s : List Sc × Int) (kN : List Sc × Int → Option R) (kA : List Sc × Int → Option R) (kB : Unit → Option R) : f_s_l19Factor_k0 self L0 t1 s.1 s.2 kN kA = (f_s_l19Factor_r0 self L0 t1 s).bind (Ro.el kN kA kB) := by
  simp only [f_s_l19Factor_k0, f_s_l19Factor_r0, brB, boB, bl1B, someB, noneB, Ro.el]
theorem f_s_l19Factor_e0 (self : (List Sc × List Sc × Int) → Option (List Sc)) (L0 : List Sc) (t1 : List Sc) (s : List Sc × Int) : EC E0 (f_s_l19Factor_M self) H0 f_s_l19Factor_F (asL (addL 2 (f_s_l19Factor_t2 self) (noL))) 0 (bodyOf Try.f49 0) (f_s_l19Factor_fr0 self L0 t1 s) (done (klOf f_s_l19Factor_F 0)) = f_s_l19Factor_k0 self L0 t1 s.1 s.2 (fun s => some (.norm, f_s_l19Factor_fr0 self L0 t1 s)) (fun e => some (f_s_l19Factor_x0_1 self L0 t1 e)) := by kernel_rfl
theorem f_s_l19Factor_l0 (self : (List Sc × List Sc × Int) → Option (List Sc)) (hs : ∀ a r, self a = some r → CS Try.prog 49 (f_s_l19Factor_a a.1 a.2.1 a.2.2) (f_s_l19Factor_i a.1 a.2.1 a.2.2) (f_s_l19Factor_en r).1 (f_s_l19Factor_en r).2) (L0 : List Sc) (t1 : List Sc) : ∀ s r, loopL (f_s_l19Factor_r0 self L0 t1) s = some r → LS Try.prog f_s_l19Factor_F (bodyOf Try.f49 0) (f_s_l19Factor_fr0 self L0 t1 s) (enX (f_s_l19Factor_x0_1 self L0 t1) (f_s_l19Factor_x0_2 self L0 t1) r) :=
  loop_true E0ok (f_s_l19Factor_Mt self hs) (addL_true (f_s_l19Factor_tt2 self hs) (noL_true)) f_s_l19Factor_o (fun _ h => by cases h) (fun _ h => by cases h) (fun _ h => by cases h) (fun _ h => by cases h) (fun s => (f_s_l19Factor_e0 self L0 t1 s).trans (f_s_l19Factor_p0 self L0 t1 s _ _ (fun e => some (f_s_l19Factor_x0_2 self L0 t1 e))))
def f_s_l19Factor_t0 (self : (List Sc × List Sc × Int) → Option (List Sc)) (σ : List AV) : Option (Bool × Bool × (X × List AV) × (X × List AV)) := match dec f_s_l19Factor_h0 σ with
  | some [.l L0, .l t1, .l t7, .i t8] => some (isOne (loopL (f_s_l19Factor_r0 self L0 t1) (t7, t8)), true, f_s_l19Factor_x0_1 self L0 t1 (getOne ([], 0) (loopL (f_s_l19Factor_r0 self L0 t1) (t7, t8))), (.ret, []))
  | _ => none
theorem f_s_l19Factor_tt0 (self : (List Sc × List Sc × Int) → Option (List Sc)) (hs : ∀ a r, self a = some r → CS Try.prog 49 (f_s_l19Factor_a a.1 a.2.1 a.2.2) (f_s_l19Factor_i a.1 a.2.1 a.2.2) (f_s_l19Factor_en r).1 (f_s_l19Factor_en r).2) : TTrue Try.prog f_s_l19Factor_F Try.f49 0 (f_s_l19Factor_t0 self) := by
  intro σ p r r' h
  unfold f_s_l19Factor_t0 at h
  split at h
  · rename_i hd
    rw [← dec_enc hd]
    exact row1 (f_s_l19Factor_l0 self hs _ _ _) h
  · cases h
theorem f_s_l19Factor_p {R : Type} (self : (List Sc × List Sc × Int) → Option (List Sc)) (L0 : List Sc) (p1 : List Sc) (p2 : Int) (kR : List Sc → Option R) : f_s_l19Factor_k self L0 p1 p2 kR = (f_s_l19Factor_k self L0 p1 p2 some).bind kR := by
  simp only [f_s_l19Factor_k, brB, bl1B, someB]
theorem f_s_l19Factor_e (self : (List Sc × List Sc × Int) → Option (List Sc)) (L0 : List Sc) (p1 : List Sc) (p2 : Int) : runFn E0 (f_s_l19Factor_M self) H0 f_s_l19Factor_F (asL (addL 0 (f_s_l19Factor_t0 self) (addL 2 (f_s_l19Factor_t2 self) (noL)))) Try.f49 (f_s_l19Factor_a L0 p1 p2) (f_s_l19Factor_i L0 p1 p2) = f_s_l19Factor_k self L0 p1 p2 (fun r => some (f_s_l19Factor_en r)) := by kernel_rfl
theorem f_s_l19Factor_ks (self : (List Sc × List Sc × Int) → Option (List Sc)) (hs : ∀ a r, self a = some r → CS Try.prog 49 (f_s_l19Factor_a a.1 a.2.1 a.2.2) (f_s_l19Factor_i a.1 a.2.1 a.2.2) (f_s_l19Factor_en r).1 (f_s_l19Factor_en r).2) (L0 : List Sc) (p1 : List Sc) (p2 : Int) (r : List Sc) (h : f_s_l19Factor_k self L0 p1 p2 some = some r) : CS Try.prog 49 (f_s_l19Factor_a L0 p1 p2) (f_s_l19Factor_i L0 p1 p2) (f_s_l19Factor_en r).1 (f_s_l19Factor_en r).2 :=
  fn_true (Gk := fun k => f_s_l19Factor_k self L0 p1 p2 k) (en := f_s_l19Factor_en) Try.func49 E0ok (f_s_l19Factor_Mt self hs) (addL_true (f_s_l19Factor_tt0 self hs) (addL_true (f_s_l19Factor_tt2 self hs) (noL_true))) f_s_l19Factor_o (f_s_l19Factor_e self L0 p1 p2) (f_s_l19Factor_p self L0 p1 p2) h
theorem f_s_l19Factor_ns : ∀ n a r, f_s_l19Factor_n n a = some r → CS Try.prog 49 (f_s_l19Factor_a a.1 a.2.1 a.2.2) (f_s_l19Factor_i a.1 a.2.1 a.2.2) (f_s_l19Factor_en r).1 (f_s_l19Factor_en r).2
  | 0, _, _, h => by cases h
  | n + 1, a, r, h => f_s_l19Factor_ks (f_s_l19Factor_n n) (f_s_l19Factor_ns n) a.1 a.2.1 a.2.2 r h
theorem f_s_l19Factor_ok (L0 : List Sc) (p1 : List Sc) (p2 : Int) (r : List Sc) (h : f_s_l19Factor L0 p1 p2 = some r) : CS Try.prog 49 (f_s_l19Factor_a L0 p1 p2) (f_s_l19Factor_i L0 p1 p2) (f_s_l19Factor_en r).1 (f_s_l19Factor_en r).2 := by
  obtain ⟨n, hn⟩ := limF_some h
  exact f_s_l19Factor_ns n _ r hn
def f_s_l19Factor_c : CRow := fun args inh => match dec2 [.p (.nl 1), .p .sl, .p (.int .i64)] [] args inh with
  | some ([.l L0, .l p1, .i p2], []) => some ((f_s_l19Factor L0 p1 p2).isSome, (f_s_l19Factor_en ((f_s_l19Factor L0 p1 p2).getD [])).1, (f_s_l19Factor_en ((f_s_l19Factor L0 p1 p2).getD [])).2)
  | _ => none
theorem f_s_l19Factor_cc : CTrue Try.prog 49 f_s_l19Factor_c := by
  intro args inh rs out h
  unfold f_s_l19Factor_c at h
  split at h
  · rename_i hd
    obtain ⟨h1, h2⟩ := dec2_enc hd
    rw [← h1, ← h2]
    exact rowC (f_s_l19Factor_ok _ _ _) h
  · cases h

def f_s_FactorizationsOf_F : Fi := { nv := 0, nc := 0, m := 0, vt := [], kl := [], sk := [], mvs := [], fz := [] }
def f_s_FactorizationsOf_a (g0 : List Sc) (l1 : List Sc) : List AV := enc [.p .gr, .p .sl] [.l g0, .l l1]
def f_s_FactorizationsOf_i (g0 : List Sc) (l1 : List Sc) : List AV := enc [] []
def f_s_FactorizationsOf_en (r : List Sc × Bool) : List AV × List AV := (enc [.p (.al 0), .p .boo] [.b r.2], enc [.own 2000031] [.l r.1])
def f_s_FactorizationsOf_M : Calling := addC 13 f_s_AtomsOf_c (addC 48 f_s_IsZeroSum_c (addC 49 f_s_l19Factor_c (noC)))
theorem f_s_FactorizationsOf_Mt : CallOk Try.prog (f_s_FactorizationsOf_M) := addC_true f_s_AtomsOf_cc (addC_true f_s_IsZeroSum_cc (addC_true f_s_l19Factor_cc (noC_true)))
theorem f_s_FactorizationsOf_o : loopsOnce Try.f19 = true := by kernel_rfl
theorem f_s_FactorizationsOf_p {R : Type} (g0 : List Sc) (l1 : List Sc) (kR : List Sc × Bool → Option R) : f_s_FactorizationsOf_k g0 l1 kR = (f_s_FactorizationsOf_k g0 l1 some).bind kR := by
  simp only [f_s_FactorizationsOf_k, brB, boB, someB]
theorem f_s_FactorizationsOf_e (g0 : List Sc) (l1 : List Sc) : runFn E0 f_s_FactorizationsOf_M H0 f_s_FactorizationsOf_F (asL (noL)) Try.f19 (f_s_FactorizationsOf_a g0 l1) (f_s_FactorizationsOf_i g0 l1) = f_s_FactorizationsOf_k g0 l1 (fun r => some (f_s_FactorizationsOf_en r)) := by kernel_rfl
theorem f_s_FactorizationsOf_ok (g0 : List Sc) (l1 : List Sc) (r : List Sc × Bool) (h : f_s_FactorizationsOf g0 l1 = some r) : CS Try.prog 19 (f_s_FactorizationsOf_a g0 l1) (f_s_FactorizationsOf_i g0 l1) (f_s_FactorizationsOf_en r).1 (f_s_FactorizationsOf_en r).2 :=
  fn_true (Gk := fun k => f_s_FactorizationsOf_k g0 l1 k) (en := f_s_FactorizationsOf_en) Try.func19 E0ok f_s_FactorizationsOf_Mt (noL_true) f_s_FactorizationsOf_o (f_s_FactorizationsOf_e g0 l1) (f_s_FactorizationsOf_p g0 l1) h
def f_s_FactorizationsOf_c : CRow := fun args inh => match dec2 [.p .gr, .p .sl] [] args inh with
  | some ([.l g0, .l l1], []) => some ((f_s_FactorizationsOf g0 l1).isSome, (f_s_FactorizationsOf_en ((f_s_FactorizationsOf g0 l1).getD ([], false))).1, (f_s_FactorizationsOf_en ((f_s_FactorizationsOf g0 l1).getD ([], false))).2)
  | _ => none
theorem f_s_FactorizationsOf_cc : CTrue Try.prog 19 f_s_FactorizationsOf_c := by
  intro args inh rs out h
  unfold f_s_FactorizationsOf_c at h
  split at h
  · rename_i hd
    obtain ⟨h1, h2⟩ := dec2_enc hd
    rw [← h1, ← h2]
    exact rowC (f_s_FactorizationsOf_ok _ _) h
  · cases h

def f_i_within_F : Fi := { nv := 0, nc := 0, m := 0, vt := [], kl := [], sk := [], mvs := [], fz := [] }
def f_i_within_a (x0 : Int) (lo1 : Int) (hi2 : Int) : List AV := enc [.p (.int .i64), .p (.int .i64), .p (.int .i64)] [.i x0, .i lo1, .i hi2]
def f_i_within_i (x0 : Int) (lo1 : Int) (hi2 : Int) : List AV := enc [] []
def f_i_within_en (r : Bool) : List AV × List AV := (enc [.p .boo] [.b r], enc [] [])
def f_i_within_M : Calling := noC
theorem f_i_within_Mt : CallOk Try.prog (f_i_within_M) := noC_true
theorem f_i_within_o : loopsOnce Try.f63 = true := by kernel_rfl
theorem f_i_within_p {R : Type} (x0 : Int) (lo1 : Int) (hi2 : Int) (kR : Bool → Option R) : f_i_within_k x0 lo1 hi2 kR = (f_i_within_k x0 lo1 hi2 some).bind kR := by
  simp only [f_i_within_k, brB, someB]
theorem f_i_within_e (x0 : Int) (lo1 : Int) (hi2 : Int) : runFn E0 f_i_within_M H0 f_i_within_F (asL (noL)) Try.f63 (f_i_within_a x0 lo1 hi2) (f_i_within_i x0 lo1 hi2) = f_i_within_k x0 lo1 hi2 (fun r => some (f_i_within_en r)) := by kernel_rfl
theorem f_i_within_ok (x0 : Int) (lo1 : Int) (hi2 : Int) (r : Bool) (h : f_i_within x0 lo1 hi2 = some r) : CS Try.prog 63 (f_i_within_a x0 lo1 hi2) (f_i_within_i x0 lo1 hi2) (f_i_within_en r).1 (f_i_within_en r).2 :=
  fn_true (Gk := fun k => f_i_within_k x0 lo1 hi2 k) (en := f_i_within_en) Try.func63 E0ok f_i_within_Mt (noL_true) f_i_within_o (f_i_within_e x0 lo1 hi2) (f_i_within_p x0 lo1 hi2) h
def f_i_within_c : CRow := fun args inh => match dec2 [.p (.int .i64), .p (.int .i64), .p (.int .i64)] [] args inh with
  | some ([.i x0, .i lo1, .i hi2], []) => some ((f_i_within x0 lo1 hi2).isSome, (f_i_within_en ((f_i_within x0 lo1 hi2).getD false)).1, (f_i_within_en ((f_i_within x0 lo1 hi2).getD false)).2)
  | _ => none
theorem f_i_within_cc : CTrue Try.prog 63 f_i_within_c := by
  intro args inh rs out h
  unfold f_i_within_c at h
  split at h
  · rename_i hd
    obtain ⟨h1, h2⟩ := dec2_enc hd
    rw [← h1, ← h2]
    exact rowC (f_i_within_ok _ _ _) h
  · cases h

def f_i_IsGroup_F : Fi := { nv := 0, nc := 0, m := 0, vt := [], kl := [(0, ([0, 1, 2, 4, 5, 6, 7, 8, 9, 10, 14, 15, 16, 17, 18, 19, 20, 21, 22, 23, 24, 25], [0, 1, 2, 4, 5, 6, 7, 8, 9, 10, 11, 12, 13, 14, 15, 16, 17, 18, 19, 20, 21, 22, 23, 24, 25], [0, 1, 3, 4, 5, 6, 7, 8, 9, 10, 11, 12, 13, 14, 15, 16, 17, 18, 19, 20, 21, 22, 23, 24, 25]))], sk := [], mvs := [], fz := [] }
def f_i_IsGroup_a (g0 : List Sc) : List AV := enc [.p .gr] [.l g0]
def f_i_IsGroup_i (g0 : List Sc) : List AV := enc [] []
def f_i_IsGroup_en (r : Bool) : List AV × List AV := (enc [.p .boo] [.b r], enc [] [])
def f_i_IsGroup_M : Calling := addC 63 f_i_within_c (noC)
theorem f_i_IsGroup_Mt : CallOk Try.prog (f_i_IsGroup_M) := addC_true f_i_within_cc (noC_true)
theorem f_i_IsGroup_o : loopsOnce Try.f37 = true := by kernel_rfl
def f_i_IsGroup_h0 : List Sh := [.u, .u, .u, .p (.int .i64), .u, .u, .u, .u, .u, .u, .u, .p .sl, .p (.int .i64), .p (.int .i64), .u, .u, .u, .u, .u, .u, .u, .u, .u, .u, .u, .u]
def f_i_IsGroup_fr0 (t11 : List Sc) (t12 : Int) (s : Int × Int) : List AV := enc f_i_IsGroup_h0 [.i s.1, .l t11, .i t12, .i s.2]
def f_i_IsGroup_g0_1 : List Sh := [.u, .u, .u, .p (.int .i64), .u, .u, .u, .u, .u, .u, .u, .u, .u, .u, .u, .u, .u, .u, .u, .u, .u, .u, .u, .u, .u, .u]
def f_i_IsGroup_x0_1 (t11 : List Sc) (t12 : Int) (e : Int) : X × List AV := (.out 0, enc f_i_IsGroup_g0_1 [.i e])
def f_i_IsGroup_g0_2 : List Sh := [.u, .u, .p .boo, .u, .u, .u, .u, .u, .u, .u, .u, .u, .u, .u, .u, .u, .u, .u, .u, .u, .u, .u, .u, .u, .u, .u]
def f_i_IsGroup_x0_2 (t11 : List Sc) (t12 : Int) (e : Unit) : X × List AV := (.ret, enc f_i_IsGroup_g0_2 [.b false])
theorem f_i_IsGroup_p0 {R : Type} (t11 : List Sc) (t12 : Int) (s : Int × Int) (kN : Int × Int → Option R) (kA : Int → Option R) (kB : Unit → Option R) : f_i_IsGroup_k0 t11 t12 s.1 s.2 kN kA kB = (f_i_IsGroup_r0 t11 t12 s).bind (Ro.el kN kA kB) := by
  simp only [f_i_IsGroup_k0, f_i_IsGroup_r0, brB, boB, someB, noneB, Ro.el]
theorem f_i_IsGroup_e0 (t11 : List Sc) (t12 : Int) (s : Int × Int) : EC E0 f_i_IsGroup_M H0 f_i_IsGroup_F (asL (noL)) 0 (bodyOf Try.f37 0) (f_i_IsGroup_fr0 t11 t12 s) (done (klOf f_i_IsGroup_F 0)) = f_i_IsGroup_k0 t11 t12 s.1 s.2 (fun s => some (.norm, f_i_IsGroup_fr0 t11 t12 s)) (fun e => some (f_i_IsGroup_x0_1 t11 t12 e)) (fun e => some (f_i_IsGroup_x0_2 t11 t12 e)) := by kernel_rfl
theorem f_i_IsGroup_l0 (t11 : List Sc) (t12 : Int) : ∀ s r, loopL (f_i_IsGroup_r0 t11 t12) s = some r → LS Try.prog f_i_IsGroup_F (bodyOf Try.f37 0) (f_i_IsGroup_fr0 t11 t12 s) (enX (f_i_IsGroup_x0_1 t11 t12) (f_i_IsGroup_x0_2 t11 t12) r) :=
  loop_true E0ok f_i_IsGroup_Mt (noL_true) f_i_IsGroup_o (fun _ h => by cases h) (fun _ h => by cases h) (fun _ h => by cases h) (fun _ h => by cases h) (fun s => (f_i_IsGroup_e0 t11 t12 s).trans (f_i_IsGroup_p0 t11 t12 s _ _ (fun e => some (f_i_IsGroup_x0_2 t11 t12 e))))
def f_i_IsGroup_t0 (σ : List AV) : Option (Bool × Bool × (X × List AV) × (X × List AV)) := match dec f_i_IsGroup_h0 σ with
  | some [.i n3, .l t11, .i t12, .i t13] => some ((loopL (f_i_IsGroup_r0 t11 t12) (n3, t13)).isSome, isOne (loopL (f_i_IsGroup_r0 t11 t12) (n3, t13)), f_i_IsGroup_x0_1 t11 t12 (getOne 0 (loopL (f_i_IsGroup_r0 t11 t12) (n3, t13))), f_i_IsGroup_x0_2 t11 t12 (getTwo () (loopL (f_i_IsGroup_r0 t11 t12) (n3, t13))))
  | _ => none
theorem f_i_IsGroup_tt0 : TTrue Try.prog f_i_IsGroup_F Try.f37 0 (f_i_IsGroup_t0) := by
  intro σ p r r' h
  unfold f_i_IsGroup_t0 at h
  split at h
  · rename_i hd
    rw [← dec_enc hd]
    exact row2 (f_i_IsGroup_l0 _ _ _) h
  · cases h
theorem f_i_IsGroup_p {R : Type} (g0 : List Sc) (kR : Bool → Option R) : f_i_IsGroup_k g0 kR = (f_i_IsGroup_k g0 some).bind kR := by
  simp only [f_i_IsGroup_k, brB, blB, someB]
theorem f_i_IsGroup_e (g0 : List Sc) : runFn E0 f_i_IsGroup_M H0 f_i_IsGroup_F (asL (addL 0 (f_i_IsGroup_t0) (noL))) Try.f37 (f_i_IsGroup_a g0) (f_i_IsGroup_i g0) = f_i_IsGroup_k g0 (fun r => some (f_i_IsGroup_en r)) := by kernel_rfl
theorem f_i_IsGroup_ok (g0 : List Sc) (r : Bool) (h : f_i_IsGroup g0 = some r) : CS Try.prog 37 (f_i_IsGroup_a g0) (f_i_IsGroup_i g0) (f_i_IsGroup_en r).1 (f_i_IsGroup_en r).2 :=
  fn_true (Gk := fun k => f_i_IsGroup_k g0 k) (en := f_i_IsGroup_en) Try.func37 E0ok f_i_IsGroup_Mt (addL_true (f_i_IsGroup_tt0) (noL_true)) f_i_IsGroup_o (f_i_IsGroup_e g0) (f_i_IsGroup_p g0) h
def f_i_IsGroup_c : CRow := fun args inh => match dec2 [.p .gr] [] args inh with
  | some ([.l g0], []) => some ((f_i_IsGroup g0).isSome, (f_i_IsGroup_en ((f_i_IsGroup g0).getD false)).1, (f_i_IsGroup_en ((f_i_IsGroup g0).getD false)).2)
  | _ => none
theorem f_i_IsGroup_cc : CTrue Try.prog 37 f_i_IsGroup_c := by
  intro args inh rs out h
  unfold f_i_IsGroup_c at h
  split at h
  · rename_i hd
    obtain ⟨h1, h2⟩ := dec2_enc hd
    rw [← h1, ← h2]
    exact rowC (f_i_IsGroup_ok _) h
  · cases h

def f_i_OrderOf_F : Fi := { nv := 0, nc := 0, m := 0, vt := [], kl := [(0, ([0, 1, 2, 4, 5, 6, 7, 8, 9, 13, 14, 15, 16, 17, 18, 19, 20], [0, 1, 2, 4, 5, 6, 7, 8, 9, 10, 11, 12, 13, 14, 15, 16, 17, 18, 19, 20], [0, 1, 3, 4, 5, 6, 7, 8, 9, 10, 11, 12, 13, 14, 15, 16, 17, 18, 19, 20]))], sk := [], mvs := [], fz := [] }
def f_i_OrderOf_a (g0 : List Sc) : List AV := enc [.p .gr] [.l g0]
def f_i_OrderOf_i (g0 : List Sc) : List AV := enc [] []
def f_i_OrderOf_en (r : Int) : List AV × List AV := (enc [.p (.int .i64)] [.i r], enc [] [])
def f_i_OrderOf_M : Calling := addC 37 f_i_IsGroup_c (noC)
theorem f_i_OrderOf_Mt : CallOk Try.prog (f_i_OrderOf_M) := addC_true f_i_IsGroup_cc (noC_true)
theorem f_i_OrderOf_o : loopsOnce Try.f38 = true := by kernel_rfl
def f_i_OrderOf_h0 : List Sh := [.u, .u, .u, .p (.int .i64), .u, .u, .u, .u, .u, .u, .p .sl, .p (.int .i64), .p (.int .i64), .u, .u, .u, .u, .u, .u, .u, .u]
def f_i_OrderOf_fr0 (t10 : List Sc) (t11 : Int) (s : Int × Int) : List AV := enc f_i_OrderOf_h0 [.i s.1, .l t10, .i t11, .i s.2]
def f_i_OrderOf_g0_1 : List Sh := [.u, .u, .u, .p (.int .i64), .u, .u, .u, .u, .u, .u, .u, .u, .u, .u, .u, .u, .u, .u, .u, .u, .u]
def f_i_OrderOf_x0_1 (t10 : List Sc) (t11 : Int) (e : Int) : X × List AV := (.out 0, enc f_i_OrderOf_g0_1 [.i e])
def f_i_OrderOf_x0_2 (t10 : List Sc) (t11 : Int) (_e : Unit) : X × List AV := (.ret, [])
theorem f_i_OrderOf_p0 {R : Type} (t10 : List Sc) (t11 : Int) (s : Int × Int) (kN : Int × Int → Option R) (kA : Int → Option R) (kB : Unit → Option R) : f_i_OrderOf_k0 t10 t11 s.1 s.2 kN kA = (f_i_OrderOf_r0 t10 t11 s).bind (Ro.el kN kA kB) := by
  simp only [f_i_OrderOf_k0, f_i_OrderOf_r0, brB, someB, noneB, Ro.el]
theorem f_i_OrderOf_e0 (t10 : List Sc) (t11 : Int) (s : Int × Int) : EC E0 f_i_OrderOf_M H0 f_i_OrderOf_F (asL (noL)) 0 (bodyOf Try.f38 0) (f_i_OrderOf_fr0 t10 t11 s) (done (klOf f_i_OrderOf_F 0)) = f_i_OrderOf_k0 t10 t11 s.1 s.2 (fun s => some (.norm, f_i_OrderOf_fr0 t10 t11 s)) (fun e => some (f_i_OrderOf_x0_1 t10 t11 e)) := by kernel_rfl
theorem f_i_OrderOf_l0 (t10 : List Sc) (t11 : Int) : ∀ s r, loopL (f_i_OrderOf_r0 t10 t11) s = some r → LS Try.prog f_i_OrderOf_F (bodyOf Try.f38 0) (f_i_OrderOf_fr0 t10 t11 s) (enX (f_i_OrderOf_x0_1 t10 t11) (f_i_OrderOf_x0_2 t10 t11) r) :=
  loop_true E0ok f_i_OrderOf_Mt (noL_true) f_i_OrderOf_o (fun _ h => by cases h) (fun _ h => by cases h) (fun _ h => by cases h) (fun _ h => by cases h) (fun s => (f_i_OrderOf_e0 t10 t11 s).trans (f_i_OrderOf_p0 t10 t11 s _ _ (fun e => some (f_i_OrderOf_x0_2 t10 t11 e))))
def f_i_OrderOf_t0 (σ : List AV) : Option (Bool × Bool × (X × List AV) × (X × List AV)) := match dec f_i_OrderOf_h0 σ with
  | some [.i n3, .l t10, .i t11, .i t12] => some (isOne (loopL (f_i_OrderOf_r0 t10 t11) (n3, t12)), true, f_i_OrderOf_x0_1 t10 t11 (getOne 0 (loopL (f_i_OrderOf_r0 t10 t11) (n3, t12))), (.ret, []))
  | _ => none
theorem f_i_OrderOf_tt0 : TTrue Try.prog f_i_OrderOf_F Try.f38 0 (f_i_OrderOf_t0) := by
  intro σ p r r' h
  unfold f_i_OrderOf_t0 at h
  split at h
  · rename_i hd
    rw [← dec_enc hd]
    exact row1 (f_i_OrderOf_l0 _ _ _) h
  · cases h
theorem f_i_OrderOf_p {R : Type} (g0 : List Sc) (kR : Int → Option R) : f_i_OrderOf_k g0 kR = (f_i_OrderOf_k g0 some).bind kR := by
  simp only [f_i_OrderOf_k, brB, boB, bl1B, someB]
theorem f_i_OrderOf_e (g0 : List Sc) : runFn E0 f_i_OrderOf_M H0 f_i_OrderOf_F (asL (addL 0 (f_i_OrderOf_t0) (noL))) Try.f38 (f_i_OrderOf_a g0) (f_i_OrderOf_i g0) = f_i_OrderOf_k g0 (fun r => some (f_i_OrderOf_en r)) := by kernel_rfl
theorem f_i_OrderOf_ok (g0 : List Sc) (r : Int) (h : f_i_OrderOf g0 = some r) : CS Try.prog 38 (f_i_OrderOf_a g0) (f_i_OrderOf_i g0) (f_i_OrderOf_en r).1 (f_i_OrderOf_en r).2 :=
  fn_true (Gk := fun k => f_i_OrderOf_k g0 k) (en := f_i_OrderOf_en) Try.func38 E0ok f_i_OrderOf_Mt (addL_true (f_i_OrderOf_tt0) (noL_true)) f_i_OrderOf_o (f_i_OrderOf_e g0) (f_i_OrderOf_p g0) h
def f_i_OrderOf_c : CRow := fun args inh => match dec2 [.p .gr] [] args inh with
  | some ([.l g0], []) => some ((f_i_OrderOf g0).isSome, (f_i_OrderOf_en ((f_i_OrderOf g0).getD 0)).1, (f_i_OrderOf_en ((f_i_OrderOf g0).getD 0)).2)
  | _ => none
theorem f_i_OrderOf_cc : CTrue Try.prog 38 f_i_OrderOf_c := by
  intro args inh rs out h
  unfold f_i_OrderOf_c at h
  split at h
  · rename_i hd
    obtain ⟨h1, h2⟩ := dec2_enc hd
    rw [← h1, ← h2]
    exact rowC (f_i_OrderOf_ok _) h
  · cases h

def f_i_Group_add_F : Fi := { nv := 0, nc := 0, m := 0, vt := [], kl := [(0, ([0, 3, 4, 5, 6, 9, 10, 11, 15, 16, 17, 18, 19, 20, 21, 22, 23, 24, 25, 26, 27, 28, 29, 30, 31, 32, 33, 34, 35, 36, 37, 38, 39, 40, 41], [0, 1, 2, 3, 4, 5, 6, 8, 9, 10, 11, 12, 13, 14, 15, 16, 17, 18, 19, 20, 21, 22, 23, 24, 25, 26, 27, 28, 29, 30, 31, 32, 33, 34, 35, 36, 37, 38, 39, 40, 41], [0, 1, 2, 3, 4, 5, 7, 8, 9, 10, 11, 12, 13, 14, 15, 16, 17, 18, 19, 20, 21, 22, 23, 24, 25, 26, 27, 28, 29, 30, 31, 32, 33, 34, 35, 36, 37, 38, 39, 40, 41]))], sk := [], mvs := [], fz := [] }
def f_i_Group_add_a (g0 : List Sc) (x1 : Int) (y2 : Int) : List AV := enc [.p .gr, .p (.int .i64), .p (.int .i64)] [.l g0, .i x1, .i y2]
def f_i_Group_add_i (g0 : List Sc) (x1 : Int) (y2 : Int) : List AV := enc [] []
def f_i_Group_add_en (r : Int) : List AV × List AV := (enc [.p (.int .i64)] [.i r], enc [] [])
def f_i_Group_add_M : Calling := noC
theorem f_i_Group_add_Mt : CallOk Try.prog (f_i_Group_add_M) := noC_true
theorem f_i_Group_add_o : loopsOnce Try.f66 = true := by kernel_rfl
def f_i_Group_add_h0 : List Sh := [.u, .p (.int .i64), .p (.int .i64), .u, .u, .u, .u, .p (.int .i64), .p (.int .i64), .u, .u, .u, .p .sl, .p (.int .i64), .p (.int .i64), .u, .u, .u, .u, .u, .u, .u, .u, .u, .u, .u, .u, .u, .u, .u, .u, .u, .u, .u, .u, .u, .u, .u, .u, .u, .u, .u]
def f_i_Group_add_fr0 (t12 : List Sc) (t13 : Int) (s : Int × Int × Int × Int × Int) : List AV := enc f_i_Group_add_h0 [.i s.1, .i s.2.1, .i s.2.2.1, .i s.2.2.2.1, .l t12, .i t13, .i s.2.2.2.2]
def f_i_Group_add_g0_1 : List Sh := [.u, .u, .u, .u, .u, .u, .u, .p (.int .i64), .u, .u, .u, .u, .u, .u, .u, .u, .u, .u, .u, .u, .u, .u, .u, .u, .u, .u, .u, .u, .u, .u, .u, .u, .u, .u, .u, .u, .u, .u, .u, .u, .u, .u]
def f_i_Group_add_x0_1 (t12 : List Sc) (t13 : Int) (e : Int) : X × List AV := (.out 0, enc f_i_Group_add_g0_1 [.i e])
def f_i_Group_add_x0_2 (t12 : List Sc) (t13 : Int) (_e : Unit) : X × List AV := (.ret, [])
theorem f_i_Group_add_p0 {R : Type} (t12 : List Sc) (t13 : Int) (s : Int × Int × Int × Int × Int) (kN : Int × Int × Int × Int × Int → Option R) (kA : Int → Option R) (kB : Unit → Option R) : f_i_Group_add_k0 t12 t13 s.1 s.2.1 s.2.2.1 s.2.2.2.1 s.2.2.2.2 kN kA = (f_i_Group_add_r0 t12 t13 s).bind (Ro.el kN kA kB) := by
  simp only [f_i_Group_add_k0, f_i_Group_add_r0, brB, someB, noneB, Ro.el]
theorem f_i_Group_add_e0 (t12 : List Sc) (t13 : Int) (s : Int × Int × Int × Int × Int) : EC E0 f_i_Group_add_M H0 f_i_Group_add_F (asL (noL)) 0 (bodyOf Try.f66 0) (f_i_Group_add_fr0 t12 t13 s) (done (klOf f_i_Group_add_F 0)) = f_i_Group_add_k0 t12 t13 s.1 s.2.1 s.2.2.1 s.2.2.2.1 s.2.2.2.2 (fun s => some (.norm, f_i_Group_add_fr0 t12 t13 s)) (fun e => some (f_i_Group_add_x0_1 t12 t13 e)) := by kernel_rfl
theorem f_i_Group_add_l0 (t12 : List Sc) (t13 : Int) : ∀ s r, loopL (f_i_Group_add_r0 t12 t13) s = some r → LS Try.prog f_i_Group_add_F (bodyOf Try.f66 0) (f_i_Group_add_fr0 t12 t13 s) (enX (f_i_Group_add_x0_1 t12 t13) (f_i_Group_add_x0_2 t12 t13) r) :=
  loop_true E0ok f_i_Group_add_Mt (noL_true) f_i_Group_add_o (fun _ h => by cases h) (fun _ h => by cases h) (fun _ h => by cases h) (fun _ h => by cases h) (fun s => (f_i_Group_add_e0 t12 t13 s).trans (f_i_Group_add_p0 t12 t13 s _ _ (fun e => some (f_i_Group_add_x0_2 t12 t13 e))))
def f_i_Group_add_t0 (σ : List AV) : Option (Bool × Bool × (X × List AV) × (X × List AV)) := match dec f_i_Group_add_h0 σ with
  | some [.i x1, .i y2, .i sum7, .i unit8, .l t12, .i t13, .i t14] => some (isOne (loopL (f_i_Group_add_r0 t12 t13) (x1, y2, sum7, unit8, t14)), true, f_i_Group_add_x0_1 t12 t13 (getOne 0 (loopL (f_i_Group_add_r0 t12 t13) (x1, y2, sum7, unit8, t14))), (.ret, []))
  | _ => none
theorem f_i_Group_add_tt0 : TTrue Try.prog f_i_Group_add_F Try.f66 0 (f_i_Group_add_t0) := by
  intro σ p r r' h
  unfold f_i_Group_add_t0 at h
  split at h
  · rename_i hd
    rw [← dec_enc hd]
    exact row1 (f_i_Group_add_l0 _ _ _) h
  · cases h
theorem f_i_Group_add_p {R : Type} (g0 : List Sc) (x1 : Int) (y2 : Int) (kR : Int → Option R) : f_i_Group_add_k g0 x1 y2 kR = (f_i_Group_add_k g0 x1 y2 some).bind kR := by
  simp only [f_i_Group_add_k, bl1B, someB]
theorem f_i_Group_add_e (g0 : List Sc) (x1 : Int) (y2 : Int) : runFn E0 f_i_Group_add_M H0 f_i_Group_add_F (asL (addL 0 (f_i_Group_add_t0) (noL))) Try.f66 (f_i_Group_add_a g0 x1 y2) (f_i_Group_add_i g0 x1 y2) = f_i_Group_add_k g0 x1 y2 (fun r => some (f_i_Group_add_en r)) := by kernel_rfl
theorem f_i_Group_add_ok (g0 : List Sc) (x1 : Int) (y2 : Int) (r : Int) (h : f_i_Group_add g0 x1 y2 = some r) : CS Try.prog 66 (f_i_Group_add_a g0 x1 y2) (f_i_Group_add_i g0 x1 y2) (f_i_Group_add_en r).1 (f_i_Group_add_en r).2 :=
  fn_true (Gk := fun k => f_i_Group_add_k g0 x1 y2 k) (en := f_i_Group_add_en) Try.func66 E0ok f_i_Group_add_Mt (addL_true (f_i_Group_add_tt0) (noL_true)) f_i_Group_add_o (f_i_Group_add_e g0 x1 y2) (f_i_Group_add_p g0 x1 y2) h
def f_i_Group_add_c : CRow := fun args inh => match dec2 [.p .gr, .p (.int .i64), .p (.int .i64)] [] args inh with
  | some ([.l g0, .i x1, .i y2], []) => some ((f_i_Group_add g0 x1 y2).isSome, (f_i_Group_add_en ((f_i_Group_add g0 x1 y2).getD 0)).1, (f_i_Group_add_en ((f_i_Group_add g0 x1 y2).getD 0)).2)
  | _ => none
theorem f_i_Group_add_cc : CTrue Try.prog 66 f_i_Group_add_c := by
  intro args inh rs out h
  unfold f_i_Group_add_c at h
  split at h
  · rename_i hd
    obtain ⟨h1, h2⟩ := dec2_enc hd
    rw [← h1, ← h2]
    exact rowC (f_i_Group_add_ok _ _ _) h
  · cases h

def f_i_Group_total_F : Fi := { nv := 0, nc := 0, m := 0, vt := [], kl := [(0, ([0, 1, 3, 4, 6, 7, 11, 12, 13, 14, 15, 16, 17, 18, 19], [0, 1, 2, 3, 4, 6, 7, 8, 9, 10, 11, 12, 13, 14, 15, 16, 17, 18, 19], [0, 1, 2, 3, 5, 6, 7, 8, 9, 10, 11, 12, 13, 14, 15, 16, 17, 18, 19]))], sk := [], mvs := [], fz := [] }
def f_i_Group_total_a (g0 : List Sc) (l1 : List Sc) : List AV := enc [.p .gr, .p .sl] [.l g0, .l l1]
def f_i_Group_total_i (g0 : List Sc) (l1 : List Sc) : List AV := enc [] []
def f_i_Group_total_en (r : Int) : List AV × List AV := (enc [.p (.int .i64)] [.i r], enc [] [])
def f_i_Group_total_M : Calling := addC 66 f_i_Group_add_c (noC)
theorem f_i_Group_total_Mt : CallOk Try.prog (f_i_Group_total_M) := addC_true f_i_Group_add_cc (noC_true)
theorem f_i_Group_total_o : loopsOnce Try.f42 = true := by kernel_rfl
def f_i_Group_total_h0 : List Sh := [.u, .u, .p .el, .u, .u, .p (.int .i64), .u, .u, .p .sl, .p (.int .i64), .p (.int .i64), .u, .u, .u, .u, .u, .u, .u, .u, .u]
def f_i_Group_total_fr0 (g2 : List Sc) (t8 : List Sc) (t9 : Int) (s : Int × Int) : List AV := enc f_i_Group_total_h0 [.l g2, .i s.1, .l t8, .i t9, .i s.2]
def f_i_Group_total_g0_1 : List Sh := [.u, .u, .u, .u, .u, .p (.int .i64), .u, .u, .u, .u, .u, .u, .u, .u, .u, .u, .u, .u, .u, .u]
def f_i_Group_total_x0_1 (g2 : List Sc) (t8 : List Sc) (t9 : Int) (e : Int) : X × List AV := (.out 0, enc f_i_Group_total_g0_1 [.i e])
def f_i_Group_total_x0_2 (g2 : List Sc) (t8 : List Sc) (t9 : Int) (_e : Unit) : X × List AV := (.ret, [])
theorem f_i_Group_total_p0 {R : Type} (g2 : List Sc) (t8 : List Sc) (t9 : Int) (s : Int × Int) (kN : Int × Int → Option R) (kA : Int → Option R) (kB : Unit → Option R) : f_i_Group_total_k0 g2 t8 t9 s.1 s.2 kN kA = (f_i_Group_total_r0 g2 t8 t9 s).bind (Ro.el kN kA kB) := by
  simp only [f_i_Group_total_k0, f_i_Group_total_r0, brB, boB, someB, noneB, Ro.el]
theorem f_i_Group_total_e0 (g2 : List Sc) (t8 : List Sc) (t9 : Int) (s : Int × Int) : EC E0 f_i_Group_total_M H0 f_i_Group_total_F (asL (noL)) 0 (bodyOf Try.f42 0) (f_i_Group_total_fr0 g2 t8 t9 s) (done (klOf f_i_Group_total_F 0)) = f_i_Group_total_k0 g2 t8 t9 s.1 s.2 (fun s => some (.norm, f_i_Group_total_fr0 g2 t8 t9 s)) (fun e => some (f_i_Group_total_x0_1 g2 t8 t9 e)) := by kernel_rfl
theorem f_i_Group_total_l0 (g2 : List Sc) (t8 : List Sc) (t9 : Int) : ∀ s r, loopL (f_i_Group_total_r0 g2 t8 t9) s = some r → LS Try.prog f_i_Group_total_F (bodyOf Try.f42 0) (f_i_Group_total_fr0 g2 t8 t9 s) (enX (f_i_Group_total_x0_1 g2 t8 t9) (f_i_Group_total_x0_2 g2 t8 t9) r) :=
  loop_true E0ok f_i_Group_total_Mt (noL_true) f_i_Group_total_o (fun _ h => by cases h) (fun _ h => by cases h) (fun _ h => by cases h) (fun _ h => by cases h) (fun s => (f_i_Group_total_e0 g2 t8 t9 s).trans (f_i_Group_total_p0 g2 t8 t9 s _ _ (fun e => some (f_i_Group_total_x0_2 g2 t8 t9 e))))
def f_i_Group_total_t0 (σ : List AV) : Option (Bool × Bool × (X × List AV) × (X × List AV)) := match dec f_i_Group_total_h0 σ with
  | some [.l g2, .i s5, .l t8, .i t9, .i t10] => some (isOne (loopL (f_i_Group_total_r0 g2 t8 t9) (s5, t10)), true, f_i_Group_total_x0_1 g2 t8 t9 (getOne 0 (loopL (f_i_Group_total_r0 g2 t8 t9) (s5, t10))), (.ret, []))
  | _ => none
theorem f_i_Group_total_tt0 : TTrue Try.prog f_i_Group_total_F Try.f42 0 (f_i_Group_total_t0) := by
  intro σ p r r' h
  unfold f_i_Group_total_t0 at h
  split at h
  · rename_i hd
    rw [← dec_enc hd]
    exact row1 (f_i_Group_total_l0 _ _ _ _) h
  · cases h
theorem f_i_Group_total_p {R : Type} (g0 : List Sc) (l1 : List Sc) (kR : Int → Option R) : f_i_Group_total_k g0 l1 kR = (f_i_Group_total_k g0 l1 some).bind kR := by
  simp only [f_i_Group_total_k, bl1B, someB]
theorem f_i_Group_total_e (g0 : List Sc) (l1 : List Sc) : runFn E0 f_i_Group_total_M H0 f_i_Group_total_F (asL (addL 0 (f_i_Group_total_t0) (noL))) Try.f42 (f_i_Group_total_a g0 l1) (f_i_Group_total_i g0 l1) = f_i_Group_total_k g0 l1 (fun r => some (f_i_Group_total_en r)) := by kernel_rfl
theorem f_i_Group_total_ok (g0 : List Sc) (l1 : List Sc) (r : Int) (h : f_i_Group_total g0 l1 = some r) : CS Try.prog 42 (f_i_Group_total_a g0 l1) (f_i_Group_total_i g0 l1) (f_i_Group_total_en r).1 (f_i_Group_total_en r).2 :=
  fn_true (Gk := fun k => f_i_Group_total_k g0 l1 k) (en := f_i_Group_total_en) Try.func42 E0ok f_i_Group_total_Mt (addL_true (f_i_Group_total_tt0) (noL_true)) f_i_Group_total_o (f_i_Group_total_e g0 l1) (f_i_Group_total_p g0 l1) h
def f_i_Group_total_c : CRow := fun args inh => match dec2 [.p .gr, .p .sl] [] args inh with
  | some ([.l g0, .l l1], []) => some ((f_i_Group_total g0 l1).isSome, (f_i_Group_total_en ((f_i_Group_total g0 l1).getD 0)).1, (f_i_Group_total_en ((f_i_Group_total g0 l1).getD 0)).2)
  | _ => none
theorem f_i_Group_total_cc : CTrue Try.prog 42 f_i_Group_total_c := by
  intro args inh rs out h
  unfold f_i_Group_total_c at h
  split at h
  · rename_i hd
    obtain ⟨h1, h2⟩ := dec2_enc hd
    rw [← h1, ← h2]
    exact rowC (f_i_Group_total_ok _ _) h
  · cases h

def f_i_Group_negate_F : Fi := { nv := 0, nc := 0, m := 0, vt := [], kl := [(0, ([0, 2, 3, 4, 7, 8, 9, 13, 14, 15, 16, 17, 18, 19, 20, 21, 22, 23, 24, 25, 26, 27, 28, 29, 30, 31, 32, 33, 34], [0, 1, 2, 3, 4, 6, 7, 8, 9, 10, 11, 12, 13, 14, 15, 16, 17, 18, 19, 20, 21, 22, 23, 24, 25, 26, 27, 28, 29, 30, 31, 32, 33, 34], [0, 1, 2, 3, 5, 6, 7, 8, 9, 10, 11, 12, 13, 14, 15, 16, 17, 18, 19, 20, 21, 22, 23, 24, 25, 26, 27, 28, 29, 30, 31, 32, 33, 34]))], sk := [], mvs := [], fz := [] }
def f_i_Group_negate_a (g0 : List Sc) (x1 : Int) : List AV := enc [.p .gr, .p (.int .i64)] [.l g0, .i x1]
def f_i_Group_negate_i (g0 : List Sc) (x1 : Int) : List AV := enc [] []
def f_i_Group_negate_en (r : Int) : List AV × List AV := (enc [.p (.int .i64)] [.i r], enc [] [])
def f_i_Group_negate_M : Calling := noC
theorem f_i_Group_negate_Mt : CallOk Try.prog (f_i_Group_negate_M) := noC_true
theorem f_i_Group_negate_o : loopsOnce Try.f41 = true := by kernel_rfl
def f_i_Group_negate_h0 : List Sh := [.u, .p (.int .i64), .u, .u, .u, .p (.int .i64), .p (.int .i64), .u, .u, .u, .p .sl, .p (.int .i64), .p (.int .i64), .u, .u, .u, .u, .u, .u, .u, .u, .u, .u, .u, .u, .u, .u, .u, .u, .u, .u, .u, .u, .u, .u]
def f_i_Group_negate_fr0 (t10 : List Sc) (t11 : Int) (s : Int × Int × Int × Int) : List AV := enc f_i_Group_negate_h0 [.i s.1, .i s.2.1, .i s.2.2.1, .l t10, .i t11, .i s.2.2.2]
def f_i_Group_negate_g0_1 : List Sh := [.u, .u, .u, .u, .u, .p (.int .i64), .u, .u, .u, .u, .u, .u, .u, .u, .u, .u, .u, .u, .u, .u, .u, .u, .u, .u, .u, .u, .u, .u, .u, .u, .u, .u, .u, .u, .u]
def f_i_Group_negate_x0_1 (t10 : List Sc) (t11 : Int) (e : Int) : X × List AV := (.out 0, enc f_i_Group_negate_g0_1 [.i e])
def f_i_Group_negate_x0_2 (t10 : List Sc) (t11 : Int) (_e : Unit) : X × List AV := (.ret, [])
theorem f_i_Group_negate_p0 {R : Type} (t10 : List Sc) (t11 : Int) (s : Int × Int × Int × Int) (kN : Int × Int × Int × Int → Option R) (kA : Int → Option R) (kB : Unit → Option R) : f_i_Group_negate_k0 t10 t11 s.1 s.2.1 s.2.2.1 s.2.2.2 kN kA = (f_i_Group_negate_r0 t10 t11 s).bind (Ro.el kN kA kB) := by
  simp only [f_i_Group_negate_k0, f_i_Group_negate_r0, brB, someB, noneB, Ro.el]
theorem f_i_Group_negate_e0 (t10 : List Sc) (t11 : Int) (s : Int × Int × Int × Int) : EC E0 f_i_Group_negate_M H0 f_i_Group_negate_F (asL (noL)) 0 (bodyOf Try.f41 0) (f_i_Group_negate_fr0 t10 t11 s) (done (klOf f_i_Group_negate_F 0)) = f_i_Group_negate_k0 t10 t11 s.1 s.2.1 s.2.2.1 s.2.2.2 (fun s => some (.norm, f_i_Group_negate_fr0 t10 t11 s)) (fun e => some (f_i_Group_negate_x0_1 t10 t11 e)) := by kernel_rfl
theorem f_i_Group_negate_l0 (t10 : List Sc) (t11 : Int) : ∀ s r, loopL (f_i_Group_negate_r0 t10 t11) s = some r → LS Try.prog f_i_Group_negate_F (bodyOf Try.f41 0) (f_i_Group_negate_fr0 t10 t11 s) (enX (f_i_Group_negate_x0_1 t10 t11) (f_i_Group_negate_x0_2 t10 t11) r) :=
  loop_true E0ok f_i_Group_negate_Mt (noL_true) f_i_Group_negate_o (fun _ h => by cases h) (fun _ h => by cases h) (fun _ h => by cases h) (fun _ h => by cases h) (fun s => (f_i_Group_negate_e0 t10 t11 s).trans (f_i_Group_negate_p0 t10 t11 s _ _ (fun e => some (f_i_Group_negate_x0_2 t10 t11 e))))
def f_i_Group_negate_t0 (σ : List AV) : Option (Bool × Bool × (X × List AV) × (X × List AV)) := match dec f_i_Group_negate_h0 σ with
  | some [.i x1, .i sum5, .i unit6, .l t10, .i t11, .i t12] => some (isOne (loopL (f_i_Group_negate_r0 t10 t11) (x1, sum5, unit6, t12)), true, f_i_Group_negate_x0_1 t10 t11 (getOne 0 (loopL (f_i_Group_negate_r0 t10 t11) (x1, sum5, unit6, t12))), (.ret, []))
  | _ => none
theorem f_i_Group_negate_tt0 : TTrue Try.prog f_i_Group_negate_F Try.f41 0 (f_i_Group_negate_t0) := by
  intro σ p r r' h
  unfold f_i_Group_negate_t0 at h
  split at h
  · rename_i hd
    rw [← dec_enc hd]
    exact row1 (f_i_Group_negate_l0 _ _ _) h
  · cases h
theorem f_i_Group_negate_p {R : Type} (g0 : List Sc) (x1 : Int) (kR : Int → Option R) : f_i_Group_negate_k g0 x1 kR = (f_i_Group_negate_k g0 x1 some).bind kR := by
  simp only [f_i_Group_negate_k, bl1B, someB]
theorem f_i_Group_negate_e (g0 : List Sc) (x1 : Int) : runFn E0 f_i_Group_negate_M H0 f_i_Group_negate_F (asL (addL 0 (f_i_Group_negate_t0) (noL))) Try.f41 (f_i_Group_negate_a g0 x1) (f_i_Group_negate_i g0 x1) = f_i_Group_negate_k g0 x1 (fun r => some (f_i_Group_negate_en r)) := by kernel_rfl
theorem f_i_Group_negate_ok (g0 : List Sc) (x1 : Int) (r : Int) (h : f_i_Group_negate g0 x1 = some r) : CS Try.prog 41 (f_i_Group_negate_a g0 x1) (f_i_Group_negate_i g0 x1) (f_i_Group_negate_en r).1 (f_i_Group_negate_en r).2 :=
  fn_true (Gk := fun k => f_i_Group_negate_k g0 x1 k) (en := f_i_Group_negate_en) Try.func41 E0ok f_i_Group_negate_Mt (addL_true (f_i_Group_negate_tt0) (noL_true)) f_i_Group_negate_o (f_i_Group_negate_e g0 x1) (f_i_Group_negate_p g0 x1) h
def f_i_Group_negate_c : CRow := fun args inh => match dec2 [.p .gr, .p (.int .i64)] [] args inh with
  | some ([.l g0, .i x1], []) => some ((f_i_Group_negate g0 x1).isSome, (f_i_Group_negate_en ((f_i_Group_negate g0 x1).getD 0)).1, (f_i_Group_negate_en ((f_i_Group_negate g0 x1).getD 0)).2)
  | _ => none
theorem f_i_Group_negate_cc : CTrue Try.prog 41 f_i_Group_negate_c := by
  intro args inh rs out h
  unfold f_i_Group_negate_c at h
  split at h
  · rename_i hd
    obtain ⟨h1, h2⟩ := dec2_enc hd
    rw [← h1, ← h2]
    exact rowC (f_i_Group_negate_ok _ _) h
  · cases h

def f_i_copyInts_F : Fi := { nv := 0, nc := 0, m := 0, vt := [], kl := [], sk := [], mvs := [], fz := [] }
def f_i_copyInts_a (l0 : List Sc) : List AV := enc [.p .sl] [.l l0]
def f_i_copyInts_i (l0 : List Sc) : List AV := enc [] []
def f_i_copyInts_en (r : List Sc) : List AV × List AV := (enc [.p (.al 0)] [], enc [.own 3] [.l r])
def f_i_copyInts_M : Calling := noC
theorem f_i_copyInts_Mt : CallOk Try.prog (f_i_copyInts_M) := noC_true
theorem f_i_copyInts_o : loopsOnce Try.f43 = true := by kernel_rfl
theorem f_i_copyInts_p {R : Type} (l0 : List Sc) (kR : List Sc → Option R) : f_i_copyInts_k l0 kR = (f_i_copyInts_k l0 some).bind kR := by
  simp only [f_i_copyInts_k, brB, someB, noneB]
theorem f_i_copyInts_e (l0 : List Sc) : runFn E0 f_i_copyInts_M H0 f_i_copyInts_F (asL (noL)) Try.f43 (f_i_copyInts_a l0) (f_i_copyInts_i l0) = f_i_copyInts_k l0 (fun r => some (f_i_copyInts_en r)) := by kernel_rfl
theorem f_i_copyInts_ok (l0 : List Sc) (r : List Sc) (h : f_i_copyInts l0 = some r) : CS Try.prog 43 (f_i_copyInts_a l0) (f_i_copyInts_i l0) (f_i_copyInts_en r).1 (f_i_copyInts_en r).2 :=
  fn_true (Gk := fun k => f_i_copyInts_k l0 k) (en := f_i_copyInts_en) Try.func43 E0ok f_i_copyInts_Mt (noL_true) f_i_copyInts_o (f_i_copyInts_e l0) (f_i_copyInts_p l0) h
def f_i_copyInts_c : CRow := fun args inh => match dec2 [.p .sl] [] args inh with
  | some ([.l l0], []) => some ((f_i_copyInts l0).isSome, (f_i_copyInts_en ((f_i_copyInts l0).getD [])).1, (f_i_copyInts_en ((f_i_copyInts l0).getD [])).2)
  | _ => none
theorem f_i_copyInts_cc : CTrue Try.prog 43 f_i_copyInts_c := by
  intro args inh rs out h
  unfold f_i_copyInts_c at h
  split at h
  · rename_i hd
    obtain ⟨h1, h2⟩ := dec2_enc hd
    rw [← h1, ← h2]
    exact rowC (f_i_copyInts_ok _) h
  · cases h

def f_i_Group_has_F : Fi := { nv := 0, nc := 0, m := 0, vt := [], kl := [], sk := [], mvs := [], fz := [] }
def f_i_Group_has_a (g0 : List Sc) (x1 : Int) : List AV := enc [.p .gr, .p (.int .i64)] [.l g0, .i x1]
def f_i_Group_has_i (g0 : List Sc) (x1 : Int) : List AV := enc [] []
def f_i_Group_has_en (r : Bool) : List AV × List AV := (enc [.p .boo] [.b r], enc [] [])
def f_i_Group_has_M : Calling := addC 38 f_i_OrderOf_c (addC 63 f_i_within_c (noC))
theorem f_i_Group_has_Mt : CallOk Try.prog (f_i_Group_has_M) := addC_true f_i_OrderOf_cc (addC_true f_i_within_cc (noC_true))
theorem f_i_Group_has_o : loopsOnce Try.f91 = true := by kernel_rfl
theorem f_i_Group_has_p {R : Type} (g0 : List Sc) (x1 : Int) (kR : Bool → Option R) : f_i_Group_has_k g0 x1 kR = (f_i_Group_has_k g0 x1 some).bind kR := by
  simp only [f_i_Group_has_k, boB, someB]
theorem f_i_Group_has_e (g0 : List Sc) (x1 : Int) : runFn E0 f_i_Group_has_M H0 f_i_Group_has_F (asL (noL)) Try.f91 (f_i_Group_has_a g0 x1) (f_i_Group_has_i g0 x1) = f_i_Group_has_k g0 x1 (fun r => some (f_i_Group_has_en r)) := by kernel_rfl
theorem f_i_Group_has_ok (g0 : List Sc) (x1 : Int) (r : Bool) (h : f_i_Group_has g0 x1 = some r) : CS Try.prog 91 (f_i_Group_has_a g0 x1) (f_i_Group_has_i g0 x1) (f_i_Group_has_en r).1 (f_i_Group_has_en r).2 :=
  fn_true (Gk := fun k => f_i_Group_has_k g0 x1 k) (en := f_i_Group_has_en) Try.func91 E0ok f_i_Group_has_Mt (noL_true) f_i_Group_has_o (f_i_Group_has_e g0 x1) (f_i_Group_has_p g0 x1) h
def f_i_Group_has_c : CRow := fun args inh => match dec2 [.p .gr, .p (.int .i64)] [] args inh with
  | some ([.l g0, .i x1], []) => some ((f_i_Group_has g0 x1).isSome, (f_i_Group_has_en ((f_i_Group_has g0 x1).getD false)).1, (f_i_Group_has_en ((f_i_Group_has g0 x1).getD false)).2)
  | _ => none
theorem f_i_Group_has_cc : CTrue Try.prog 91 f_i_Group_has_c := by
  intro args inh rs out h
  unfold f_i_Group_has_c at h
  split at h
  · rename_i hd
    obtain ⟨h1, h2⟩ := dec2_enc hd
    rw [← h1, ← h2]
    exact rowC (f_i_Group_has_ok _ _) h
  · cases h

def f_cmp_isNaN_F : Fi := { nv := 0, nc := 0, m := 0, vt := [], kl := [], sk := [], mvs := [], fz := [] }
def f_cmp_isNaN_a (x0 : Int) : List AV := enc [.p (.int .i64)] [.i x0]
def f_cmp_isNaN_i (x0 : Int) : List AV := enc [] []
def f_cmp_isNaN_en (r : Bool) : List AV × List AV := (enc [.p .boo] [.b r], enc [] [])
def f_cmp_isNaN_M : Calling := noC
theorem f_cmp_isNaN_Mt : CallOk Try.prog (f_cmp_isNaN_M) := noC_true
theorem f_cmp_isNaN_o : loopsOnce Try.f89 = true := by kernel_rfl
theorem f_cmp_isNaN_p {R : Type} (x0 : Int) (kR : Bool → Option R) : f_cmp_isNaN_k x0 kR = (f_cmp_isNaN_k x0 some).bind kR := by
  simp only [f_cmp_isNaN_k, someB]
theorem f_cmp_isNaN_e (x0 : Int) : runFn E0 f_cmp_isNaN_M H0 f_cmp_isNaN_F (asL (noL)) Try.f89 (f_cmp_isNaN_a x0) (f_cmp_isNaN_i x0) = f_cmp_isNaN_k x0 (fun r => some (f_cmp_isNaN_en r)) := by kernel_rfl
theorem f_cmp_isNaN_ok (x0 : Int) (r : Bool) (h : f_cmp_isNaN x0 = some r) : CS Try.prog 89 (f_cmp_isNaN_a x0) (f_cmp_isNaN_i x0) (f_cmp_isNaN_en r).1 (f_cmp_isNaN_en r).2 :=
  fn_true (Gk := fun k => f_cmp_isNaN_k x0 k) (en := f_cmp_isNaN_en) Try.func89 E0ok f_cmp_isNaN_Mt (noL_true) f_cmp_isNaN_o (f_cmp_isNaN_e x0) (f_cmp_isNaN_p x0) h
def f_cmp_isNaN_c : CRow := fun args inh => match dec2 [.p (.int .i64)] [] args inh with
  | some ([.i x0], []) => some ((f_cmp_isNaN x0).isSome, (f_cmp_isNaN_en ((f_cmp_isNaN x0).getD false)).1, (f_cmp_isNaN_en ((f_cmp_isNaN x0).getD false)).2)
  | _ => none
theorem f_cmp_isNaN_cc : CTrue Try.prog 89 f_cmp_isNaN_c := by
  intro args inh rs out h
  unfold f_cmp_isNaN_c at h
  split at h
  · rename_i hd
    obtain ⟨h1, h2⟩ := dec2_enc hd
    rw [← h1, ← h2]
    exact rowC (f_cmp_isNaN_ok _) h
  · cases h

def f_cmp_Less_F : Fi := { nv := 0, nc := 0, m := 0, vt := [], kl := [], sk := [], mvs := [], fz := [] }
def f_cmp_Less_a (x0 : Int) (y1 : Int) : List AV := enc [.p (.int .i64), .p (.int .i64)] [.i x0, .i y1]
def f_cmp_Less_i (x0 : Int) (y1 : Int) : List AV := enc [] []
def f_cmp_Less_en (r : Bool) : List AV × List AV := (enc [.p .boo] [.b r], enc [] [])
def f_cmp_Less_M : Calling := addC 89 f_cmp_isNaN_c (noC)
theorem f_cmp_Less_Mt : CallOk Try.prog (f_cmp_Less_M) := addC_true f_cmp_isNaN_cc (noC_true)
theorem f_cmp_Less_o : loopsOnce Try.f99 = true := by kernel_rfl
theorem f_cmp_Less_p {R : Type} (x0 : Int) (y1 : Int) (kR : Bool → Option R) : f_cmp_Less_k x0 y1 kR = (f_cmp_Less_k x0 y1 some).bind kR := by
  simp only [f_cmp_Less_k, brB, boB, someB]
theorem f_cmp_Less_e (x0 : Int) (y1 : Int) : runFn E0 f_cmp_Less_M H0 f_cmp_Less_F (asL (noL)) Try.f99 (f_cmp_Less_a x0 y1) (f_cmp_Less_i x0 y1) = f_cmp_Less_k x0 y1 (fun r => some (f_cmp_Less_en r)) := by kernel_rfl
theorem f_cmp_Less_ok (x0 : Int) (y1 : Int) (r : Bool) (h : f_cmp_Less x0 y1 = some r) : CS Try.prog 99 (f_cmp_Less_a x0 y1) (f_cmp_Less_i x0 y1) (f_cmp_Less_en r).1 (f_cmp_Less_en r).2 :=
  fn_true (Gk := fun k => f_cmp_Less_k x0 y1 k) (en := f_cmp_Less_en) Try.func99 E0ok f_cmp_Less_Mt (noL_true) f_cmp_Less_o (f_cmp_Less_e x0 y1) (f_cmp_Less_p x0 y1) h
def f_cmp_Less_c : CRow := fun args inh => match dec2 [.p (.int .i64), .p (.int .i64)] [] args inh with
  | some ([.i x0, .i y1], []) => some ((f_cmp_Less x0 y1).isSome, (f_cmp_Less_en ((f_cmp_Less x0 y1).getD false)).1, (f_cmp_Less_en ((f_cmp_Less x0 y1).getD false)).2)
  | _ => none
theorem f_cmp_Less_cc : CTrue Try.prog 99 f_cmp_Less_c := by
  intro args inh rs out h
  unfold f_cmp_Less_c at h
  split at h
  · rename_i hd
    obtain ⟨h1, h2⟩ := dec2_enc hd
    rw [← h1, ← h2]
    exact rowC (f_cmp_Less_ok _ _) h
  · cases h

def f_slices_IsSorted_F : Fi := { nv := 0, nc := 0, m := 0, vt := [], kl := [(0, ([1, 2, 4, 5, 6, 7, 8, 9, 10, 11, 12, 13, 14, 15, 16, 17, 18, 19, 20], [0, 1, 2, 3, 4, 5, 6, 7, 8, 9, 10, 11, 12, 13, 14, 15, 16, 17, 18, 19, 20], [0, 1, 3, 4, 5, 6, 7, 8, 9, 10, 11, 12, 13, 14, 15, 16, 17, 18, 19, 20]))], sk := [], mvs := [], fz := [] }
def f_slices_IsSorted_a (x0 : List Sc) : List AV := enc [.p .sl] [.l x0]
def f_slices_IsSorted_i (x0 : List Sc) : List AV := enc [] []
def f_slices_IsSorted_en (r : Bool) : List AV × List AV := (enc [.p .boo] [.b r], enc [] [])
def f_slices_IsSorted_M : Calling := addC 99 f_cmp_Less_c (noC)
theorem f_slices_IsSorted_Mt : CallOk Try.prog (f_slices_IsSorted_M) := addC_true f_cmp_Less_cc (noC_true)
theorem f_slices_IsSorted_o : loopsOnce Try.f92 = true := by kernel_rfl
def f_slices_IsSorted_h0 : List Sh := [.p .sl, .u, .u, .p (.int .i64), .u, .u, .u, .u, .u, .u, .u, .u, .u, .u, .u, .u, .u, .u, .u, .u, .u]
def f_slices_IsSorted_fr0 (x0 : List Sc) (s : Int) : List AV := enc f_slices_IsSorted_h0 [.l x0, .i s]
def f_slices_IsSorted_g0_1 : List Sh := [.u, .u, .u, .u, .u, .u, .u, .u, .u, .u, .u, .u, .u, .u, .u, .u, .u, .u, .u, .u, .u]
def f_slices_IsSorted_x0_1 (x0 : List Sc) (e : Unit) : X × List AV := (.out 0, enc f_slices_IsSorted_g0_1 [])
def f_slices_IsSorted_g0_2 : List Sh := [.u, .u, .p .boo, .u, .u, .u, .u, .u, .u, .u, .u, .u, .u, .u, .u, .u, .u, .u, .u, .u, .u]
def f_slices_IsSorted_x0_2 (x0 : List Sc) (e : Unit) : X × List AV := (.ret, enc f_slices_IsSorted_g0_2 [.b false])
theorem f_slices_IsSorted_p0 {R : Type} (x0 : List Sc) (s : Int) (kN : Int → Option R) (kA : Unit → Option R) (kB : Unit → Option R) : f_slices_IsSorted_k0 x0 s kN kA kB = (f_slices_IsSorted_r0 x0 s).bind (Ro.el kN kA kB) := by
  simp only [f_slices_IsSorted_k0, f_slices_IsSorted_r0, brB, boB, someB, noneB, Ro.el]
theorem f_slices_IsSorted_e0 (x0 : List Sc) (s : Int) : EC E0 f_slices_IsSorted_M H0 f_slices_IsSorted_F (asL (noL)) 0 (bodyOf Try.f92 0) (f_slices_IsSorted_fr0 x0 s) (done (klOf f_slices_IsSorted_F 0)) = f_slices_IsSorted_k0 x0 s (fun s => some (.norm, f_slices_IsSorted_fr0 x0 s)) (fun e => some (f_slices_IsSorted_x0_1 x0 e)) (fun e => some (f_slices_IsSorted_x0_2 x0 e)) := by kernel_rfl
theorem f_slices_IsSorted_l0 (x0 : List Sc) : ∀ s r, loopL (f_slices_IsSorted_r0 x0) s = some r → LS Try.prog f_slices_IsSorted_F (bodyOf Try.f92 0) (f_slices_IsSorted_fr0 x0 s) (enX (f_slices_IsSorted_x0_1 x0) (f_slices_IsSorted_x0_2 x0) r) :=
  loop_true E0ok f_slices_IsSorted_Mt (noL_true) f_slices_IsSorted_o (fun _ h => by cases h) (fun _ h => by cases h) (fun _ h => by cases h) (fun _ h => by cases h) (fun s => (f_slices_IsSorted_e0 x0 s).trans (f_slices_IsSorted_p0 x0 s _ _ (fun e => some (f_slices_IsSorted_x0_2 x0 e))))
def f_slices_IsSorted_t0 (σ : List AV) : Option (Bool × Bool × (X × List AV) × (X × List AV)) := match dec f_slices_IsSorted_h0 σ with
  | some [.l x0, .i i3] => some ((loopL (f_slices_IsSorted_r0 x0) i3).isSome, isOne (loopL (f_slices_IsSorted_r0 x0) i3), f_slices_IsSorted_x0_1 x0 (getOne () (loopL (f_slices_IsSorted_r0 x0) i3)), f_slices_IsSorted_x0_2 x0 (getTwo () (loopL (f_slices_IsSorted_r0 x0) i3)))
  | _ => none
theorem f_slices_IsSorted_tt0 : TTrue Try.prog f_slices_IsSorted_F Try.f92 0 (f_slices_IsSorted_t0) := by
  intro σ p r r' h
  unfold f_slices_IsSorted_t0 at h
  split at h
  · rename_i hd
    rw [← dec_enc hd]
    exact row2 (f_slices_IsSorted_l0 _ _) h
  · cases h
theorem f_slices_IsSorted_p {R : Type} (x0 : List Sc) (kR : Bool → Option R) : f_slices_IsSorted_k x0 kR = (f_slices_IsSorted_k x0 some).bind kR := by
  simp only [f_slices_IsSorted_k, blB, someB]
theorem f_slices_IsSorted_e (x0 : List Sc) : runFn E0 f_slices_IsSorted_M H0 f_slices_IsSorted_F (asL (addL 0 (f_slices_IsSorted_t0) (noL))) Try.f92 (f_slices_IsSorted_a x0) (f_slices_IsSorted_i x0) = f_slices_IsSorted_k x0 (fun r => some (f_slices_IsSorted_en r)) := by kernel_rfl
theorem f_slices_IsSorted_ok (x0 : List Sc) (r : Bool) (h : f_slices_IsSorted x0 = some r) : CS Try.prog 92 (f_slices_IsSorted_a x0) (f_slices_IsSorted_i x0) (f_slices_IsSorted_en r).1 (f_slices_IsSorted_en r).2 :=
  fn_true (Gk := fun k => f_slices_IsSorted_k x0 k) (en := f_slices_IsSorted_en) Try.func92 E0ok f_slices_IsSorted_Mt (addL_true (f_slices_IsSorted_tt0) (noL_true)) f_slices_IsSorted_o (f_slices_IsSorted_e x0) (f_slices_IsSorted_p x0) h
def f_slices_IsSorted_c : CRow := fun args inh => match dec2 [.p .sl] [] args inh with
  | some ([.l x0], []) => some ((f_slices_IsSorted x0).isSome, (f_slices_IsSorted_en ((f_slices_IsSorted x0).getD false)).1, (f_slices_IsSorted_en ((f_slices_IsSorted x0).getD false)).2)
  | _ => none
theorem f_slices_IsSorted_cc : CTrue Try.prog 92 f_slices_IsSorted_c := by
  intro args inh rs out h
  unfold f_slices_IsSorted_c at h
  split at h
  · rename_i hd
    obtain ⟨h1, h2⟩ := dec2_enc hd
    rw [← h1, ← h2]
    exact rowC (f_slices_IsSorted_ok _) h
  · cases h

def f_i_IsSequence_F : Fi := { nv := 0, nc := 0, m := 0, vt := [], kl := [(0, ([0, 3, 4, 5, 6, 10, 11, 12, 13, 14, 15, 16, 17, 18, 19, 20, 21, 22, 23, 24, 25, 26, 27, 28], [0, 3, 4, 5, 6, 7, 8, 9, 10, 11, 12, 13, 14, 15, 16, 17, 18, 19, 20, 21, 22, 23, 24, 25, 26, 27, 28], [0, 1, 2, 3, 5, 6, 7, 8, 9, 10, 11, 12, 13, 14, 15, 16, 17, 18, 19, 20, 21, 22, 23, 24, 25, 26, 27, 28]))], sk := [], mvs := [], fz := [] }
def f_i_IsSequence_a (g0 : List Sc) (l1 : List Sc) : List AV := enc [.p .gr, .p .sl] [.l g0, .l l1]
def f_i_IsSequence_i (g0 : List Sc) (l1 : List Sc) : List AV := enc [] []
def f_i_IsSequence_en (r : Bool) : List AV × List AV := (enc [.p .boo] [.b r], enc [] [])
def f_i_IsSequence_M : Calling := addC 91 f_i_Group_has_c (addC 37 f_i_IsGroup_c (addC 92 f_slices_IsSorted_c (noC)))
theorem f_i_IsSequence_Mt : CallOk Try.prog (f_i_IsSequence_M) := addC_true f_i_Group_has_cc (addC_true f_i_IsGroup_cc (addC_true f_slices_IsSorted_cc (noC_true)))
theorem f_i_IsSequence_o : loopsOnce Try.f73 = true := by kernel_rfl
def f_i_IsSequence_h0 : List Sh := [.u, .p .sl, .p .el, .u, .u, .u, .u, .p .sl, .p (.int .i64), .p (.int .i64), .u, .u, .u, .u, .u, .u, .u, .u, .u, .u, .u, .u, .u, .u, .u, .u, .u, .u, .u]
def f_i_IsSequence_fr0 (l1 : List Sc) (g2 : List Sc) (t7 : List Sc) (t8 : Int) (s : Int) : List AV := enc f_i_IsSequence_h0 [.l l1, .l g2, .l t7, .i t8, .i s]
def f_i_IsSequence_g0_1 : List Sh := [.u, .p .sl, .p .el, .u, .u, .u, .u, .u, .u, .u, .u, .u, .u, .u, .u, .u, .u, .u, .u, .u, .u, .u, .u, .u, .u, .u, .u, .u, .u]
def f_i_IsSequence_x0_1 (l1 : List Sc) (g2 : List Sc) (t7 : List Sc) (t8 : Int) (e : Unit) : X × List AV := (.out 0, enc f_i_IsSequence_g0_1 [.l l1, .l g2])
def f_i_IsSequence_g0_2 : List Sh := [.u, .u, .u, .u, .p .boo, .u, .u, .u, .u, .u, .u, .u, .u, .u, .u, .u, .u, .u, .u, .u, .u, .u, .u, .u, .u, .u, .u, .u, .u]
def f_i_IsSequence_x0_2 (l1 : List Sc) (g2 : List Sc) (t7 : List Sc) (t8 : Int) (e : Unit) : X × List AV := (.ret, enc f_i_IsSequence_g0_2 [.b false])
theorem f_i_IsSequence_p0 {R : Type} (l1 : List Sc) (g2 : List Sc) (t7 : List Sc) (t8 : Int) (s : Int) (kN : Int → Option R) (kA : Unit → Option R) (kB : Unit → Option R) : f_i_IsSequence_k0 l1 g2 t7 t8 s kN kA kB = (f_i_IsSequence_r0 l1 g2 t7 t8 s).bind (Ro.el kN kA kB) := by
  simp only [f_i_IsSequence_k0, f_i_IsSequence_r0, brB, boB, someB, noneB, Ro.el]
theorem f_i_IsSequence_e0 (l1 : List Sc) (g2 : List Sc) (t7 : List Sc) (t8 : Int) (s : Int) : EC E0 f_i_IsSequence_M H0 f_i_IsSequence_F (asL (noL)) 0 (bodyOf Try.f73 0) (f_i_IsSequence_fr0 l1 g2 t7 t8 s) (done (klOf f_i_IsSequence_F 0)) = f_i_IsSequence_k0 l1 g2 t7 t8 s (fun s => some (.norm, f_i_IsSequence_fr0 l1 g2 t7 t8 s)) (fun e => some (f_i_IsSequence_x0_1 l1 g2 t7 t8 e)) (fun e => some (f_i_IsSequence_x0_2 l1 g2 t7 t8 e)) := by kernel_rfl
theorem f_i_IsSequence_l0 (l1 : List Sc) (g2 : List Sc) (t7 : List Sc) (t8 : Int) : ∀ s r, loopL (f_i_IsSequence_r0 l1 g2 t7 t8) s = some r → LS Try.prog f_i_IsSequence_F (bodyOf Try.f73 0) (f_i_IsSequence_fr0 l1 g2 t7 t8 s) (enX (f_i_IsSequence_x0_1 l1 g2 t7 t8) (f_i_IsSequence_x0_2 l1 g2 t7 t8) r) :=
  loop_true E0ok f_i_IsSequence_Mt (noL_true) f_i_IsSequence_o (fun _ h => by cases h) (fun _ h => by cases h) (fun _ h => by cases h) (fun _ h => by cases h) (fun s => (f_i_IsSequence_e0 l1 g2 t7 t8 s).trans (f_i_IsSequence_p0 l1 g2 t7 t8 s _ _ (fun e => some (f_i_IsSequence_x0_2 l1 g2 t7 t8 e))))
def f_i_IsSequence_t0 (σ : List AV) : Option (Bool × Bool × (X × List AV) × (X × List AV)) := match dec f_i_IsSequence_h0 σ with
  | some [.l l1, .l g2, .l t7, .i t8, .i t9] => some ((loopL (f_i_IsSequence_r0 l1 g2 t7 t8) t9).isSome, isOne (loopL (f_i_IsSequence_r0 l1 g2 t7 t8) t9), f_i_IsSequence_x0_1 l1 g2 t7 t8 (getOne () (loopL (f_i_IsSequence_r0 l1 g2 t7 t8) t9)), f_i_IsSequence_x0_2 l1 g2 t7 t8 (getTwo () (loopL (f_i_IsSequence_r0 l1 g2 t7 t8) t9)))
  | _ => none
theorem f_i_IsSequence_tt0 : TTrue Try.prog f_i_IsSequence_F Try.f73 0 (f_i_IsSequence_t0) := by
  intro σ p r r' h
  unfold f_i_IsSequence_t0 at h
  split at h
  · rename_i hd
    rw [← dec_enc hd]
    exact row2 (f_i_IsSequence_l0 _ _ _ _ _) h
  · cases h
theorem f_i_IsSequence_p {R : Type} (g0 : List Sc) (l1 : List Sc) (kR : Bool → Option R) : f_i_IsSequence_k g0 l1 kR = (f_i_IsSequence_k g0 l1 some).bind kR := by
  simp only [f_i_IsSequence_k, brB, boB, blB, someB]
theorem f_i_IsSequence_e (g0 : List Sc) (l1 : List Sc) : runFn E0 f_i_IsSequence_M H0 f_i_IsSequence_F (asL (addL 0 (f_i_IsSequence_t0) (noL))) Try.f73 (f_i_IsSequence_a g0 l1) (f_i_IsSequence_i g0 l1) = f_i_IsSequence_k g0 l1 (fun r => some (f_i_IsSequence_en r)) := by kernel_rfl
theorem f_i_IsSequence_ok (g0 : List Sc) (l1 : List Sc) (r : Bool) (h : f_i_IsSequence g0 l1 = some r) : CS Try.prog 73 (f_i_IsSequence_a g0 l1) (f_i_IsSequence_i g0 l1) (f_i_IsSequence_en r).1 (f_i_IsSequence_en r).2 :=
  fn_true (Gk := fun k => f_i_IsSequence_k g0 l1 k) (en := f_i_IsSequence_en) Try.func73 E0ok f_i_IsSequence_Mt (addL_true (f_i_IsSequence_tt0) (noL_true)) f_i_IsSequence_o (f_i_IsSequence_e g0 l1) (f_i_IsSequence_p g0 l1) h
def f_i_IsSequence_c : CRow := fun args inh => match dec2 [.p .gr, .p .sl] [] args inh with
  | some ([.l g0, .l l1], []) => some ((f_i_IsSequence g0 l1).isSome, (f_i_IsSequence_en ((f_i_IsSequence g0 l1).getD false)).1, (f_i_IsSequence_en ((f_i_IsSequence g0 l1).getD false)).2)
  | _ => none
theorem f_i_IsSequence_cc : CTrue Try.prog 73 f_i_IsSequence_c := by
  intro args inh rs out h
  unfold f_i_IsSequence_c at h
  split at h
  · rename_i hd
    obtain ⟨h1, h2⟩ := dec2_enc hd
    rw [← h1, ← h2]
    exact rowC (f_i_IsSequence_ok _ _) h
  · cases h

def f_i_IsZeroSum_F : Fi := { nv := 0, nc := 0, m := 0, vt := [], kl := [], sk := [], mvs := [], fz := [] }
def f_i_IsZeroSum_a (g0 : List Sc) (l1 : List Sc) : List AV := enc [.p .gr, .p .sl] [.l g0, .l l1]
def f_i_IsZeroSum_i (g0 : List Sc) (l1 : List Sc) : List AV := enc [] []
def f_i_IsZeroSum_en (r : Bool) : List AV × List AV := (enc [.p .boo] [.b r], enc [] [])
def f_i_IsZeroSum_M : Calling := addC 73 f_i_IsSequence_c (addC 42 f_i_Group_total_c (noC))
theorem f_i_IsZeroSum_Mt : CallOk Try.prog (f_i_IsZeroSum_M) := addC_true f_i_IsSequence_cc (addC_true f_i_Group_total_cc (noC_true))
theorem f_i_IsZeroSum_o : loopsOnce Try.f50 = true := by kernel_rfl
theorem f_i_IsZeroSum_p {R : Type} (g0 : List Sc) (l1 : List Sc) (kR : Bool → Option R) : f_i_IsZeroSum_k g0 l1 kR = (f_i_IsZeroSum_k g0 l1 some).bind kR := by
  simp only [f_i_IsZeroSum_k, brB, boB, someB]
theorem f_i_IsZeroSum_e (g0 : List Sc) (l1 : List Sc) : runFn E0 f_i_IsZeroSum_M H0 f_i_IsZeroSum_F (asL (noL)) Try.f50 (f_i_IsZeroSum_a g0 l1) (f_i_IsZeroSum_i g0 l1) = f_i_IsZeroSum_k g0 l1 (fun r => some (f_i_IsZeroSum_en r)) := by kernel_rfl
theorem f_i_IsZeroSum_ok (g0 : List Sc) (l1 : List Sc) (r : Bool) (h : f_i_IsZeroSum g0 l1 = some r) : CS Try.prog 50 (f_i_IsZeroSum_a g0 l1) (f_i_IsZeroSum_i g0 l1) (f_i_IsZeroSum_en r).1 (f_i_IsZeroSum_en r).2 :=
  fn_true (Gk := fun k => f_i_IsZeroSum_k g0 l1 k) (en := f_i_IsZeroSum_en) Try.func50 E0ok f_i_IsZeroSum_Mt (noL_true) f_i_IsZeroSum_o (f_i_IsZeroSum_e g0 l1) (f_i_IsZeroSum_p g0 l1) h
def f_i_IsZeroSum_c : CRow := fun args inh => match dec2 [.p .gr, .p .sl] [] args inh with
  | some ([.l g0, .l l1], []) => some ((f_i_IsZeroSum g0 l1).isSome, (f_i_IsZeroSum_en ((f_i_IsZeroSum g0 l1).getD false)).1, (f_i_IsZeroSum_en ((f_i_IsZeroSum g0 l1).getD false)).2)
  | _ => none
theorem f_i_IsZeroSum_cc : CTrue Try.prog 50 f_i_IsZeroSum_c := by
  intro args inh rs out h
  unfold f_i_IsZeroSum_c at h
  split at h
  · rename_i hd
    obtain ⟨h1, h2⟩ := dec2_enc hd
    rw [← h1, ← h2]
    exact rowC (f_i_IsZeroSum_ok _ _) h
  · cases h

def f_i_in_F : Fi := { nv := 0, nc := 0, m := 0, vt := [], kl := [], sk := [], mvs := [], fz := [] }
def f_i_in_a (a0 : Int) (x1 : Int) : List AV := enc [.p (.int .i64), .p (.int .i64)] [.i a0, .i x1]
def f_i_in_i (a0 : Int) (x1 : Int) : List AV := enc [] []
def f_i_in_en (r : Bool) : List AV × List AV := (enc [.p .boo] [.b r], enc [] [])
def f_i_in_M : Calling := noC
theorem f_i_in_Mt : CallOk Try.prog (f_i_in_M) := noC_true
theorem f_i_in_o : loopsOnce Try.f65 = true := by kernel_rfl
theorem f_i_in_p {R : Type} (a0 : Int) (x1 : Int) (kR : Bool → Option R) : f_i_in_k a0 x1 kR = (f_i_in_k a0 x1 some).bind kR := by
  simp only [f_i_in_k, brB, someB, noneB]
theorem f_i_in_e (a0 : Int) (x1 : Int) : runFn E0 f_i_in_M H0 f_i_in_F (asL (noL)) Try.f65 (f_i_in_a a0 x1) (f_i_in_i a0 x1) = f_i_in_k a0 x1 (fun r => some (f_i_in_en r)) := by kernel_rfl
theorem f_i_in_ok (a0 : Int) (x1 : Int) (r : Bool) (h : f_i_in a0 x1 = some r) : CS Try.prog 65 (f_i_in_a a0 x1) (f_i_in_i a0 x1) (f_i_in_en r).1 (f_i_in_en r).2 :=
  fn_true (Gk := fun k => f_i_in_k a0 x1 k) (en := f_i_in_en) Try.func65 E0ok f_i_in_Mt (noL_true) f_i_in_o (f_i_in_e a0 x1) (f_i_in_p a0 x1) h
def f_i_in_c : CRow := fun args inh => match dec2 [.p (.int .i64), .p (.int .i64)] [] args inh with
  | some ([.i a0, .i x1], []) => some ((f_i_in a0 x1).isSome, (f_i_in_en ((f_i_in a0 x1).getD false)).1, (f_i_in_en ((f_i_in a0 x1).getD false)).2)
  | _ => none
theorem f_i_in_cc : CTrue Try.prog 65 f_i_in_c := by
  intro args inh rs out h
  unfold f_i_in_c at h
  split at h
  · rename_i hd
    obtain ⟨h1, h2⟩ := dec2_enc hd
    rw [← h1, ← h2]
    exact rowC (f_i_in_ok _ _) h
  · cases h

def f_i_part_F : Fi := { nv := 0, nc := 0, m := 0, vt := [], kl := [(0, ([0, 2, 3, 4, 6, 7, 8, 12, 13, 14, 15, 16, 17, 18, 19, 20, 21, 22, 23, 24], [0, 1, 2, 3, 4, 6, 7, 8, 9, 10, 11, 12, 13, 14, 15, 16, 17, 18, 19, 20, 21, 22, 23, 24], [0, 1, 2, 3, 5, 6, 7, 8, 9, 10, 11, 12, 13, 14, 15, 16, 17, 18, 19, 20, 21, 22, 23, 24]))], sk := [], mvs := [], fz := [] }
def f_i_part_a (l0 : List Sc) (mask1 : Int) : List AV := enc [.p .sl, .p (.int .i64)] [.l l0, .i mask1]
def f_i_part_i (l0 : List Sc) (mask1 : Int) : List AV := enc [] []
def f_i_part_en (r : List Sc) : List AV × List AV := (enc [.p (.al 0)] [], enc [.own 3] [.l r])
def f_i_part_M : Calling := addC 65 f_i_in_c (noC)
theorem f_i_part_Mt : CallOk Try.prog (f_i_part_M) := addC_true f_i_in_cc (noC_true)
theorem f_i_part_o : loopsOnce Try.f67 = true := by kernel_rfl
def f_i_part_h0 : List Sh := [.u, .p (.int .i64), .u, .u, .u, .own 3, .u, .u, .u, .p .sl, .p (.int .i64), .p (.int .i64), .u, .u, .u, .u, .u, .u, .u, .u, .u, .u, .u, .u, .u]
def f_i_part_fr0 (mask1 : Int) (t9 : List Sc) (t10 : Int) (s : List Sc × Int) : List AV := enc f_i_part_h0 [.i mask1, .l s.1, .l t9, .i t10, .i s.2]
def f_i_part_g0_1 : List Sh := [.u, .u, .u, .u, .u, .own 3, .u, .u, .u, .u, .u, .u, .u, .u, .u, .u, .u, .u, .u, .u, .u, .u, .u, .u, .u]
def f_i_part_x0_1 (mask1 : Int) (t9 : List Sc) (t10 : Int) (e : List Sc) : X × List AV := (.out 0, enc f_i_part_g0_1 [.l e])
def f_i_part_x0_2 (mask1 : Int) (t9 : List Sc) (t10 : Int) (_e : Unit) : X × List AV := (.ret, [])
theorem f_i_part_p0 {R : Type} (mask1 : Int) (t9 : List Sc) (t10 : Int) (s : List Sc × Int) (kN : List Sc × Int → Option R) (kA : List Sc → Option R) (kB : Unit → Option R) : f_i_part_k0 mask1 t9 t10 s.1 s.2 kN kA = (f_i_part_r0 mask1 t9 t10 s).bind (Ro.el kN kA kB) := by
  simp only [f_i_part_k0, f_i_part_r0, brB, boB, someB, noneB, Ro.el]
theorem f_i_part_e0 (mask1 : Int) (t9 : List Sc) (t10 : Int) (s : List Sc × Int) : EC E0 f_i_part_M H0 f_i_part_F (asL (noL)) 0 (bodyOf Try.f67 0) (f_i_part_fr0 mask1 t9 t10 s) (done (klOf f_i_part_F 0)) = f_i_part_k0 mask1 t9 t10 s.1 s.2 (fun s => some (.norm, f_i_part_fr0 mask1 t9 t10 s)) (fun e => some (f_i_part_x0_1 mask1 t9 t10 e)) := by kernel_rfl
theorem f_i_part_l0 (mask1 : Int) (t9 : List Sc) (t10 : Int) : ∀ s r, loopL (f_i_part_r0 mask1 t9 t10) s = some r → LS Try.prog f_i_part_F (bodyOf Try.f67 0) (f_i_part_fr0 mask1 t9 t10 s) (enX (f_i_part_x0_1 mask1 t9 t10) (f_i_part_x0_2 mask1 t9 t10) r) :=
  loop_true E0ok f_i_part_Mt (noL_true) f_i_part_o (fun _ h => by cases h) (fun _ h => by cases h) (fun _ h => by cases h) (fun _ h => by cases h) (fun s => (f_i_part_e0 mask1 t9 t10 s).trans (f_i_part_p0 mask1 t9 t10 s _ _ (fun e => some (f_i_part_x0_2 mask1 t9 t10 e))))
def f_i_part_t0 (σ : List AV) : Option (Bool × Bool × (X × List AV) × (X × List AV)) := match dec f_i_part_h0 σ with
  | some [.i mask1, .l out5, .l t9, .i t10, .i t11] => some (isOne (loopL (f_i_part_r0 mask1 t9 t10) (out5, t11)), true, f_i_part_x0_1 mask1 t9 t10 (getOne [] (loopL (f_i_part_r0 mask1 t9 t10) (out5, t11))), (.ret, []))
  | _ => none
theorem f_i_part_tt0 : TTrue Try.prog f_i_part_F Try.f67 0 (f_i_part_t0) := by
  intro σ p r r' h
  unfold f_i_part_t0 at h
  split at h
  · rename_i hd
    rw [← dec_enc hd]
    exact row1 (f_i_part_l0 _ _ _ _) h
  · cases h
theorem f_i_part_p {R : Type} (l0 : List Sc) (mask1 : Int) (kR : List Sc → Option R) : f_i_part_k l0 mask1 kR = (f_i_part_k l0 mask1 some).bind kR := by
  simp only [f_i_part_k, bl1B, someB]
theorem f_i_part_e (l0 : List Sc) (mask1 : Int) : runFn E0 f_i_part_M H0 f_i_part_F (asL (addL 0 (f_i_part_t0) (noL))) Try.f67 (f_i_part_a l0 mask1) (f_i_part_i l0 mask1) = f_i_part_k l0 mask1 (fun r => some (f_i_part_en r)) := by kernel_rfl
theorem f_i_part_ok (l0 : List Sc) (mask1 : Int) (r : List Sc) (h : f_i_part l0 mask1 = some r) : CS Try.prog 67 (f_i_part_a l0 mask1) (f_i_part_i l0 mask1) (f_i_part_en r).1 (f_i_part_en r).2 :=
  fn_true (Gk := fun k => f_i_part_k l0 mask1 k) (en := f_i_part_en) Try.func67 E0ok f_i_part_Mt (addL_true (f_i_part_tt0) (noL_true)) f_i_part_o (f_i_part_e l0 mask1) (f_i_part_p l0 mask1) h
def f_i_part_c : CRow := fun args inh => match dec2 [.p .sl, .p (.int .i64)] [] args inh with
  | some ([.l l0, .i mask1], []) => some ((f_i_part l0 mask1).isSome, (f_i_part_en ((f_i_part l0 mask1).getD [])).1, (f_i_part_en ((f_i_part l0 mask1).getD [])).2)
  | _ => none
theorem f_i_part_cc : CTrue Try.prog 67 f_i_part_c := by
  intro args inh rs out h
  unfold f_i_part_c at h
  split at h
  · rename_i hd
    obtain ⟨h1, h2⟩ := dec2_enc hd
    rw [← h1, ← h2]
    exact rowC (f_i_part_ok _ _) h
  · cases h

def f_i_IsAtom_F : Fi := { nv := 0, nc := 0, m := 0, vt := [], kl := [(0, ([0, 3, 4, 6, 7, 8, 9, 10, 11, 12, 13, 14, 15, 16, 17, 18, 19, 20, 21, 22, 23, 24, 25, 26, 27, 28], [0, 1, 2, 3, 4, 5, 6, 7, 8, 9, 10, 11, 12, 13, 14, 15, 16, 17, 18, 19, 20, 21, 22, 23, 24, 25, 26, 27, 28], [0, 1, 2, 3, 5, 6, 7, 8, 9, 10, 11, 12, 13, 14, 15, 16, 17, 18, 19, 20, 21, 22, 23, 24, 25, 26, 27, 28]))], sk := [], mvs := [], fz := [] }
def f_i_IsAtom_a (g0 : List Sc) (l1 : List Sc) : List AV := enc [.p .gr, .p .sl] [.l g0, .l l1]
def f_i_IsAtom_i (g0 : List Sc) (l1 : List Sc) : List AV := enc [] []
def f_i_IsAtom_en (r : Bool) : List AV × List AV := (enc [.p .boo] [.b r], enc [] [])
def f_i_IsAtom_M : Calling := addC 50 f_i_IsZeroSum_c (addC 67 f_i_part_c (addC 42 f_i_Group_total_c (noC)))
theorem f_i_IsAtom_Mt : CallOk Try.prog (f_i_IsAtom_M) := addC_true f_i_IsZeroSum_cc (addC_true f_i_part_cc (addC_true f_i_Group_total_cc (noC_true)))
theorem f_i_IsAtom_o : loopsOnce Try.f44 = true := by kernel_rfl
def f_i_IsAtom_h0 : List Sh := [.u, .p .sl, .p .el, .u, .u, .p (.int .i64), .u, .u, .u, .u, .u, .u, .u, .u, .u, .u, .u, .u, .u, .u, .u, .u, .u, .u, .u, .u, .u, .u, .u]
def f_i_IsAtom_fr0 (l1 : List Sc) (g2 : List Sc) (s : Int) : List AV := enc f_i_IsAtom_h0 [.l l1, .l g2, .i s]
def f_i_IsAtom_g0_1 : List Sh := [.u, .u, .u, .u, .u, .u, .u, .u, .u, .u, .u, .u, .u, .u, .u, .u, .u, .u, .u, .u, .u, .u, .u, .u, .u, .u, .u, .u, .u]
def f_i_IsAtom_x0_1 (l1 : List Sc) (g2 : List Sc) (e : Unit) : X × List AV := (.out 0, enc f_i_IsAtom_g0_1 [])
def f_i_IsAtom_g0_2 : List Sh := [.u, .u, .u, .u, .p .boo, .u, .u, .u, .u, .u, .u, .u, .u, .u, .u, .u, .u, .u, .u, .u, .u, .u, .u, .u, .u, .u, .u, .u, .u]
def f_i_IsAtom_x0_2 (l1 : List Sc) (g2 : List Sc) (e : Unit) : X × List AV := (.ret, enc f_i_IsAtom_g0_2 [.b false])
theorem f_i_IsAtom_p0 {R : Type} (l1 : List Sc) (g2 : List Sc) (s : Int) (kN : Int → Option R) (kA : Unit → Option R) (kB : Unit → Option R) : f_i_IsAtom_k0 l1 g2 s kN kA kB = (f_i_IsAtom_r0 l1 g2 s).bind (Ro.el kN kA kB) := by
  simp only [f_i_IsAtom_k0, f_i_IsAtom_r0, brB, boB, someB, noneB, Ro.el]
theorem f_i_IsAtom_e0 (l1 : List Sc) (g2 : List Sc) (s : Int) : EC E0 f_i_IsAtom_M H0 f_i_IsAtom_F (asL (noL)) 0 (bodyOf Try.f44 0) (f_i_IsAtom_fr0 l1 g2 s) (done (klOf f_i_IsAtom_F 0)) = f_i_IsAtom_k0 l1 g2 s (fun s => some (.norm, f_i_IsAtom_fr0 l1 g2 s)) (fun e => some (f_i_IsAtom_x0_1 l1 g2 e)) (fun e => some (f_i_IsAtom_x0_2 l1 g2 e)) := by kernel_rfl
theorem f_i_IsAtom_l0 (l1 : List Sc) (g2 : List Sc) : ∀ s r, loopL (f_i_IsAtom_r0 l1 g2) s = some r → LS Try.prog f_i_IsAtom_F (bodyOf Try.f44 0) (f_i_IsAtom_fr0 l1 g2 s) (enX (f_i_IsAtom_x0_1 l1 g2) (f_i_IsAtom_x0_2 l1 g2) r) :=
  loop_true E0ok f_i_IsAtom_Mt (noL_true) f_i_IsAtom_o (fun _ h => by cases h) (fun _ h => by cases h) (fun _ h => by cases h) (fun _ h => by cases h) (fun s => (f_i_IsAtom_e0 l1 g2 s).trans (f_i_IsAtom_p0 l1 g2 s _ _ (fun e => some (f_i_IsAtom_x0_2 l1 g2 e))))
def f_i_IsAtom_t0 (σ : List AV) : Option (Bool × Bool × (X × List AV) × (X × List AV)) := match dec f_i_IsAtom_h0 σ with
  | some [.l l1, .l g2, .i mask5] => some ((loopL (f_i_IsAtom_r0 l1 g2) mask5).isSome, isOne (loopL (f_i_IsAtom_r0 l1 g2) mask5), f_i_IsAtom_x0_1 l1 g2 (getOne () (loopL (f_i_IsAtom_r0 l1 g2) mask5)), f_i_IsAtom_x0_2 l1 g2 (getTwo () (loopL (f_i_IsAtom_r0 l1 g2) mask5)))
  | _ => none
theorem f_i_IsAtom_tt0 : TTrue Try.prog f_i_IsAtom_F Try.f44 0 (f_i_IsAtom_t0) := by
  intro σ p r r' h
  unfold f_i_IsAtom_t0 at h
  split at h
  · rename_i hd
    rw [← dec_enc hd]
    exact row2 (f_i_IsAtom_l0 _ _ _) h
  · cases h
theorem f_i_IsAtom_p {R : Type} (g0 : List Sc) (l1 : List Sc) (kR : Bool → Option R) : f_i_IsAtom_k g0 l1 kR = (f_i_IsAtom_k g0 l1 some).bind kR := by
  simp only [f_i_IsAtom_k, brB, boB, blB, someB]
theorem f_i_IsAtom_e (g0 : List Sc) (l1 : List Sc) : runFn E0 f_i_IsAtom_M H0 f_i_IsAtom_F (asL (addL 0 (f_i_IsAtom_t0) (noL))) Try.f44 (f_i_IsAtom_a g0 l1) (f_i_IsAtom_i g0 l1) = f_i_IsAtom_k g0 l1 (fun r => some (f_i_IsAtom_en r)) := by kernel_rfl
theorem f_i_IsAtom_ok (g0 : List Sc) (l1 : List Sc) (r : Bool) (h : f_i_IsAtom g0 l1 = some r) : CS Try.prog 44 (f_i_IsAtom_a g0 l1) (f_i_IsAtom_i g0 l1) (f_i_IsAtom_en r).1 (f_i_IsAtom_en r).2 :=
  fn_true (Gk := fun k => f_i_IsAtom_k g0 l1 k) (en := f_i_IsAtom_en) Try.func44 E0ok f_i_IsAtom_Mt (addL_true (f_i_IsAtom_tt0) (noL_true)) f_i_IsAtom_o (f_i_IsAtom_e g0 l1) (f_i_IsAtom_p g0 l1) h
def f_i_IsAtom_c : CRow := fun args inh => match dec2 [.p .gr, .p .sl] [] args inh with
  | some ([.l g0, .l l1], []) => some ((f_i_IsAtom g0 l1).isSome, (f_i_IsAtom_en ((f_i_IsAtom g0 l1).getD false)).1, (f_i_IsAtom_en ((f_i_IsAtom g0 l1).getD false)).2)
  | _ => none
theorem f_i_IsAtom_cc : CTrue Try.prog 44 f_i_IsAtom_c := by
  intro args inh rs out h
  unfold f_i_IsAtom_c at h
  split at h
  · rename_i hd
    obtain ⟨h1, h2⟩ := dec2_enc hd
    rw [← h1, ← h2]
    exact rowC (f_i_IsAtom_ok _ _) h
  · cases h

def f_i_AtomsOf_1_F : Fi := { nv := 1, nc := 1, m := 1, vt := [], kl := [], sk := [], mvs := [], fz := [] }
def f_i_AtomsOf_1_a (l0 : List Sc) (sums1 : Int) (p2 : List Sc) (h0 : List Sc) : List AV := enc [.p .sl, .p (.int .i64), .p .el, .p (.pt 0 1)] [.l l0, .i sums1, .l p2]
def f_i_AtomsOf_1_i (l0 : List Sc) (sums1 : Int) (p2 : List Sc) (h0 : List Sc) : List AV := enc [.own 1000022] [.l h0]
def f_i_AtomsOf_1_en (r : List Sc) : List AV × List AV := (enc [] [], enc [.own 1000022] [.l r])
def f_i_AtomsOf_1_M : Calling := addC 42 f_i_Group_total_c (addC 41 f_i_Group_negate_c (addC 43 f_i_copyInts_c (addC 44 f_i_IsAtom_c (noC))))
theorem f_i_AtomsOf_1_Mt : CallOk Try.prog (f_i_AtomsOf_1_M) := addC_true f_i_Group_total_cc (addC_true f_i_Group_negate_cc (addC_true f_i_copyInts_cc (addC_true f_i_IsAtom_cc (noC_true))))
theorem f_i_AtomsOf_1_o : loopsOnce Try.f40 = true := by kernel_rfl
theorem f_i_AtomsOf_1_p {R : Type} (l0 : List Sc) (sums1 : Int) (p2 : List Sc) (h0 : List Sc) (kR : List Sc → Option R) : f_i_AtomsOf_1_k l0 sums1 p2 h0 kR = (f_i_AtomsOf_1_k l0 sums1 p2 h0 some).bind kR := by
  simp only [f_i_AtomsOf_1_k, brB, boB, someB, noneB]
theorem f_i_AtomsOf_1_e (l0 : List Sc) (sums1 : Int) (p2 : List Sc) (h0 : List Sc) : runFn E0 f_i_AtomsOf_1_M H0 f_i_AtomsOf_1_F (asL (noL)) Try.f40 (f_i_AtomsOf_1_a l0 sums1 p2 h0) (f_i_AtomsOf_1_i l0 sums1 p2 h0) = f_i_AtomsOf_1_k l0 sums1 p2 h0 (fun r => some (f_i_AtomsOf_1_en r)) := by kernel_rfl
theorem f_i_AtomsOf_1_ok (l0 : List Sc) (sums1 : Int) (p2 : List Sc) (h0 : List Sc) (r : List Sc) (h : f_i_AtomsOf_1 l0 sums1 p2 h0 = some r) : CS Try.prog 40 (f_i_AtomsOf_1_a l0 sums1 p2 h0) (f_i_AtomsOf_1_i l0 sums1 p2 h0) (f_i_AtomsOf_1_en r).1 (f_i_AtomsOf_1_en r).2 :=
  fn_true (Gk := fun k => f_i_AtomsOf_1_k l0 sums1 p2 h0 k) (en := f_i_AtomsOf_1_en) Try.func40 E0ok f_i_AtomsOf_1_Mt (noL_true) f_i_AtomsOf_1_o (f_i_AtomsOf_1_e l0 sums1 p2 h0) (f_i_AtomsOf_1_p l0 sums1 p2 h0) h
def f_i_AtomsOf_1_c : CRow := fun args inh => match dec2 [.p .sl, .p (.int .i64), .p .el, .p (.pt 0 1)] [.own 1000022] args inh with
  | some ([.l l0, .i sums1, .l p2], [.l h0]) => some ((f_i_AtomsOf_1 l0 sums1 p2 h0).isSome, (f_i_AtomsOf_1_en ((f_i_AtomsOf_1 l0 sums1 p2 h0).getD [])).1, (f_i_AtomsOf_1_en ((f_i_AtomsOf_1 l0 sums1 p2 h0).getD [])).2)
  | _ => none
theorem f_i_AtomsOf_1_cc : CTrue Try.prog 40 f_i_AtomsOf_1_c := by
  intro args inh rs out h
  unfold f_i_AtomsOf_1_c at h
  split at h
  · rename_i hd
    obtain ⟨h1, h2⟩ := dec2_enc hd
    rw [← h1, ← h2]
    exact rowC (f_i_AtomsOf_1_ok _ _ _ _) h
  · cases h

def f_i_Group_shift_F : Fi := { nv := 0, nc := 0, m := 0, vt := [], kl := [(0, ([0, 4, 5, 6, 9, 10, 11, 12, 13, 14, 15, 16, 17, 18, 19, 20, 21, 22, 23, 24, 25, 26, 27], [0, 1, 2, 3, 4, 5, 6, 8, 9, 10, 11, 12, 13, 14, 15, 16, 17, 18, 19, 20, 21, 22, 23, 24, 25, 26, 27], [0, 1, 2, 3, 4, 5, 7, 8, 9, 10, 11, 12, 13, 14, 15, 16, 17, 18, 19, 20, 21, 22, 23, 24, 25, 26, 27]))], sk := [], mvs := [], fz := [] }
def f_i_Group_shift_a (g0 : List Sc) (a1 : Int) (x2 : Int) : List AV := enc [.p .gr, .p (.int .i64), .p (.int .i64)] [.l g0, .i a1, .i x2]
def f_i_Group_shift_i (g0 : List Sc) (a1 : Int) (x2 : Int) : List AV := enc [] []
def f_i_Group_shift_en (r : Int) : List AV × List AV := (enc [.p (.int .i64)] [.i r], enc [] [])
def f_i_Group_shift_M : Calling := addC 66 f_i_Group_add_c (noC)
theorem f_i_Group_shift_Mt : CallOk Try.prog (f_i_Group_shift_M) := addC_true f_i_Group_add_cc (noC_true)
theorem f_i_Group_shift_o : loopsOnce Try.f64 = true := by kernel_rfl
def f_i_Group_shift_h0 : List Sh := [.u, .p (.int .i64), .p (.int .i64), .p .el, .u, .u, .u, .p (.int .i64), .p (.int .i64), .u, .u, .u, .u, .u, .u, .u, .u, .u, .u, .u, .u, .u, .u, .u, .u, .u, .u, .u]
def f_i_Group_shift_fr0 (a1 : Int) (x2 : Int) (g3 : List Sc) (s : Int × Int) : List AV := enc f_i_Group_shift_h0 [.i a1, .i x2, .l g3, .i s.1, .i s.2]
def f_i_Group_shift_g0_1 : List Sh := [.u, .u, .u, .u, .u, .u, .u, .p (.int .i64), .u, .u, .u, .u, .u, .u, .u, .u, .u, .u, .u, .u, .u, .u, .u, .u, .u, .u, .u, .u]
def f_i_Group_shift_x0_1 (a1 : Int) (x2 : Int) (g3 : List Sc) (e : Int) : X × List AV := (.out 0, enc f_i_Group_shift_g0_1 [.i e])
def f_i_Group_shift_x0_2 (a1 : Int) (x2 : Int) (g3 : List Sc) (_e : Unit) : X × List AV := (.ret, [])
theorem f_i_Group_shift_p0 {R : Type} (a1 : Int) (x2 : Int) (g3 : List Sc) (s : Int × Int) (kN : Int × Int → Option R) (kA : Int → Option R) (kB : Unit → Option R) : f_i_Group_shift_k0 a1 x2 g3 s.1 s.2 kN kA = (f_i_Group_shift_r0 a1 x2 g3 s).bind (Ro.el kN kA kB) := by
  simp only [f_i_Group_shift_k0, f_i_Group_shift_r0, brB, boB, someB, noneB, Ro.el]
theorem f_i_Group_shift_e0 (a1 : Int) (x2 : Int) (g3 : List Sc) (s : Int × Int) : EC E0 f_i_Group_shift_M H0 f_i_Group_shift_F (asL (noL)) 0 (bodyOf Try.f64 0) (f_i_Group_shift_fr0 a1 x2 g3 s) (done (klOf f_i_Group_shift_F 0)) = f_i_Group_shift_k0 a1 x2 g3 s.1 s.2 (fun s => some (.norm, f_i_Group_shift_fr0 a1 x2 g3 s)) (fun e => some (f_i_Group_shift_x0_1 a1 x2 g3 e)) := by kernel_rfl
theorem f_i_Group_shift_l0 (a1 : Int) (x2 : Int) (g3 : List Sc) : ∀ s r, loopL (f_i_Group_shift_r0 a1 x2 g3) s = some r → LS Try.prog f_i_Group_shift_F (bodyOf Try.f64 0) (f_i_Group_shift_fr0 a1 x2 g3 s) (enX (f_i_Group_shift_x0_1 a1 x2 g3) (f_i_Group_shift_x0_2 a1 x2 g3) r) :=
  loop_true E0ok f_i_Group_shift_Mt (noL_true) f_i_Group_shift_o (fun _ h => by cases h) (fun _ h => by cases h) (fun _ h => by cases h) (fun _ h => by cases h) (fun s => (f_i_Group_shift_e0 a1 x2 g3 s).trans (f_i_Group_shift_p0 a1 x2 g3 s _ _ (fun e => some (f_i_Group_shift_x0_2 a1 x2 g3 e))))
def f_i_Group_shift_t0 (σ : List AV) : Option (Bool × Bool × (X × List AV) × (X × List AV)) := match dec f_i_Group_shift_h0 σ with
  | some [.i a1, .i x2, .l g3, .i out7, .i y8] => some (isOne (loopL (f_i_Group_shift_r0 a1 x2 g3) (out7, y8)), true, f_i_Group_shift_x0_1 a1 x2 g3 (getOne 0 (loopL (f_i_Group_shift_r0 a1 x2 g3) (out7, y8))), (.ret, []))
  | _ => none
theorem f_i_Group_shift_tt0 : TTrue Try.prog f_i_Group_shift_F Try.f64 0 (f_i_Group_shift_t0) := by
  intro σ p r r' h
  unfold f_i_Group_shift_t0 at h
  split at h
  · rename_i hd
    rw [← dec_enc hd]
    exact row1 (f_i_Group_shift_l0 _ _ _ _) h
  · cases h
theorem f_i_Group_shift_p {R : Type} (g0 : List Sc) (a1 : Int) (x2 : Int) (kR : Int → Option R) : f_i_Group_shift_k g0 a1 x2 kR = (f_i_Group_shift_k g0 a1 x2 some).bind kR := by
  simp only [f_i_Group_shift_k, bl1B, someB]
theorem f_i_Group_shift_e (g0 : List Sc) (a1 : Int) (x2 : Int) : runFn E0 f_i_Group_shift_M H0 f_i_Group_shift_F (asL (addL 0 (f_i_Group_shift_t0) (noL))) Try.f64 (f_i_Group_shift_a g0 a1 x2) (f_i_Group_shift_i g0 a1 x2) = f_i_Group_shift_k g0 a1 x2 (fun r => some (f_i_Group_shift_en r)) := by kernel_rfl
theorem f_i_Group_shift_ok (g0 : List Sc) (a1 : Int) (x2 : Int) (r : Int) (h : f_i_Group_shift g0 a1 x2 = some r) : CS Try.prog 64 (f_i_Group_shift_a g0 a1 x2) (f_i_Group_shift_i g0 a1 x2) (f_i_Group_shift_en r).1 (f_i_Group_shift_en r).2 :=
  fn_true (Gk := fun k => f_i_Group_shift_k g0 a1 x2 k) (en := f_i_Group_shift_en) Try.func64 E0ok f_i_Group_shift_Mt (addL_true (f_i_Group_shift_tt0) (noL_true)) f_i_Group_shift_o (f_i_Group_shift_e g0 a1 x2) (f_i_Group_shift_p g0 a1 x2) h
def f_i_Group_shift_c : CRow := fun args inh => match dec2 [.p .gr, .p (.int .i64), .p (.int .i64)] [] args inh with
  | some ([.l g0, .i a1, .i x2], []) => some ((f_i_Group_shift g0 a1 x2).isSome, (f_i_Group_shift_en ((f_i_Group_shift g0 a1 x2).getD 0)).1, (f_i_Group_shift_en ((f_i_Group_shift g0 a1 x2).getD 0)).2)
  | _ => none
theorem f_i_Group_shift_cc : CTrue Try.prog 64 f_i_Group_shift_c := by
  intro args inh rs out h
  unfold f_i_Group_shift_c at h
  split at h
  · rename_i hd
    obtain ⟨h1, h2⟩ := dec2_enc hd
    rw [← h1, ← h2]
    exact rowC (f_i_Group_shift_ok _ _ _) h
  · cases h

def f_i_zeroFree_AtomsOf_1_F : Fi := { nv := 1, nc := 1, m := 1, vt := [], kl := [(0, ([1, 6, 7, 8, 9, 11, 12, 13, 14, 15, 16, 17, 18, 19, 20, 21, 22, 23, 24, 25, 26, 27, 28, 29, 30, 31, 32, 33, 34, 35, 36, 37, 38, 39, 40, 41, 42, 43, 44, 45, 46, 47, 48, 49, 50, 51, 52], [1, 2, 3, 4, 5, 6, 7, 8, 9, 10, 11, 12, 13, 14, 15, 16, 17, 18, 19, 20, 21, 22, 23, 24, 25, 26, 27, 28, 29, 30, 31, 32, 33, 34, 35, 36, 37, 38, 39, 40, 41, 42, 43, 44, 45, 46, 47, 48, 49, 50, 51, 52], [1, 2, 3, 4, 5, 6, 7, 8, 9, 10, 11, 12, 13, 14, 15, 16, 17, 18, 19, 20, 21, 22, 23, 24, 25, 26, 27, 28, 29, 30, 31, 32, 33, 34, 35, 36, 37, 38, 39, 40, 41, 42, 43, 44, 45, 46, 47, 48, 49, 50, 51, 52]))], sk := [], mvs := [], fz := [] }
def f_i_zeroFree_AtomsOf_1_a (g0 : List Sc) (l1 : List Sc) (sums2 : Int) (visit3 : List Sc) (h0 : List Sc) : List AV := enc [.p .gr, .fr 3, .p (.int .i64), .fn 40 [.el, .pt 0 1]] [.l g0, .l l1, .i sums2, .l visit3]
def f_i_zeroFree_AtomsOf_1_i (g0 : List Sc) (l1 : List Sc) (sums2 : Int) (visit3 : List Sc) (h0 : List Sc) : List AV := enc [.own 1000022] [.l h0]
def f_i_zeroFree_AtomsOf_1_en (r : List Sc) : List AV × List AV := (enc [] [], enc [.own 1000022] [.l r])
def f_i_zeroFree_AtomsOf_1_cs (self : (List Sc × List Sc × Int × List Sc × List Sc) → Option (List Sc)) : CRow := fun args inh => match dec2 [.p .gr, .fr 3, .p (.int .i64), .fn 40 [.el, .pt 0 1]] [.own 1000022] args inh with
  | some ([.l g0, .l l1, .i sums2, .l visit3], [.l h0]) => some ((self (g0, l1, sums2, visit3, h0)).isSome, (f_i_zeroFree_AtomsOf_1_en ((self (g0, l1, sums2, visit3, h0)).getD [])).1, (f_i_zeroFree_AtomsOf_1_en ((self (g0, l1, sums2, visit3, h0)).getD [])).2)
  | _ => none
theorem f_i_zeroFree_AtomsOf_1_cst (self : (List Sc × List Sc × Int × List Sc × List Sc) → Option (List Sc)) (hs : ∀ a r, self a = some r → CS Try.prog 39 (f_i_zeroFree_AtomsOf_1_a a.1 a.2.1 a.2.2.1 a.2.2.2.1 a.2.2.2.2) (f_i_zeroFree_AtomsOf_1_i a.1 a.2.1 a.2.2.1 a.2.2.2.1 a.2.2.2.2) (f_i_zeroFree_AtomsOf_1_en r).1 (f_i_zeroFree_AtomsOf_1_en r).2) : CTrue Try.prog 39 (f_i_zeroFree_AtomsOf_1_cs self) := by
  intro args inh rs out h
  unfold f_i_zeroFree_AtomsOf_1_cs at h
  split at h
  · rename_i hd
    obtain ⟨h1, h2⟩ := dec2_enc hd
    rw [← h1, ← h2]
    exact rowC (hs _) h
  · cases h
def f_i_zeroFree_AtomsOf_1_M (self : (List Sc × List Sc × Int × List Sc × List Sc) → Option (List Sc)) : Calling := addC 39 (f_i_zeroFree_AtomsOf_1_cs self) (addC 40 f_i_AtomsOf_1_c (addC 38 f_i_OrderOf_c (addC 64 f_i_Group_shift_c (addC 65 f_i_in_c (addC 43 f_i_copyInts_c (noC))))))
theorem f_i_zeroFree_AtomsOf_1_Mt (self : (List Sc × List Sc × Int × List Sc × List Sc) → Option (List Sc)) (hs : ∀ a r, self a = some r → CS Try.prog 39 (f_i_zeroFree_AtomsOf_1_a a.1 a.2.1 a.2.2.1 a.2.2.2.1 a.2.2.2.2) (f_i_zeroFree_AtomsOf_1_i a.1 a.2.1 a.2.2.1 a.2.2.2.1 a.2.2.2.2) (f_i_zeroFree_AtomsOf_1_en r).1 (f_i_zeroFree_AtomsOf_1_en r).2) : CallOk Try.prog (f_i_zeroFree_AtomsOf_1_M self) := addC_true (f_i_zeroFree_AtomsOf_1_cst self hs) (addC_true f_i_AtomsOf_1_cc (addC_true f_i_OrderOf_cc (addC_true f_i_Group_shift_cc (addC_true f_i_in_cc (addC_true f_i_copyInts_cc (noC_true))))))
theorem f_i_zeroFree_AtomsOf_1_o : loopsOnce Try.f39 = true := by kernel_rfl
def f_i_zeroFree_AtomsOf_1_h0 : List Sh := [.own 1000022, .u, .fr 3, .p (.int .i64), .fn 40 [.el, .pt 0 1], .p .el, .u, .u, .u, .u, .p (.int .i64), .u, .u, .u, .u, .u, .u, .u, .u, .u, .u, .u, .u, .u, .u, .u, .u, .u, .u, .u, .u, .u, .u, .u, .u, .u, .u, .u, .u, .u, .u, .u, .u, .u, .u, .u, .u, .u, .u, .u, .u, .u, .u]
def f_i_zeroFree_AtomsOf_1_fr0 (self : (List Sc × List Sc × Int × List Sc × List Sc) → Option (List Sc)) (l1 : List Sc) (sums2 : Int) (visit3 : List Sc) (g4 : List Sc) (s : List Sc × Int) : List AV := enc f_i_zeroFree_AtomsOf_1_h0 [.l s.1, .l l1, .i sums2, .l visit3, .l g4, .i s.2]
def f_i_zeroFree_AtomsOf_1_g0_1 : List Sh := [.own 1000022, .u, .u, .u, .u, .u, .u, .u, .u, .u, .u, .u, .u, .u, .u, .u, .u, .u, .u, .u, .u, .u, .u, .u, .u, .u, .u, .u, .u, .u, .u, .u, .u, .u, .u, .u, .u, .u, .u, .u, .u, .u, .u, .u, .u, .u, .u, .u, .u, .u, .u, .u, .u]
def f_i_zeroFree_AtomsOf_1_x0_1 (self : (List Sc × List Sc × Int × List Sc × List Sc) → Option (List Sc)) (l1 : List Sc) (sums2 : Int) (visit3 : List Sc) (g4 : List Sc) (e : List Sc) : X × List AV := (.out 0, enc f_i_zeroFree_AtomsOf_1_g0_1 [.l e])
def f_i_zeroFree_AtomsOf_1_x0_2 (self : (List Sc × List Sc × Int × List Sc × List Sc) → Option (List Sc)) (l1 : List Sc) (sums2 : Int) (visit3 : List Sc) (g4 : List Sc) (_e : Unit) : X × List AV := (.ret, [])
theorem f_i_zeroFree_AtomsOf_1_p0 {R : Type} (self : (List Sc × List Sc × Int × List Sc × List Sc) → Option (List Sc)) (l1 : List Sc) (sums2 : Int) (visit3 : List Sc) (g4 : List Sc) (s : List Sc × Int) (kN : List Sc × Int → Option R) (kA : List Sc → Option R) (kB : Unit → Option R) : f_i_zeroFree_AtomsOf_1_k0 self l1 sums2 visit3 g4 s.1 s.2 kN kA = (f_i_zeroFree_AtomsOf_1_r0 self l1 sums2 visit3 g4 s).bind (Ro.el kN kA kB) := by
  simp only [f_i_zeroFree_AtomsOf_1_k0, f_i_zeroFree_AtomsOf_1_r0, brB, boB, someB, noneB, Ro.el]
theorem f_i_zeroFree_AtomsOf_1_e0 (self : (List Sc × List Sc × Int × List Sc × List Sc) → Option (List Sc)) (l1 : List Sc) (sums2 : Int) (visit3 : List Sc) (g4 : List Sc) (s : List Sc × Int) : EC E0 (f_i_zeroFree_AtomsOf_1_M self) H0 f_i_zeroFree_AtomsOf_1_F (asL (noL)) 0 (bodyOf Try.f39 0) (f_i_zeroFree_AtomsOf_1_fr0 self l1 sums2 visit3 g4 s) (done (klOf f_i_zeroFree_AtomsOf_1_F 0)) = f_i_zeroFree_AtomsOf_1_k0 self l1 sums2 visit3 g4 s.1 s.2 (fun s => some (.norm, f_i_zeroFree_AtomsOf_1_fr0 self l1 sums2 visit3 g4 s)) (fun e => some (f_i_zeroFree_AtomsOf_1_x0_1 self l1 sums2 visit3 g4 e)) := by kernel_rfl
theorem f_i_zeroFree_AtomsOf_1_l0 (self : (List Sc × List Sc × Int × List Sc × List Sc) → Option (List Sc)) (hs : ∀ a r, self a = some r → CS Try.prog 39 (f_i_zeroFree_AtomsOf_1_a a.1 a.2.1 a.2.2.1 a.2.2.2.1 a.2.2.2.2) (f_i_zeroFree_AtomsOf_1_i a.1 a.2.1 a.2.2.1 a.2.2.2.1 a.2.2.2.2) (f_i_zeroFree_AtomsOf_1_en r).1 (f_i_zeroFree_AtomsOf_1_en r).2) (l1 : List Sc) (sums2 : Int) (visit3 : List Sc) (g4 : List Sc) : ∀ s r, loopL (f_i_zeroFree_AtomsOf_1_r0 self l1 sums2 visit3 g4) s = some r → LS Try.prog f_i_zeroFree_AtomsOf_1_F (bodyOf Try.f39 0) (f_i_zeroFree_AtomsOf_1_fr0 self l1 sums2 visit3 g4 s) (enX (f_i_zeroFree_AtomsOf_1_x0_1 self l1 sums2 visit3 g4) (f_i_zeroFree_AtomsOf_1_x0_2 self l1 sums2 visit3 g4) r) :=
  loop_true E0ok (f_i_zeroFree_AtomsOf_1_Mt self hs) (noL_true) f_i_zeroFree_AtomsOf_1_o (fun _ h => by cases h) (fun _ h => by cases h) (fun _ h => by cases h) (fun _ h => by cases h) (fun s => (f_i_zeroFree_AtomsOf_1_e0 self l1 sums2 visit3 g4 s).trans (f_i_zeroFree_AtomsOf_1_p0 self l1 sums2 visit3 g4 s _ _ (fun e => some (f_i_zeroFree_AtomsOf_1_x0_2 self l1 sums2 visit3 g4 e))))
def f_i_zeroFree_AtomsOf_1_t0 (self : (List Sc × List Sc × Int × List Sc × List Sc) → Option (List Sc)) (σ : List AV) : Option (Bool × Bool × (X × List AV) × (X × List AV)) := match dec f_i_zeroFree_AtomsOf_1_h0 σ with
  | some [.l v0, .l l1, .i sums2, .l visit3, .l g4, .i x9] => some (isOne (loopL (f_i_zeroFree_AtomsOf_1_r0 self l1 sums2 visit3 g4) (v0, x9)), true, f_i_zeroFree_AtomsOf_1_x0_1 self l1 sums2 visit3 g4 (getOne [] (loopL (f_i_zeroFree_AtomsOf_1_r0 self l1 sums2 visit3 g4) (v0, x9))), (.ret, []))
  | _ => none
theorem f_i_zeroFree_AtomsOf_1_tt0 (self : (List Sc × List Sc × Int × List Sc × List Sc) → Option (List Sc)) (hs : ∀ a r, self a = some r → CS Try.prog 39 (f_i_zeroFree_AtomsOf_1_a a.1 a.2.1 a.2.2.1 a.2.2.2.1 a.2.2.2.2) (f_i_zeroFree_AtomsOf_1_i a.1 a.2.1 a.2.2.1 a.2.2.2.1 a.2.2.2.2) (f_i_zeroFree_AtomsOf_1_en r).1 (f_i_zeroFree_AtomsOf_1_en r).2) : TTrue Try.prog f_i_zeroFree_AtomsOf_1_F Try.f39 0 (f_i_zeroFree_AtomsOf_1_t0 self) := by
  intro σ p r r' h
  unfold f_i_zeroFree_AtomsOf_1_t0 at h
  split at h
  · rename_i hd
    rw [← dec_enc hd]
    exact row1 (f_i_zeroFree_AtomsOf_1_l0 self hs _ _ _ _ _) h
  · cases h
theorem f_i_zeroFree_AtomsOf_1_p {R : Type} (self : (List Sc × List Sc × Int × List Sc × List Sc) → Option (List Sc)) (g0 : List Sc) (l1 : List Sc) (sums2 : Int) (visit3 : List Sc) (h0 : List Sc) (kR : List Sc → Option R) : f_i_zeroFree_AtomsOf_1_k self g0 l1 sums2 visit3 h0 kR = (f_i_zeroFree_AtomsOf_1_k self g0 l1 sums2 visit3 h0 some).bind kR := by
  simp only [f_i_zeroFree_AtomsOf_1_k, brB, boB, bl1B, someB, noneB]
theorem f_i_zeroFree_AtomsOf_1_e (self : (List Sc × List Sc × Int × List Sc × List Sc) → Option (List Sc)) (g0 : List Sc) (l1 : List Sc) (sums2 : Int) (visit3 : List Sc) (h0 : List Sc) : runFn E0 (f_i_zeroFree_AtomsOf_1_M self) H0 f_i_zeroFree_AtomsOf_1_F (asL (addL 0 (f_i_zeroFree_AtomsOf_1_t0 self) (noL))) Try.f39 (f_i_zeroFree_AtomsOf_1_a g0 l1 sums2 visit3 h0) (f_i_zeroFree_AtomsOf_1_i g0 l1 sums2 visit3 h0) = f_i_zeroFree_AtomsOf_1_k self g0 l1 sums2 visit3 h0 (fun r => some (f_i_zeroFree_AtomsOf_1_en r)) := by kernel_rfl
theorem f_i_zeroFree_AtomsOf_1_ks (self : (List Sc × List Sc × Int × List Sc × List Sc) → Option (List Sc)) (hs : ∀ a r, self a = some r → CS Try.prog 39 (f_i_zeroFree_AtomsOf_1_a a.1 a.2.1 a.2.2.1 a.2.2.2.1 a.2.2.2.2) (f_i_zeroFree_AtomsOf_1_i a.1 a.2.1 a.2.2.1 a.2.2.2.1 a.2.2.2.2) (f_i_zeroFree_AtomsOf_1_en r).1 (f_i_zeroFree_AtomsOf_1_en r).2) (g0 : List Sc) (l1 : List Sc) (sums2 : Int) (visit3 : List Sc) (h0 : List Sc) (r : List Sc) (h : f_i_zeroFree_AtomsOf_1_k self g0 l1 sums2 visit3 h0 some = some r) : CS Try.prog 39 (f_i_zeroFree_AtomsOf_1_a g0 l1 sums2 visit3 h0) (f_i_zeroFree_AtomsOf_1_i g0 l1 sums2 visit3 h0) (f_i_zeroFree_AtomsOf_1_en r).1 (f_i_zeroFree_AtomsOf_1_en r).2 :=
  fn_true (Gk := fun k => f_i_zeroFree_AtomsOf_1_k self g0 l1 sums2 visit3 h0 k) (en := f_i_zeroFree_AtomsOf_1_en) Try.func39 E0ok (f_i_zeroFree_AtomsOf_1_Mt self hs) (addL_true (f_i_zeroFree_AtomsOf_1_tt0 self hs) (noL_true)) f_i_zeroFree_AtomsOf_1_o (f_i_zeroFree_AtomsOf_1_e self g0 l1 sums2 visit3 h0) (f_i_zeroFree_AtomsOf_1_p self g0 l1 sums2 visit3 h0) h
theorem f_i_zeroFree_AtomsOf_1_ns : ∀ n a r, f_i_zeroFree_AtomsOf_1_n n a = some r → CS Try.prog 39 (f_i_zeroFree_AtomsOf_1_a a.1 a.2.1 a.2.2.1 a.2.2.2.1 a.2.2.2.2) (f_i_zeroFree_AtomsOf_1_i a.1 a.2.1 a.2.2.1 a.2.2.2.1 a.2.2.2.2) (f_i_zeroFree_AtomsOf_1_en r).1 (f_i_zeroFree_AtomsOf_1_en r).2
  | 0, _, _, h => by cases h
  | n + 1, a, r, h => f_i_zeroFree_AtomsOf_1_ks (f_i_zeroFree_AtomsOf_1_n n) (f_i_zeroFree_AtomsOf_1_ns n) a.1 a.2.1 a.2.2.1 a.2.2.2.1 a.2.2.2.2 r h
theorem f_i_zeroFree_AtomsOf_1_ok (g0 : List Sc) (l1 : List Sc) (sums2 : Int) (visit3 : List Sc) (h0 : List Sc) (r : List Sc) (h : f_i_zeroFree_AtomsOf_1 g0 l1 sums2 visit3 h0 = some r) : CS Try.prog 39 (f_i_zeroFree_AtomsOf_1_a g0 l1 sums2 visit3 h0) (f_i_zeroFree_AtomsOf_1_i g0 l1 sums2 visit3 h0) (f_i_zeroFree_AtomsOf_1_en r).1 (f_i_zeroFree_AtomsOf_1_en r).2 := by
  obtain ⟨n, hn⟩ := limF_some h
  exact f_i_zeroFree_AtomsOf_1_ns n _ r hn
def f_i_zeroFree_AtomsOf_1_c : CRow := fun args inh => match dec2 [.p .gr, .fr 3, .p (.int .i64), .fn 40 [.el, .pt 0 1]] [.own 1000022] args inh with
  | some ([.l g0, .l l1, .i sums2, .l visit3], [.l h0]) => some ((f_i_zeroFree_AtomsOf_1 g0 l1 sums2 visit3 h0).isSome, (f_i_zeroFree_AtomsOf_1_en ((f_i_zeroFree_AtomsOf_1 g0 l1 sums2 visit3 h0).getD [])).1, (f_i_zeroFree_AtomsOf_1_en ((f_i_zeroFree_AtomsOf_1 g0 l1 sums2 visit3 h0).getD [])).2)
  | _ => none
theorem f_i_zeroFree_AtomsOf_1_cc : CTrue Try.prog 39 f_i_zeroFree_AtomsOf_1_c := by
  intro args inh rs out h
  unfold f_i_zeroFree_AtomsOf_1_c at h
  split at h
  · rename_i hd
    obtain ⟨h1, h2⟩ := dec2_enc hd
    rw [← h1, ← h2]
    exact rowC (f_i_zeroFree_AtomsOf_1_ok _ _ _ _ _) h
  · cases h

def f_slices_SortFunc_a (h0 : List Sc) : List AV := enc [.p (.al 0), .fn 46 []] []
def f_slices_SortFunc_i (h0 : List Sc) : List AV := enc [.own 1000022] [.l h0]
def f_slices_SortFunc_en (r : List Sc) : List AV × List AV := (enc [] [], enc [.own 1000022] [.l r])
theorem f_slices_SortFunc_ok (h0 : List Sc) (r : List Sc) (h : f_slices_SortFunc h0 = some r) : CS Try.prog 45 (f_slices_SortFunc_a h0) (f_slices_SortFunc_i h0) (f_slices_SortFunc_en r).1 (f_slices_SortFunc_en r).2 :=
  sortF_CS (e := 1000022) ⟨_, Try.func45, by kernel_rfl⟩ cmpF sortF1 sortF0 h
def f_slices_SortFunc_c : CRow := fun args inh => match dec2 [.p (.al 0), .fn 46 []] [.own 1000022] args inh with
  | some ([], [.l h0]) => some ((f_slices_SortFunc h0).isSome, (f_slices_SortFunc_en ((f_slices_SortFunc h0).getD [])).1, (f_slices_SortFunc_en ((f_slices_SortFunc h0).getD [])).2)
  | _ => none
theorem f_slices_SortFunc_cc : CTrue Try.prog 45 f_slices_SortFunc_c := by
  intro args inh rs out h
  unfold f_slices_SortFunc_c at h
  split at h
  · rename_i hd
    obtain ⟨h1, h2⟩ := dec2_enc hd
    rw [← h1, ← h2]
    exact rowC (f_slices_SortFunc_ok _) h
  · cases h
end
end Go.Proofs.Ytdocbpiocinllaa
