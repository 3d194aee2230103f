/-
  That the program computes just that (printed by gen2.py).
-/
import Derived.Test.YtdlofeehgkijhaaShal
import Derived.Test.YtdlofeehgkijhaaRows
import Derived.WalkKit
set_option linter.unusedVariables false
namespace Go.Proofs.Ytdlofeehgkijhaa
open Go Ev
noncomputable section
def E0 : Env := { sl := [(22, 3, .n .i64 0)], gr := [(24, 22), (27, 22)], sc := [3, 4, 5, 9, 21, 88, 90], bl := [4], ik := [(3, .i64), (5, .u8), (21, .i32), (88, .u32), (90, .u64)], st := [9], one := [3, 4, 5, 9, 21, 88, 90, 22, 1, 25, 26, 28, 29, 30, 31, 32, 34, 35, 36, 37, 38, 40, 41, 42, 43, 44, 45, 46, 47, 48, 49, 50, 51, 52, 53, 54, 55, 56, 57, 58, 59, 60, 61, 62, 63, 64, 65, 66, 67, 68, 69, 70, 71, 73, 74, 75, 76, 77, 78, 79, 80, 83, 84, 85, 86, 87, 89, 92, 93, 94, 96, 99, 100, 106, 109], al := [(3, [.sc (.n .i64 0)]), (4, [.sc (.b false)]), (5, [.sc (.n .u8 0)]), (9, [.sc (.s ByteArray.empty)]), (21, [.sc (.n .i32 0)]), (88, [.sc (.n .u32 0)]), (90, [.sc (.n .u64 0)]), (22, [.sl]), (1, [.fn]), (24, [.sl]), (25, [.fn]), (26, [.fn]), (27, [.sl]), (28, [.fn]), (29, [.fn]), (30, [.fn]), (31, [.fn]), (32, [.fn]), (34, [.fn]), (35, [.fn]), (36, [.fn]), (37, [.fn]), (38, [.fn]), (40, [.fn]), (41, [.fn]), (42, [.fn]), (43, [.fn]), (44, [.fn]), (45, [.fn]), (46, [.fn]), (47, [.fn]), (48, [.fn]), (49, [.fn]), (50, [.fn]), (51, [.fn]), (52, [.fn]), (53, [.fn]), (54, [.fn]), (55, [.fn]), (56, [.fn]), (57, [.fn]), (58, [.fn]), (59, [.fn]), (60, [.fn]), (61, [.fn]), (62, [.fn]), (63, [.fn]), (64, [.fn]), (65, [.fn]), (66, [.fn]), (67, [.fn]), (68, [.fn]), (69, [.fn]), (70, [.fn]), (71, [.fn]), (73, [.fn]), (74, [.fn]), (75, [.fn]), (76, [.fn]), (77, [.fn]), (78, [.fn]), (79, [.fn]), (80, [.fn]), (83, [.fn]), (84, [.fn]), (85, [.fn]), (86, [.fn]), (87, [.fn]), (89, [.fn]), (92, [.fn]), (93, [.fn]), (94, [.fn]), (96, [.fn]), (99, [.fn]), (100, [.fn]), (106, [.fn]), (109, [.fn])], fd := [(24, 1), (27, 1)] }
def H0 : Hints := { md := [(25, [.io]), (26, [.io]), (55, [.ro, .fz, .ro, .io]), (58, [.fz]), (82, [.fz])], soft := [22, 39, 41, 45, 55, 57, 58, 66, 74, 79, 82, 86, 87, 88, 93] }
theorem E0ok : EnvOk Try.prog E0 := okEnv_spec (by kernel_rfl)

def f_l_szIntS_F : Fi := { nv := 0, nc := 0, m := 0, vt := [], kl := [], sk := [], mvs := [], fz := [] }
def f_l_szIntS_a (a0 : List Sc) (left1 : Int) : List AV := enc [.p .sl, .p (.int .i64)] [.l a0, .i left1]
def f_l_szIntS_i (a0 : List Sc) (left1 : Int) : List AV := enc [] []
def f_l_szIntS_en (r : Int) : List AV × List AV := (enc [.p (.int .i64)] [.i r], enc [] [])
def f_l_szIntS_M : Calling := noC
theorem f_l_szIntS_Mt : CallOk Try.prog (f_l_szIntS_M) := noC_true
theorem f_l_szIntS_o : loopsOnce Try.f47 = true := by kernel_rfl
theorem f_l_szIntS_p {R : Type} (a0 : List Sc) (left1 : Int) (kR : Int → Option R) : f_l_szIntS_k a0 left1 kR = (f_l_szIntS_k a0 left1 some).bind kR := by
  simp only [f_l_szIntS_k, brB, someB]
theorem f_l_szIntS_e (a0 : List Sc) (left1 : Int) : runFn E0 f_l_szIntS_M H0 f_l_szIntS_F (asL (noL)) Try.f47 (f_l_szIntS_a a0 left1) (f_l_szIntS_i a0 left1) = f_l_szIntS_k a0 left1 (fun r => some (f_l_szIntS_en r)) := by kernel_rfl
theorem f_l_szIntS_ok (a0 : List Sc) (left1 : Int) (r : Int) (h : f_l_szIntS a0 left1 = some r) : CS Try.prog 47 (f_l_szIntS_a a0 left1) (f_l_szIntS_i a0 left1) (f_l_szIntS_en r).1 (f_l_szIntS_en r).2 :=
  fn_true (Gk := fun k => f_l_szIntS_k a0 left1 k) (en := f_l_szIntS_en) Try.func47 E0ok f_l_szIntS_Mt (noL_true) f_l_szIntS_o (f_l_szIntS_e a0 left1) (f_l_szIntS_p a0 left1) h
def f_l_szIntS_c : CRow := fun args inh => match dec2 [.p .sl, .p (.int .i64)] [] args inh with
  | some ([.l a0, .i left1], []) => some ((f_l_szIntS a0 left1).isSome, (f_l_szIntS_en ((f_l_szIntS a0 left1).getD 0)).1, (f_l_szIntS_en ((f_l_szIntS a0 left1).getD 0)).2)
  | _ => none
theorem f_l_szIntS_cc : CTrue Try.prog 47 f_l_szIntS_c := by
  intro args inh rs out h
  unfold f_l_szIntS_c at h
  split at h
  · rename_i hd
    obtain ⟨h1, h2⟩ := dec2_enc hd
    rw [← h1, ← h2]
    exact rowC (f_l_szIntS_ok _ _) h
  · cases h

def f_l_szGroup_F : Fi := { nv := 0, nc := 0, m := 0, vt := [], kl := [], sk := [], mvs := [], fz := [] }
def f_l_szGroup_a (a0 : List Sc) (left1 : Int) : List AV := enc [.p .gr, .p (.int .i64)] [.l a0, .i left1]
def f_l_szGroup_i (a0 : List Sc) (left1 : Int) : List AV := enc [] []
def f_l_szGroup_en (r : Int) : List AV × List AV := (enc [.p (.int .i64)] [.i r], enc [] [])
def f_l_szGroup_M : Calling := addC 47 f_l_szIntS_c (noC)
theorem f_l_szGroup_Mt : CallOk Try.prog (f_l_szGroup_M) := addC_true f_l_szIntS_cc (noC_true)
theorem f_l_szGroup_o : loopsOnce Try.f15 = true := by kernel_rfl
theorem f_l_szGroup_p {R : Type} (a0 : List Sc) (left1 : Int) (kR : Int → Option R) : f_l_szGroup_k a0 left1 kR = (f_l_szGroup_k a0 left1 some).bind kR := by
  simp only [f_l_szGroup_k, brB, boB, someB]
theorem f_l_szGroup_e (a0 : List Sc) (left1 : Int) : runFn E0 f_l_szGroup_M H0 f_l_szGroup_F (asL (noL)) Try.f15 (f_l_szGroup_a a0 left1) (f_l_szGroup_i a0 left1) = f_l_szGroup_k a0 left1 (fun r => some (f_l_szGroup_en r)) := by kernel_rfl
theorem f_l_szGroup_ok (a0 : List Sc) (left1 : Int) (r : Int) (h : f_l_szGroup a0 left1 = some r) : CS Try.prog 15 (f_l_szGroup_a a0 left1) (f_l_szGroup_i a0 left1) (f_l_szGroup_en r).1 (f_l_szGroup_en r).2 :=
  fn_true (Gk := fun k => f_l_szGroup_k a0 left1 k) (en := f_l_szGroup_en) Try.func15 E0ok f_l_szGroup_Mt (noL_true) f_l_szGroup_o (f_l_szGroup_e a0 left1) (f_l_szGroup_p a0 left1) h
def f_l_szGroup_c : CRow := fun args inh => match dec2 [.p .gr, .p (.int .i64)] [] args inh with
  | some ([.l a0, .i left1], []) => some ((f_l_szGroup a0 left1).isSome, (f_l_szGroup_en ((f_l_szGroup a0 left1).getD 0)).1, (f_l_szGroup_en ((f_l_szGroup a0 left1).getD 0)).2)
  | _ => none
theorem f_l_szGroup_cc : CTrue Try.prog 15 f_l_szGroup_c := by
  intro args inh rs out h
  unfold f_l_szGroup_c at h
  split at h
  · rename_i hd
    obtain ⟨h1, h2⟩ := dec2_enc hd
    rw [← h1, ← h2]
    exact rowC (f_l_szGroup_ok _ _) h
  · cases h

def f_l_toIntS_F : Fi := { nv := 0, nc := 0, m := 0, vt := [], kl := [(0, ([1, 2, 5, 6, 7, 8, 9, 10, 11, 12, 13, 14, 15, 16, 17, 18, 19, 20, 21], [0, 1, 2, 4, 5, 6, 7, 8, 9, 10, 11, 12, 13, 14, 15, 16, 17, 18, 19, 20, 21], [0, 1, 3, 4, 5, 6, 7, 8, 9, 10, 11, 12, 13, 14, 15, 16, 17, 18, 19, 20, 21]))], sk := [], mvs := [], fz := [] }
def f_l_toIntS_a (a0 : List Sc) : List AV := enc [.p .sl] [.l a0]
def f_l_toIntS_i (a0 : List Sc) : List AV := enc [] []
def f_l_toIntS_en (r : List Sc) : List AV × List AV := (enc [.p (.al 0)] [], enc [.own 3] [.l r])
def f_l_toIntS_M : Calling := noC
theorem f_l_toIntS_Mt : CallOk Try.prog (f_l_toIntS_M) := noC_true
theorem f_l_toIntS_o : loopsOnce Try.f33 = true := by kernel_rfl
def f_l_toIntS_h0 : List Sh := [.p .sl, .u, .u, .own 3, .p (.int .i64), .u, .u, .u, .u, .u, .u, .u, .u, .u, .u, .u, .u, .u, .u, .u, .u, .u]
def f_l_toIntS_fr0 (a0 : List Sc) (s : List Sc × Int) : List AV := enc f_l_toIntS_h0 [.l a0, .l s.1, .i s.2]
def f_l_toIntS_g0_1 : List Sh := [.u, .u, .u, .own 3, .u, .u, .u, .u, .u, .u, .u, .u, .u, .u, .u, .u, .u, .u, .u, .u, .u, .u]
def f_l_toIntS_x0_1 (a0 : List Sc) (e : List Sc) : X × List AV := (.out 0, enc f_l_toIntS_g0_1 [.l e])
def f_l_toIntS_x0_2 (a0 : List Sc) (_e : Unit) : X × List AV := (.ret, [])
theorem f_l_toIntS_p0 {R : Type} (a0 : List Sc) (s : List Sc × Int) (kN : List Sc × Int → Option R) (kA : List Sc → Option R) (kB : Unit → Option R) : f_l_toIntS_k0 a0 s.1 s.2 kN kA = (f_l_toIntS_r0 a0 s).bind (Ro.el kN kA kB) := by
  simp only [f_l_toIntS_k0, f_l_toIntS_r0, brB, someB, noneB, Ro.el]
theorem f_l_toIntS_e0 (a0 : List Sc) (s : List Sc × Int) : EC E0 f_l_toIntS_M H0 f_l_toIntS_F (asL (noL)) 0 (bodyOf Try.f33 0) (f_l_toIntS_fr0 a0 s) (done (klOf f_l_toIntS_F 0)) = f_l_toIntS_k0 a0 s.1 s.2 (fun s => some (.norm, f_l_toIntS_fr0 a0 s)) (fun e => some (f_l_toIntS_x0_1 a0 e)) := by kernel_rfl
theorem f_l_toIntS_l0 (a0 : List Sc) : ∀ s r, loopL (f_l_toIntS_r0 a0) s = some r → LS Try.prog f_l_toIntS_F (bodyOf Try.f33 0) (f_l_toIntS_fr0 a0 s) (enX (f_l_toIntS_x0_1 a0) (f_l_toIntS_x0_2 a0) r) :=
  loop_true E0ok f_l_toIntS_Mt (noL_true) f_l_toIntS_o (fun _ h => by cases h) (fun _ h => by cases h) (fun s => (f_l_toIntS_e0 a0 s).trans (f_l_toIntS_p0 a0 s _ _ (fun e => some (f_l_toIntS_x0_2 a0 e))))
def f_l_toIntS_t0 (σ : List AV) : Option (Bool × Bool × (X × List AV) × (X × List AV)) := match dec f_l_toIntS_h0 σ with
  | some [.l a0, .l out3, .i i4] => some (isOne (loopL (f_l_toIntS_r0 a0) (out3, i4)), true, f_l_toIntS_x0_1 a0 (getOne [] (loopL (f_l_toIntS_r0 a0) (out3, i4))), (.ret, []))
  | _ => none
theorem f_l_toIntS_tt0 : TTrue Try.prog f_l_toIntS_F Try.f33 0 (f_l_toIntS_t0) := by
  intro σ p r r' h
  unfold f_l_toIntS_t0 at h
  split at h
  · rename_i hd
    rw [← dec_enc hd]
    exact row1 (f_l_toIntS_l0 _ _) h
  · cases h
theorem f_l_toIntS_p {R : Type} (a0 : List Sc) (kR : List Sc → Option R) : f_l_toIntS_k a0 kR = (f_l_toIntS_k a0 some).bind kR := by
  simp only [f_l_toIntS_k, brB, bl1B, someB, noneB]
theorem f_l_toIntS_e (a0 : List Sc) : runFn E0 f_l_toIntS_M H0 f_l_toIntS_F (asL (addL 0 (f_l_toIntS_t0) (noL))) Try.f33 (f_l_toIntS_a a0) (f_l_toIntS_i a0) = f_l_toIntS_k a0 (fun r => some (f_l_toIntS_en r)) := by kernel_rfl
theorem f_l_toIntS_ok (a0 : List Sc) (r : List Sc) (h : f_l_toIntS a0 = some r) : CS Try.prog 33 (f_l_toIntS_a a0) (f_l_toIntS_i a0) (f_l_toIntS_en r).1 (f_l_toIntS_en r).2 :=
  fn_true (Gk := fun k => f_l_toIntS_k a0 k) (en := f_l_toIntS_en) Try.func33 E0ok f_l_toIntS_Mt (addL_true (f_l_toIntS_tt0) (noL_true)) f_l_toIntS_o (f_l_toIntS_e a0) (f_l_toIntS_p a0) h
def f_l_toIntS_c : CRow := fun args inh => match dec2 [.p .sl] [] args inh with
  | some ([.l a0], []) => some ((f_l_toIntS a0).isSome, (f_l_toIntS_en ((f_l_toIntS a0).getD [])).1, (f_l_toIntS_en ((f_l_toIntS a0).getD [])).2)
  | _ => none
theorem f_l_toIntS_cc : CTrue Try.prog 33 f_l_toIntS_c := by
  intro args inh rs out h
  unfold f_l_toIntS_c at h
  split at h
  · rename_i hd
    obtain ⟨h1, h2⟩ := dec2_enc hd
    rw [← h1, ← h2]
    exact rowC (f_l_toIntS_ok _) h
  · cases h

def f_l_toGroup_F : Fi := { nv := 2, nc := 2, m := 0, vt := [(2, 0), (3, 1)], kl := [], sk := [], mvs := [], fz := [] }
def f_l_toGroup_a (a0 : List Sc) : List AV := enc [.p .gr] [.l a0]
def f_l_toGroup_i (a0 : List Sc) : List AV := enc [] []
def f_l_toGroup_en (r : List Sc) : List AV × List AV := (enc [.p (.go 0)] [], enc [.own 3] [.l r])
def f_l_toGroup_M : Calling := addC 33 f_l_toIntS_c (noC)
theorem f_l_toGroup_Mt : CallOk Try.prog (f_l_toGroup_M) := addC_true f_l_toIntS_cc (noC_true)
theorem f_l_toGroup_o : loopsOnce Try.f17 = true := by kernel_rfl
theorem f_l_toGroup_p {R : Type} (a0 : List Sc) (kR : List Sc → Option R) : f_l_toGroup_k a0 kR = (f_l_toGroup_k a0 some).bind kR := by
  simp only [f_l_toGroup_k, boB, someB]
theorem f_l_toGroup_e (a0 : List Sc) : runFn E0 f_l_toGroup_M H0 f_l_toGroup_F (asL (noL)) Try.f17 (f_l_toGroup_a a0) (f_l_toGroup_i a0) = f_l_toGroup_k a0 (fun r => some (f_l_toGroup_en r)) := by kernel_rfl
theorem f_l_toGroup_ok (a0 : List Sc) (r : List Sc) (h : f_l_toGroup a0 = some r) : CS Try.prog 17 (f_l_toGroup_a a0) (f_l_toGroup_i a0) (f_l_toGroup_en r).1 (f_l_toGroup_en r).2 :=
  fn_true (Gk := fun k => f_l_toGroup_k a0 k) (en := f_l_toGroup_en) Try.func17 E0ok f_l_toGroup_Mt (noL_true) f_l_toGroup_o (f_l_toGroup_e a0) (f_l_toGroup_p a0) h
def f_l_toGroup_c : CRow := fun args inh => match dec2 [.p .gr] [] args inh with
  | some ([.l a0], []) => some ((f_l_toGroup a0).isSome, (f_l_toGroup_en ((f_l_toGroup a0).getD [])).1, (f_l_toGroup_en ((f_l_toGroup a0).getD [])).2)
  | _ => none
theorem f_l_toGroup_cc : CTrue Try.prog 17 f_l_toGroup_c := by
  intro args inh rs out h
  unfold f_l_toGroup_c at h
  split at h
  · rename_i hd
    obtain ⟨h1, h2⟩ := dec2_enc hd
    rw [← h1, ← h2]
    exact rowC (f_l_toGroup_ok _) h
  · cases h

def f_s_l1In_F : Fi := { nv := 0, nc := 0, m := 0, vt := [], kl := [], sk := [], mvs := [], fz := [] }
def f_s_l1In_a (x0 : Int) (low1 : Int) (high2 : Int) : List AV := enc [.p (.int .i64), .p (.int .i64), .p (.int .i64)] [.i x0, .i low1, .i high2]
def f_s_l1In_i (x0 : Int) (low1 : Int) (high2 : Int) : List AV := enc [] []
def f_s_l1In_en (r : Bool) : List AV × List AV := (enc [.p .boo] [.b r], enc [] [])
def f_s_l1In_M : Calling := noC
theorem f_s_l1In_Mt : CallOk Try.prog (f_s_l1In_M) := noC_true
theorem f_s_l1In_o : loopsOnce Try.f50 = true := by kernel_rfl
theorem f_s_l1In_p {R : Type} (x0 : Int) (low1 : Int) (high2 : Int) (kR : Bool → Option R) : f_s_l1In_k x0 low1 high2 kR = (f_s_l1In_k x0 low1 high2 some).bind kR := by
  simp only [f_s_l1In_k, brB, someB]
theorem f_s_l1In_e (x0 : Int) (low1 : Int) (high2 : Int) : runFn E0 f_s_l1In_M H0 f_s_l1In_F (asL (noL)) Try.f50 (f_s_l1In_a x0 low1 high2) (f_s_l1In_i x0 low1 high2) = f_s_l1In_k x0 low1 high2 (fun r => some (f_s_l1In_en r)) := by kernel_rfl
theorem f_s_l1In_ok (x0 : Int) (low1 : Int) (high2 : Int) (r : Bool) (h : f_s_l1In x0 low1 high2 = some r) : CS Try.prog 50 (f_s_l1In_a x0 low1 high2) (f_s_l1In_i x0 low1 high2) (f_s_l1In_en r).1 (f_s_l1In_en r).2 :=
  fn_true (Gk := fun k => f_s_l1In_k x0 low1 high2 k) (en := f_s_l1In_en) Try.func50 E0ok f_s_l1In_Mt (noL_true) f_s_l1In_o (f_s_l1In_e x0 low1 high2) (f_s_l1In_p x0 low1 high2) h
def f_s_l1In_c : CRow := fun args inh => match dec2 [.p (.int .i64), .p (.int .i64), .p (.int .i64)] [] args inh with
  | some ([.i x0, .i low1, .i high2], []) => some ((f_s_l1In x0 low1 high2).isSome, (f_s_l1In_en ((f_s_l1In x0 low1 high2).getD false)).1, (f_s_l1In_en ((f_s_l1In x0 low1 high2).getD false)).2)
  | _ => none
theorem f_s_l1In_cc : CTrue Try.prog 50 f_s_l1In_c := by
  intro args inh rs out h
  unfold f_s_l1In_c at h
  split at h
  · rename_i hd
    obtain ⟨h1, h2⟩ := dec2_enc hd
    rw [← h1, ← h2]
    exact rowC (f_s_l1In_ok _ _ _) h
  · cases h

def f_s_IsGroup_F : Fi := { nv := 0, nc := 0, m := 0, vt := [], kl := [(0, ([0, 2, 5, 6, 7, 8, 9, 10, 11, 12, 13, 14, 15, 16, 17, 18, 19, 20, 21, 22, 23, 24, 25, 26, 27, 28, 29, 30, 31], [0, 1, 2, 4, 5, 6, 7, 8, 9, 10, 11, 12, 13, 14, 15, 16, 17, 18, 19, 20, 21, 22, 23, 24, 25, 26, 27, 28, 29, 30, 31], [0, 1, 3, 4, 5, 6, 7, 8, 9, 10, 11, 12, 13, 14, 15, 16, 17, 18, 19, 20, 21, 22, 23, 24, 25, 26, 27, 28, 29, 30, 31]))], sk := [], mvs := [], fz := [] }
def f_s_IsGroup_a (g0 : List Sc) : List AV := enc [.p .gr] [.l g0]
def f_s_IsGroup_i (g0 : List Sc) : List AV := enc [] []
def f_s_IsGroup_en (r : Bool) : List AV × List AV := (enc [.p .boo] [.b r], enc [] [])
def f_s_IsGroup_M : Calling := addC 50 f_s_l1In_c (noC)
theorem f_s_IsGroup_Mt : CallOk Try.prog (f_s_IsGroup_M) := addC_true f_s_l1In_cc (noC_true)
theorem f_s_IsGroup_o : loopsOnce Try.f48 = true := by kernel_rfl
def f_s_IsGroup_h0 : List Sh := [.u, .p .el, .u, .p (.int .i64), .p (.int .i64), .u, .u, .u, .u, .u, .u, .u, .u, .u, .u, .u, .u, .u, .u, .u, .u, .u, .u, .u, .u, .u, .u, .u, .u, .u, .u, .u]
def f_s_IsGroup_fr0 (g1 : List Sc) (s : Int × Int) : List AV := enc f_s_IsGroup_h0 [.l g1, .i s.1, .i s.2]
def f_s_IsGroup_g0_1 : List Sh := [.u, .u, .u, .p (.int .i64), .u, .u, .u, .u, .u, .u, .u, .u, .u, .u, .u, .u, .u, .u, .u, .u, .u, .u, .u, .u, .u, .u, .u, .u, .u, .u, .u, .u]
def f_s_IsGroup_x0_1 (g1 : List Sc) (e : Int) : X × List AV := (.out 0, enc f_s_IsGroup_g0_1 [.i e])
def f_s_IsGroup_g0_2 : List Sh := [.u, .u, .p .boo, .u, .u, .u, .u, .u, .u, .u, .u, .u, .u, .u, .u, .u, .u, .u, .u, .u, .u, .u, .u, .u, .u, .u, .u, .u, .u, .u, .u, .u]
def f_s_IsGroup_x0_2 (g1 : List Sc) (e : Unit) : X × List AV := (.ret, enc f_s_IsGroup_g0_2 [.b false])
theorem f_s_IsGroup_p0 {R : Type} (g1 : List Sc) (s : Int × Int) (kN : Int × Int → Option R) (kA : Int → Option R) (kB : Unit → Option R) : f_s_IsGroup_k0 g1 s.1 s.2 kN kA kB = (f_s_IsGroup_r0 g1 s).bind (Ro.el kN kA kB) := by
  simp only [f_s_IsGroup_k0, f_s_IsGroup_r0, brB, boB, someB, noneB, Ro.el]
theorem f_s_IsGroup_e0 (g1 : List Sc) (s : Int × Int) : EC E0 f_s_IsGroup_M H0 f_s_IsGroup_F (asL (noL)) 0 (bodyOf Try.f48 0) (f_s_IsGroup_fr0 g1 s) (done (klOf f_s_IsGroup_F 0)) = f_s_IsGroup_k0 g1 s.1 s.2 (fun s => some (.norm, f_s_IsGroup_fr0 g1 s)) (fun e => some (f_s_IsGroup_x0_1 g1 e)) (fun e => some (f_s_IsGroup_x0_2 g1 e)) := by kernel_rfl
theorem f_s_IsGroup_l0 (g1 : List Sc) : ∀ s r, loopL (f_s_IsGroup_r0 g1) s = some r → LS Try.prog f_s_IsGroup_F (bodyOf Try.f48 0) (f_s_IsGroup_fr0 g1 s) (enX (f_s_IsGroup_x0_1 g1) (f_s_IsGroup_x0_2 g1) r) :=
  loop_true E0ok f_s_IsGroup_Mt (noL_true) f_s_IsGroup_o (fun _ h => by cases h) (fun _ h => by cases h) (fun s => (f_s_IsGroup_e0 g1 s).trans (f_s_IsGroup_p0 g1 s _ _ (fun e => some (f_s_IsGroup_x0_2 g1 e))))
def f_s_IsGroup_t0 (σ : List AV) : Option (Bool × Bool × (X × List AV) × (X × List AV)) := match dec f_s_IsGroup_h0 σ with
  | some [.l g1, .i n3, .i i4] => some ((loopL (f_s_IsGroup_r0 g1) (n3, i4)).isSome, isOne (loopL (f_s_IsGroup_r0 g1) (n3, i4)), f_s_IsGroup_x0_1 g1 (getOne 0 (loopL (f_s_IsGroup_r0 g1) (n3, i4))), f_s_IsGroup_x0_2 g1 (getTwo () (loopL (f_s_IsGroup_r0 g1) (n3, i4))))
  | _ => none
theorem f_s_IsGroup_tt0 : TTrue Try.prog f_s_IsGroup_F Try.f48 0 (f_s_IsGroup_t0) := by
  intro σ p r r' h
  unfold f_s_IsGroup_t0 at h
  split at h
  · rename_i hd
    rw [← dec_enc hd]
    exact row2 (f_s_IsGroup_l0 _ _) h
  · cases h
theorem f_s_IsGroup_p {R : Type} (g0 : List Sc) (kR : Bool → Option R) : f_s_IsGroup_k g0 kR = (f_s_IsGroup_k g0 some).bind kR := by
  simp only [f_s_IsGroup_k, blB, someB]
theorem f_s_IsGroup_e (g0 : List Sc) : runFn E0 f_s_IsGroup_M H0 f_s_IsGroup_F (asL (addL 0 (f_s_IsGroup_t0) (noL))) Try.f48 (f_s_IsGroup_a g0) (f_s_IsGroup_i g0) = f_s_IsGroup_k g0 (fun r => some (f_s_IsGroup_en r)) := by kernel_rfl
theorem f_s_IsGroup_ok (g0 : List Sc) (r : Bool) (h : f_s_IsGroup g0 = some r) : CS Try.prog 48 (f_s_IsGroup_a g0) (f_s_IsGroup_i g0) (f_s_IsGroup_en r).1 (f_s_IsGroup_en r).2 :=
  fn_true (Gk := fun k => f_s_IsGroup_k g0 k) (en := f_s_IsGroup_en) Try.func48 E0ok f_s_IsGroup_Mt (addL_true (f_s_IsGroup_tt0) (noL_true)) f_s_IsGroup_o (f_s_IsGroup_e g0) (f_s_IsGroup_p g0) h
def f_s_IsGroup_c : CRow := fun args inh => match dec2 [.p .gr] [] args inh with
  | some ([.l g0], []) => some ((f_s_IsGroup g0).isSome, (f_s_IsGroup_en ((f_s_IsGroup g0).getD false)).1, (f_s_IsGroup_en ((f_s_IsGroup g0).getD false)).2)
  | _ => none
theorem f_s_IsGroup_cc : CTrue Try.prog 48 f_s_IsGroup_c := by
  intro args inh rs out h
  unfold f_s_IsGroup_c at h
  split at h
  · rename_i hd
    obtain ⟨h1, h2⟩ := dec2_enc hd
    rw [← h1, ← h2]
    exact rowC (f_s_IsGroup_ok _) h
  · cases h

def f_s_l2Order_F : Fi := { nv := 0, nc := 0, m := 0, vt := [], kl := [(0, ([0, 2, 5, 6, 7, 8, 9, 10, 11, 12, 13, 14, 15, 16, 17, 18, 19], [0, 1, 2, 4, 5, 6, 7, 8, 9, 10, 11, 12, 13, 14, 15, 16, 17, 18, 19], [0, 1, 3, 4, 5, 6, 7, 8, 9, 10, 11, 12, 13, 14, 15, 16, 17, 18, 19]))], sk := [], mvs := [], fz := [] }
def f_s_l2Order_a (g0 : List Sc) : List AV := enc [.p .gr] [.l g0]
def f_s_l2Order_i (g0 : List Sc) : List AV := enc [] []
def f_s_l2Order_en (r : Int) : List AV × List AV := (enc [.p (.int .i64)] [.i r], enc [] [])
def f_s_l2Order_M : Calling := noC
theorem f_s_l2Order_Mt : CallOk Try.prog (f_s_l2Order_M) := noC_true
theorem f_s_l2Order_o : loopsOnce Try.f49 = true := by kernel_rfl
def f_s_l2Order_h0 : List Sh := [.u, .p .el, .u, .p (.int .i64), .p (.int .i64), .u, .u, .u, .u, .u, .u, .u, .u, .u, .u, .u, .u, .u, .u, .u]
def f_s_l2Order_fr0 (g1 : List Sc) (s : Int × Int) : List AV := enc f_s_l2Order_h0 [.l g1, .i s.1, .i s.2]
def f_s_l2Order_g0_1 : List Sh := [.u, .u, .u, .p (.int .i64), .u, .u, .u, .u, .u, .u, .u, .u, .u, .u, .u, .u, .u, .u, .u, .u]
def f_s_l2Order_x0_1 (g1 : List Sc) (e : Int) : X × List AV := (.out 0, enc f_s_l2Order_g0_1 [.i e])
def f_s_l2Order_x0_2 (g1 : List Sc) (_e : Unit) : X × List AV := (.ret, [])
theorem f_s_l2Order_p0 {R : Type} (g1 : List Sc) (s : Int × Int) (kN : Int × Int → Option R) (kA : Int → Option R) (kB : Unit → Option R) : f_s_l2Order_k0 g1 s.1 s.2 kN kA = (f_s_l2Order_r0 g1 s).bind (Ro.el kN kA kB) := by
  simp only [f_s_l2Order_k0, f_s_l2Order_r0, brB, someB, noneB, Ro.el]
theorem f_s_l2Order_e0 (g1 : List Sc) (s : Int × Int) : EC E0 f_s_l2Order_M H0 f_s_l2Order_F (asL (noL)) 0 (bodyOf Try.f49 0) (f_s_l2Order_fr0 g1 s) (done (klOf f_s_l2Order_F 0)) = f_s_l2Order_k0 g1 s.1 s.2 (fun s => some (.norm, f_s_l2Order_fr0 g1 s)) (fun e => some (f_s_l2Order_x0_1 g1 e)) := by kernel_rfl
theorem f_s_l2Order_l0 (g1 : List Sc) : ∀ s r, loopL (f_s_l2Order_r0 g1) s = some r → LS Try.prog f_s_l2Order_F (bodyOf Try.f49 0) (f_s_l2Order_fr0 g1 s) (enX (f_s_l2Order_x0_1 g1) (f_s_l2Order_x0_2 g1) r) :=
  loop_true E0ok f_s_l2Order_Mt (noL_true) f_s_l2Order_o (fun _ h => by cases h) (fun _ h => by cases h) (fun s => (f_s_l2Order_e0 g1 s).trans (f_s_l2Order_p0 g1 s _ _ (fun e => some (f_s_l2Order_x0_2 g1 e))))
def f_s_l2Order_t0 (σ : List AV) : Option (Bool × Bool × (X × List AV) × (X × List AV)) := match dec f_s_l2Order_h0 σ with
  | some [.l g1, .i n3, .i i4] => some (isOne (loopL (f_s_l2Order_r0 g1) (n3, i4)), true, f_s_l2Order_x0_1 g1 (getOne 0 (loopL (f_s_l2Order_r0 g1) (n3, i4))), (.ret, []))
  | _ => none
theorem f_s_l2Order_tt0 : TTrue Try.prog f_s_l2Order_F Try.f49 0 (f_s_l2Order_t0) := by
  intro σ p r r' h
  unfold f_s_l2Order_t0 at h
  split at h
  · rename_i hd
    rw [← dec_enc hd]
    exact row1 (f_s_l2Order_l0 _ _) h
  · cases h
theorem f_s_l2Order_p {R : Type} (g0 : List Sc) (kR : Int → Option R) : f_s_l2Order_k g0 kR = (f_s_l2Order_k g0 some).bind kR := by
  simp only [f_s_l2Order_k, bl1B, someB]
theorem f_s_l2Order_e (g0 : List Sc) : runFn E0 f_s_l2Order_M H0 f_s_l2Order_F (asL (addL 0 (f_s_l2Order_t0) (noL))) Try.f49 (f_s_l2Order_a g0) (f_s_l2Order_i g0) = f_s_l2Order_k g0 (fun r => some (f_s_l2Order_en r)) := by kernel_rfl
theorem f_s_l2Order_ok (g0 : List Sc) (r : Int) (h : f_s_l2Order g0 = some r) : CS Try.prog 49 (f_s_l2Order_a g0) (f_s_l2Order_i g0) (f_s_l2Order_en r).1 (f_s_l2Order_en r).2 :=
  fn_true (Gk := fun k => f_s_l2Order_k g0 k) (en := f_s_l2Order_en) Try.func49 E0ok f_s_l2Order_Mt (addL_true (f_s_l2Order_tt0) (noL_true)) f_s_l2Order_o (f_s_l2Order_e g0) (f_s_l2Order_p g0) h
def f_s_l2Order_c : CRow := fun args inh => match dec2 [.p .gr] [] args inh with
  | some ([.l g0], []) => some ((f_s_l2Order g0).isSome, (f_s_l2Order_en ((f_s_l2Order g0).getD 0)).1, (f_s_l2Order_en ((f_s_l2Order g0).getD 0)).2)
  | _ => none
theorem f_s_l2Order_cc : CTrue Try.prog 49 f_s_l2Order_c := by
  intro args inh rs out h
  unfold f_s_l2Order_c at h
  split at h
  · rename_i hd
    obtain ⟨h1, h2⟩ := dec2_enc hd
    rw [← h1, ← h2]
    exact rowC (f_s_l2Order_ok _) h
  · cases h

def f_s_l3List_F : Fi := { nv := 0, nc := 0, m := 0, vt := [], kl := [(0, ([0, 1, 2, 6, 7, 8, 9, 10, 11, 12, 13, 14, 15, 16, 17, 18, 19, 20, 21], [0, 1, 2, 4, 5, 6, 7, 8, 9, 10, 11, 12, 13, 14, 15, 16, 17, 18, 19, 20, 21], [0, 1, 3, 4, 5, 6, 7, 8, 9, 10, 11, 12, 13, 14, 15, 16, 17, 18, 19, 20, 21]))], sk := [], mvs := [], fz := [] }
def f_s_l3List_a (a0 : Int) : List AV := enc [.p (.int .i64)] [.i a0]
def f_s_l3List_i (a0 : Int) : List AV := enc [] []
def f_s_l3List_en (r : List Sc) : List AV × List AV := (enc [.p (.al 0)] [], enc [.own 3] [.l r])
def f_s_l3List_M : Calling := noC
theorem f_s_l3List_Mt : CallOk Try.prog (f_s_l3List_M) := noC_true
theorem f_s_l3List_o : loopsOnce Try.f62 = true := by kernel_rfl
def f_s_l3List_h0 : List Sh := [.u, .u, .u, .own 3, .p (.int .i64), .p (.int .i64), .u, .u, .u, .u, .u, .u, .u, .u, .u, .u, .u, .u, .u, .u, .u, .u]
def f_s_l3List_fr0 (s : List Sc × Int × Int) : List AV := enc f_s_l3List_h0 [.l s.1, .i s.2.1, .i s.2.2]
def f_s_l3List_g0_1 : List Sh := [.u, .u, .u, .own 3, .u, .u, .u, .u, .u, .u, .u, .u, .u, .u, .u, .u, .u, .u, .u, .u, .u, .u]
def f_s_l3List_x0_1 (e : List Sc) : X × List AV := (.out 0, enc f_s_l3List_g0_1 [.l e])
def f_s_l3List_x0_2 (_e : Unit) : X × List AV := (.ret, [])
theorem f_s_l3List_p0 {R : Type} (s : List Sc × Int × Int) (kN : List Sc × Int × Int → Option R) (kA : List Sc → Option R) (kB : Unit → Option R) : f_s_l3List_k0 s.1 s.2.1 s.2.2 kN kA = (f_s_l3List_r0 s).bind (Ro.el kN kA kB) := by
  simp only [f_s_l3List_k0, f_s_l3List_r0, brB, someB, noneB, Ro.el]
theorem f_s_l3List_e0 (s : List Sc × Int × Int) : EC E0 f_s_l3List_M H0 f_s_l3List_F (asL (noL)) 0 (bodyOf Try.f62 0) (f_s_l3List_fr0 s) (done (klOf f_s_l3List_F 0)) = f_s_l3List_k0 s.1 s.2.1 s.2.2 (fun s => some (.norm, f_s_l3List_fr0 s)) (fun e => some (f_s_l3List_x0_1 e)) := by kernel_rfl
theorem f_s_l3List_l0 : ∀ s r, loopL (f_s_l3List_r0) s = some r → LS Try.prog f_s_l3List_F (bodyOf Try.f62 0) (f_s_l3List_fr0 s) (enX (f_s_l3List_x0_1) (f_s_l3List_x0_2) r) :=
  loop_true E0ok f_s_l3List_Mt (noL_true) f_s_l3List_o (fun _ h => by cases h) (fun _ h => by cases h) (fun s => (f_s_l3List_e0 s).trans (f_s_l3List_p0 s _ _ (fun e => some (f_s_l3List_x0_2 e))))
def f_s_l3List_t0 (σ : List AV) : Option (Bool × Bool × (X × List AV) × (X × List AV)) := match dec f_s_l3List_h0 σ with
  | some [.l out3, .i i4, .i x5] => some (isOne (loopL (f_s_l3List_r0) (out3, i4, x5)), true, f_s_l3List_x0_1 (getOne [] (loopL (f_s_l3List_r0) (out3, i4, x5))), (.ret, []))
  | _ => none
theorem f_s_l3List_tt0 : TTrue Try.prog f_s_l3List_F Try.f62 0 (f_s_l3List_t0) := by
  intro σ p r r' h
  unfold f_s_l3List_t0 at h
  split at h
  · rename_i hd
    rw [← dec_enc hd]
    exact row1 (f_s_l3List_l0 _) h
  · cases h
theorem f_s_l3List_p {R : Type} (a0 : Int) (kR : List Sc → Option R) : f_s_l3List_k a0 kR = (f_s_l3List_k a0 some).bind kR := by
  simp only [f_s_l3List_k, bl1B, someB]
theorem f_s_l3List_e (a0 : Int) : runFn E0 f_s_l3List_M H0 f_s_l3List_F (asL (addL 0 (f_s_l3List_t0) (noL))) Try.f62 (f_s_l3List_a a0) (f_s_l3List_i a0) = f_s_l3List_k a0 (fun r => some (f_s_l3List_en r)) := by kernel_rfl
theorem f_s_l3List_ok (a0 : Int) (r : List Sc) (h : f_s_l3List a0 = some r) : CS Try.prog 62 (f_s_l3List_a a0) (f_s_l3List_i a0) (f_s_l3List_en r).1 (f_s_l3List_en r).2 :=
  fn_true (Gk := fun k => f_s_l3List_k a0 k) (en := f_s_l3List_en) Try.func62 E0ok f_s_l3List_Mt (addL_true (f_s_l3List_tt0) (noL_true)) f_s_l3List_o (f_s_l3List_e a0) (f_s_l3List_p a0) h
def f_s_l3List_c : CRow := fun args inh => match dec2 [.p (.int .i64)] [] args inh with
  | some ([.i a0], []) => some ((f_s_l3List a0).isSome, (f_s_l3List_en ((f_s_l3List a0).getD [])).1, (f_s_l3List_en ((f_s_l3List a0).getD [])).2)
  | _ => none
theorem f_s_l3List_cc : CTrue Try.prog 62 f_s_l3List_c := by
  intro args inh rs out h
  unfold f_s_l3List_c at h
  split at h
  · rename_i hd
    obtain ⟨h1, h2⟩ := dec2_enc hd
    rw [← h1, ← h2]
    exact rowC (f_s_l3List_ok _) h
  · cases h

def f_s_l2Add_F : Fi := { nv := 0, nc := 0, m := 0, vt := [], kl := [(0, ([0, 4, 5, 6, 10, 11, 12, 13, 14, 15, 16, 17, 18, 19, 20, 21, 22, 23, 24, 25, 26, 27, 28, 29, 30, 31, 32, 33, 34, 35, 36, 37, 38, 39, 40, 41, 42, 43, 44, 45], [0, 1, 2, 3, 4, 5, 6, 8, 9, 10, 11, 12, 13, 14, 15, 16, 17, 18, 19, 20, 21, 22, 23, 24, 25, 26, 27, 28, 29, 30, 31, 32, 33, 34, 35, 36, 37, 38, 39, 40, 41, 42, 43, 44, 45], [0, 1, 2, 3, 4, 5, 7, 8, 9, 10, 11, 12, 13, 14, 15, 16, 17, 18, 19, 20, 21, 22, 23, 24, 25, 26, 27, 28, 29, 30, 31, 32, 33, 34, 35, 36, 37, 38, 39, 40, 41, 42, 43, 44, 45]))], sk := [], mvs := [], fz := [] }
def f_s_l2Add_a (g0 : List Sc) (x1 : Int) (y2 : Int) : List AV := enc [.p .gr, .p (.int .i64), .p (.int .i64)] [.l g0, .i x1, .i y2]
def f_s_l2Add_i (g0 : List Sc) (x1 : Int) (y2 : Int) : List AV := enc [] []
def f_s_l2Add_en (r : Int) : List AV × List AV := (enc [.p (.int .i64)] [.i r], enc [] [])
def f_s_l2Add_M : Calling := noC
theorem f_s_l2Add_Mt : CallOk Try.prog (f_s_l2Add_M) := noC_true
theorem f_s_l2Add_o : loopsOnce Try.f71 = true := by kernel_rfl
def f_s_l2Add_h0 : List Sh := [.u, .p (.int .i64), .p (.int .i64), .p .el, .u, .u, .u, .p (.int .i64), .p (.int .i64), .p (.int .i64), .u, .u, .u, .u, .u, .u, .u, .u, .u, .u, .u, .u, .u, .u, .u, .u, .u, .u, .u, .u, .u, .u, .u, .u, .u, .u, .u, .u, .u, .u, .u, .u, .u, .u, .u, .u]
def f_s_l2Add_fr0 (g3 : List Sc) (s : Int × Int × Int × Int × Int) : List AV := enc f_s_l2Add_h0 [.i s.1, .i s.2.1, .l g3, .i s.2.2.1, .i s.2.2.2.1, .i s.2.2.2.2]
def f_s_l2Add_g0_1 : List Sh := [.u, .u, .u, .u, .u, .u, .u, .p (.int .i64), .u, .u, .u, .u, .u, .u, .u, .u, .u, .u, .u, .u, .u, .u, .u, .u, .u, .u, .u, .u, .u, .u, .u, .u, .u, .u, .u, .u, .u, .u, .u, .u, .u, .u, .u, .u, .u, .u]
def f_s_l2Add_x0_1 (g3 : List Sc) (e : Int) : X × List AV := (.out 0, enc f_s_l2Add_g0_1 [.i e])
def f_s_l2Add_x0_2 (g3 : List Sc) (_e : Unit) : X × List AV := (.ret, [])
theorem f_s_l2Add_p0 {R : Type} (g3 : List Sc) (s : Int × Int × Int × Int × Int) (kN : Int × Int × Int × Int × Int → Option R) (kA : Int → Option R) (kB : Unit → Option R) : f_s_l2Add_k0 g3 s.1 s.2.1 s.2.2.1 s.2.2.2.1 s.2.2.2.2 kN kA = (f_s_l2Add_r0 g3 s).bind (Ro.el kN kA kB) := by
  simp only [f_s_l2Add_k0, f_s_l2Add_r0, brB, someB, noneB, Ro.el]
theorem f_s_l2Add_e0 (g3 : List Sc) (s : Int × Int × Int × Int × Int) : EC E0 f_s_l2Add_M H0 f_s_l2Add_F (asL (noL)) 0 (bodyOf Try.f71 0) (f_s_l2Add_fr0 g3 s) (done (klOf f_s_l2Add_F 0)) = f_s_l2Add_k0 g3 s.1 s.2.1 s.2.2.1 s.2.2.2.1 s.2.2.2.2 (fun s => some (.norm, f_s_l2Add_fr0 g3 s)) (fun e => some (f_s_l2Add_x0_1 g3 e)) := by kernel_rfl
theorem f_s_l2Add_l0 (g3 : List Sc) : ∀ s r, loopL (f_s_l2Add_r0 g3) s = some r → LS Try.prog f_s_l2Add_F (bodyOf Try.f71 0) (f_s_l2Add_fr0 g3 s) (enX (f_s_l2Add_x0_1 g3) (f_s_l2Add_x0_2 g3) r) :=
  loop_true E0ok f_s_l2Add_Mt (noL_true) f_s_l2Add_o (fun _ h => by cases h) (fun _ h => by cases h) (fun s => (f_s_l2Add_e0 g3 s).trans (f_s_l2Add_p0 g3 s _ _ (fun e => some (f_s_l2Add_x0_2 g3 e))))
def f_s_l2Add_t0 (σ : List AV) : Option (Bool × Bool × (X × List AV) × (X × List AV)) := match dec f_s_l2Add_h0 σ with
  | some [.i x1, .i y2, .l g3, .i z7, .i step8, .i i9] => some (isOne (loopL (f_s_l2Add_r0 g3) (x1, y2, z7, step8, i9)), true, f_s_l2Add_x0_1 g3 (getOne 0 (loopL (f_s_l2Add_r0 g3) (x1, y2, z7, step8, i9))), (.ret, []))
  | _ => none
theorem f_s_l2Add_tt0 : TTrue Try.prog f_s_l2Add_F Try.f71 0 (f_s_l2Add_t0) := by
  intro σ p r r' h
  unfold f_s_l2Add_t0 at h
  split at h
  · rename_i hd
    rw [← dec_enc hd]
    exact row1 (f_s_l2Add_l0 _ _) h
  · cases h
theorem f_s_l2Add_p {R : Type} (g0 : List Sc) (x1 : Int) (y2 : Int) (kR : Int → Option R) : f_s_l2Add_k g0 x1 y2 kR = (f_s_l2Add_k g0 x1 y2 some).bind kR := by
  simp only [f_s_l2Add_k, bl1B, someB]
theorem f_s_l2Add_e (g0 : List Sc) (x1 : Int) (y2 : Int) : runFn E0 f_s_l2Add_M H0 f_s_l2Add_F (asL (addL 0 (f_s_l2Add_t0) (noL))) Try.f71 (f_s_l2Add_a g0 x1 y2) (f_s_l2Add_i g0 x1 y2) = f_s_l2Add_k g0 x1 y2 (fun r => some (f_s_l2Add_en r)) := by kernel_rfl
theorem f_s_l2Add_ok (g0 : List Sc) (x1 : Int) (y2 : Int) (r : Int) (h : f_s_l2Add g0 x1 y2 = some r) : CS Try.prog 71 (f_s_l2Add_a g0 x1 y2) (f_s_l2Add_i g0 x1 y2) (f_s_l2Add_en r).1 (f_s_l2Add_en r).2 :=
  fn_true (Gk := fun k => f_s_l2Add_k g0 x1 y2 k) (en := f_s_l2Add_en) Try.func71 E0ok f_s_l2Add_Mt (addL_true (f_s_l2Add_tt0) (noL_true)) f_s_l2Add_o (f_s_l2Add_e g0 x1 y2) (f_s_l2Add_p g0 x1 y2) h
def f_s_l2Add_c : CRow := fun args inh => match dec2 [.p .gr, .p (.int .i64), .p (.int .i64)] [] args inh with
  | some ([.l g0, .i x1, .i y2], []) => some ((f_s_l2Add g0 x1 y2).isSome, (f_s_l2Add_en ((f_s_l2Add g0 x1 y2).getD 0)).1, (f_s_l2Add_en ((f_s_l2Add g0 x1 y2).getD 0)).2)
  | _ => none
theorem f_s_l2Add_cc : CTrue Try.prog 71 f_s_l2Add_c := by
  intro args inh rs out h
  unfold f_s_l2Add_c at h
  split at h
  · rename_i hd
    obtain ⟨h1, h2⟩ := dec2_enc hd
    rw [← h1, ← h2]
    exact rowC (f_s_l2Add_ok _ _ _) h
  · cases h

def f_s_l3Shift_F : Fi := { nv := 0, nc := 0, m := 0, vt := [], kl := [(0, ([0, 1, 4, 5, 6, 10, 11, 12, 13, 14, 15, 16, 17, 18, 19, 20, 21, 22, 23, 24, 25, 26, 27, 28], [0, 1, 2, 3, 4, 5, 6, 8, 9, 10, 11, 12, 13, 14, 15, 16, 17, 18, 19, 20, 21, 22, 23, 24, 25, 26, 27, 28], [0, 1, 2, 3, 4, 5, 7, 8, 9, 10, 11, 12, 13, 14, 15, 16, 17, 18, 19, 20, 21, 22, 23, 24, 25, 26, 27, 28]))], sk := [], mvs := [], fz := [] }
def f_s_l3Shift_a (g0 : List Sc) (a1 : Int) (x2 : Int) : List AV := enc [.p .gr, .p (.int .i64), .p (.int .i64)] [.l g0, .i a1, .i x2]
def f_s_l3Shift_i (g0 : List Sc) (a1 : Int) (x2 : Int) : List AV := enc [] []
def f_s_l3Shift_en (r : Int) : List AV × List AV := (enc [.p (.int .i64)] [.i r], enc [] [])
def f_s_l3Shift_M : Calling := addC 62 f_s_l3List_c (addC 71 f_s_l2Add_c (noC))
theorem f_s_l3Shift_Mt : CallOk Try.prog (f_s_l3Shift_M) := addC_true f_s_l3List_cc (addC_true f_s_l2Add_cc (noC_true))
theorem f_s_l3Shift_o : loopsOnce Try.f90 = true := by kernel_rfl
def f_s_l3Shift_h0 : List Sh := [.u, .u, .p (.int .i64), .p .el, .u, .u, .u, .p (.int .i64), .own 3, .p (.int .i64), .u, .u, .u, .u, .u, .u, .u, .u, .u, .u, .u, .u, .u, .u, .u, .u, .u, .u, .u]
def f_s_l3Shift_fr0 (x2 : Int) (g3 : List Sc) (s : Int × List Sc × Int) : List AV := enc f_s_l3Shift_h0 [.i x2, .l g3, .i s.1, .l s.2.1, .i s.2.2]
def f_s_l3Shift_g0_1 : List Sh := [.u, .u, .u, .u, .u, .u, .u, .p (.int .i64), .u, .u, .u, .u, .u, .u, .u, .u, .u, .u, .u, .u, .u, .u, .u, .u, .u, .u, .u, .u, .u]
def f_s_l3Shift_x0_1 (x2 : Int) (g3 : List Sc) (e : Int) : X × List AV := (.out 0, enc f_s_l3Shift_g0_1 [.i e])
def f_s_l3Shift_x0_2 (x2 : Int) (g3 : List Sc) (_e : Unit) : X × List AV := (.ret, [])
theorem f_s_l3Shift_p0 {R : Type} (x2 : Int) (g3 : List Sc) (s : Int × List Sc × Int) (kN : Int × List Sc × Int → Option R) (kA : Int → Option R) (kB : Unit → Option R) : f_s_l3Shift_k0 x2 g3 s.1 s.2.1 s.2.2 kN kA = (f_s_l3Shift_r0 x2 g3 s).bind (Ro.el kN kA kB) := by
  simp only [f_s_l3Shift_k0, f_s_l3Shift_r0, brB, boB, someB, noneB, Ro.el]
theorem f_s_l3Shift_e0 (x2 : Int) (g3 : List Sc) (s : Int × List Sc × Int) : EC E0 f_s_l3Shift_M H0 f_s_l3Shift_F (asL (noL)) 0 (bodyOf Try.f90 0) (f_s_l3Shift_fr0 x2 g3 s) (done (klOf f_s_l3Shift_F 0)) = f_s_l3Shift_k0 x2 g3 s.1 s.2.1 s.2.2 (fun s => some (.norm, f_s_l3Shift_fr0 x2 g3 s)) (fun e => some (f_s_l3Shift_x0_1 x2 g3 e)) := by kernel_rfl
theorem f_s_l3Shift_l0 (x2 : Int) (g3 : List Sc) : ∀ s r, loopL (f_s_l3Shift_r0 x2 g3) s = some r → LS Try.prog f_s_l3Shift_F (bodyOf Try.f90 0) (f_s_l3Shift_fr0 x2 g3 s) (enX (f_s_l3Shift_x0_1 x2 g3) (f_s_l3Shift_x0_2 x2 g3) r) :=
  loop_true E0ok f_s_l3Shift_Mt (noL_true) f_s_l3Shift_o (fun _ h => by cases h) (fun _ h => by cases h) (fun s => (f_s_l3Shift_e0 x2 g3 s).trans (f_s_l3Shift_p0 x2 g3 s _ _ (fun e => some (f_s_l3Shift_x0_2 x2 g3 e))))
def f_s_l3Shift_t0 (σ : List AV) : Option (Bool × Bool × (X × List AV) × (X × List AV)) := match dec f_s_l3Shift_h0 σ with
  | some [.i x2, .l g3, .i out7, .l l8, .i i9] => some (isOne (loopL (f_s_l3Shift_r0 x2 g3) (out7, l8, i9)), true, f_s_l3Shift_x0_1 x2 g3 (getOne 0 (loopL (f_s_l3Shift_r0 x2 g3) (out7, l8, i9))), (.ret, []))
  | _ => none
theorem f_s_l3Shift_tt0 : TTrue Try.prog f_s_l3Shift_F Try.f90 0 (f_s_l3Shift_t0) := by
  intro σ p r r' h
  unfold f_s_l3Shift_t0 at h
  split at h
  · rename_i hd
    rw [← dec_enc hd]
    exact row1 (f_s_l3Shift_l0 _ _ _) h
  · cases h
theorem f_s_l3Shift_p {R : Type} (g0 : List Sc) (a1 : Int) (x2 : Int) (kR : Int → Option R) : f_s_l3Shift_k g0 a1 x2 kR = (f_s_l3Shift_k g0 a1 x2 some).bind kR := by
  simp only [f_s_l3Shift_k, boB, bl1B, someB]
theorem f_s_l3Shift_e (g0 : List Sc) (a1 : Int) (x2 : Int) : runFn E0 f_s_l3Shift_M H0 f_s_l3Shift_F (asL (addL 0 (f_s_l3Shift_t0) (noL))) Try.f90 (f_s_l3Shift_a g0 a1 x2) (f_s_l3Shift_i g0 a1 x2) = f_s_l3Shift_k g0 a1 x2 (fun r => some (f_s_l3Shift_en r)) := by kernel_rfl
theorem f_s_l3Shift_ok (g0 : List Sc) (a1 : Int) (x2 : Int) (r : Int) (h : f_s_l3Shift g0 a1 x2 = some r) : CS Try.prog 90 (f_s_l3Shift_a g0 a1 x2) (f_s_l3Shift_i g0 a1 x2) (f_s_l3Shift_en r).1 (f_s_l3Shift_en r).2 :=
  fn_true (Gk := fun k => f_s_l3Shift_k g0 a1 x2 k) (en := f_s_l3Shift_en) Try.func90 E0ok f_s_l3Shift_Mt (addL_true (f_s_l3Shift_tt0) (noL_true)) f_s_l3Shift_o (f_s_l3Shift_e g0 a1 x2) (f_s_l3Shift_p g0 a1 x2) h
def f_s_l3Shift_c : CRow := fun args inh => match dec2 [.p .gr, .p (.int .i64), .p (.int .i64)] [] args inh with
  | some ([.l g0, .i a1, .i x2], []) => some ((f_s_l3Shift g0 a1 x2).isSome, (f_s_l3Shift_en ((f_s_l3Shift g0 a1 x2).getD 0)).1, (f_s_l3Shift_en ((f_s_l3Shift g0 a1 x2).getD 0)).2)
  | _ => none
theorem f_s_l3Shift_cc : CTrue Try.prog 90 f_s_l3Shift_c := by
  intro args inh rs out h
  unfold f_s_l3Shift_c at h
  split at h
  · rename_i hd
    obtain ⟨h1, h2⟩ := dec2_enc hd
    rw [← h1, ← h2]
    exact rowC (f_s_l3Shift_ok _ _ _) h
  · cases h

def f_s_l17Count_F : Fi := { nv := 0, nc := 0, m := 0, vt := [], kl := [(0, ([0, 3, 5, 6, 7, 8, 11, 12, 13, 14, 15, 16, 17, 18, 19, 20, 21, 22, 23, 24, 25, 26, 27, 28, 29, 30, 31, 32, 33, 34, 35, 36, 37, 38, 39, 40, 41], [0, 1, 2, 3, 4, 5, 6, 7, 8, 10, 11, 12, 13, 14, 15, 16, 17, 18, 19, 20, 21, 22, 23, 24, 25, 26, 27, 28, 29, 30, 31, 32, 33, 34, 35, 36, 37, 38, 39, 40, 41], [0, 1, 2, 3, 4, 5, 6, 7, 9, 10, 11, 12, 13, 14, 15, 16, 17, 18, 19, 20, 21, 22, 23, 24, 25, 26, 27, 28, 29, 30, 31, 32, 33, 34, 35, 36, 37, 38, 39, 40, 41]))], sk := [], mvs := [], fz := [] }
def f_s_l17Count_a (g0 : List Sc) (left1 : Int) (sums2 : Int) (least3 : Int) : List AV := enc [.p .gr, .p (.int .i64), .p (.int .i64), .p (.int .i64)] [.l g0, .i left1, .i sums2, .i least3]
def f_s_l17Count_i (g0 : List Sc) (left1 : Int) (sums2 : Int) (least3 : Int) : List AV := enc [] []
def f_s_l17Count_en (r : Int) : List AV × List AV := (enc [.p (.int .i64)] [.i r], enc [] [])
def f_s_l17Count_cs (self : (List Sc × Int × Int × Int) → Option (Int)) : CRow := fun args inh => match dec2 [.p .gr, .p (.int .i64), .p (.int .i64), .p (.int .i64)] [] args inh with
  | some ([.l g0, .i left1, .i sums2, .i least3], []) => some ((self (g0, left1, sums2, least3)).isSome, (f_s_l17Count_en ((self (g0, left1, sums2, least3)).getD 0)).1, (f_s_l17Count_en ((self (g0, left1, sums2, least3)).getD 0)).2)
  | _ => none
theorem f_s_l17Count_cst (self : (List Sc × Int × Int × Int) → Option (Int)) (hs : ∀ a r, self a = some r → CS Try.prog 51 (f_s_l17Count_a a.1 a.2.1 a.2.2.1 a.2.2.2) (f_s_l17Count_i a.1 a.2.1 a.2.2.1 a.2.2.2) (f_s_l17Count_en r).1 (f_s_l17Count_en r).2) : CTrue Try.prog 51 (f_s_l17Count_cs self) := by
  intro args inh rs out h
  unfold f_s_l17Count_cs at h
  split at h
  · rename_i hd
    obtain ⟨h1, h2⟩ := dec2_enc hd
    rw [← h1, ← h2]
    exact rowC (hs _) h
  · cases h
def f_s_l17Count_M (self : (List Sc × Int × Int × Int) → Option (Int)) : Calling := addC 51 (f_s_l17Count_cs self) (addC 49 f_s_l2Order_c (addC 90 f_s_l3Shift_c (noC)))
theorem f_s_l17Count_Mt (self : (List Sc × Int × Int × Int) → Option (Int)) (hs : ∀ a r, self a = some r → CS Try.prog 51 (f_s_l17Count_a a.1 a.2.1 a.2.2.1 a.2.2.2) (f_s_l17Count_i a.1 a.2.1 a.2.2.1 a.2.2.2) (f_s_l17Count_en r).1 (f_s_l17Count_en r).2) : CallOk Try.prog (f_s_l17Count_M self) := addC_true (f_s_l17Count_cst self hs) (addC_true f_s_l2Order_cc (addC_true f_s_l3Shift_cc (noC_true)))
theorem f_s_l17Count_o : loopsOnce Try.f51 = true := by kernel_rfl
def f_s_l17Count_h0 : List Sh := [.u, .p (.int .i64), .p (.int .i64), .u, .p .el, .u, .u, .u, .u, .p (.int .i64), .p (.int .i64), .u, .u, .u, .u, .u, .u, .u, .u, .u, .u, .u, .u, .u, .u, .u, .u, .u, .u, .u, .u, .u, .u, .u, .u, .u, .u, .u, .u, .u, .u, .u]
def f_s_l17Count_fr0 (self : (List Sc × Int × Int × Int) → Option (Int)) (left1 : Int) (sums2 : Int) (g4 : List Sc) (s : Int × Int) : List AV := enc f_s_l17Count_h0 [.i left1, .i sums2, .l g4, .i s.1, .i s.2]
def f_s_l17Count_g0_1 : List Sh := [.u, .u, .u, .u, .u, .u, .u, .u, .u, .p (.int .i64), .u, .u, .u, .u, .u, .u, .u, .u, .u, .u, .u, .u, .u, .u, .u, .u, .u, .u, .u, .u, .u, .u, .u, .u, .u, .u, .u, .u, .u, .u, .u, .u]
def f_s_l17Count_x0_1 (self : (List Sc × Int × Int × Int) → Option (Int)) (left1 : Int) (sums2 : Int) (g4 : List Sc) (e : Int) : X × List AV := (.out 0, enc f_s_l17Count_g0_1 [.i e])
def f_s_l17Count_x0_2 (self : (List Sc × Int × Int × Int) → Option (Int)) (left1 : Int) (sums2 : Int) (g4 : List Sc) (_e : Unit) : X × List AV := (.ret, [])
theorem f_s_l17Count_p0 {R : Type} (self : (List Sc × Int × Int × Int) → Option (Int)) (left1 : Int) (sums2 : Int) (g4 : List Sc) (s : Int × Int) (kN : Int × Int → Option R) (kA : Int → Option R) (kB : Unit → Option R) : f_s_l17Count_k0 self left1 sums2 g4 s.1 s.2 kN kA = (f_s_l17Count_r0 self left1 sums2 g4 s).bind (Ro.el kN kA kB) := by
  simp only [f_s_l17Count_k0, f_s_l17Count_r0, brB, boB, someB, noneB, Ro.el]
theorem f_s_l17Count_e0 (self : (List Sc × Int × Int × Int) → Option (Int)) (left1 : Int) (sums2 : Int) (g4 : List Sc) (s : Int × Int) : EC E0 (f_s_l17Count_M self) H0 f_s_l17Count_F (asL (noL)) 0 (bodyOf Try.f51 0) (f_s_l17Count_fr0 self left1 sums2 g4 s) (done (klOf f_s_l17Count_F 0)) = f_s_l17Count_k0 self left1 sums2 g4 s.1 s.2 (fun s => some (.norm, f_s_l17Count_fr0 self left1 sums2 g4 s)) (fun e => some (f_s_l17Count_x0_1 self left1 sums2 g4 e)) := by kernel_rfl
theorem f_s_l17Count_l0 (self : (List Sc × Int × Int × Int) → Option (Int)) (hs : ∀ a r, self a = some r → CS Try.prog 51 (f_s_l17Count_a a.1 a.2.1 a.2.2.1 a.2.2.2) (f_s_l17Count_i a.1 a.2.1 a.2.2.1 a.2.2.2) (f_s_l17Count_en r).1 (f_s_l17Count_en r).2) (left1 : Int) (sums2 : Int) (g4 : List Sc) : ∀ s r, loopL (f_s_l17Count_r0 self left1 sums2 g4) s = some r → LS Try.prog f_s_l17Count_F (bodyOf Try.f51 0) (f_s_l17Count_fr0 self left1 sums2 g4 s) (enX (f_s_l17Count_x0_1 self left1 sums2 g4) (f_s_l17Count_x0_2 self left1 sums2 g4) r) :=
  loop_true E0ok (f_s_l17Count_Mt self hs) (noL_true) f_s_l17Count_o (fun _ h => by cases h) (fun _ h => by cases h) (fun s => (f_s_l17Count_e0 self left1 sums2 g4 s).trans (f_s_l17Count_p0 self left1 sums2 g4 s _ _ (fun e => some (f_s_l17Count_x0_2 self left1 sums2 g4 e))))
def f_s_l17Count_t0 (self : (List Sc × Int × Int × Int) → Option (Int)) (σ : List AV) : Option (Bool × Bool × (X × List AV) × (X × List AV)) := match dec f_s_l17Count_h0 σ with
  | some [.i left1, .i sums2, .l g4, .i n9, .i x10] => some (isOne (loopL (f_s_l17Count_r0 self left1 sums2 g4) (n9, x10)), true, f_s_l17Count_x0_1 self left1 sums2 g4 (getOne 0 (loopL (f_s_l17Count_r0 self left1 sums2 g4) (n9, x10))), (.ret, []))
  | _ => none
theorem f_s_l17Count_tt0 (self : (List Sc × Int × Int × Int) → Option (Int)) (hs : ∀ a r, self a = some r → CS Try.prog 51 (f_s_l17Count_a a.1 a.2.1 a.2.2.1 a.2.2.2) (f_s_l17Count_i a.1 a.2.1 a.2.2.1 a.2.2.2) (f_s_l17Count_en r).1 (f_s_l17Count_en r).2) : TTrue Try.prog f_s_l17Count_F Try.f51 0 (f_s_l17Count_t0 self) := by
  intro σ p r r' h
  unfold f_s_l17Count_t0 at h
  split at h
  · rename_i hd
    rw [← dec_enc hd]
    exact row1 (f_s_l17Count_l0 self hs _ _ _ _) h
  · cases h
theorem f_s_l17Count_p {R : Type} (self : (List Sc × Int × Int × Int) → Option (Int)) (g0 : List Sc) (left1 : Int) (sums2 : Int) (least3 : Int) (kR : Int → Option R) : f_s_l17Count_k self g0 left1 sums2 least3 kR = (f_s_l17Count_k self g0 left1 sums2 least3 some).bind kR := by
  simp only [f_s_l17Count_k, brB, bl1B, someB]
theorem f_s_l17Count_e (self : (List Sc × Int × Int × Int) → Option (Int)) (g0 : List Sc) (left1 : Int) (sums2 : Int) (least3 : Int) : runFn E0 (f_s_l17Count_M self) H0 f_s_l17Count_F (asL (addL 0 (f_s_l17Count_t0 self) (noL))) Try.f51 (f_s_l17Count_a g0 left1 sums2 least3) (f_s_l17Count_i g0 left1 sums2 least3) = f_s_l17Count_k self g0 left1 sums2 least3 (fun r => some (f_s_l17Count_en r)) := by kernel_rfl
theorem f_s_l17Count_ks (self : (List Sc × Int × Int × Int) → Option (Int)) (hs : ∀ a r, self a = some r → CS Try.prog 51 (f_s_l17Count_a a.1 a.2.1 a.2.2.1 a.2.2.2) (f_s_l17Count_i a.1 a.2.1 a.2.2.1 a.2.2.2) (f_s_l17Count_en r).1 (f_s_l17Count_en r).2) (g0 : List Sc) (left1 : Int) (sums2 : Int) (least3 : Int) (r : Int) (h : f_s_l17Count_k self g0 left1 sums2 least3 some = some r) : CS Try.prog 51 (f_s_l17Count_a g0 left1 sums2 least3) (f_s_l17Count_i g0 left1 sums2 least3) (f_s_l17Count_en r).1 (f_s_l17Count_en r).2 :=
  fn_true (Gk := fun k => f_s_l17Count_k self g0 left1 sums2 least3 k) (en := f_s_l17Count_en) Try.func51 E0ok (f_s_l17Count_Mt self hs) (addL_true (f_s_l17Count_tt0 self hs) (noL_true)) f_s_l17Count_o (f_s_l17Count_e self g0 left1 sums2 least3) (f_s_l17Count_p self g0 left1 sums2 least3) h
theorem f_s_l17Count_ns : ∀ n a r, f_s_l17Count_n n a = some r → CS Try.prog 51 (f_s_l17Count_a a.1 a.2.1 a.2.2.1 a.2.2.2) (f_s_l17Count_i a.1 a.2.1 a.2.2.1 a.2.2.2) (f_s_l17Count_en r).1 (f_s_l17Count_en r).2
  | 0, _, _, h => by cases h
  | n + 1, a, r, h => f_s_l17Count_ks (f_s_l17Count_n n) (f_s_l17Count_ns n) a.1 a.2.1 a.2.2.1 a.2.2.2 r h
theorem f_s_l17Count_ok (g0 : List Sc) (left1 : Int) (sums2 : Int) (least3 : Int) (r : Int) (h : f_s_l17Count g0 left1 sums2 least3 = some r) : CS Try.prog 51 (f_s_l17Count_a g0 left1 sums2 least3) (f_s_l17Count_i g0 left1 sums2 least3) (f_s_l17Count_en r).1 (f_s_l17Count_en r).2 := by
  obtain ⟨n, hn⟩ := limF_some h
  exact f_s_l17Count_ns n _ r hn
def f_s_l17Count_c : CRow := fun args inh => match dec2 [.p .gr, .p (.int .i64), .p (.int .i64), .p (.int .i64)] [] args inh with
  | some ([.l g0, .i left1, .i sums2, .i least3], []) => some ((f_s_l17Count g0 left1 sums2 least3).isSome, (f_s_l17Count_en ((f_s_l17Count g0 left1 sums2 least3).getD 0)).1, (f_s_l17Count_en ((f_s_l17Count g0 left1 sums2 least3).getD 0)).2)
  | _ => none
theorem f_s_l17Count_cc : CTrue Try.prog 51 f_s_l17Count_c := by
  intro args inh rs out h
  unfold f_s_l17Count_c at h
  split at h
  · rename_i hd
    obtain ⟨h1, h2⟩ := dec2_enc hd
    rw [← h1, ← h2]
    exact rowC (f_s_l17Count_ok _ _ _ _) h
  · cases h

def f_s_CountZeroFree_F : Fi := { nv := 0, nc := 0, m := 0, vt := [], kl := [], sk := [], mvs := [], fz := [] }
def f_s_CountZeroFree_a (g0 : List Sc) (n1 : Int) : List AV := enc [.p .gr, .p (.int .i64)] [.l g0, .i n1]
def f_s_CountZeroFree_i (g0 : List Sc) (n1 : Int) : List AV := enc [] []
def f_s_CountZeroFree_en (r : Int) : List AV × List AV := (enc [.p (.int .i64)] [.i r], enc [] [])
def f_s_CountZeroFree_M : Calling := addC 48 f_s_IsGroup_c (addC 49 f_s_l2Order_c (addC 50 f_s_l1In_c (addC 51 f_s_l17Count_c (noC))))
theorem f_s_CountZeroFree_Mt : CallOk Try.prog (f_s_CountZeroFree_M) := addC_true f_s_IsGroup_cc (addC_true f_s_l2Order_cc (addC_true f_s_l1In_cc (addC_true f_s_l17Count_cc (noC_true))))
theorem f_s_CountZeroFree_o : loopsOnce Try.f16 = true := by kernel_rfl
theorem f_s_CountZeroFree_p {R : Type} (g0 : List Sc) (n1 : Int) (kR : Int → Option R) : f_s_CountZeroFree_k g0 n1 kR = (f_s_CountZeroFree_k g0 n1 some).bind kR := by
  simp only [f_s_CountZeroFree_k, brB, boB, someB]
theorem f_s_CountZeroFree_e (g0 : List Sc) (n1 : Int) : runFn E0 f_s_CountZeroFree_M H0 f_s_CountZeroFree_F (asL (noL)) Try.f16 (f_s_CountZeroFree_a g0 n1) (f_s_CountZeroFree_i g0 n1) = f_s_CountZeroFree_k g0 n1 (fun r => some (f_s_CountZeroFree_en r)) := by kernel_rfl
theorem f_s_CountZeroFree_ok (g0 : List Sc) (n1 : Int) (r : Int) (h : f_s_CountZeroFree g0 n1 = some r) : CS Try.prog 16 (f_s_CountZeroFree_a g0 n1) (f_s_CountZeroFree_i g0 n1) (f_s_CountZeroFree_en r).1 (f_s_CountZeroFree_en r).2 :=
  fn_true (Gk := fun k => f_s_CountZeroFree_k g0 n1 k) (en := f_s_CountZeroFree_en) Try.func16 E0ok f_s_CountZeroFree_Mt (noL_true) f_s_CountZeroFree_o (f_s_CountZeroFree_e g0 n1) (f_s_CountZeroFree_p g0 n1) h
def f_s_CountZeroFree_c : CRow := fun args inh => match dec2 [.p .gr, .p (.int .i64)] [] args inh with
  | some ([.l g0, .i n1], []) => some ((f_s_CountZeroFree g0 n1).isSome, (f_s_CountZeroFree_en ((f_s_CountZeroFree g0 n1).getD 0)).1, (f_s_CountZeroFree_en ((f_s_CountZeroFree g0 n1).getD 0)).2)
  | _ => none
theorem f_s_CountZeroFree_cc : CTrue Try.prog 16 f_s_CountZeroFree_c := by
  intro args inh rs out h
  unfold f_s_CountZeroFree_c at h
  split at h
  · rename_i hd
    obtain ⟨h1, h2⟩ := dec2_enc hd
    rw [← h1, ← h2]
    exact rowC (f_s_CountZeroFree_ok _ _) h
  · cases h

def f_i_within_F : Fi := { nv := 0, nc := 0, m := 0, vt := [], kl := [], sk := [], mvs := [], fz := [] }
def f_i_within_a (x0 : Int) (lo1 : Int) (hi2 : Int) : List AV := enc [.p (.int .i64), .p (.int .i64), .p (.int .i64)] [.i x0, .i lo1, .i hi2]
def f_i_within_i (x0 : Int) (lo1 : Int) (hi2 : Int) : List AV := enc [] []
def f_i_within_en (r : Bool) : List AV × List AV := (enc [.p .boo] [.b r], enc [] [])
def f_i_within_M : Calling := noC
theorem f_i_within_Mt : CallOk Try.prog (f_i_within_M) := noC_true
theorem f_i_within_o : loopsOnce Try.f54 = true := by kernel_rfl
theorem f_i_within_p {R : Type} (x0 : Int) (lo1 : Int) (hi2 : Int) (kR : Bool → Option R) : f_i_within_k x0 lo1 hi2 kR = (f_i_within_k x0 lo1 hi2 some).bind kR := by
  simp only [f_i_within_k, brB, someB]
theorem f_i_within_e (x0 : Int) (lo1 : Int) (hi2 : Int) : runFn E0 f_i_within_M H0 f_i_within_F (asL (noL)) Try.f54 (f_i_within_a x0 lo1 hi2) (f_i_within_i x0 lo1 hi2) = f_i_within_k x0 lo1 hi2 (fun r => some (f_i_within_en r)) := by kernel_rfl
theorem f_i_within_ok (x0 : Int) (lo1 : Int) (hi2 : Int) (r : Bool) (h : f_i_within x0 lo1 hi2 = some r) : CS Try.prog 54 (f_i_within_a x0 lo1 hi2) (f_i_within_i x0 lo1 hi2) (f_i_within_en r).1 (f_i_within_en r).2 :=
  fn_true (Gk := fun k => f_i_within_k x0 lo1 hi2 k) (en := f_i_within_en) Try.func54 E0ok f_i_within_Mt (noL_true) f_i_within_o (f_i_within_e x0 lo1 hi2) (f_i_within_p x0 lo1 hi2) h
def f_i_within_c : CRow := fun args inh => match dec2 [.p (.int .i64), .p (.int .i64), .p (.int .i64)] [] args inh with
  | some ([.i x0, .i lo1, .i hi2], []) => some ((f_i_within x0 lo1 hi2).isSome, (f_i_within_en ((f_i_within x0 lo1 hi2).getD false)).1, (f_i_within_en ((f_i_within x0 lo1 hi2).getD false)).2)
  | _ => none
theorem f_i_within_cc : CTrue Try.prog 54 f_i_within_c := by
  intro args inh rs out h
  unfold f_i_within_c at h
  split at h
  · rename_i hd
    obtain ⟨h1, h2⟩ := dec2_enc hd
    rw [← h1, ← h2]
    exact rowC (f_i_within_ok _ _ _) h
  · cases h

def f_i_IsGroup_F : Fi := { nv := 0, nc := 0, m := 0, vt := [], kl := [(0, ([0, 1, 2, 4, 5, 6, 7, 8, 9, 10, 14, 15, 16, 17, 18, 19, 20, 21, 22, 23, 24, 25], [0, 1, 2, 4, 5, 6, 7, 8, 9, 10, 11, 12, 13, 14, 15, 16, 17, 18, 19, 20, 21, 22, 23, 24, 25], [0, 1, 3, 4, 5, 6, 7, 8, 9, 10, 11, 12, 13, 14, 15, 16, 17, 18, 19, 20, 21, 22, 23, 24, 25]))], sk := [], mvs := [], fz := [] }
def f_i_IsGroup_a (g0 : List Sc) : List AV := enc [.p .gr] [.l g0]
def f_i_IsGroup_i (g0 : List Sc) : List AV := enc [] []
def f_i_IsGroup_en (r : Bool) : List AV × List AV := (enc [.p .boo] [.b r], enc [] [])
def f_i_IsGroup_M : Calling := addC 54 f_i_within_c (noC)
theorem f_i_IsGroup_Mt : CallOk Try.prog (f_i_IsGroup_M) := addC_true f_i_within_cc (noC_true)
theorem f_i_IsGroup_o : loopsOnce Try.f52 = true := by kernel_rfl
def f_i_IsGroup_h0 : List Sh := [.u, .u, .u, .p (.int .i64), .u, .u, .u, .u, .u, .u, .u, .p .sl, .p (.int .i64), .p (.int .i64), .u, .u, .u, .u, .u, .u, .u, .u, .u, .u, .u, .u]
def f_i_IsGroup_fr0 (t11 : List Sc) (t12 : Int) (s : Int × Int) : List AV := enc f_i_IsGroup_h0 [.i s.1, .l t11, .i t12, .i s.2]
def f_i_IsGroup_g0_1 : List Sh := [.u, .u, .u, .p (.int .i64), .u, .u, .u, .u, .u, .u, .u, .u, .u, .u, .u, .u, .u, .u, .u, .u, .u, .u, .u, .u, .u, .u]
def f_i_IsGroup_x0_1 (t11 : List Sc) (t12 : Int) (e : Int) : X × List AV := (.out 0, enc f_i_IsGroup_g0_1 [.i e])
def f_i_IsGroup_g0_2 : List Sh := [.u, .u, .p .boo, .u, .u, .u, .u, .u, .u, .u, .u, .u, .u, .u, .u, .u, .u, .u, .u, .u, .u, .u, .u, .u, .u, .u]
def f_i_IsGroup_x0_2 (t11 : List Sc) (t12 : Int) (e : Unit) : X × List AV := (.ret, enc f_i_IsGroup_g0_2 [.b false])
theorem f_i_IsGroup_p0 {R : Type} (t11 : List Sc) (t12 : Int) (s : Int × Int) (kN : Int × Int → Option R) (kA : Int → Option R) (kB : Unit → Option R) : f_i_IsGroup_k0 t11 t12 s.1 s.2 kN kA kB = (f_i_IsGroup_r0 t11 t12 s).bind (Ro.el kN kA kB) := by
  simp only [f_i_IsGroup_k0, f_i_IsGroup_r0, brB, boB, someB, noneB, Ro.el]
theorem f_i_IsGroup_e0 (t11 : List Sc) (t12 : Int) (s : Int × Int) : EC E0 f_i_IsGroup_M H0 f_i_IsGroup_F (asL (noL)) 0 (bodyOf Try.f52 0) (f_i_IsGroup_fr0 t11 t12 s) (done (klOf f_i_IsGroup_F 0)) = f_i_IsGroup_k0 t11 t12 s.1 s.2 (fun s => some (.norm, f_i_IsGroup_fr0 t11 t12 s)) (fun e => some (f_i_IsGroup_x0_1 t11 t12 e)) (fun e => some (f_i_IsGroup_x0_2 t11 t12 e)) := by kernel_rfl
theorem f_i_IsGroup_l0 (t11 : List Sc) (t12 : Int) : ∀ s r, loopL (f_i_IsGroup_r0 t11 t12) s = some r → LS Try.prog f_i_IsGroup_F (bodyOf Try.f52 0) (f_i_IsGroup_fr0 t11 t12 s) (enX (f_i_IsGroup_x0_1 t11 t12) (f_i_IsGroup_x0_2 t11 t12) r) :=
  loop_true E0ok f_i_IsGroup_Mt (noL_true) f_i_IsGroup_o (fun _ h => by cases h) (fun _ h => by cases h) (fun s => (f_i_IsGroup_e0 t11 t12 s).trans (f_i_IsGroup_p0 t11 t12 s _ _ (fun e => some (f_i_IsGroup_x0_2 t11 t12 e))))
def f_i_IsGroup_t0 (σ : List AV) : Option (Bool × Bool × (X × List AV) × (X × List AV)) := match dec f_i_IsGroup_h0 σ with
  | some [.i n3, .l t11, .i t12, .i t13] => some ((loopL (f_i_IsGroup_r0 t11 t12) (n3, t13)).isSome, isOne (loopL (f_i_IsGroup_r0 t11 t12) (n3, t13)), f_i_IsGroup_x0_1 t11 t12 (getOne 0 (loopL (f_i_IsGroup_r0 t11 t12) (n3, t13))), f_i_IsGroup_x0_2 t11 t12 (getTwo () (loopL (f_i_IsGroup_r0 t11 t12) (n3, t13))))
  | _ => none
theorem f_i_IsGroup_tt0 : TTrue Try.prog f_i_IsGroup_F Try.f52 0 (f_i_IsGroup_t0) := by
  intro σ p r r' h
  unfold f_i_IsGroup_t0 at h
  split at h
  · rename_i hd
    rw [← dec_enc hd]
    exact row2 (f_i_IsGroup_l0 _ _ _) h
  · cases h
theorem f_i_IsGroup_p {R : Type} (g0 : List Sc) (kR : Bool → Option R) : f_i_IsGroup_k g0 kR = (f_i_IsGroup_k g0 some).bind kR := by
  simp only [f_i_IsGroup_k, brB, blB, someB]
theorem f_i_IsGroup_e (g0 : List Sc) : runFn E0 f_i_IsGroup_M H0 f_i_IsGroup_F (asL (addL 0 (f_i_IsGroup_t0) (noL))) Try.f52 (f_i_IsGroup_a g0) (f_i_IsGroup_i g0) = f_i_IsGroup_k g0 (fun r => some (f_i_IsGroup_en r)) := by kernel_rfl
theorem f_i_IsGroup_ok (g0 : List Sc) (r : Bool) (h : f_i_IsGroup g0 = some r) : CS Try.prog 52 (f_i_IsGroup_a g0) (f_i_IsGroup_i g0) (f_i_IsGroup_en r).1 (f_i_IsGroup_en r).2 :=
  fn_true (Gk := fun k => f_i_IsGroup_k g0 k) (en := f_i_IsGroup_en) Try.func52 E0ok f_i_IsGroup_Mt (addL_true (f_i_IsGroup_tt0) (noL_true)) f_i_IsGroup_o (f_i_IsGroup_e g0) (f_i_IsGroup_p g0) h
def f_i_IsGroup_c : CRow := fun args inh => match dec2 [.p .gr] [] args inh with
  | some ([.l g0], []) => some ((f_i_IsGroup g0).isSome, (f_i_IsGroup_en ((f_i_IsGroup g0).getD false)).1, (f_i_IsGroup_en ((f_i_IsGroup g0).getD false)).2)
  | _ => none
theorem f_i_IsGroup_cc : CTrue Try.prog 52 f_i_IsGroup_c := by
  intro args inh rs out h
  unfold f_i_IsGroup_c at h
  split at h
  · rename_i hd
    obtain ⟨h1, h2⟩ := dec2_enc hd
    rw [← h1, ← h2]
    exact rowC (f_i_IsGroup_ok _) h
  · cases h

def f_i_OrderOf_F : Fi := { nv := 0, nc := 0, m := 0, vt := [], kl := [(0, ([0, 1, 2, 4, 5, 6, 7, 8, 9, 13, 14, 15, 16, 17, 18, 19, 20], [0, 1, 2, 4, 5, 6, 7, 8, 9, 10, 11, 12, 13, 14, 15, 16, 17, 18, 19, 20], [0, 1, 3, 4, 5, 6, 7, 8, 9, 10, 11, 12, 13, 14, 15, 16, 17, 18, 19, 20]))], sk := [], mvs := [], fz := [] }
def f_i_OrderOf_a (g0 : List Sc) : List AV := enc [.p .gr] [.l g0]
def f_i_OrderOf_i (g0 : List Sc) : List AV := enc [] []
def f_i_OrderOf_en (r : Int) : List AV × List AV := (enc [.p (.int .i64)] [.i r], enc [] [])
def f_i_OrderOf_M : Calling := addC 52 f_i_IsGroup_c (noC)
theorem f_i_OrderOf_Mt : CallOk Try.prog (f_i_OrderOf_M) := addC_true f_i_IsGroup_cc (noC_true)
theorem f_i_OrderOf_o : loopsOnce Try.f53 = true := by kernel_rfl
def f_i_OrderOf_h0 : List Sh := [.u, .u, .u, .p (.int .i64), .u, .u, .u, .u, .u, .u, .p .sl, .p (.int .i64), .p (.int .i64), .u, .u, .u, .u, .u, .u, .u, .u]
def f_i_OrderOf_fr0 (t10 : List Sc) (t11 : Int) (s : Int × Int) : List AV := enc f_i_OrderOf_h0 [.i s.1, .l t10, .i t11, .i s.2]
def f_i_OrderOf_g0_1 : List Sh := [.u, .u, .u, .p (.int .i64), .u, .u, .u, .u, .u, .u, .u, .u, .u, .u, .u, .u, .u, .u, .u, .u, .u]
def f_i_OrderOf_x0_1 (t10 : List Sc) (t11 : Int) (e : Int) : X × List AV := (.out 0, enc f_i_OrderOf_g0_1 [.i e])
def f_i_OrderOf_x0_2 (t10 : List Sc) (t11 : Int) (_e : Unit) : X × List AV := (.ret, [])
theorem f_i_OrderOf_p0 {R : Type} (t10 : List Sc) (t11 : Int) (s : Int × Int) (kN : Int × Int → Option R) (kA : Int → Option R) (kB : Unit → Option R) : f_i_OrderOf_k0 t10 t11 s.1 s.2 kN kA = (f_i_OrderOf_r0 t10 t11 s).bind (Ro.el kN kA kB) := by
  simp only [f_i_OrderOf_k0, f_i_OrderOf_r0, brB, someB, noneB, Ro.el]
theorem f_i_OrderOf_e0 (t10 : List Sc) (t11 : Int) (s : Int × Int) : EC E0 f_i_OrderOf_M H0 f_i_OrderOf_F (asL (noL)) 0 (bodyOf Try.f53 0) (f_i_OrderOf_fr0 t10 t11 s) (done (klOf f_i_OrderOf_F 0)) = f_i_OrderOf_k0 t10 t11 s.1 s.2 (fun s => some (.norm, f_i_OrderOf_fr0 t10 t11 s)) (fun e => some (f_i_OrderOf_x0_1 t10 t11 e)) := by kernel_rfl
theorem f_i_OrderOf_l0 (t10 : List Sc) (t11 : Int) : ∀ s r, loopL (f_i_OrderOf_r0 t10 t11) s = some r → LS Try.prog f_i_OrderOf_F (bodyOf Try.f53 0) (f_i_OrderOf_fr0 t10 t11 s) (enX (f_i_OrderOf_x0_1 t10 t11) (f_i_OrderOf_x0_2 t10 t11) r) :=
  loop_true E0ok f_i_OrderOf_Mt (noL_true) f_i_OrderOf_o (fun _ h => by cases h) (fun _ h => by cases h) (fun s => (f_i_OrderOf_e0 t10 t11 s).trans (f_i_OrderOf_p0 t10 t11 s _ _ (fun e => some (f_i_OrderOf_x0_2 t10 t11 e))))
def f_i_OrderOf_t0 (σ : List AV) : Option (Bool × Bool × (X × List AV) × (X × List AV)) := match dec f_i_OrderOf_h0 σ with
  | some [.i n3, .l t10, .i t11, .i t12] => some (isOne (loopL (f_i_OrderOf_r0 t10 t11) (n3, t12)), true, f_i_OrderOf_x0_1 t10 t11 (getOne 0 (loopL (f_i_OrderOf_r0 t10 t11) (n3, t12))), (.ret, []))
  | _ => none
theorem f_i_OrderOf_tt0 : TTrue Try.prog f_i_OrderOf_F Try.f53 0 (f_i_OrderOf_t0) := by
  intro σ p r r' h
  unfold f_i_OrderOf_t0 at h
  split at h
  · rename_i hd
    rw [← dec_enc hd]
    exact row1 (f_i_OrderOf_l0 _ _ _) h
  · cases h
theorem f_i_OrderOf_p {R : Type} (g0 : List Sc) (kR : Int → Option R) : f_i_OrderOf_k g0 kR = (f_i_OrderOf_k g0 some).bind kR := by
  simp only [f_i_OrderOf_k, brB, boB, bl1B, someB]
theorem f_i_OrderOf_e (g0 : List Sc) : runFn E0 f_i_OrderOf_M H0 f_i_OrderOf_F (asL (addL 0 (f_i_OrderOf_t0) (noL))) Try.f53 (f_i_OrderOf_a g0) (f_i_OrderOf_i g0) = f_i_OrderOf_k g0 (fun r => some (f_i_OrderOf_en r)) := by kernel_rfl
theorem f_i_OrderOf_ok (g0 : List Sc) (r : Int) (h : f_i_OrderOf g0 = some r) : CS Try.prog 53 (f_i_OrderOf_a g0) (f_i_OrderOf_i g0) (f_i_OrderOf_en r).1 (f_i_OrderOf_en r).2 :=
  fn_true (Gk := fun k => f_i_OrderOf_k g0 k) (en := f_i_OrderOf_en) Try.func53 E0ok f_i_OrderOf_Mt (addL_true (f_i_OrderOf_tt0) (noL_true)) f_i_OrderOf_o (f_i_OrderOf_e g0) (f_i_OrderOf_p g0) h
def f_i_OrderOf_c : CRow := fun args inh => match dec2 [.p .gr] [] args inh with
  | some ([.l g0], []) => some ((f_i_OrderOf g0).isSome, (f_i_OrderOf_en ((f_i_OrderOf g0).getD 0)).1, (f_i_OrderOf_en ((f_i_OrderOf g0).getD 0)).2)
  | _ => none
theorem f_i_OrderOf_cc : CTrue Try.prog 53 f_i_OrderOf_c := by
  intro args inh rs out h
  unfold f_i_OrderOf_c at h
  split at h
  · rename_i hd
    obtain ⟨h1, h2⟩ := dec2_enc hd
    rw [← h1, ← h2]
    exact rowC (f_i_OrderOf_ok _) h
  · cases h

def f_i_CountZeroFree_1_F : Fi := { nv := 1, nc := 1, m := 1, vt := [], kl := [], sk := [], mvs := [], fz := [] }
def f_i_CountZeroFree_1_a (l0 : List Sc) (sums1 : Int) (p2 : Int) (h0 : Int) : List AV := enc [.p .sl, .p (.int .i64), .p (.evi .i64), .p (.pt 0 1)] [.l l0, .i sums1, .i p2]
def f_i_CountZeroFree_1_i (l0 : List Sc) (sums1 : Int) (p2 : Int) (h0 : Int) : List AV := enc [.p (.int .i64)] [.i h0]
def f_i_CountZeroFree_1_en (r : Int) : List AV × List AV := (enc [] [], enc [.p (.int .i64)] [.i r])
def f_i_CountZeroFree_1_M : Calling := noC
theorem f_i_CountZeroFree_1_Mt : CallOk Try.prog (f_i_CountZeroFree_1_M) := noC_true
theorem f_i_CountZeroFree_1_o : loopsOnce Try.f56 = true := by kernel_rfl
theorem f_i_CountZeroFree_1_p {R : Type} (l0 : List Sc) (sums1 : Int) (p2 : Int) (h0 : Int) (kR : Int → Option R) : f_i_CountZeroFree_1_k l0 sums1 p2 h0 kR = (f_i_CountZeroFree_1_k l0 sums1 p2 h0 some).bind kR := by
  simp only [f_i_CountZeroFree_1_k, brB, someB]
theorem f_i_CountZeroFree_1_e (l0 : List Sc) (sums1 : Int) (p2 : Int) (h0 : Int) : runFn E0 f_i_CountZeroFree_1_M H0 f_i_CountZeroFree_1_F (asL (noL)) Try.f56 (f_i_CountZeroFree_1_a l0 sums1 p2 h0) (f_i_CountZeroFree_1_i l0 sums1 p2 h0) = f_i_CountZeroFree_1_k l0 sums1 p2 h0 (fun r => some (f_i_CountZeroFree_1_en r)) := by kernel_rfl
theorem f_i_CountZeroFree_1_ok (l0 : List Sc) (sums1 : Int) (p2 : Int) (h0 : Int) (r : Int) (h : f_i_CountZeroFree_1 l0 sums1 p2 h0 = some r) : CS Try.prog 56 (f_i_CountZeroFree_1_a l0 sums1 p2 h0) (f_i_CountZeroFree_1_i l0 sums1 p2 h0) (f_i_CountZeroFree_1_en r).1 (f_i_CountZeroFree_1_en r).2 :=
  fn_true (Gk := fun k => f_i_CountZeroFree_1_k l0 sums1 p2 h0 k) (en := f_i_CountZeroFree_1_en) Try.func56 E0ok f_i_CountZeroFree_1_Mt (noL_true) f_i_CountZeroFree_1_o (f_i_CountZeroFree_1_e l0 sums1 p2 h0) (f_i_CountZeroFree_1_p l0 sums1 p2 h0) h
def f_i_CountZeroFree_1_c : CRow := fun args inh => match dec2 [.p .sl, .p (.int .i64), .p (.evi .i64), .p (.pt 0 1)] [.p (.int .i64)] args inh with
  | some ([.l l0, .i sums1, .i p2], [.i h0]) => some ((f_i_CountZeroFree_1 l0 sums1 p2 h0).isSome, (f_i_CountZeroFree_1_en ((f_i_CountZeroFree_1 l0 sums1 p2 h0).getD 0)).1, (f_i_CountZeroFree_1_en ((f_i_CountZeroFree_1 l0 sums1 p2 h0).getD 0)).2)
  | _ => none
theorem f_i_CountZeroFree_1_cc : CTrue Try.prog 56 f_i_CountZeroFree_1_c := by
  intro args inh rs out h
  unfold f_i_CountZeroFree_1_c at h
  split at h
  · rename_i hd
    obtain ⟨h1, h2⟩ := dec2_enc hd
    rw [← h1, ← h2]
    exact rowC (f_i_CountZeroFree_1_ok _ _ _ _) h
  · cases h

def f_i_Group_add_F : Fi := { nv := 0, nc := 0, m := 0, vt := [], kl := [(0, ([0, 3, 4, 5, 6, 9, 10, 11, 15, 16, 17, 18, 19, 20, 21, 22, 23, 24, 25, 26, 27, 28, 29, 30, 31, 32, 33, 34, 35, 36, 37, 38, 39, 40, 41], [0, 1, 2, 3, 4, 5, 6, 8, 9, 10, 11, 12, 13, 14, 15, 16, 17, 18, 19, 20, 21, 22, 23, 24, 25, 26, 27, 28, 29, 30, 31, 32, 33, 34, 35, 36, 37, 38, 39, 40, 41], [0, 1, 2, 3, 4, 5, 7, 8, 9, 10, 11, 12, 13, 14, 15, 16, 17, 18, 19, 20, 21, 22, 23, 24, 25, 26, 27, 28, 29, 30, 31, 32, 33, 34, 35, 36, 37, 38, 39, 40, 41]))], sk := [], mvs := [], fz := [] }
def f_i_Group_add_a (g0 : List Sc) (x1 : Int) (y2 : Int) : List AV := enc [.p .gr, .p (.int .i64), .p (.int .i64)] [.l g0, .i x1, .i y2]
def f_i_Group_add_i (g0 : List Sc) (x1 : Int) (y2 : Int) : List AV := enc [] []
def f_i_Group_add_en (r : Int) : List AV × List AV := (enc [.p (.int .i64)] [.i r], enc [] [])
def f_i_Group_add_M : Calling := noC
theorem f_i_Group_add_Mt : CallOk Try.prog (f_i_Group_add_M) := noC_true
theorem f_i_Group_add_o : loopsOnce Try.f75 = true := by kernel_rfl
def f_i_Group_add_h0 : List Sh := [.u, .p (.int .i64), .p (.int .i64), .u, .u, .u, .u, .p (.int .i64), .p (.int .i64), .u, .u, .u, .p .sl, .p (.int .i64), .p (.int .i64), .u, .u, .u, .u, .u, .u, .u, .u, .u, .u, .u, .u, .u, .u, .u, .u, .u, .u, .u, .u, .u, .u, .u, .u, .u, .u, .u]
def f_i_Group_add_fr0 (t12 : List Sc) (t13 : Int) (s : Int × Int × Int × Int × Int) : List AV := enc f_i_Group_add_h0 [.i s.1, .i s.2.1, .i s.2.2.1, .i s.2.2.2.1, .l t12, .i t13, .i s.2.2.2.2]
def f_i_Group_add_g0_1 : List Sh := [.u, .u, .u, .u, .u, .u, .u, .p (.int .i64), .u, .u, .u, .u, .u, .u, .u, .u, .u, .u, .u, .u, .u, .u, .u, .u, .u, .u, .u, .u, .u, .u, .u, .u, .u, .u, .u, .u, .u, .u, .u, .u, .u, .u]
def f_i_Group_add_x0_1 (t12 : List Sc) (t13 : Int) (e : Int) : X × List AV := (.out 0, enc f_i_Group_add_g0_1 [.i e])
def f_i_Group_add_x0_2 (t12 : List Sc) (t13 : Int) (_e : Unit) : X × List AV := (.ret, [])
theorem f_i_Group_add_p0 {R : Type} (t12 : List Sc) (t13 : Int) (s : Int × Int × Int × Int × Int) (kN : Int × Int × Int × Int × Int → Option R) (kA : Int → Option R) (kB : Unit → Option R) : f_i_Group_add_k0 t12 t13 s.1 s.2.1 s.2.2.1 s.2.2.2.1 s.2.2.2.2 kN kA = (f_i_Group_add_r0 t12 t13 s).bind (Ro.el kN kA kB) := by
  simp only [f_i_Group_add_k0, f_i_Group_add_r0, brB, someB, noneB, Ro.el]
theorem f_i_Group_add_e0 (t12 : List Sc) (t13 : Int) (s : Int × Int × Int × Int × Int) : EC E0 f_i_Group_add_M H0 f_i_Group_add_F (asL (noL)) 0 (bodyOf Try.f75 0) (f_i_Group_add_fr0 t12 t13 s) (done (klOf f_i_Group_add_F 0)) = f_i_Group_add_k0 t12 t13 s.1 s.2.1 s.2.2.1 s.2.2.2.1 s.2.2.2.2 (fun s => some (.norm, f_i_Group_add_fr0 t12 t13 s)) (fun e => some (f_i_Group_add_x0_1 t12 t13 e)) := by kernel_rfl
theorem f_i_Group_add_l0 (t12 : List Sc) (t13 : Int) : ∀ s r, loopL (f_i_Group_add_r0 t12 t13) s = some r → LS Try.prog f_i_Group_add_F (bodyOf Try.f75 0) (f_i_Group_add_fr0 t12 t13 s) (enX (f_i_Group_add_x0_1 t12 t13) (f_i_Group_add_x0_2 t12 t13) r) :=
  loop_true E0ok f_i_Group_add_Mt (noL_true) f_i_Group_add_o (fun _ h => by cases h) (fun _ h => by cases h) (fun s => (f_i_Group_add_e0 t12 t13 s).trans (f_i_Group_add_p0 t12 t13 s _ _ (fun e => some (f_i_Group_add_x0_2 t12 t13 e))))
def f_i_Group_add_t0 (σ : List AV) : Option (Bool × Bool × (X × List AV) × (X × List AV)) := match dec f_i_Group_add_h0 σ with
  | some [.i x1, .i y2, .i sum7, .i unit8, .l t12, .i t13, .i t14] => some (isOne (loopL (f_i_Group_add_r0 t12 t13) (x1, y2, sum7, unit8, t14)), true, f_i_Group_add_x0_1 t12 t13 (getOne 0 (loopL (f_i_Group_add_r0 t12 t13) (x1, y2, sum7, unit8, t14))), (.ret, []))
  | _ => none
theorem f_i_Group_add_tt0 : TTrue Try.prog f_i_Group_add_F Try.f75 0 (f_i_Group_add_t0) := by
  intro σ p r r' h
  unfold f_i_Group_add_t0 at h
  split at h
  · rename_i hd
    rw [← dec_enc hd]
    exact row1 (f_i_Group_add_l0 _ _ _) h
  · cases h
theorem f_i_Group_add_p {R : Type} (g0 : List Sc) (x1 : Int) (y2 : Int) (kR : Int → Option R) : f_i_Group_add_k g0 x1 y2 kR = (f_i_Group_add_k g0 x1 y2 some).bind kR := by
  simp only [f_i_Group_add_k, bl1B, someB]
theorem f_i_Group_add_e (g0 : List Sc) (x1 : Int) (y2 : Int) : runFn E0 f_i_Group_add_M H0 f_i_Group_add_F (asL (addL 0 (f_i_Group_add_t0) (noL))) Try.f75 (f_i_Group_add_a g0 x1 y2) (f_i_Group_add_i g0 x1 y2) = f_i_Group_add_k g0 x1 y2 (fun r => some (f_i_Group_add_en r)) := by kernel_rfl
theorem f_i_Group_add_ok (g0 : List Sc) (x1 : Int) (y2 : Int) (r : Int) (h : f_i_Group_add g0 x1 y2 = some r) : CS Try.prog 75 (f_i_Group_add_a g0 x1 y2) (f_i_Group_add_i g0 x1 y2) (f_i_Group_add_en r).1 (f_i_Group_add_en r).2 :=
  fn_true (Gk := fun k => f_i_Group_add_k g0 x1 y2 k) (en := f_i_Group_add_en) Try.func75 E0ok f_i_Group_add_Mt (addL_true (f_i_Group_add_tt0) (noL_true)) f_i_Group_add_o (f_i_Group_add_e g0 x1 y2) (f_i_Group_add_p g0 x1 y2) h
def f_i_Group_add_c : CRow := fun args inh => match dec2 [.p .gr, .p (.int .i64), .p (.int .i64)] [] args inh with
  | some ([.l g0, .i x1, .i y2], []) => some ((f_i_Group_add g0 x1 y2).isSome, (f_i_Group_add_en ((f_i_Group_add g0 x1 y2).getD 0)).1, (f_i_Group_add_en ((f_i_Group_add g0 x1 y2).getD 0)).2)
  | _ => none
theorem f_i_Group_add_cc : CTrue Try.prog 75 f_i_Group_add_c := by
  intro args inh rs out h
  unfold f_i_Group_add_c at h
  split at h
  · rename_i hd
    obtain ⟨h1, h2⟩ := dec2_enc hd
    rw [← h1, ← h2]
    exact rowC (f_i_Group_add_ok _ _ _) h
  · cases h

def f_i_Group_shift_F : Fi := { nv := 0, nc := 0, m := 0, vt := [], kl := [(0, ([0, 4, 5, 6, 9, 10, 11, 12, 13, 14, 15, 16, 17, 18, 19, 20, 21, 22, 23, 24, 25, 26, 27], [0, 1, 2, 3, 4, 5, 6, 8, 9, 10, 11, 12, 13, 14, 15, 16, 17, 18, 19, 20, 21, 22, 23, 24, 25, 26, 27], [0, 1, 2, 3, 4, 5, 7, 8, 9, 10, 11, 12, 13, 14, 15, 16, 17, 18, 19, 20, 21, 22, 23, 24, 25, 26, 27]))], sk := [], mvs := [], fz := [] }
def f_i_Group_shift_a (g0 : List Sc) (a1 : Int) (x2 : Int) : List AV := enc [.p .gr, .p (.int .i64), .p (.int .i64)] [.l g0, .i a1, .i x2]
def f_i_Group_shift_i (g0 : List Sc) (a1 : Int) (x2 : Int) : List AV := enc [] []
def f_i_Group_shift_en (r : Int) : List AV × List AV := (enc [.p (.int .i64)] [.i r], enc [] [])
def f_i_Group_shift_M : Calling := addC 75 f_i_Group_add_c (noC)
theorem f_i_Group_shift_Mt : CallOk Try.prog (f_i_Group_shift_M) := addC_true f_i_Group_add_cc (noC_true)
theorem f_i_Group_shift_o : loopsOnce Try.f91 = true := by kernel_rfl
def f_i_Group_shift_h0 : List Sh := [.u, .p (.int .i64), .p (.int .i64), .p .el, .u, .u, .u, .p (.int .i64), .p (.int .i64), .u, .u, .u, .u, .u, .u, .u, .u, .u, .u, .u, .u, .u, .u, .u, .u, .u, .u, .u]
def f_i_Group_shift_fr0 (a1 : Int) (x2 : Int) (g3 : List Sc) (s : Int × Int) : List AV := enc f_i_Group_shift_h0 [.i a1, .i x2, .l g3, .i s.1, .i s.2]
def f_i_Group_shift_g0_1 : List Sh := [.u, .u, .u, .u, .u, .u, .u, .p (.int .i64), .u, .u, .u, .u, .u, .u, .u, .u, .u, .u, .u, .u, .u, .u, .u, .u, .u, .u, .u, .u]
def f_i_Group_shift_x0_1 (a1 : Int) (x2 : Int) (g3 : List Sc) (e : Int) : X × List AV := (.out 0, enc f_i_Group_shift_g0_1 [.i e])
def f_i_Group_shift_x0_2 (a1 : Int) (x2 : Int) (g3 : List Sc) (_e : Unit) : X × List AV := (.ret, [])
theorem f_i_Group_shift_p0 {R : Type} (a1 : Int) (x2 : Int) (g3 : List Sc) (s : Int × Int) (kN : Int × Int → Option R) (kA : Int → Option R) (kB : Unit → Option R) : f_i_Group_shift_k0 a1 x2 g3 s.1 s.2 kN kA = (f_i_Group_shift_r0 a1 x2 g3 s).bind (Ro.el kN kA kB) := by
  simp only [f_i_Group_shift_k0, f_i_Group_shift_r0, brB, boB, someB, noneB, Ro.el]
theorem f_i_Group_shift_e0 (a1 : Int) (x2 : Int) (g3 : List Sc) (s : Int × Int) : EC E0 f_i_Group_shift_M H0 f_i_Group_shift_F (asL (noL)) 0 (bodyOf Try.f91 0) (f_i_Group_shift_fr0 a1 x2 g3 s) (done (klOf f_i_Group_shift_F 0)) = f_i_Group_shift_k0 a1 x2 g3 s.1 s.2 (fun s => some (.norm, f_i_Group_shift_fr0 a1 x2 g3 s)) (fun e => some (f_i_Group_shift_x0_1 a1 x2 g3 e)) := by kernel_rfl
theorem f_i_Group_shift_l0 (a1 : Int) (x2 : Int) (g3 : List Sc) : ∀ s r, loopL (f_i_Group_shift_r0 a1 x2 g3) s = some r → LS Try.prog f_i_Group_shift_F (bodyOf Try.f91 0) (f_i_Group_shift_fr0 a1 x2 g3 s) (enX (f_i_Group_shift_x0_1 a1 x2 g3) (f_i_Group_shift_x0_2 a1 x2 g3) r) :=
  loop_true E0ok f_i_Group_shift_Mt (noL_true) f_i_Group_shift_o (fun _ h => by cases h) (fun _ h => by cases h) (fun s => (f_i_Group_shift_e0 a1 x2 g3 s).trans (f_i_Group_shift_p0 a1 x2 g3 s _ _ (fun e => some (f_i_Group_shift_x0_2 a1 x2 g3 e))))
def f_i_Group_shift_t0 (σ : List AV) : Option (Bool × Bool × (X × List AV) × (X × List AV)) := match dec f_i_Group_shift_h0 σ with
  | some [.i a1, .i x2, .l g3, .i out7, .i y8] => some (isOne (loopL (f_i_Group_shift_r0 a1 x2 g3) (out7, y8)), true, f_i_Group_shift_x0_1 a1 x2 g3 (getOne 0 (loopL (f_i_Group_shift_r0 a1 x2 g3) (out7, y8))), (.ret, []))
  | _ => none
theorem f_i_Group_shift_tt0 : TTrue Try.prog f_i_Group_shift_F Try.f91 0 (f_i_Group_shift_t0) := by
  intro σ p r r' h
  unfold f_i_Group_shift_t0 at h
  split at h
  · rename_i hd
    rw [← dec_enc hd]
    exact row1 (f_i_Group_shift_l0 _ _ _ _) h
  · cases h
theorem f_i_Group_shift_p {R : Type} (g0 : List Sc) (a1 : Int) (x2 : Int) (kR : Int → Option R) : f_i_Group_shift_k g0 a1 x2 kR = (f_i_Group_shift_k g0 a1 x2 some).bind kR := by
  simp only [f_i_Group_shift_k, bl1B, someB]
theorem f_i_Group_shift_e (g0 : List Sc) (a1 : Int) (x2 : Int) : runFn E0 f_i_Group_shift_M H0 f_i_Group_shift_F (asL (addL 0 (f_i_Group_shift_t0) (noL))) Try.f91 (f_i_Group_shift_a g0 a1 x2) (f_i_Group_shift_i g0 a1 x2) = f_i_Group_shift_k g0 a1 x2 (fun r => some (f_i_Group_shift_en r)) := by kernel_rfl
theorem f_i_Group_shift_ok (g0 : List Sc) (a1 : Int) (x2 : Int) (r : Int) (h : f_i_Group_shift g0 a1 x2 = some r) : CS Try.prog 91 (f_i_Group_shift_a g0 a1 x2) (f_i_Group_shift_i g0 a1 x2) (f_i_Group_shift_en r).1 (f_i_Group_shift_en r).2 :=
  fn_true (Gk := fun k => f_i_Group_shift_k g0 a1 x2 k) (en := f_i_Group_shift_en) Try.func91 E0ok f_i_Group_shift_Mt (addL_true (f_i_Group_shift_tt0) (noL_true)) f_i_Group_shift_o (f_i_Group_shift_e g0 a1 x2) (f_i_Group_shift_p g0 a1 x2) h
def f_i_Group_shift_c : CRow := fun args inh => match dec2 [.p .gr, .p (.int .i64), .p (.int .i64)] [] args inh with
  | some ([.l g0, .i a1, .i x2], []) => some ((f_i_Group_shift g0 a1 x2).isSome, (f_i_Group_shift_en ((f_i_Group_shift g0 a1 x2).getD 0)).1, (f_i_Group_shift_en ((f_i_Group_shift g0 a1 x2).getD 0)).2)
  | _ => none
theorem f_i_Group_shift_cc : CTrue Try.prog 91 f_i_Group_shift_c := by
  intro args inh rs out h
  unfold f_i_Group_shift_c at h
  split at h
  · rename_i hd
    obtain ⟨h1, h2⟩ := dec2_enc hd
    rw [← h1, ← h2]
    exact rowC (f_i_Group_shift_ok _ _ _) h
  · cases h

def f_i_in_F : Fi := { nv := 0, nc := 0, m := 0, vt := [], kl := [], sk := [], mvs := [], fz := [] }
def f_i_in_a (a0 : Int) (x1 : Int) : List AV := enc [.p (.int .i64), .p (.int .i64)] [.i a0, .i x1]
def f_i_in_i (a0 : Int) (x1 : Int) : List AV := enc [] []
def f_i_in_en (r : Bool) : List AV × List AV := (enc [.p .boo] [.b r], enc [] [])
def f_i_in_M : Calling := noC
theorem f_i_in_Mt : CallOk Try.prog (f_i_in_M) := noC_true
theorem f_i_in_o : loopsOnce Try.f83 = true := by kernel_rfl
theorem f_i_in_p {R : Type} (a0 : Int) (x1 : Int) (kR : Bool → Option R) : f_i_in_k a0 x1 kR = (f_i_in_k a0 x1 some).bind kR := by
  simp only [f_i_in_k, brB, someB, noneB]
theorem f_i_in_e (a0 : Int) (x1 : Int) : runFn E0 f_i_in_M H0 f_i_in_F (asL (noL)) Try.f83 (f_i_in_a a0 x1) (f_i_in_i a0 x1) = f_i_in_k a0 x1 (fun r => some (f_i_in_en r)) := by kernel_rfl
theorem f_i_in_ok (a0 : Int) (x1 : Int) (r : Bool) (h : f_i_in a0 x1 = some r) : CS Try.prog 83 (f_i_in_a a0 x1) (f_i_in_i a0 x1) (f_i_in_en r).1 (f_i_in_en r).2 :=
  fn_true (Gk := fun k => f_i_in_k a0 x1 k) (en := f_i_in_en) Try.func83 E0ok f_i_in_Mt (noL_true) f_i_in_o (f_i_in_e a0 x1) (f_i_in_p a0 x1) h
def f_i_in_c : CRow := fun args inh => match dec2 [.p (.int .i64), .p (.int .i64)] [] args inh with
  | some ([.i a0, .i x1], []) => some ((f_i_in a0 x1).isSome, (f_i_in_en ((f_i_in a0 x1).getD false)).1, (f_i_in_en ((f_i_in a0 x1).getD false)).2)
  | _ => none
theorem f_i_in_cc : CTrue Try.prog 83 f_i_in_c := by
  intro args inh rs out h
  unfold f_i_in_c at h
  split at h
  · rename_i hd
    obtain ⟨h1, h2⟩ := dec2_enc hd
    rw [← h1, ← h2]
    exact rowC (f_i_in_ok _ _) h
  · cases h

def f_i_copyInts_F : Fi := { nv := 0, nc := 0, m := 0, vt := [], kl := [], sk := [], mvs := [], fz := [] }
def f_i_copyInts_a (l0 : List Sc) : List AV := enc [.p .sl] [.l l0]
def f_i_copyInts_i (l0 : List Sc) : List AV := enc [] []
def f_i_copyInts_en (r : List Sc) : List AV × List AV := (enc [.p (.al 0)] [], enc [.own 3] [.l r])
def f_i_copyInts_M : Calling := noC
theorem f_i_copyInts_Mt : CallOk Try.prog (f_i_copyInts_M) := noC_true
theorem f_i_copyInts_o : loopsOnce Try.f85 = true := by kernel_rfl
theorem f_i_copyInts_p {R : Type} (l0 : List Sc) (kR : List Sc → Option R) : f_i_copyInts_k l0 kR = (f_i_copyInts_k l0 some).bind kR := by
  simp only [f_i_copyInts_k, brB, someB, noneB]
theorem f_i_copyInts_e (l0 : List Sc) : runFn E0 f_i_copyInts_M H0 f_i_copyInts_F (asL (noL)) Try.f85 (f_i_copyInts_a l0) (f_i_copyInts_i l0) = f_i_copyInts_k l0 (fun r => some (f_i_copyInts_en r)) := by kernel_rfl
theorem f_i_copyInts_ok (l0 : List Sc) (r : List Sc) (h : f_i_copyInts l0 = some r) : CS Try.prog 85 (f_i_copyInts_a l0) (f_i_copyInts_i l0) (f_i_copyInts_en r).1 (f_i_copyInts_en r).2 :=
  fn_true (Gk := fun k => f_i_copyInts_k l0 k) (en := f_i_copyInts_en) Try.func85 E0ok f_i_copyInts_Mt (noL_true) f_i_copyInts_o (f_i_copyInts_e l0) (f_i_copyInts_p l0) h
def f_i_copyInts_c : CRow := fun args inh => match dec2 [.p .sl] [] args inh with
  | some ([.l l0], []) => some ((f_i_copyInts l0).isSome, (f_i_copyInts_en ((f_i_copyInts l0).getD [])).1, (f_i_copyInts_en ((f_i_copyInts l0).getD [])).2)
  | _ => none
theorem f_i_copyInts_cc : CTrue Try.prog 85 f_i_copyInts_c := by
  intro args inh rs out h
  unfold f_i_copyInts_c at h
  split at h
  · rename_i hd
    obtain ⟨h1, h2⟩ := dec2_enc hd
    rw [← h1, ← h2]
    exact rowC (f_i_copyInts_ok _) h
  · cases h

def f_i_zeroFree_CountZeroFree_1_F : Fi := { nv := 1, nc := 1, m := 1, vt := [], kl := [(0, ([1, 6, 7, 8, 9, 11, 12, 13, 14, 15, 16, 17, 18, 19, 20, 21, 22, 23, 24, 25, 26, 27, 28, 29, 30, 31, 32, 33, 34, 35, 36, 37, 38, 39, 40, 41, 42, 43, 44, 45, 46, 47, 48, 49, 50, 51, 52], [1, 2, 3, 4, 5, 6, 7, 8, 9, 10, 11, 12, 13, 14, 15, 16, 17, 18, 19, 20, 21, 22, 23, 24, 25, 26, 27, 28, 29, 30, 31, 32, 33, 34, 35, 36, 37, 38, 39, 40, 41, 42, 43, 44, 45, 46, 47, 48, 49, 50, 51, 52], [1, 2, 3, 4, 5, 6, 7, 8, 9, 10, 11, 12, 13, 14, 15, 16, 17, 18, 19, 20, 21, 22, 23, 24, 25, 26, 27, 28, 29, 30, 31, 32, 33, 34, 35, 36, 37, 38, 39, 40, 41, 42, 43, 44, 45, 46, 47, 48, 49, 50, 51, 52]))], sk := [], mvs := [], fz := [] }
def f_i_zeroFree_CountZeroFree_1_a (g0 : List Sc) (l1 : List Sc) (sums2 : Int) (visit3 : Int) (h0 : Int) : List AV := enc [.p .gr, .fr 3, .p (.int .i64), .fn 56 [.evi .i64, .pt 0 1]] [.l g0, .l l1, .i sums2, .i visit3]
def f_i_zeroFree_CountZeroFree_1_i (g0 : List Sc) (l1 : List Sc) (sums2 : Int) (visit3 : Int) (h0 : Int) : List AV := enc [.p (.int .i64)] [.i h0]
def f_i_zeroFree_CountZeroFree_1_en (r : Int) : List AV × List AV := (enc [] [], enc [.p (.int .i64)] [.i r])
def f_i_zeroFree_CountZeroFree_1_cs (self : (List Sc × List Sc × Int × Int × Int) → Option (Int)) : CRow := fun args inh => match dec2 [.p .gr, .fr 3, .p (.int .i64), .fn 56 [.evi .i64, .pt 0 1]] [.p (.int .i64)] args inh with
  | some ([.l g0, .l l1, .i sums2, .i visit3], [.i h0]) => some ((self (g0, l1, sums2, visit3, h0)).isSome, (f_i_zeroFree_CountZeroFree_1_en ((self (g0, l1, sums2, visit3, h0)).getD 0)).1, (f_i_zeroFree_CountZeroFree_1_en ((self (g0, l1, sums2, visit3, h0)).getD 0)).2)
  | _ => none
theorem f_i_zeroFree_CountZeroFree_1_cst (self : (List Sc × List Sc × Int × Int × Int) → Option (Int)) (hs : ∀ a r, self a = some r → CS Try.prog 55 (f_i_zeroFree_CountZeroFree_1_a a.1 a.2.1 a.2.2.1 a.2.2.2.1 a.2.2.2.2) (f_i_zeroFree_CountZeroFree_1_i a.1 a.2.1 a.2.2.1 a.2.2.2.1 a.2.2.2.2) (f_i_zeroFree_CountZeroFree_1_en r).1 (f_i_zeroFree_CountZeroFree_1_en r).2) : CTrue Try.prog 55 (f_i_zeroFree_CountZeroFree_1_cs self) := by
  intro args inh rs out h
  unfold f_i_zeroFree_CountZeroFree_1_cs at h
  split at h
  · rename_i hd
    obtain ⟨h1, h2⟩ := dec2_enc hd
    rw [← h1, ← h2]
    exact rowC (hs _) h
  · cases h
def f_i_zeroFree_CountZeroFree_1_M (self : (List Sc × List Sc × Int × Int × Int) → Option (Int)) : Calling := addC 55 (f_i_zeroFree_CountZeroFree_1_cs self) (addC 56 f_i_CountZeroFree_1_c (addC 53 f_i_OrderOf_c (addC 91 f_i_Group_shift_c (addC 83 f_i_in_c (addC 85 f_i_copyInts_c (noC))))))
theorem f_i_zeroFree_CountZeroFree_1_Mt (self : (List Sc × List Sc × Int × Int × Int) → Option (Int)) (hs : ∀ a r, self a = some r → CS Try.prog 55 (f_i_zeroFree_CountZeroFree_1_a a.1 a.2.1 a.2.2.1 a.2.2.2.1 a.2.2.2.2) (f_i_zeroFree_CountZeroFree_1_i a.1 a.2.1 a.2.2.1 a.2.2.2.1 a.2.2.2.2) (f_i_zeroFree_CountZeroFree_1_en r).1 (f_i_zeroFree_CountZeroFree_1_en r).2) : CallOk Try.prog (f_i_zeroFree_CountZeroFree_1_M self) := addC_true (f_i_zeroFree_CountZeroFree_1_cst self hs) (addC_true f_i_CountZeroFree_1_cc (addC_true f_i_OrderOf_cc (addC_true f_i_Group_shift_cc (addC_true f_i_in_cc (addC_true f_i_copyInts_cc (noC_true))))))
theorem f_i_zeroFree_CountZeroFree_1_o : loopsOnce Try.f55 = true := by kernel_rfl
def f_i_zeroFree_CountZeroFree_1_h0 : List Sh := [.p (.int .i64), .u, .fr 3, .p (.int .i64), .fn 56 [.evi .i64, .pt 0 1], .p .el, .u, .u, .u, .u, .p (.int .i64), .u, .u, .u, .u, .u, .u, .u, .u, .u, .u, .u, .u, .u, .u, .u, .u, .u, .u, .u, .u, .u, .u, .u, .u, .u, .u, .u, .u, .u, .u, .u, .u, .u, .u, .u, .u, .u, .u, .u, .u, .u, .u]
def f_i_zeroFree_CountZeroFree_1_fr0 (self : (List Sc × List Sc × Int × Int × Int) → Option (Int)) (l1 : List Sc) (sums2 : Int) (visit3 : Int) (g4 : List Sc) (s : Int × Int) : List AV := enc f_i_zeroFree_CountZeroFree_1_h0 [.i s.1, .l l1, .i sums2, .i visit3, .l g4, .i s.2]
def f_i_zeroFree_CountZeroFree_1_g0_1 : List Sh := [.p (.int .i64), .u, .u, .u, .u, .u, .u, .u, .u, .u, .u, .u, .u, .u, .u, .u, .u, .u, .u, .u, .u, .u, .u, .u, .u, .u, .u, .u, .u, .u, .u, .u, .u, .u, .u, .u, .u, .u, .u, .u, .u, .u, .u, .u, .u, .u, .u, .u, .u, .u, .u, .u, .u]
def f_i_zeroFree_CountZeroFree_1_x0_1 (self : (List Sc × List Sc × Int × Int × Int) → Option (Int)) (l1 : List Sc) (sums2 : Int) (visit3 : Int) (g4 : List Sc) (e : Int) : X × List AV := (.out 0, enc f_i_zeroFree_CountZeroFree_1_g0_1 [.i e])
def f_i_zeroFree_CountZeroFree_1_x0_2 (self : (List Sc × List Sc × Int × Int × Int) → Option (Int)) (l1 : List Sc) (sums2 : Int) (visit3 : Int) (g4 : List Sc) (_e : Unit) : X × List AV := (.ret, [])
theorem f_i_zeroFree_CountZeroFree_1_p0 {R : Type} (self : (List Sc × List Sc × Int × Int × Int) → Option (Int)) (l1 : List Sc) (sums2 : Int) (visit3 : Int) (g4 : List Sc) (s : Int × Int) (kN : Int × Int → Option R) (kA : Int → Option R) (kB : Unit → Option R) : f_i_zeroFree_CountZeroFree_1_k0 self l1 sums2 visit3 g4 s.1 s.2 kN kA = (f_i_zeroFree_CountZeroFree_1_r0 self l1 sums2 visit3 g4 s).bind (Ro.el kN kA kB) := by
  simp only [f_i_zeroFree_CountZeroFree_1_k0, f_i_zeroFree_CountZeroFree_1_r0, brB, boB, someB, noneB, Ro.el]
theorem f_i_zeroFree_CountZeroFree_1_e0 (self : (List Sc × List Sc × Int × Int × Int) → Option (Int)) (l1 : List Sc) (sums2 : Int) (visit3 : Int) (g4 : List Sc) (s : Int × Int) : EC E0 (f_i_zeroFree_CountZeroFree_1_M self) H0 f_i_zeroFree_CountZeroFree_1_F (asL (noL)) 0 (bodyOf Try.f55 0) (f_i_zeroFree_CountZeroFree_1_fr0 self l1 sums2 visit3 g4 s) (done (klOf f_i_zeroFree_CountZeroFree_1_F 0)) = f_i_zeroFree_CountZeroFree_1_k0 self l1 sums2 visit3 g4 s.1 s.2 (fun s => some (.norm, f_i_zeroFree_CountZeroFree_1_fr0 self l1 sums2 visit3 g4 s)) (fun e => some (f_i_zeroFree_CountZeroFree_1_x0_1 self l1 sums2 visit3 g4 e)) := by kernel_rfl
theorem f_i_zeroFree_CountZeroFree_1_l0 (self : (List Sc × List Sc × Int × Int × Int) → Option (Int)) (hs : ∀ a r, self a = some r → CS Try.prog 55 (f_i_zeroFree_CountZeroFree_1_a a.1 a.2.1 a.2.2.1 a.2.2.2.1 a.2.2.2.2) (f_i_zeroFree_CountZeroFree_1_i a.1 a.2.1 a.2.2.1 a.2.2.2.1 a.2.2.2.2) (f_i_zeroFree_CountZeroFree_1_en r).1 (f_i_zeroFree_CountZeroFree_1_en r).2) (l1 : List Sc) (sums2 : Int) (visit3 : Int) (g4 : List Sc) : ∀ s r, loopL (f_i_zeroFree_CountZeroFree_1_r0 self l1 sums2 visit3 g4) s = some r → LS Try.prog f_i_zeroFree_CountZeroFree_1_F (bodyOf Try.f55 0) (f_i_zeroFree_CountZeroFree_1_fr0 self l1 sums2 visit3 g4 s) (enX (f_i_zeroFree_CountZeroFree_1_x0_1 self l1 sums2 visit3 g4) (f_i_zeroFree_CountZeroFree_1_x0_2 self l1 sums2 visit3 g4) r) :=
  loop_true E0ok (f_i_zeroFree_CountZeroFree_1_Mt self hs) (noL_true) f_i_zeroFree_CountZeroFree_1_o (fun _ h => by cases h) (fun _ h => by cases h) (fun s => (f_i_zeroFree_CountZeroFree_1_e0 self l1 sums2 visit3 g4 s).trans (f_i_zeroFree_CountZeroFree_1_p0 self l1 sums2 visit3 g4 s _ _ (fun e => some (f_i_zeroFree_CountZeroFree_1_x0_2 self l1 sums2 visit3 g4 e))))
def f_i_zeroFree_CountZeroFree_1_t0 (self : (List Sc × List Sc × Int × Int × Int) → Option (Int)) (σ : List AV) : Option (Bool × Bool × (X × List AV) × (X × List AV)) := match dec f_i_zeroFree_CountZeroFree_1_h0 σ with
  | some [.i v0, .l l1, .i sums2, .i visit3, .l g4, .i x9] => some (isOne (loopL (f_i_zeroFree_CountZeroFree_1_r0 self l1 sums2 visit3 g4) (v0, x9)), true, f_i_zeroFree_CountZeroFree_1_x0_1 self l1 sums2 visit3 g4 (getOne 0 (loopL (f_i_zeroFree_CountZeroFree_1_r0 self l1 sums2 visit3 g4) (v0, x9))), (.ret, []))
  | _ => none
theorem f_i_zeroFree_CountZeroFree_1_tt0 (self : (List Sc × List Sc × Int × Int × Int) → Option (Int)) (hs : ∀ a r, self a = some r → CS Try.prog 55 (f_i_zeroFree_CountZeroFree_1_a a.1 a.2.1 a.2.2.1 a.2.2.2.1 a.2.2.2.2) (f_i_zeroFree_CountZeroFree_1_i a.1 a.2.1 a.2.2.1 a.2.2.2.1 a.2.2.2.2) (f_i_zeroFree_CountZeroFree_1_en r).1 (f_i_zeroFree_CountZeroFree_1_en r).2) : TTrue Try.prog f_i_zeroFree_CountZeroFree_1_F Try.f55 0 (f_i_zeroFree_CountZeroFree_1_t0 self) := by
  intro σ p r r' h
  unfold f_i_zeroFree_CountZeroFree_1_t0 at h
  split at h
  · rename_i hd
    rw [← dec_enc hd]
    exact row1 (f_i_zeroFree_CountZeroFree_1_l0 self hs _ _ _ _ _) h
  · cases h
theorem f_i_zeroFree_CountZeroFree_1_p {R : Type} (self : (List Sc × List Sc × Int × Int × Int) → Option (Int)) (g0 : List Sc) (l1 : List Sc) (sums2 : Int) (visit3 : Int) (h0 : Int) (kR : Int → Option R) : f_i_zeroFree_CountZeroFree_1_k self g0 l1 sums2 visit3 h0 kR = (f_i_zeroFree_CountZeroFree_1_k self g0 l1 sums2 visit3 h0 some).bind kR := by
  simp only [f_i_zeroFree_CountZeroFree_1_k, brB, boB, bl1B, someB, noneB]
theorem f_i_zeroFree_CountZeroFree_1_e (self : (List Sc × List Sc × Int × Int × Int) → Option (Int)) (g0 : List Sc) (l1 : List Sc) (sums2 : Int) (visit3 : Int) (h0 : Int) : runFn E0 (f_i_zeroFree_CountZeroFree_1_M self) H0 f_i_zeroFree_CountZeroFree_1_F (asL (addL 0 (f_i_zeroFree_CountZeroFree_1_t0 self) (noL))) Try.f55 (f_i_zeroFree_CountZeroFree_1_a g0 l1 sums2 visit3 h0) (f_i_zeroFree_CountZeroFree_1_i g0 l1 sums2 visit3 h0) = f_i_zeroFree_CountZeroFree_1_k self g0 l1 sums2 visit3 h0 (fun r => some (f_i_zeroFree_CountZeroFree_1_en r)) := by kernel_rfl
theorem f_i_zeroFree_CountZeroFree_1_ks (self : (List Sc × List Sc × Int × Int × Int) → Option (Int)) (hs : ∀ a r, self a = some r → CS Try.prog 55 (f_i_zeroFree_CountZeroFree_1_a a.1 a.2.1 a.2.2.1 a.2.2.2.1 a.2.2.2.2) (f_i_zeroFree_CountZeroFree_1_i a.1 a.2.1 a.2.2.1 a.2.2.2.1 a.2.2.2.2) (f_i_zeroFree_CountZeroFree_1_en r).1 (f_i_zeroFree_CountZeroFree_1_en r).2) (g0 : List Sc) (l1 : List Sc) (sums2 : Int) (visit3 : Int) (h0 : Int) (r : Int) (h : f_i_zeroFree_CountZeroFree_1_k self g0 l1 sums2 visit3 h0 some = some r) : CS Try.prog 55 (f_i_zeroFree_CountZeroFree_1_a g0 l1 sums2 visit3 h0) (f_i_zeroFree_CountZeroFree_1_i g0 l1 sums2 visit3 h0) (f_i_zeroFree_CountZeroFree_1_en r).1 (f_i_zeroFree_CountZeroFree_1_en r).2 :=
  fn_true (Gk := fun k => f_i_zeroFree_CountZeroFree_1_k self g0 l1 sums2 visit3 h0 k) (en := f_i_zeroFree_CountZeroFree_1_en) Try.func55 E0ok (f_i_zeroFree_CountZeroFree_1_Mt self hs) (addL_true (f_i_zeroFree_CountZeroFree_1_tt0 self hs) (noL_true)) f_i_zeroFree_CountZeroFree_1_o (f_i_zeroFree_CountZeroFree_1_e self g0 l1 sums2 visit3 h0) (f_i_zeroFree_CountZeroFree_1_p self g0 l1 sums2 visit3 h0) h
theorem f_i_zeroFree_CountZeroFree_1_ns : ∀ n a r, f_i_zeroFree_CountZeroFree_1_n n a = some r → CS Try.prog 55 (f_i_zeroFree_CountZeroFree_1_a a.1 a.2.1 a.2.2.1 a.2.2.2.1 a.2.2.2.2) (f_i_zeroFree_CountZeroFree_1_i a.1 a.2.1 a.2.2.1 a.2.2.2.1 a.2.2.2.2) (f_i_zeroFree_CountZeroFree_1_en r).1 (f_i_zeroFree_CountZeroFree_1_en r).2
  | 0, _, _, h => by cases h
  | n + 1, a, r, h => f_i_zeroFree_CountZeroFree_1_ks (f_i_zeroFree_CountZeroFree_1_n n) (f_i_zeroFree_CountZeroFree_1_ns n) a.1 a.2.1 a.2.2.1 a.2.2.2.1 a.2.2.2.2 r h
theorem f_i_zeroFree_CountZeroFree_1_ok (g0 : List Sc) (l1 : List Sc) (sums2 : Int) (visit3 : Int) (h0 : Int) (r : Int) (h : f_i_zeroFree_CountZeroFree_1 g0 l1 sums2 visit3 h0 = some r) : CS Try.prog 55 (f_i_zeroFree_CountZeroFree_1_a g0 l1 sums2 visit3 h0) (f_i_zeroFree_CountZeroFree_1_i g0 l1 sums2 visit3 h0) (f_i_zeroFree_CountZeroFree_1_en r).1 (f_i_zeroFree_CountZeroFree_1_en r).2 := by
  obtain ⟨n, hn⟩ := limF_some h
  exact f_i_zeroFree_CountZeroFree_1_ns n _ r hn
def f_i_zeroFree_CountZeroFree_1_c : CRow := fun args inh => match dec2 [.p .gr, .fr 3, .p (.int .i64), .fn 56 [.evi .i64, .pt 0 1]] [.p (.int .i64)] args inh with
  | some ([.l g0, .l l1, .i sums2, .i visit3], [.i h0]) => some ((f_i_zeroFree_CountZeroFree_1 g0 l1 sums2 visit3 h0).isSome, (f_i_zeroFree_CountZeroFree_1_en ((f_i_zeroFree_CountZeroFree_1 g0 l1 sums2 visit3 h0).getD 0)).1, (f_i_zeroFree_CountZeroFree_1_en ((f_i_zeroFree_CountZeroFree_1 g0 l1 sums2 visit3 h0).getD 0)).2)
  | _ => none
theorem f_i_zeroFree_CountZeroFree_1_cc : CTrue Try.prog 55 f_i_zeroFree_CountZeroFree_1_c := by
  intro args inh rs out h
  unfold f_i_zeroFree_CountZeroFree_1_c at h
  split at h
  · rename_i hd
    obtain ⟨h1, h2⟩ := dec2_enc hd
    rw [← h1, ← h2]
    exact rowC (f_i_zeroFree_CountZeroFree_1_ok _ _ _ _ _) h
  · cases h

def f_i_CountZeroFree_F : Fi := { nv := 1, nc := 1, m := 0, vt := [(5, 0)], kl := [], sk := [], mvs := [], fz := [] }
def f_i_CountZeroFree_a (g0 : List Sc) (n1 : Int) : List AV := enc [.p .gr, .p (.int .i64)] [.l g0, .i n1]
def f_i_CountZeroFree_i (g0 : List Sc) (n1 : Int) : List AV := enc [] []
def f_i_CountZeroFree_en (r : Int) : List AV × List AV := (enc [.p (.int .i64)] [.i r], enc [] [])
def f_i_CountZeroFree_M : Calling := addC 52 f_i_IsGroup_c (addC 53 f_i_OrderOf_c (addC 54 f_i_within_c (addC 55 f_i_zeroFree_CountZeroFree_1_c (noC))))
theorem f_i_CountZeroFree_Mt : CallOk Try.prog (f_i_CountZeroFree_M) := addC_true f_i_IsGroup_cc (addC_true f_i_OrderOf_cc (addC_true f_i_within_cc (addC_true f_i_zeroFree_CountZeroFree_1_cc (noC_true))))
theorem f_i_CountZeroFree_o : loopsOnce Try.f18 = true := by kernel_rfl
theorem f_i_CountZeroFree_p {R : Type} (g0 : List Sc) (n1 : Int) (kR : Int → Option R) : f_i_CountZeroFree_k g0 n1 kR = (f_i_CountZeroFree_k g0 n1 some).bind kR := by
  simp only [f_i_CountZeroFree_k, brB, boB, someB]
theorem f_i_CountZeroFree_e (g0 : List Sc) (n1 : Int) : runFn E0 f_i_CountZeroFree_M H0 f_i_CountZeroFree_F (asL (noL)) Try.f18 (f_i_CountZeroFree_a g0 n1) (f_i_CountZeroFree_i g0 n1) = f_i_CountZeroFree_k g0 n1 (fun r => some (f_i_CountZeroFree_en r)) := by kernel_rfl
theorem f_i_CountZeroFree_ok (g0 : List Sc) (n1 : Int) (r : Int) (h : f_i_CountZeroFree g0 n1 = some r) : CS Try.prog 18 (f_i_CountZeroFree_a g0 n1) (f_i_CountZeroFree_i g0 n1) (f_i_CountZeroFree_en r).1 (f_i_CountZeroFree_en r).2 :=
  fn_true (Gk := fun k => f_i_CountZeroFree_k g0 n1 k) (en := f_i_CountZeroFree_en) Try.func18 E0ok f_i_CountZeroFree_Mt (noL_true) f_i_CountZeroFree_o (f_i_CountZeroFree_e g0 n1) (f_i_CountZeroFree_p g0 n1) h
def f_i_CountZeroFree_c : CRow := fun args inh => match dec2 [.p .gr, .p (.int .i64)] [] args inh with
  | some ([.l g0, .i n1], []) => some ((f_i_CountZeroFree g0 n1).isSome, (f_i_CountZeroFree_en ((f_i_CountZeroFree g0 n1).getD 0)).1, (f_i_CountZeroFree_en ((f_i_CountZeroFree g0 n1).getD 0)).2)
  | _ => none
theorem f_i_CountZeroFree_cc : CTrue Try.prog 18 f_i_CountZeroFree_c := by
  intro args inh rs out h
  unfold f_i_CountZeroFree_c at h
  split at h
  · rename_i hd
    obtain ⟨h1, h2⟩ := dec2_enc hd
    rw [← h1, ← h2]
    exact rowC (f_i_CountZeroFree_ok _ _) h
  · cases h

def f_l_eqIntS_F : Fi := { nv := 0, nc := 0, m := 0, vt := [], kl := [(0, ([2, 3, 4, 6, 7, 8, 9, 10, 11, 12, 13, 14, 15, 16, 17, 18, 19, 20, 21, 22, 23, 24, 25], [0, 1, 2, 3, 4, 5, 6, 7, 8, 9, 10, 11, 12, 13, 14, 15, 16, 17, 18, 19, 20, 21, 22, 23, 24, 25], [0, 1, 2, 3, 5, 6, 7, 8, 9, 10, 11, 12, 13, 14, 15, 16, 17, 18, 19, 20, 21, 22, 23, 24, 25]))], sk := [], mvs := [], fz := [] }
def f_l_eqIntS_a (a0 : List Sc) (b1 : List Sc) : List AV := enc [.p .sl, .p .sl] [.l a0, .l b1]
def f_l_eqIntS_i (a0 : List Sc) (b1 : List Sc) : List AV := enc [] []
def f_l_eqIntS_en (r : Bool) : List AV × List AV := (enc [.p .boo] [.b r], enc [] [])
def f_l_eqIntS_M : Calling := noC
theorem f_l_eqIntS_Mt : CallOk Try.prog (f_l_eqIntS_M) := noC_true
theorem f_l_eqIntS_o : loopsOnce Try.f24 = true := by kernel_rfl
def f_l_eqIntS_h0 : List Sh := [.p .sl, .p .sl, .u, .u, .u, .p (.int .i64), .u, .u, .u, .u, .u, .u, .u, .u, .u, .u, .u, .u, .u, .u, .u, .u, .u, .u, .u, .u]
def f_l_eqIntS_fr0 (a0 : List Sc) (b1 : List Sc) (s : Int) : List AV := enc f_l_eqIntS_h0 [.l a0, .l b1, .i s]
def f_l_eqIntS_g0_1 : List Sh := [.u, .u, .u, .u, .u, .u, .u, .u, .u, .u, .u, .u, .u, .u, .u, .u, .u, .u, .u, .u, .u, .u, .u, .u, .u, .u]
def f_l_eqIntS_x0_1 (a0 : List Sc) (b1 : List Sc) (e : Unit) : X × List AV := (.out 0, enc f_l_eqIntS_g0_1 [])
def f_l_eqIntS_g0_2 : List Sh := [.u, .u, .u, .u, .p .boo, .u, .u, .u, .u, .u, .u, .u, .u, .u, .u, .u, .u, .u, .u, .u, .u, .u, .u, .u, .u, .u]
def f_l_eqIntS_x0_2 (a0 : List Sc) (b1 : List Sc) (e : Unit) : X × List AV := (.ret, enc f_l_eqIntS_g0_2 [.b false])
theorem f_l_eqIntS_p0 {R : Type} (a0 : List Sc) (b1 : List Sc) (s : Int) (kN : Int → Option R) (kA : Unit → Option R) (kB : Unit → Option R) : f_l_eqIntS_k0 a0 b1 s kN kA kB = (f_l_eqIntS_r0 a0 b1 s).bind (Ro.el kN kA kB) := by
  simp only [f_l_eqIntS_k0, f_l_eqIntS_r0, brB, someB, noneB, Ro.el]
theorem f_l_eqIntS_e0 (a0 : List Sc) (b1 : List Sc) (s : Int) : EC E0 f_l_eqIntS_M H0 f_l_eqIntS_F (asL (noL)) 0 (bodyOf Try.f24 0) (f_l_eqIntS_fr0 a0 b1 s) (done (klOf f_l_eqIntS_F 0)) = f_l_eqIntS_k0 a0 b1 s (fun s => some (.norm, f_l_eqIntS_fr0 a0 b1 s)) (fun e => some (f_l_eqIntS_x0_1 a0 b1 e)) (fun e => some (f_l_eqIntS_x0_2 a0 b1 e)) := by kernel_rfl
theorem f_l_eqIntS_l0 (a0 : List Sc) (b1 : List Sc) : ∀ s r, loopL (f_l_eqIntS_r0 a0 b1) s = some r → LS Try.prog f_l_eqIntS_F (bodyOf Try.f24 0) (f_l_eqIntS_fr0 a0 b1 s) (enX (f_l_eqIntS_x0_1 a0 b1) (f_l_eqIntS_x0_2 a0 b1) r) :=
  loop_true E0ok f_l_eqIntS_Mt (noL_true) f_l_eqIntS_o (fun _ h => by cases h) (fun _ h => by cases h) (fun s => (f_l_eqIntS_e0 a0 b1 s).trans (f_l_eqIntS_p0 a0 b1 s _ _ (fun e => some (f_l_eqIntS_x0_2 a0 b1 e))))
def f_l_eqIntS_t0 (σ : List AV) : Option (Bool × Bool × (X × List AV) × (X × List AV)) := match dec f_l_eqIntS_h0 σ with
  | some [.l a0, .l b1, .i i5] => some ((loopL (f_l_eqIntS_r0 a0 b1) i5).isSome, isOne (loopL (f_l_eqIntS_r0 a0 b1) i5), f_l_eqIntS_x0_1 a0 b1 (getOne () (loopL (f_l_eqIntS_r0 a0 b1) i5)), f_l_eqIntS_x0_2 a0 b1 (getTwo () (loopL (f_l_eqIntS_r0 a0 b1) i5)))
  | _ => none
theorem f_l_eqIntS_tt0 : TTrue Try.prog f_l_eqIntS_F Try.f24 0 (f_l_eqIntS_t0) := by
  intro σ p r r' h
  unfold f_l_eqIntS_t0 at h
  split at h
  · rename_i hd
    rw [← dec_enc hd]
    exact row2 (f_l_eqIntS_l0 _ _ _) h
  · cases h
theorem f_l_eqIntS_p {R : Type} (a0 : List Sc) (b1 : List Sc) (kR : Bool → Option R) : f_l_eqIntS_k a0 b1 kR = (f_l_eqIntS_k a0 b1 some).bind kR := by
  simp only [f_l_eqIntS_k, brB, blB, someB]
theorem f_l_eqIntS_e (a0 : List Sc) (b1 : List Sc) : runFn E0 f_l_eqIntS_M H0 f_l_eqIntS_F (asL (addL 0 (f_l_eqIntS_t0) (noL))) Try.f24 (f_l_eqIntS_a a0 b1) (f_l_eqIntS_i a0 b1) = f_l_eqIntS_k a0 b1 (fun r => some (f_l_eqIntS_en r)) := by kernel_rfl
theorem f_l_eqIntS_ok (a0 : List Sc) (b1 : List Sc) (r : Bool) (h : f_l_eqIntS a0 b1 = some r) : CS Try.prog 24 (f_l_eqIntS_a a0 b1) (f_l_eqIntS_i a0 b1) (f_l_eqIntS_en r).1 (f_l_eqIntS_en r).2 :=
  fn_true (Gk := fun k => f_l_eqIntS_k a0 b1 k) (en := f_l_eqIntS_en) Try.func24 E0ok f_l_eqIntS_Mt (addL_true (f_l_eqIntS_tt0) (noL_true)) f_l_eqIntS_o (f_l_eqIntS_e a0 b1) (f_l_eqIntS_p a0 b1) h
def f_l_eqIntS_c : CRow := fun args inh => match dec2 [.p .sl, .p .sl] [] args inh with
  | some ([.l a0, .l b1], []) => some ((f_l_eqIntS a0 b1).isSome, (f_l_eqIntS_en ((f_l_eqIntS a0 b1).getD false)).1, (f_l_eqIntS_en ((f_l_eqIntS a0 b1).getD false)).2)
  | _ => none
theorem f_l_eqIntS_cc : CTrue Try.prog 24 f_l_eqIntS_c := by
  intro args inh rs out h
  unfold f_l_eqIntS_c at h
  split at h
  · rename_i hd
    obtain ⟨h1, h2⟩ := dec2_enc hd
    rw [← h1, ← h2]
    exact rowC (f_l_eqIntS_ok _ _) h
  · cases h

def f_l_eqGroup_F : Fi := { nv := 0, nc := 0, m := 0, vt := [], kl := [], sk := [], mvs := [], fz := [] }
def f_l_eqGroup_a (a0 : List Sc) (b1 : List Sc) : List AV := enc [.p .gr, .p .gr] [.l a0, .l b1]
def f_l_eqGroup_i (a0 : List Sc) (b1 : List Sc) : List AV := enc [] []
def f_l_eqGroup_en (r : Bool) : List AV × List AV := (enc [.p .boo] [.b r], enc [] [])
def f_l_eqGroup_M : Calling := addC 24 f_l_eqIntS_c (noC)
theorem f_l_eqGroup_Mt : CallOk Try.prog (f_l_eqGroup_M) := addC_true f_l_eqIntS_cc (noC_true)
theorem f_l_eqGroup_o : loopsOnce Try.f19 = true := by kernel_rfl
theorem f_l_eqGroup_p {R : Type} (a0 : List Sc) (b1 : List Sc) (kR : Bool → Option R) : f_l_eqGroup_k a0 b1 kR = (f_l_eqGroup_k a0 b1 some).bind kR := by
  simp only [f_l_eqGroup_k, brB, boB, someB]
theorem f_l_eqGroup_e (a0 : List Sc) (b1 : List Sc) : runFn E0 f_l_eqGroup_M H0 f_l_eqGroup_F (asL (noL)) Try.f19 (f_l_eqGroup_a a0 b1) (f_l_eqGroup_i a0 b1) = f_l_eqGroup_k a0 b1 (fun r => some (f_l_eqGroup_en r)) := by kernel_rfl
theorem f_l_eqGroup_ok (a0 : List Sc) (b1 : List Sc) (r : Bool) (h : f_l_eqGroup a0 b1 = some r) : CS Try.prog 19 (f_l_eqGroup_a a0 b1) (f_l_eqGroup_i a0 b1) (f_l_eqGroup_en r).1 (f_l_eqGroup_en r).2 :=
  fn_true (Gk := fun k => f_l_eqGroup_k a0 b1 k) (en := f_l_eqGroup_en) Try.func19 E0ok f_l_eqGroup_Mt (noL_true) f_l_eqGroup_o (f_l_eqGroup_e a0 b1) (f_l_eqGroup_p a0 b1) h
def f_l_eqGroup_c : CRow := fun args inh => match dec2 [.p .gr, .p .gr] [] args inh with
  | some ([.l a0, .l b1], []) => some ((f_l_eqGroup a0 b1).isSome, (f_l_eqGroup_en ((f_l_eqGroup a0 b1).getD false)).1, (f_l_eqGroup_en ((f_l_eqGroup a0 b1).getD false)).2)
  | _ => none
theorem f_l_eqGroup_cc : CTrue Try.prog 19 f_l_eqGroup_c := by
  intro args inh rs out h
  unfold f_l_eqGroup_c at h
  split at h
  · rename_i hd
    obtain ⟨h1, h2⟩ := dec2_enc hd
    rw [← h1, ← h2]
    exact rowC (f_l_eqGroup_ok _ _) h
  · cases h

def f_l_FnExactCountZeroFree_F : Fi := { nv := 3, nc := 1, m := 0, vt := [(7, 0), (15, 1), (19, 2)], kl := [], sk := [], mvs := [1, 2], fz := [] }
def f_l_FnExactCountZeroFree_a (aG0 : List Sc) (aN1 : Int) : List AV := enc [.p .gr, .p (.int .i64)] [.l aG0, .i aN1]
def f_l_FnExactCountZeroFree_i (aG0 : List Sc) (aN1 : Int) : List AV := enc [] []
def f_l_FnExactCountZeroFree_en (r : Bool) : List AV × List AV := (enc [.p .boo] [.b r], enc [] [])
def f_l_FnExactCountZeroFree_M : Calling := addC 15 f_l_szGroup_c (addC 17 f_l_toGroup_c (addC 16 f_s_CountZeroFree_c (addC 18 f_i_CountZeroFree_c (addC 19 f_l_eqGroup_c (noC)))))
theorem f_l_FnExactCountZeroFree_Mt : CallOk Try.prog (f_l_FnExactCountZeroFree_M) := addC_true f_l_szGroup_cc (addC_true f_l_toGroup_cc (addC_true f_s_CountZeroFree_cc (addC_true f_i_CountZeroFree_cc (addC_true f_l_eqGroup_cc (noC_true)))))
theorem f_l_FnExactCountZeroFree_o : loopsOnce Try.f3 = true := by kernel_rfl
theorem f_l_FnExactCountZeroFree_p {R : Type} (aG0 : List Sc) (aN1 : Int) (kR : Bool → Option R) : f_l_FnExactCountZeroFree_k aG0 aN1 kR = (f_l_FnExactCountZeroFree_k aG0 aN1 some).bind kR := by
  simp only [f_l_FnExactCountZeroFree_k, brB, boB, someB]
theorem f_l_FnExactCountZeroFree_e (aG0 : List Sc) (aN1 : Int) : runFn E0 f_l_FnExactCountZeroFree_M H0 f_l_FnExactCountZeroFree_F (asL (noL)) Try.f3 (f_l_FnExactCountZeroFree_a aG0 aN1) (f_l_FnExactCountZeroFree_i aG0 aN1) = f_l_FnExactCountZeroFree_k aG0 aN1 (fun r => some (f_l_FnExactCountZeroFree_en r)) := by kernel_rfl
theorem f_l_FnExactCountZeroFree_ok (aG0 : List Sc) (aN1 : Int) (r : Bool) (h : f_l_FnExactCountZeroFree aG0 aN1 = some r) : CS Try.prog 3 (f_l_FnExactCountZeroFree_a aG0 aN1) (f_l_FnExactCountZeroFree_i aG0 aN1) (f_l_FnExactCountZeroFree_en r).1 (f_l_FnExactCountZeroFree_en r).2 :=
  fn_true (Gk := fun k => f_l_FnExactCountZeroFree_k aG0 aN1 k) (en := f_l_FnExactCountZeroFree_en) Try.func3 E0ok f_l_FnExactCountZeroFree_Mt (noL_true) f_l_FnExactCountZeroFree_o (f_l_FnExactCountZeroFree_e aG0 aN1) (f_l_FnExactCountZeroFree_p aG0 aN1) h
def f_l_FnExactCountZeroFree_c : CRow := fun args inh => match dec2 [.p .gr, .p (.int .i64)] [] args inh with
  | some ([.l aG0, .i aN1], []) => some ((f_l_FnExactCountZeroFree aG0 aN1).isSome, (f_l_FnExactCountZeroFree_en ((f_l_FnExactCountZeroFree aG0 aN1).getD false)).1, (f_l_FnExactCountZeroFree_en ((f_l_FnExactCountZeroFree aG0 aN1).getD false)).2)
  | _ => none
theorem f_l_FnExactCountZeroFree_cc : CTrue Try.prog 3 f_l_FnExactCountZeroFree_c := by
  intro args inh rs out h
  unfold f_l_FnExactCountZeroFree_c at h
  split at h
  · rename_i hd
    obtain ⟨h1, h2⟩ := dec2_enc hd
    rw [← h1, ← h2]
    exact rowC (f_l_FnExactCountZeroFree_ok _ _) h
  · cases h

def f_s_l17Longest_F : Fi := { nv := 0, nc := 0, m := 0, vt := [], kl := [(0, ([0, 3, 5, 6, 7, 8, 11, 12, 13, 14, 15, 16, 17, 18, 19, 20, 21, 22, 23, 24, 25, 26, 27, 28, 29, 30, 31, 32, 33, 34, 35, 36, 37, 38, 39, 40, 41, 42, 43, 44, 45, 46, 47, 48, 49], [0, 3, 5, 6, 7, 8, 11, 12, 13, 14, 15, 16, 17, 18, 19, 20, 21, 22, 23, 24, 25, 26, 27, 28, 29, 30, 31, 32, 33, 34, 35, 36, 37, 38, 39, 40, 41, 42, 43, 44, 45, 46, 47, 48, 49], [0, 1, 2, 3, 4, 5, 6, 7, 9, 10, 11, 12, 13, 14, 15, 16, 17, 18, 19, 20, 21, 22, 23, 24, 25, 26, 27, 28, 29, 30, 31, 32, 33, 34, 35, 36, 37, 38, 39, 40, 41, 42, 43, 44, 45, 46, 47, 48, 49]))], sk := [], mvs := [], fz := [] }
def f_s_l17Longest_a (g0 : List Sc) (l1 : List Sc) (sums2 : Int) (least3 : Int) : List AV := enc [.p .gr, .p .sl, .p (.int .i64), .p (.int .i64)] [.l g0, .l l1, .i sums2, .i least3]
def f_s_l17Longest_i (g0 : List Sc) (l1 : List Sc) (sums2 : Int) (least3 : Int) : List AV := enc [] []
def f_s_l17Longest_en (r : List Sc) : List AV × List AV := (enc [.p .sl] [.l r], enc [] [])
def f_s_l17Longest_cs (self : (List Sc × List Sc × Int × Int) → Option (List Sc)) : CRow := fun args inh => match dec2 [.p .gr, .p .sl, .p (.int .i64), .p (.int .i64)] [] args inh with
  | some ([.l g0, .l l1, .i sums2, .i least3], []) => some ((self (g0, l1, sums2, least3)).isSome, (f_s_l17Longest_en ((self (g0, l1, sums2, least3)).getD [])).1, (f_s_l17Longest_en ((self (g0, l1, sums2, least3)).getD [])).2)
  | _ => none
theorem f_s_l17Longest_cst (self : (List Sc × List Sc × Int × Int) → Option (List Sc)) (hs : ∀ a r, self a = some r → CS Try.prog 57 (f_s_l17Longest_a a.1 a.2.1 a.2.2.1 a.2.2.2) (f_s_l17Longest_i a.1 a.2.1 a.2.2.1 a.2.2.2) (f_s_l17Longest_en r).1 (f_s_l17Longest_en r).2) : CTrue Try.prog 57 (f_s_l17Longest_cs self) := by
  intro args inh rs out h
  unfold f_s_l17Longest_cs at h
  split at h
  · rename_i hd
    obtain ⟨h1, h2⟩ := dec2_enc hd
    rw [← h1, ← h2]
    exact rowC (hs _) h
  · cases h
def f_s_l17Longest_M (self : (List Sc × List Sc × Int × Int) → Option (List Sc)) : Calling := addC 57 (f_s_l17Longest_cs self) (addC 49 f_s_l2Order_c (addC 90 f_s_l3Shift_c (noC)))
theorem f_s_l17Longest_Mt (self : (List Sc × List Sc × Int × Int) → Option (List Sc)) (hs : ∀ a r, self a = some r → CS Try.prog 57 (f_s_l17Longest_a a.1 a.2.1 a.2.2.1 a.2.2.2) (f_s_l17Longest_i a.1 a.2.1 a.2.2.1 a.2.2.2) (f_s_l17Longest_en r).1 (f_s_l17Longest_en r).2) : CallOk Try.prog (f_s_l17Longest_M self) := addC_true (f_s_l17Longest_cst self hs) (addC_true f_s_l2Order_cc (addC_true f_s_l3Shift_cc (noC_true)))
theorem f_s_l17Longest_o : loopsOnce Try.f57 = true := by kernel_rfl
def f_s_l17Longest_h0 : List Sh := [.u, .p .sl, .p (.int .i64), .u, .p .el, .u, .u, .u, .u, .p .sl, .p (.int .i64), .u, .u, .u, .u, .u, .u, .u, .u, .u, .u, .u, .u, .u, .u, .u, .u, .u, .u, .u, .u, .u, .u, .u, .u, .u, .u, .u, .u, .u, .u, .u, .u, .u, .u, .u, .u, .u, .u, .u]
def f_s_l17Longest_fr0 (self : (List Sc × List Sc × Int × Int) → Option (List Sc)) (l1 : List Sc) (sums2 : Int) (g4 : List Sc) (s : List Sc × Int) : List AV := enc f_s_l17Longest_h0 [.l l1, .i sums2, .l g4, .l s.1, .i s.2]
def f_s_l17Longest_g0_1 : List Sh := [.u, .p .sl, .p (.int .i64), .u, .p .el, .u, .u, .u, .u, .p .sl, .p (.int .i64), .u, .u, .u, .u, .u, .u, .u, .u, .u, .u, .u, .u, .u, .u, .u, .u, .u, .u, .u, .u, .u, .u, .u, .u, .u, .u, .u, .u, .u, .u, .u, .u, .u, .u, .u, .u, .u, .u, .u]
def f_s_l17Longest_x0_1 (self : (List Sc × List Sc × Int × Int) → Option (List Sc)) (l1 : List Sc) (sums2 : Int) (g4 : List Sc) (e : List Sc × Int) : X × List AV := (.out 0, enc f_s_l17Longest_g0_1 [.l l1, .i sums2, .l g4, .l e.1, .i e.2])
def f_s_l17Longest_x0_2 (self : (List Sc × List Sc × Int × Int) → Option (List Sc)) (l1 : List Sc) (sums2 : Int) (g4 : List Sc) (_e : Unit) : X × List AV := (.ret, [])
theorem f_s_l17Longest_p0 {R : Type} (self : (List Sc × List Sc × Int × Int) → Option (List Sc)) (l1 : List Sc) (sums2 : Int) (g4 : List Sc) (s : List Sc × Int) (kN : List Sc × Int → Option R) (kA : List Sc × Int → Option R) (kB : Unit → Option R) : f_s_l17Longest_k0 self l1 sums2 g4 s.1 s.2 kN kA = (f_s_l17Longest_r0 self l1 sums2 g4 s).bind (Ro.el kN kA kB) := by
  simp only [f_s_l17Longest_k0, f_s_l17Longest_r0, brB, boB, someB, noneB, Ro.el]
theorem f_s_l17Longest_e0 (self : (List Sc × List Sc × Int × Int) → Option (List Sc)) (l1 : List Sc) (sums2 : Int) (g4 : List Sc) (s : List Sc × Int) : EC E0 (f_s_l17Longest_M self) H0 f_s_l17Longest_F (asL (noL)) 0 (bodyOf Try.f57 0) (f_s_l17Longest_fr0 self l1 sums2 g4 s) (done (klOf f_s_l17Longest_F 0)) = f_s_l17Longest_k0 self l1 sums2 g4 s.1 s.2 (fun s => some (.norm, f_s_l17Longest_fr0 self l1 sums2 g4 s)) (fun e => some (f_s_l17Longest_x0_1 self l1 sums2 g4 e)) := by kernel_rfl
theorem f_s_l17Longest_l0 (self : (List Sc × List Sc × Int × Int) → Option (List Sc)) (hs : ∀ a r, self a = some r → CS Try.prog 57 (f_s_l17Longest_a a.1 a.2.1 a.2.2.1 a.2.2.2) (f_s_l17Longest_i a.1 a.2.1 a.2.2.1 a.2.2.2) (f_s_l17Longest_en r).1 (f_s_l17Longest_en r).2) (l1 : List Sc) (sums2 : Int) (g4 : List Sc) : ∀ s r, loopL (f_s_l17Longest_r0 self l1 sums2 g4) s = some r → LS Try.prog f_s_l17Longest_F (bodyOf Try.f57 0) (f_s_l17Longest_fr0 self l1 sums2 g4 s) (enX (f_s_l17Longest_x0_1 self l1 sums2 g4) (f_s_l17Longest_x0_2 self l1 sums2 g4) r) :=
  loop_true E0ok (f_s_l17Longest_Mt self hs) (noL_true) f_s_l17Longest_o (fun _ h => by cases h) (fun _ h => by cases h) (fun s => (f_s_l17Longest_e0 self l1 sums2 g4 s).trans (f_s_l17Longest_p0 self l1 sums2 g4 s _ _ (fun e => some (f_s_l17Longest_x0_2 self l1 sums2 g4 e))))
def f_s_l17Longest_t0 (self : (List Sc × List Sc × Int × Int) → Option (List Sc)) (σ : List AV) : Option (Bool × Bool × (X × List AV) × (X × List AV)) := match dec f_s_l17Longest_h0 σ with
  | some [.l l1, .i sums2, .l g4, .l best9, .i x10] => some (isOne (loopL (f_s_l17Longest_r0 self l1 sums2 g4) (best9, x10)), true, f_s_l17Longest_x0_1 self l1 sums2 g4 (getOne ([], 0) (loopL (f_s_l17Longest_r0 self l1 sums2 g4) (best9, x10))), (.ret, []))
  | _ => none
theorem f_s_l17Longest_tt0 (self : (List Sc × List Sc × Int × Int) → Option (List Sc)) (hs : ∀ a r, self a = some r → CS Try.prog 57 (f_s_l17Longest_a a.1 a.2.1 a.2.2.1 a.2.2.2) (f_s_l17Longest_i a.1 a.2.1 a.2.2.1 a.2.2.2) (f_s_l17Longest_en r).1 (f_s_l17Longest_en r).2) : TTrue Try.prog f_s_l17Longest_F Try.f57 0 (f_s_l17Longest_t0 self) := by
  intro σ p r r' h
  unfold f_s_l17Longest_t0 at h
  split at h
  · rename_i hd
    rw [← dec_enc hd]
    exact row1 (f_s_l17Longest_l0 self hs _ _ _ _) h
  · cases h
theorem f_s_l17Longest_p {R : Type} (self : (List Sc × List Sc × Int × Int) → Option (List Sc)) (g0 : List Sc) (l1 : List Sc) (sums2 : Int) (least3 : Int) (kR : List Sc → Option R) : f_s_l17Longest_k self g0 l1 sums2 least3 kR = (f_s_l17Longest_k self g0 l1 sums2 least3 some).bind kR := by
  simp only [f_s_l17Longest_k, bl1B, someB]
theorem f_s_l17Longest_e (self : (List Sc × List Sc × Int × Int) → Option (List Sc)) (g0 : List Sc) (l1 : List Sc) (sums2 : Int) (least3 : Int) : runFn E0 (f_s_l17Longest_M self) H0 f_s_l17Longest_F (asL (addL 0 (f_s_l17Longest_t0 self) (noL))) Try.f57 (f_s_l17Longest_a g0 l1 sums2 least3) (f_s_l17Longest_i g0 l1 sums2 least3) = f_s_l17Longest_k self g0 l1 sums2 least3 (fun r => some (f_s_l17Longest_en r)) := by kernel_rfl
theorem f_s_l17Longest_ks (self : (List Sc × List Sc × Int × Int) → Option (List Sc)) (hs : ∀ a r, self a = some r → CS Try.prog 57 (f_s_l17Longest_a a.1 a.2.1 a.2.2.1 a.2.2.2) (f_s_l17Longest_i a.1 a.2.1 a.2.2.1 a.2.2.2) (f_s_l17Longest_en r).1 (f_s_l17Longest_en r).2) (g0 : List Sc) (l1 : List Sc) (sums2 : Int) (least3 : Int) (r : List Sc) (h : f_s_l17Longest_k self g0 l1 sums2 least3 some = some r) : CS Try.prog 57 (f_s_l17Longest_a g0 l1 sums2 least3) (f_s_l17Longest_i g0 l1 sums2 least3) (f_s_l17Longest_en r).1 (f_s_l17Longest_en r).2 :=
  fn_true (Gk := fun k => f_s_l17Longest_k self g0 l1 sums2 least3 k) (en := f_s_l17Longest_en) Try.func57 E0ok (f_s_l17Longest_Mt self hs) (addL_true (f_s_l17Longest_tt0 self hs) (noL_true)) f_s_l17Longest_o (f_s_l17Longest_e self g0 l1 sums2 least3) (f_s_l17Longest_p self g0 l1 sums2 least3) h
theorem f_s_l17Longest_ns : ∀ n a r, f_s_l17Longest_n n a = some r → CS Try.prog 57 (f_s_l17Longest_a a.1 a.2.1 a.2.2.1 a.2.2.2) (f_s_l17Longest_i a.1 a.2.1 a.2.2.1 a.2.2.2) (f_s_l17Longest_en r).1 (f_s_l17Longest_en r).2
  | 0, _, _, h => by cases h
  | n + 1, a, r, h => f_s_l17Longest_ks (f_s_l17Longest_n n) (f_s_l17Longest_ns n) a.1 a.2.1 a.2.2.1 a.2.2.2 r h
theorem f_s_l17Longest_ok (g0 : List Sc) (l1 : List Sc) (sums2 : Int) (least3 : Int) (r : List Sc) (h : f_s_l17Longest g0 l1 sums2 least3 = some r) : CS Try.prog 57 (f_s_l17Longest_a g0 l1 sums2 least3) (f_s_l17Longest_i g0 l1 sums2 least3) (f_s_l17Longest_en r).1 (f_s_l17Longest_en r).2 := by
  obtain ⟨n, hn⟩ := limF_some h
  exact f_s_l17Longest_ns n _ r hn
def f_s_l17Longest_c : CRow := fun args inh => match dec2 [.p .gr, .p .sl, .p (.int .i64), .p (.int .i64)] [] args inh with
  | some ([.l g0, .l l1, .i sums2, .i least3], []) => some ((f_s_l17Longest g0 l1 sums2 least3).isSome, (f_s_l17Longest_en ((f_s_l17Longest g0 l1 sums2 least3).getD [])).1, (f_s_l17Longest_en ((f_s_l17Longest g0 l1 sums2 least3).getD [])).2)
  | _ => none
theorem f_s_l17Longest_cc : CTrue Try.prog 57 f_s_l17Longest_c := by
  intro args inh rs out h
  unfold f_s_l17Longest_c at h
  split at h
  · rename_i hd
    obtain ⟨h1, h2⟩ := dec2_enc hd
    rw [← h1, ← h2]
    exact rowC (f_s_l17Longest_ok _ _ _ _) h
  · cases h

def f_s_LongestZeroFree_F : Fi := { nv := 0, nc := 0, m := 0, vt := [], kl := [], sk := [], mvs := [], fz := [], so := true }
def f_s_LongestZeroFree_a (g0 : List Sc) : List AV := enc [.p .gr] [.l g0]
def f_s_LongestZeroFree_i (g0 : List Sc) : List AV := enc [] []
def f_s_LongestZeroFree_en (r : List Sc × Bool) : List AV × List AV := (enc [.p .sl, .p .boo] [.l r.1, .b r.2], enc [] [])
def f_s_LongestZeroFree_M : Calling := addC 48 f_s_IsGroup_c (addC 49 f_s_l2Order_c (addC 57 f_s_l17Longest_c (noC)))
theorem f_s_LongestZeroFree_Mt : CallOk Try.prog (f_s_LongestZeroFree_M) := addC_true f_s_IsGroup_cc (addC_true f_s_l2Order_cc (addC_true f_s_l17Longest_cc (noC_true)))
theorem f_s_LongestZeroFree_o : loopsOnce Try.f22 = true := by kernel_rfl
theorem f_s_LongestZeroFree_p {R : Type} (g0 : List Sc) (kR : List Sc × Bool → Option R) : f_s_LongestZeroFree_k g0 kR = (f_s_LongestZeroFree_k g0 some).bind kR := by
  simp only [f_s_LongestZeroFree_k, brB, boB, someB]
theorem f_s_LongestZeroFree_e (g0 : List Sc) : runFn E0 f_s_LongestZeroFree_M H0 f_s_LongestZeroFree_F (asL (noL)) Try.f22 (f_s_LongestZeroFree_a g0) (f_s_LongestZeroFree_i g0) = f_s_LongestZeroFree_k g0 (fun r => some (f_s_LongestZeroFree_en r)) := by kernel_rfl
theorem f_s_LongestZeroFree_ok (g0 : List Sc) (r : List Sc × Bool) (h : f_s_LongestZeroFree g0 = some r) : CS Try.prog 22 (f_s_LongestZeroFree_a g0) (f_s_LongestZeroFree_i g0) (f_s_LongestZeroFree_en r).1 (f_s_LongestZeroFree_en r).2 :=
  fn_true (Gk := fun k => f_s_LongestZeroFree_k g0 k) (en := f_s_LongestZeroFree_en) Try.func22 E0ok f_s_LongestZeroFree_Mt (noL_true) f_s_LongestZeroFree_o (f_s_LongestZeroFree_e g0) (f_s_LongestZeroFree_p g0) h
def f_s_LongestZeroFree_c : CRow := fun args inh => match dec2 [.p .gr] [] args inh with
  | some ([.l g0], []) => some ((f_s_LongestZeroFree g0).isSome, (f_s_LongestZeroFree_en ((f_s_LongestZeroFree g0).getD ([], false))).1, (f_s_LongestZeroFree_en ((f_s_LongestZeroFree g0).getD ([], false))).2)
  | _ => none
theorem f_s_LongestZeroFree_cc : CTrue Try.prog 22 f_s_LongestZeroFree_c := by
  intro args inh rs out h
  unfold f_s_LongestZeroFree_c at h
  split at h
  · rename_i hd
    obtain ⟨h1, h2⟩ := dec2_enc hd
    rw [← h1, ← h2]
    exact rowC (f_s_LongestZeroFree_ok _) h
  · cases h

def f_s_DavenportConstant_F : Fi := { nv := 0, nc := 0, m := 0, vt := [], kl := [], sk := [], mvs := [], fz := [] }
def f_s_DavenportConstant_a (g0 : List Sc) : List AV := enc [.p .gr] [.l g0]
def f_s_DavenportConstant_i (g0 : List Sc) : List AV := enc [] []
def f_s_DavenportConstant_en (r : Int) : List AV × List AV := (enc [.p (.int .i64)] [.i r], enc [] [])
def f_s_DavenportConstant_M : Calling := addC 22 f_s_LongestZeroFree_c (noC)
theorem f_s_DavenportConstant_Mt : CallOk Try.prog (f_s_DavenportConstant_M) := addC_true f_s_LongestZeroFree_cc (noC_true)
theorem f_s_DavenportConstant_o : loopsOnce Try.f20 = true := by kernel_rfl
theorem f_s_DavenportConstant_p {R : Type} (g0 : List Sc) (kR : Int → Option R) : f_s_DavenportConstant_k g0 kR = (f_s_DavenportConstant_k g0 some).bind kR := by
  simp only [f_s_DavenportConstant_k, brB, boB, someB]
theorem f_s_DavenportConstant_e (g0 : List Sc) : runFn E0 f_s_DavenportConstant_M H0 f_s_DavenportConstant_F (asL (noL)) Try.f20 (f_s_DavenportConstant_a g0) (f_s_DavenportConstant_i g0) = f_s_DavenportConstant_k g0 (fun r => some (f_s_DavenportConstant_en r)) := by kernel_rfl
theorem f_s_DavenportConstant_ok (g0 : List Sc) (r : Int) (h : f_s_DavenportConstant g0 = some r) : CS Try.prog 20 (f_s_DavenportConstant_a g0) (f_s_DavenportConstant_i g0) (f_s_DavenportConstant_en r).1 (f_s_DavenportConstant_en r).2 :=
  fn_true (Gk := fun k => f_s_DavenportConstant_k g0 k) (en := f_s_DavenportConstant_en) Try.func20 E0ok f_s_DavenportConstant_Mt (noL_true) f_s_DavenportConstant_o (f_s_DavenportConstant_e g0) (f_s_DavenportConstant_p g0) h
def f_s_DavenportConstant_c : CRow := fun args inh => match dec2 [.p .gr] [] args inh with
  | some ([.l g0], []) => some ((f_s_DavenportConstant g0).isSome, (f_s_DavenportConstant_en ((f_s_DavenportConstant g0).getD 0)).1, (f_s_DavenportConstant_en ((f_s_DavenportConstant g0).getD 0)).2)
  | _ => none
theorem f_s_DavenportConstant_cc : CTrue Try.prog 20 f_s_DavenportConstant_c := by
  intro args inh rs out h
  unfold f_s_DavenportConstant_c at h
  split at h
  · rename_i hd
    obtain ⟨h1, h2⟩ := dec2_enc hd
    rw [← h1, ← h2]
    exact rowC (f_s_DavenportConstant_ok _) h
  · cases h

def f_i_LongestZeroFree_1_F : Fi := { nv := 1, nc := 1, m := 1, vt := [], kl := [], sk := [], mvs := [], fz := [] }
def f_i_LongestZeroFree_1_a (l0 : List Sc) (sums1 : Int) (h0 : List Sc) : List AV := enc [.fr 3, .p (.int .i64), .p (.pt 0 1)] [.l l0, .i sums1]
def f_i_LongestZeroFree_1_i (l0 : List Sc) (sums1 : Int) (h0 : List Sc) : List AV := enc [.fr 3] [.l h0]
def f_i_LongestZeroFree_1_en (r : List Sc) : List AV × List AV := (enc [] [], enc [.fr 3] [.l r])
def f_i_LongestZeroFree_1_M : Calling := noC
theorem f_i_LongestZeroFree_1_Mt : CallOk Try.prog (f_i_LongestZeroFree_1_M) := noC_true
theorem f_i_LongestZeroFree_1_o : loopsOnce Try.f58 = true := by kernel_rfl
theorem f_i_LongestZeroFree_1_p {R : Type} (l0 : List Sc) (sums1 : Int) (h0 : List Sc) (kR : List Sc → Option R) : f_i_LongestZeroFree_1_k l0 sums1 h0 kR = (f_i_LongestZeroFree_1_k l0 sums1 h0 some).bind kR := by
  simp only [f_i_LongestZeroFree_1_k, brB, someB]
theorem f_i_LongestZeroFree_1_e (l0 : List Sc) (sums1 : Int) (h0 : List Sc) : runFn E0 f_i_LongestZeroFree_1_M H0 f_i_LongestZeroFree_1_F (asL (noL)) Try.f58 (f_i_LongestZeroFree_1_a l0 sums1 h0) (f_i_LongestZeroFree_1_i l0 sums1 h0) = f_i_LongestZeroFree_1_k l0 sums1 h0 (fun r => some (f_i_LongestZeroFree_1_en r)) := by kernel_rfl
theorem f_i_LongestZeroFree_1_ok (l0 : List Sc) (sums1 : Int) (h0 : List Sc) (r : List Sc) (h : f_i_LongestZeroFree_1 l0 sums1 h0 = some r) : CS Try.prog 58 (f_i_LongestZeroFree_1_a l0 sums1 h0) (f_i_LongestZeroFree_1_i l0 sums1 h0) (f_i_LongestZeroFree_1_en r).1 (f_i_LongestZeroFree_1_en r).2 :=
  fn_true (Gk := fun k => f_i_LongestZeroFree_1_k l0 sums1 h0 k) (en := f_i_LongestZeroFree_1_en) Try.func58 E0ok f_i_LongestZeroFree_1_Mt (noL_true) f_i_LongestZeroFree_1_o (f_i_LongestZeroFree_1_e l0 sums1 h0) (f_i_LongestZeroFree_1_p l0 sums1 h0) h
def f_i_LongestZeroFree_1_c : CRow := fun args inh => match dec2 [.fr 3, .p (.int .i64), .p (.pt 0 1)] [.fr 3] args inh with
  | some ([.l l0, .i sums1], [.l h0]) => some ((f_i_LongestZeroFree_1 l0 sums1 h0).isSome, (f_i_LongestZeroFree_1_en ((f_i_LongestZeroFree_1 l0 sums1 h0).getD [])).1, (f_i_LongestZeroFree_1_en ((f_i_LongestZeroFree_1 l0 sums1 h0).getD [])).2)
  | _ => none
theorem f_i_LongestZeroFree_1_cc : CTrue Try.prog 58 f_i_LongestZeroFree_1_c := by
  intro args inh rs out h
  unfold f_i_LongestZeroFree_1_c at h
  split at h
  · rename_i hd
    obtain ⟨h1, h2⟩ := dec2_enc hd
    rw [← h1, ← h2]
    exact rowC (f_i_LongestZeroFree_1_ok _ _ _) h
  · cases h

def f_i_zeroFree_LongestZeroFree_1_F : Fi := { nv := 1, nc := 1, m := 1, vt := [], kl := [(0, ([1, 6, 7, 8, 9, 11, 12, 13, 14, 15, 16, 17, 18, 19, 20, 21, 22, 23, 24, 25, 26, 27, 28, 29, 30, 31, 32, 33, 34, 35, 36, 37, 38, 39, 40, 41, 42, 43, 44, 45, 46, 47, 48, 49, 50, 51, 52], [1, 2, 3, 4, 5, 6, 7, 8, 9, 10, 11, 12, 13, 14, 15, 16, 17, 18, 19, 20, 21, 22, 23, 24, 25, 26, 27, 28, 29, 30, 31, 32, 33, 34, 35, 36, 37, 38, 39, 40, 41, 42, 43, 44, 45, 46, 47, 48, 49, 50, 51, 52], [1, 2, 3, 4, 5, 6, 7, 8, 9, 10, 11, 12, 13, 14, 15, 16, 17, 18, 19, 20, 21, 22, 23, 24, 25, 26, 27, 28, 29, 30, 31, 32, 33, 34, 35, 36, 37, 38, 39, 40, 41, 42, 43, 44, 45, 46, 47, 48, 49, 50, 51, 52]))], sk := [], mvs := [], fz := [] }
def f_i_zeroFree_LongestZeroFree_1_a (g0 : List Sc) (l1 : List Sc) (sums2 : Int) (h0 : List Sc) : List AV := enc [.p .gr, .fr 3, .p (.int .i64), .fn 58 [.pt 0 1]] [.l g0, .l l1, .i sums2]
def f_i_zeroFree_LongestZeroFree_1_i (g0 : List Sc) (l1 : List Sc) (sums2 : Int) (h0 : List Sc) : List AV := enc [.fr 3] [.l h0]
def f_i_zeroFree_LongestZeroFree_1_en (r : List Sc) : List AV × List AV := (enc [] [], enc [.fr 3] [.l r])
def f_i_zeroFree_LongestZeroFree_1_cs (self : (List Sc × List Sc × Int × List Sc) → Option (List Sc)) : CRow := fun args inh => match dec2 [.p .gr, .fr 3, .p (.int .i64), .fn 58 [.pt 0 1]] [.fr 3] args inh with
  | some ([.l g0, .l l1, .i sums2], [.l h0]) => some ((self (g0, l1, sums2, h0)).isSome, (f_i_zeroFree_LongestZeroFree_1_en ((self (g0, l1, sums2, h0)).getD [])).1, (f_i_zeroFree_LongestZeroFree_1_en ((self (g0, l1, sums2, h0)).getD [])).2)
  | _ => none
theorem f_i_zeroFree_LongestZeroFree_1_cst (self : (List Sc × List Sc × Int × List Sc) → Option (List Sc)) (hs : ∀ a r, self a = some r → CS Try.prog 55 (f_i_zeroFree_LongestZeroFree_1_a a.1 a.2.1 a.2.2.1 a.2.2.2) (f_i_zeroFree_LongestZeroFree_1_i a.1 a.2.1 a.2.2.1 a.2.2.2) (f_i_zeroFree_LongestZeroFree_1_en r).1 (f_i_zeroFree_LongestZeroFree_1_en r).2) : CTrue Try.prog 55 (f_i_zeroFree_LongestZeroFree_1_cs self) := by
  intro args inh rs out h
  unfold f_i_zeroFree_LongestZeroFree_1_cs at h
  split at h
  · rename_i hd
    obtain ⟨h1, h2⟩ := dec2_enc hd
    rw [← h1, ← h2]
    exact rowC (hs _) h
  · cases h
def f_i_zeroFree_LongestZeroFree_1_M (self : (List Sc × List Sc × Int × List Sc) → Option (List Sc)) : Calling := addC 55 (f_i_zeroFree_LongestZeroFree_1_cs self) (addC 58 f_i_LongestZeroFree_1_c (addC 53 f_i_OrderOf_c (addC 91 f_i_Group_shift_c (addC 83 f_i_in_c (addC 85 f_i_copyInts_c (noC))))))
theorem f_i_zeroFree_LongestZeroFree_1_Mt (self : (List Sc × List Sc × Int × List Sc) → Option (List Sc)) (hs : ∀ a r, self a = some r → CS Try.prog 55 (f_i_zeroFree_LongestZeroFree_1_a a.1 a.2.1 a.2.2.1 a.2.2.2) (f_i_zeroFree_LongestZeroFree_1_i a.1 a.2.1 a.2.2.1 a.2.2.2) (f_i_zeroFree_LongestZeroFree_1_en r).1 (f_i_zeroFree_LongestZeroFree_1_en r).2) : CallOk Try.prog (f_i_zeroFree_LongestZeroFree_1_M self) := addC_true (f_i_zeroFree_LongestZeroFree_1_cst self hs) (addC_true f_i_LongestZeroFree_1_cc (addC_true f_i_OrderOf_cc (addC_true f_i_Group_shift_cc (addC_true f_i_in_cc (addC_true f_i_copyInts_cc (noC_true))))))
theorem f_i_zeroFree_LongestZeroFree_1_o : loopsOnce Try.f55 = true := by kernel_rfl
def f_i_zeroFree_LongestZeroFree_1_h0 : List Sh := [.fr 3, .u, .fr 3, .p (.int .i64), .fn 58 [.pt 0 1], .p .el, .u, .u, .u, .u, .p (.int .i64), .u, .u, .u, .u, .u, .u, .u, .u, .u, .u, .u, .u, .u, .u, .u, .u, .u, .u, .u, .u, .u, .u, .u, .u, .u, .u, .u, .u, .u, .u, .u, .u, .u, .u, .u, .u, .u, .u, .u, .u, .u, .u]
def f_i_zeroFree_LongestZeroFree_1_fr0 (self : (List Sc × List Sc × Int × List Sc) → Option (List Sc)) (l1 : List Sc) (sums2 : Int) (g4 : List Sc) (s : List Sc × Int) : List AV := enc f_i_zeroFree_LongestZeroFree_1_h0 [.l s.1, .l l1, .i sums2, .l g4, .i s.2]
def f_i_zeroFree_LongestZeroFree_1_g0_1 : List Sh := [.fr 3, .u, .u, .u, .u, .u, .u, .u, .u, .u, .u, .u, .u, .u, .u, .u, .u, .u, .u, .u, .u, .u, .u, .u, .u, .u, .u, .u, .u, .u, .u, .u, .u, .u, .u, .u, .u, .u, .u, .u, .u, .u, .u, .u, .u, .u, .u, .u, .u, .u, .u, .u, .u]
def f_i_zeroFree_LongestZeroFree_1_x0_1 (self : (List Sc × List Sc × Int × List Sc) → Option (List Sc)) (l1 : List Sc) (sums2 : Int) (g4 : List Sc) (e : List Sc) : X × List AV := (.out 0, enc f_i_zeroFree_LongestZeroFree_1_g0_1 [.l e])
def f_i_zeroFree_LongestZeroFree_1_x0_2 (self : (List Sc × List Sc × Int × List Sc) → Option (List Sc)) (l1 : List Sc) (sums2 : Int) (g4 : List Sc) (_e : Unit) : X × List AV := (.ret, [])
theorem f_i_zeroFree_LongestZeroFree_1_p0 {R : Type} (self : (List Sc × List Sc × Int × List Sc) → Option (List Sc)) (l1 : List Sc) (sums2 : Int) (g4 : List Sc) (s : List Sc × Int) (kN : List Sc × Int → Option R) (kA : List Sc → Option R) (kB : Unit → Option R) : f_i_zeroFree_LongestZeroFree_1_k0 self l1 sums2 g4 s.1 s.2 kN kA = (f_i_zeroFree_LongestZeroFree_1_r0 self l1 sums2 g4 s).bind (Ro.el kN kA kB) := by
  simp only [f_i_zeroFree_LongestZeroFree_1_k0, f_i_zeroFree_LongestZeroFree_1_r0, brB, boB, someB, noneB, Ro.el]
theorem f_i_zeroFree_LongestZeroFree_1_e0 (self : (List Sc × List Sc × Int × List Sc) → Option (List Sc)) (l1 : List Sc) (sums2 : Int) (g4 : List Sc) (s : List Sc × Int) : EC E0 (f_i_zeroFree_LongestZeroFree_1_M self) H0 f_i_zeroFree_LongestZeroFree_1_F (asL (noL)) 0 (bodyOf Try.f55 0) (f_i_zeroFree_LongestZeroFree_1_fr0 self l1 sums2 g4 s) (done (klOf f_i_zeroFree_LongestZeroFree_1_F 0)) = f_i_zeroFree_LongestZeroFree_1_k0 self l1 sums2 g4 s.1 s.2 (fun s => some (.norm, f_i_zeroFree_LongestZeroFree_1_fr0 self l1 sums2 g4 s)) (fun e => some (f_i_zeroFree_LongestZeroFree_1_x0_1 self l1 sums2 g4 e)) := by kernel_rfl
theorem f_i_zeroFree_LongestZeroFree_1_l0 (self : (List Sc × List Sc × Int × List Sc) → Option (List Sc)) (hs : ∀ a r, self a = some r → CS Try.prog 55 (f_i_zeroFree_LongestZeroFree_1_a a.1 a.2.1 a.2.2.1 a.2.2.2) (f_i_zeroFree_LongestZeroFree_1_i a.1 a.2.1 a.2.2.1 a.2.2.2) (f_i_zeroFree_LongestZeroFree_1_en r).1 (f_i_zeroFree_LongestZeroFree_1_en r).2) (l1 : List Sc) (sums2 : Int) (g4 : List Sc) : ∀ s r, loopL (f_i_zeroFree_LongestZeroFree_1_r0 self l1 sums2 g4) s = some r → LS Try.prog f_i_zeroFree_LongestZeroFree_1_F (bodyOf Try.f55 0) (f_i_zeroFree_LongestZeroFree_1_fr0 self l1 sums2 g4 s) (enX (f_i_zeroFree_LongestZeroFree_1_x0_1 self l1 sums2 g4) (f_i_zeroFree_LongestZeroFree_1_x0_2 self l1 sums2 g4) r) :=
  loop_true E0ok (f_i_zeroFree_LongestZeroFree_1_Mt self hs) (noL_true) f_i_zeroFree_LongestZeroFree_1_o (fun _ h => by cases h) (fun _ h => by cases h) (fun s => (f_i_zeroFree_LongestZeroFree_1_e0 self l1 sums2 g4 s).trans (f_i_zeroFree_LongestZeroFree_1_p0 self l1 sums2 g4 s _ _ (fun e => some (f_i_zeroFree_LongestZeroFree_1_x0_2 self l1 sums2 g4 e))))
def f_i_zeroFree_LongestZeroFree_1_t0 (self : (List Sc × List Sc × Int × List Sc) → Option (List Sc)) (σ : List AV) : Option (Bool × Bool × (X × List AV) × (X × List AV)) := match dec f_i_zeroFree_LongestZeroFree_1_h0 σ with
  | some [.l v0, .l l1, .i sums2, .l g4, .i x9] => some (isOne (loopL (f_i_zeroFree_LongestZeroFree_1_r0 self l1 sums2 g4) (v0, x9)), true, f_i_zeroFree_LongestZeroFree_1_x0_1 self l1 sums2 g4 (getOne [] (loopL (f_i_zeroFree_LongestZeroFree_1_r0 self l1 sums2 g4) (v0, x9))), (.ret, []))
  | _ => none
theorem f_i_zeroFree_LongestZeroFree_1_tt0 (self : (List Sc × List Sc × Int × List Sc) → Option (List Sc)) (hs : ∀ a r, self a = some r → CS Try.prog 55 (f_i_zeroFree_LongestZeroFree_1_a a.1 a.2.1 a.2.2.1 a.2.2.2) (f_i_zeroFree_LongestZeroFree_1_i a.1 a.2.1 a.2.2.1 a.2.2.2) (f_i_zeroFree_LongestZeroFree_1_en r).1 (f_i_zeroFree_LongestZeroFree_1_en r).2) : TTrue Try.prog f_i_zeroFree_LongestZeroFree_1_F Try.f55 0 (f_i_zeroFree_LongestZeroFree_1_t0 self) := by
  intro σ p r r' h
  unfold f_i_zeroFree_LongestZeroFree_1_t0 at h
  split at h
  · rename_i hd
    rw [← dec_enc hd]
    exact row1 (f_i_zeroFree_LongestZeroFree_1_l0 self hs _ _ _ _) h
  · cases h
theorem f_i_zeroFree_LongestZeroFree_1_p {R : Type} (self : (List Sc × List Sc × Int × List Sc) → Option (List Sc)) (g0 : List Sc) (l1 : List Sc) (sums2 : Int) (h0 : List Sc) (kR : List Sc → Option R) : f_i_zeroFree_LongestZeroFree_1_k self g0 l1 sums2 h0 kR = (f_i_zeroFree_LongestZeroFree_1_k self g0 l1 sums2 h0 some).bind kR := by
  simp only [f_i_zeroFree_LongestZeroFree_1_k, brB, boB, bl1B, someB, noneB]
theorem f_i_zeroFree_LongestZeroFree_1_e (self : (List Sc × List Sc × Int × List Sc) → Option (List Sc)) (g0 : List Sc) (l1 : List Sc) (sums2 : Int) (h0 : List Sc) : runFn E0 (f_i_zeroFree_LongestZeroFree_1_M self) H0 f_i_zeroFree_LongestZeroFree_1_F (asL (addL 0 (f_i_zeroFree_LongestZeroFree_1_t0 self) (noL))) Try.f55 (f_i_zeroFree_LongestZeroFree_1_a g0 l1 sums2 h0) (f_i_zeroFree_LongestZeroFree_1_i g0 l1 sums2 h0) = f_i_zeroFree_LongestZeroFree_1_k self g0 l1 sums2 h0 (fun r => some (f_i_zeroFree_LongestZeroFree_1_en r)) := by kernel_rfl
theorem f_i_zeroFree_LongestZeroFree_1_ks (self : (List Sc × List Sc × Int × List Sc) → Option (List Sc)) (hs : ∀ a r, self a = some r → CS Try.prog 55 (f_i_zeroFree_LongestZeroFree_1_a a.1 a.2.1 a.2.2.1 a.2.2.2) (f_i_zeroFree_LongestZeroFree_1_i a.1 a.2.1 a.2.2.1 a.2.2.2) (f_i_zeroFree_LongestZeroFree_1_en r).1 (f_i_zeroFree_LongestZeroFree_1_en r).2) (g0 : List Sc) (l1 : List Sc) (sums2 : Int) (h0 : List Sc) (r : List Sc) (h : f_i_zeroFree_LongestZeroFree_1_k self g0 l1 sums2 h0 some = some r) : CS Try.prog 55 (f_i_zeroFree_LongestZeroFree_1_a g0 l1 sums2 h0) (f_i_zeroFree_LongestZeroFree_1_i g0 l1 sums2 h0) (f_i_zeroFree_LongestZeroFree_1_en r).1 (f_i_zeroFree_LongestZeroFree_1_en r).2 :=
  fn_true (Gk := fun k => f_i_zeroFree_LongestZeroFree_1_k self g0 l1 sums2 h0 k) (en := f_i_zeroFree_LongestZeroFree_1_en) Try.func55 E0ok (f_i_zeroFree_LongestZeroFree_1_Mt self hs) (addL_true (f_i_zeroFree_LongestZeroFree_1_tt0 self hs) (noL_true)) f_i_zeroFree_LongestZeroFree_1_o (f_i_zeroFree_LongestZeroFree_1_e self g0 l1 sums2 h0) (f_i_zeroFree_LongestZeroFree_1_p self g0 l1 sums2 h0) h
theorem f_i_zeroFree_LongestZeroFree_1_ns : ∀ n a r, f_i_zeroFree_LongestZeroFree_1_n n a = some r → CS Try.prog 55 (f_i_zeroFree_LongestZeroFree_1_a a.1 a.2.1 a.2.2.1 a.2.2.2) (f_i_zeroFree_LongestZeroFree_1_i a.1 a.2.1 a.2.2.1 a.2.2.2) (f_i_zeroFree_LongestZeroFree_1_en r).1 (f_i_zeroFree_LongestZeroFree_1_en r).2
  | 0, _, _, h => by cases h
  | n + 1, a, r, h => f_i_zeroFree_LongestZeroFree_1_ks (f_i_zeroFree_LongestZeroFree_1_n n) (f_i_zeroFree_LongestZeroFree_1_ns n) a.1 a.2.1 a.2.2.1 a.2.2.2 r h
theorem f_i_zeroFree_LongestZeroFree_1_ok (g0 : List Sc) (l1 : List Sc) (sums2 : Int) (h0 : List Sc) (r : List Sc) (h : f_i_zeroFree_LongestZeroFree_1 g0 l1 sums2 h0 = some r) : CS Try.prog 55 (f_i_zeroFree_LongestZeroFree_1_a g0 l1 sums2 h0) (f_i_zeroFree_LongestZeroFree_1_i g0 l1 sums2 h0) (f_i_zeroFree_LongestZeroFree_1_en r).1 (f_i_zeroFree_LongestZeroFree_1_en r).2 := by
  obtain ⟨n, hn⟩ := limF_some h
  exact f_i_zeroFree_LongestZeroFree_1_ns n _ r hn
def f_i_zeroFree_LongestZeroFree_1_c : CRow := fun args inh => match dec2 [.p .gr, .fr 3, .p (.int .i64), .fn 58 [.pt 0 1]] [.fr 3] args inh with
  | some ([.l g0, .l l1, .i sums2], [.l h0]) => some ((f_i_zeroFree_LongestZeroFree_1 g0 l1 sums2 h0).isSome, (f_i_zeroFree_LongestZeroFree_1_en ((f_i_zeroFree_LongestZeroFree_1 g0 l1 sums2 h0).getD [])).1, (f_i_zeroFree_LongestZeroFree_1_en ((f_i_zeroFree_LongestZeroFree_1 g0 l1 sums2 h0).getD [])).2)
  | _ => none
theorem f_i_zeroFree_LongestZeroFree_1_cc : CTrue Try.prog 55 f_i_zeroFree_LongestZeroFree_1_c := by
  intro args inh rs out h
  unfold f_i_zeroFree_LongestZeroFree_1_c at h
  split at h
  · rename_i hd
    obtain ⟨h1, h2⟩ := dec2_enc hd
    rw [← h1, ← h2]
    exact rowC (f_i_zeroFree_LongestZeroFree_1_ok _ _ _ _) h
  · cases h

def f_i_LongestZeroFree_F : Fi := { nv := 1, nc := 1, m := 0, vt := [(4, 0)], kl := [], sk := [], mvs := [], fz := [14] }
def f_i_LongestZeroFree_a (g0 : List Sc) : List AV := enc [.p .gr] [.l g0]
def f_i_LongestZeroFree_i (g0 : List Sc) : List AV := enc [] []
def f_i_LongestZeroFree_en (r : List Sc × Bool) : List AV × List AV := (enc [.p (.al 0), .p .boo] [.b r.2], enc [.own 3] [.l r.1])
def f_i_LongestZeroFree_M : Calling := addC 52 f_i_IsGroup_c (addC 53 f_i_OrderOf_c (addC 55 f_i_zeroFree_LongestZeroFree_1_c (noC)))
theorem f_i_LongestZeroFree_Mt : CallOk Try.prog (f_i_LongestZeroFree_M) := addC_true f_i_IsGroup_cc (addC_true f_i_OrderOf_cc (addC_true f_i_zeroFree_LongestZeroFree_1_cc (noC_true)))
theorem f_i_LongestZeroFree_o : loopsOnce Try.f23 = true := by kernel_rfl
theorem f_i_LongestZeroFree_p {R : Type} (g0 : List Sc) (kR : List Sc × Bool → Option R) : f_i_LongestZeroFree_k g0 kR = (f_i_LongestZeroFree_k g0 some).bind kR := by
  simp only [f_i_LongestZeroFree_k, brB, boB, someB]
theorem f_i_LongestZeroFree_e (g0 : List Sc) : runFn E0 f_i_LongestZeroFree_M H0 f_i_LongestZeroFree_F (asL (noL)) Try.f23 (f_i_LongestZeroFree_a g0) (f_i_LongestZeroFree_i g0) = f_i_LongestZeroFree_k g0 (fun r => some (f_i_LongestZeroFree_en r)) := by kernel_rfl
theorem f_i_LongestZeroFree_ok (g0 : List Sc) (r : List Sc × Bool) (h : f_i_LongestZeroFree g0 = some r) : CS Try.prog 23 (f_i_LongestZeroFree_a g0) (f_i_LongestZeroFree_i g0) (f_i_LongestZeroFree_en r).1 (f_i_LongestZeroFree_en r).2 :=
  fn_true (Gk := fun k => f_i_LongestZeroFree_k g0 k) (en := f_i_LongestZeroFree_en) Try.func23 E0ok f_i_LongestZeroFree_Mt (noL_true) f_i_LongestZeroFree_o (f_i_LongestZeroFree_e g0) (f_i_LongestZeroFree_p g0) h
def f_i_LongestZeroFree_c : CRow := fun args inh => match dec2 [.p .gr] [] args inh with
  | some ([.l g0], []) => some ((f_i_LongestZeroFree g0).isSome, (f_i_LongestZeroFree_en ((f_i_LongestZeroFree g0).getD ([], false))).1, (f_i_LongestZeroFree_en ((f_i_LongestZeroFree g0).getD ([], false))).2)
  | _ => none
theorem f_i_LongestZeroFree_cc : CTrue Try.prog 23 f_i_LongestZeroFree_c := by
  intro args inh rs out h
  unfold f_i_LongestZeroFree_c at h
  split at h
  · rename_i hd
    obtain ⟨h1, h2⟩ := dec2_enc hd
    rw [← h1, ← h2]
    exact rowC (f_i_LongestZeroFree_ok _) h
  · cases h

def f_i_DavenportConstant_F : Fi := { nv := 1, nc := 0, m := 0, vt := [(7, 0)], kl := [], sk := [], mvs := [0], fz := [] }
def f_i_DavenportConstant_a (g0 : List Sc) : List AV := enc [.p .gr] [.l g0]
def f_i_DavenportConstant_i (g0 : List Sc) : List AV := enc [] []
def f_i_DavenportConstant_en (r : Int) : List AV × List AV := (enc [.p (.int .i64)] [.i r], enc [] [])
def f_i_DavenportConstant_M : Calling := addC 23 f_i_LongestZeroFree_c (noC)
theorem f_i_DavenportConstant_Mt : CallOk Try.prog (f_i_DavenportConstant_M) := addC_true f_i_LongestZeroFree_cc (noC_true)
theorem f_i_DavenportConstant_o : loopsOnce Try.f21 = true := by kernel_rfl
theorem f_i_DavenportConstant_p {R : Type} (g0 : List Sc) (kR : Int → Option R) : f_i_DavenportConstant_k g0 kR = (f_i_DavenportConstant_k g0 some).bind kR := by
  simp only [f_i_DavenportConstant_k, brB, boB, someB]
theorem f_i_DavenportConstant_e (g0 : List Sc) : runFn E0 f_i_DavenportConstant_M H0 f_i_DavenportConstant_F (asL (noL)) Try.f21 (f_i_DavenportConstant_a g0) (f_i_DavenportConstant_i g0) = f_i_DavenportConstant_k g0 (fun r => some (f_i_DavenportConstant_en r)) := by kernel_rfl
theorem f_i_DavenportConstant_ok (g0 : List Sc) (r : Int) (h : f_i_DavenportConstant g0 = some r) : CS Try.prog 21 (f_i_DavenportConstant_a g0) (f_i_DavenportConstant_i g0) (f_i_DavenportConstant_en r).1 (f_i_DavenportConstant_en r).2 :=
  fn_true (Gk := fun k => f_i_DavenportConstant_k g0 k) (en := f_i_DavenportConstant_en) Try.func21 E0ok f_i_DavenportConstant_Mt (noL_true) f_i_DavenportConstant_o (f_i_DavenportConstant_e g0) (f_i_DavenportConstant_p g0) h
def f_i_DavenportConstant_c : CRow := fun args inh => match dec2 [.p .gr] [] args inh with
  | some ([.l g0], []) => some ((f_i_DavenportConstant g0).isSome, (f_i_DavenportConstant_en ((f_i_DavenportConstant g0).getD 0)).1, (f_i_DavenportConstant_en ((f_i_DavenportConstant g0).getD 0)).2)
  | _ => none
theorem f_i_DavenportConstant_cc : CTrue Try.prog 21 f_i_DavenportConstant_c := by
  intro args inh rs out h
  unfold f_i_DavenportConstant_c at h
  split at h
  · rename_i hd
    obtain ⟨h1, h2⟩ := dec2_enc hd
    rw [← h1, ← h2]
    exact rowC (f_i_DavenportConstant_ok _) h
  · cases h

def f_l_FnExactDavenportConstant_F : Fi := { nv := 3, nc := 1, m := 0, vt := [(5, 0), (13, 1), (16, 2)], kl := [], sk := [], mvs := [1, 2], fz := [] }
def f_l_FnExactDavenportConstant_a (aG0 : List Sc) : List AV := enc [.p .gr] [.l aG0]
def f_l_FnExactDavenportConstant_i (aG0 : List Sc) : List AV := enc [] []
def f_l_FnExactDavenportConstant_en (r : Bool) : List AV × List AV := (enc [.p .boo] [.b r], enc [] [])
def f_l_FnExactDavenportConstant_M : Calling := addC 15 f_l_szGroup_c (addC 17 f_l_toGroup_c (addC 20 f_s_DavenportConstant_c (addC 21 f_i_DavenportConstant_c (addC 19 f_l_eqGroup_c (noC)))))
theorem f_l_FnExactDavenportConstant_Mt : CallOk Try.prog (f_l_FnExactDavenportConstant_M) := addC_true f_l_szGroup_cc (addC_true f_l_toGroup_cc (addC_true f_s_DavenportConstant_cc (addC_true f_i_DavenportConstant_cc (addC_true f_l_eqGroup_cc (noC_true)))))
theorem f_l_FnExactDavenportConstant_o : loopsOnce Try.f4 = true := by kernel_rfl
theorem f_l_FnExactDavenportConstant_p {R : Type} (aG0 : List Sc) (kR : Bool → Option R) : f_l_FnExactDavenportConstant_k aG0 kR = (f_l_FnExactDavenportConstant_k aG0 some).bind kR := by
  simp only [f_l_FnExactDavenportConstant_k, brB, boB, someB]
theorem f_l_FnExactDavenportConstant_e (aG0 : List Sc) : runFn E0 f_l_FnExactDavenportConstant_M H0 f_l_FnExactDavenportConstant_F (asL (noL)) Try.f4 (f_l_FnExactDavenportConstant_a aG0) (f_l_FnExactDavenportConstant_i aG0) = f_l_FnExactDavenportConstant_k aG0 (fun r => some (f_l_FnExactDavenportConstant_en r)) := by kernel_rfl
theorem f_l_FnExactDavenportConstant_ok (aG0 : List Sc) (r : Bool) (h : f_l_FnExactDavenportConstant aG0 = some r) : CS Try.prog 4 (f_l_FnExactDavenportConstant_a aG0) (f_l_FnExactDavenportConstant_i aG0) (f_l_FnExactDavenportConstant_en r).1 (f_l_FnExactDavenportConstant_en r).2 :=
  fn_true (Gk := fun k => f_l_FnExactDavenportConstant_k aG0 k) (en := f_l_FnExactDavenportConstant_en) Try.func4 E0ok f_l_FnExactDavenportConstant_Mt (noL_true) f_l_FnExactDavenportConstant_o (f_l_FnExactDavenportConstant_e aG0) (f_l_FnExactDavenportConstant_p aG0) h
def f_l_FnExactDavenportConstant_c : CRow := fun args inh => match dec2 [.p .gr] [] args inh with
  | some ([.l aG0], []) => some ((f_l_FnExactDavenportConstant aG0).isSome, (f_l_FnExactDavenportConstant_en ((f_l_FnExactDavenportConstant aG0).getD false)).1, (f_l_FnExactDavenportConstant_en ((f_l_FnExactDavenportConstant aG0).getD false)).2)
  | _ => none
theorem f_l_FnExactDavenportConstant_cc : CTrue Try.prog 4 f_l_FnExactDavenportConstant_c := by
  intro args inh rs out h
  unfold f_l_FnExactDavenportConstant_c at h
  split at h
  · rename_i hd
    obtain ⟨h1, h2⟩ := dec2_enc hd
    rw [← h1, ← h2]
    exact rowC (f_l_FnExactDavenportConstant_ok _) h
  · cases h

def f_l_markIntS_io_F : Fi := { nv := 1, nc := 1, m := 1, vt := [], kl := [(0, ([3, 4, 5, 7, 8, 9, 10, 11, 12, 13, 14, 15, 16, 17, 18, 19], [1, 3, 4, 5, 6, 7, 8, 9, 10, 11, 12, 13, 14, 15, 16, 17, 18, 19], [1, 2, 3, 4, 6, 7, 8, 9, 10, 11, 12, 13, 14, 15, 16, 17, 18, 19]))], sk := [], mvs := [], fz := [] }
def f_l_markIntS_io_a (k1 : Int) (h0 : List Sc) : List AV := enc [.p (.al 0), .p (.int .i64)] [.i k1]
def f_l_markIntS_io_i (k1 : Int) (h0 : List Sc) : List AV := enc [.own 3] [.l h0]
def f_l_markIntS_io_en (r : Int × List Sc) : List AV × List AV := (enc [.p (.int .i64)] [.i r.1], enc [.own 3] [.l r.2])
def f_l_markIntS_io_M : Calling := noC
theorem f_l_markIntS_io_Mt : CallOk Try.prog (f_l_markIntS_io_M) := noC_true
theorem f_l_markIntS_io_o : loopsOnce Try.f26 = true := by kernel_rfl
def f_l_markIntS_io_h0 : List Sh := [.own 3, .p (.al 0), .p (.int .i64), .u, .u, .u, .p (.int .i64), .u, .u, .u, .u, .u, .u, .u, .u, .u, .u, .u, .u, .u]
def f_l_markIntS_io_fr0 (s : List Sc × Int × Int) : List AV := enc f_l_markIntS_io_h0 [.l s.1, .i s.2.1, .i s.2.2]
def f_l_markIntS_io_g0_1 : List Sh := [.own 3, .u, .p (.int .i64), .u, .u, .u, .u, .u, .u, .u, .u, .u, .u, .u, .u, .u, .u, .u, .u, .u]
def f_l_markIntS_io_x0_1 (e : List Sc × Int) : X × List AV := (.out 0, enc f_l_markIntS_io_g0_1 [.l e.1, .i e.2])
def f_l_markIntS_io_x0_2 (_e : Unit) : X × List AV := (.ret, [])
theorem f_l_markIntS_io_p0 {R : Type} (s : List Sc × Int × Int) (kN : List Sc × Int × Int → Option R) (kA : List Sc × Int → Option R) (kB : Unit → Option R) : f_l_markIntS_io_k0 s.1 s.2.1 s.2.2 kN kA = (f_l_markIntS_io_r0 s).bind (Ro.el kN kA kB) := by
  simp only [f_l_markIntS_io_k0, f_l_markIntS_io_r0, brB, someB, noneB, Ro.el]
theorem f_l_markIntS_io_e0 (s : List Sc × Int × Int) : EC E0 f_l_markIntS_io_M H0 f_l_markIntS_io_F (asL (noL)) 0 (bodyOf Try.f26 0) (f_l_markIntS_io_fr0 s) (done (klOf f_l_markIntS_io_F 0)) = f_l_markIntS_io_k0 s.1 s.2.1 s.2.2 (fun s => some (.norm, f_l_markIntS_io_fr0 s)) (fun e => some (f_l_markIntS_io_x0_1 e)) := by kernel_rfl
theorem f_l_markIntS_io_l0 : ∀ s r, loopL (f_l_markIntS_io_r0) s = some r → LS Try.prog f_l_markIntS_io_F (bodyOf Try.f26 0) (f_l_markIntS_io_fr0 s) (enX (f_l_markIntS_io_x0_1) (f_l_markIntS_io_x0_2) r) :=
  loop_true E0ok f_l_markIntS_io_Mt (noL_true) f_l_markIntS_io_o (fun _ h => by cases h) (fun _ h => by cases h) (fun s => (f_l_markIntS_io_e0 s).trans (f_l_markIntS_io_p0 s _ _ (fun e => some (f_l_markIntS_io_x0_2 e))))
def f_l_markIntS_io_t0 (σ : List AV) : Option (Bool × Bool × (X × List AV) × (X × List AV)) := match dec f_l_markIntS_io_h0 σ with
  | some [.l v0, .i k1, .i i5] => some (isOne (loopL (f_l_markIntS_io_r0) (v0, k1, i5)), true, f_l_markIntS_io_x0_1 (getOne ([], 0) (loopL (f_l_markIntS_io_r0) (v0, k1, i5))), (.ret, []))
  | _ => none
theorem f_l_markIntS_io_tt0 : TTrue Try.prog f_l_markIntS_io_F Try.f26 0 (f_l_markIntS_io_t0) := by
  intro σ p r r' h
  unfold f_l_markIntS_io_t0 at h
  split at h
  · rename_i hd
    rw [← dec_enc hd]
    exact row1 (f_l_markIntS_io_l0 _) h
  · cases h
theorem f_l_markIntS_io_p {R : Type} (k1 : Int) (h0 : List Sc) (kR : Int × List Sc → Option R) : f_l_markIntS_io_k k1 h0 kR = (f_l_markIntS_io_k k1 h0 some).bind kR := by
  simp only [f_l_markIntS_io_k, bl1B, someB]
theorem f_l_markIntS_io_e (k1 : Int) (h0 : List Sc) : runFn E0 f_l_markIntS_io_M H0 f_l_markIntS_io_F (asL (addL 0 (f_l_markIntS_io_t0) (noL))) Try.f26 (f_l_markIntS_io_a k1 h0) (f_l_markIntS_io_i k1 h0) = f_l_markIntS_io_k k1 h0 (fun r => some (f_l_markIntS_io_en r)) := by kernel_rfl
theorem f_l_markIntS_io_ok (k1 : Int) (h0 : List Sc) (r : Int × List Sc) (h : f_l_markIntS_io k1 h0 = some r) : CS Try.prog 26 (f_l_markIntS_io_a k1 h0) (f_l_markIntS_io_i k1 h0) (f_l_markIntS_io_en r).1 (f_l_markIntS_io_en r).2 :=
  fn_true (Gk := fun k => f_l_markIntS_io_k k1 h0 k) (en := f_l_markIntS_io_en) Try.func26 E0ok f_l_markIntS_io_Mt (addL_true (f_l_markIntS_io_tt0) (noL_true)) f_l_markIntS_io_o (f_l_markIntS_io_e k1 h0) (f_l_markIntS_io_p k1 h0) h
def f_l_markIntS_io_c : CRow := fun args inh => match dec2 [.p (.al 0), .p (.int .i64)] [.own 3] args inh with
  | some ([.i k1], [.l h0]) => some ((f_l_markIntS_io k1 h0).isSome, (f_l_markIntS_io_en ((f_l_markIntS_io k1 h0).getD (0, []))).1, (f_l_markIntS_io_en ((f_l_markIntS_io k1 h0).getD (0, []))).2)
  | _ => none
theorem f_l_markIntS_io_cc : CTrue Try.prog 26 f_l_markIntS_io_c := by
  intro args inh rs out h
  unfold f_l_markIntS_io_c at h
  split at h
  · rename_i hd
    obtain ⟨h1, h2⟩ := dec2_enc hd
    rw [← h1, ← h2]
    exact rowC (f_l_markIntS_io_ok _ _) h
  · cases h

def f_l_markGroup_io_F : Fi := { nv := 2, nc := 2, m := 1, vt := [(2, 1)], kl := [], sk := [], mvs := [], fz := [] }
def f_l_markGroup_io_a (k1 : Int) (h0 : List Sc) : List AV := enc [.p (.go 0), .p (.int .i64)] [.i k1]
def f_l_markGroup_io_i (k1 : Int) (h0 : List Sc) : List AV := enc [.own 3] [.l h0]
def f_l_markGroup_io_en (r : Int × List Sc) : List AV × List AV := (enc [.p (.int .i64)] [.i r.1], enc [.own 3] [.l r.2])
def f_l_markGroup_io_M : Calling := addC 26 f_l_markIntS_io_c (noC)
theorem f_l_markGroup_io_Mt : CallOk Try.prog (f_l_markGroup_io_M) := addC_true f_l_markIntS_io_cc (noC_true)
theorem f_l_markGroup_io_o : loopsOnce Try.f25 = true := by kernel_rfl
theorem f_l_markGroup_io_p {R : Type} (k1 : Int) (h0 : List Sc) (kR : Int × List Sc → Option R) : f_l_markGroup_io_k k1 h0 kR = (f_l_markGroup_io_k k1 h0 some).bind kR := by
  simp only [f_l_markGroup_io_k, boB, someB]
theorem f_l_markGroup_io_e (k1 : Int) (h0 : List Sc) : runFn E0 f_l_markGroup_io_M H0 f_l_markGroup_io_F (asL (noL)) Try.f25 (f_l_markGroup_io_a k1 h0) (f_l_markGroup_io_i k1 h0) = f_l_markGroup_io_k k1 h0 (fun r => some (f_l_markGroup_io_en r)) := by kernel_rfl
theorem f_l_markGroup_io_ok (k1 : Int) (h0 : List Sc) (r : Int × List Sc) (h : f_l_markGroup_io k1 h0 = some r) : CS Try.prog 25 (f_l_markGroup_io_a k1 h0) (f_l_markGroup_io_i k1 h0) (f_l_markGroup_io_en r).1 (f_l_markGroup_io_en r).2 :=
  fn_true (Gk := fun k => f_l_markGroup_io_k k1 h0 k) (en := f_l_markGroup_io_en) Try.func25 E0ok f_l_markGroup_io_Mt (noL_true) f_l_markGroup_io_o (f_l_markGroup_io_e k1 h0) (f_l_markGroup_io_p k1 h0) h
def f_l_markGroup_io_c : CRow := fun args inh => match dec2 [.p (.go 0), .p (.int .i64)] [.own 3] args inh with
  | some ([.i k1], [.l h0]) => some ((f_l_markGroup_io k1 h0).isSome, (f_l_markGroup_io_en ((f_l_markGroup_io k1 h0).getD (0, []))).1, (f_l_markGroup_io_en ((f_l_markGroup_io k1 h0).getD (0, []))).2)
  | _ => none
theorem f_l_markGroup_io_cc : CTrue Try.prog 25 f_l_markGroup_io_c := by
  intro args inh rs out h
  unfold f_l_markGroup_io_c at h
  split at h
  · rename_i hd
    obtain ⟨h1, h2⟩ := dec2_enc hd
    rw [← h1, ← h2]
    exact rowC (f_l_markGroup_io_ok _ _) h
  · cases h

def f_l_heldIntS_F : Fi := { nv := 0, nc := 0, m := 0, vt := [], kl := [(0, ([2, 3, 4, 6, 7, 8, 9, 10, 11, 12, 13, 14, 15, 16, 17, 18, 19, 20], [0, 2, 3, 4, 5, 6, 7, 8, 9, 10, 11, 12, 13, 14, 15, 16, 17, 18, 19, 20], [0, 1, 2, 3, 5, 6, 7, 8, 9, 10, 11, 12, 13, 14, 15, 16, 17, 18, 19, 20]))], sk := [], mvs := [], fz := [] }
def f_l_heldIntS_a (a0 : List Sc) (k1 : Int) : List AV := enc [.p .sl, .p (.int .i64)] [.l a0, .i k1]
def f_l_heldIntS_i (a0 : List Sc) (k1 : Int) : List AV := enc [] []
def f_l_heldIntS_en (r : Int) : List AV × List AV := (enc [.p (.int .i64)] [.i r], enc [] [])
def f_l_heldIntS_M : Calling := noC
theorem f_l_heldIntS_Mt : CallOk Try.prog (f_l_heldIntS_M) := noC_true
theorem f_l_heldIntS_o : loopsOnce Try.f27 = true := by kernel_rfl
def f_l_heldIntS_h0 : List Sh := [.p .sl, .p (.int .i64), .u, .u, .u, .p (.int .i64), .u, .u, .u, .u, .u, .u, .u, .u, .u, .u, .u, .u, .u, .u, .u]
def f_l_heldIntS_fr0 (a0 : List Sc) (s : Int × Int) : List AV := enc f_l_heldIntS_h0 [.l a0, .i s.1, .i s.2]
def f_l_heldIntS_g0_1 : List Sh := [.u, .p (.int .i64), .u, .u, .u, .u, .u, .u, .u, .u, .u, .u, .u, .u, .u, .u, .u, .u, .u, .u, .u]
def f_l_heldIntS_x0_1 (a0 : List Sc) (e : Int) : X × List AV := (.out 0, enc f_l_heldIntS_g0_1 [.i e])
def f_l_heldIntS_g0_2 : List Sh := [.u, .u, .u, .u, .p (.int .i64), .u, .u, .u, .u, .u, .u, .u, .u, .u, .u, .u, .u, .u, .u, .u, .u]
def f_l_heldIntS_x0_2 (a0 : List Sc) (e : Unit) : X × List AV := (.ret, enc f_l_heldIntS_g0_2 [.i (-1)])
theorem f_l_heldIntS_p0 {R : Type} (a0 : List Sc) (s : Int × Int) (kN : Int × Int → Option R) (kA : Int → Option R) (kB : Unit → Option R) : f_l_heldIntS_k0 a0 s.1 s.2 kN kA kB = (f_l_heldIntS_r0 a0 s).bind (Ro.el kN kA kB) := by
  simp only [f_l_heldIntS_k0, f_l_heldIntS_r0, brB, someB, noneB, Ro.el]
theorem f_l_heldIntS_e0 (a0 : List Sc) (s : Int × Int) : EC E0 f_l_heldIntS_M H0 f_l_heldIntS_F (asL (noL)) 0 (bodyOf Try.f27 0) (f_l_heldIntS_fr0 a0 s) (done (klOf f_l_heldIntS_F 0)) = f_l_heldIntS_k0 a0 s.1 s.2 (fun s => some (.norm, f_l_heldIntS_fr0 a0 s)) (fun e => some (f_l_heldIntS_x0_1 a0 e)) (fun e => some (f_l_heldIntS_x0_2 a0 e)) := by kernel_rfl
theorem f_l_heldIntS_l0 (a0 : List Sc) : ∀ s r, loopL (f_l_heldIntS_r0 a0) s = some r → LS Try.prog f_l_heldIntS_F (bodyOf Try.f27 0) (f_l_heldIntS_fr0 a0 s) (enX (f_l_heldIntS_x0_1 a0) (f_l_heldIntS_x0_2 a0) r) :=
  loop_true E0ok f_l_heldIntS_Mt (noL_true) f_l_heldIntS_o (fun _ h => by cases h) (fun _ h => by cases h) (fun s => (f_l_heldIntS_e0 a0 s).trans (f_l_heldIntS_p0 a0 s _ _ (fun e => some (f_l_heldIntS_x0_2 a0 e))))
def f_l_heldIntS_t0 (σ : List AV) : Option (Bool × Bool × (X × List AV) × (X × List AV)) := match dec f_l_heldIntS_h0 σ with
  | some [.l a0, .i k1, .i i5] => some ((loopL (f_l_heldIntS_r0 a0) (k1, i5)).isSome, isOne (loopL (f_l_heldIntS_r0 a0) (k1, i5)), f_l_heldIntS_x0_1 a0 (getOne 0 (loopL (f_l_heldIntS_r0 a0) (k1, i5))), f_l_heldIntS_x0_2 a0 (getTwo () (loopL (f_l_heldIntS_r0 a0) (k1, i5))))
  | _ => none
theorem f_l_heldIntS_tt0 : TTrue Try.prog f_l_heldIntS_F Try.f27 0 (f_l_heldIntS_t0) := by
  intro σ p r r' h
  unfold f_l_heldIntS_t0 at h
  split at h
  · rename_i hd
    rw [← dec_enc hd]
    exact row2 (f_l_heldIntS_l0 _ _) h
  · cases h
theorem f_l_heldIntS_p {R : Type} (a0 : List Sc) (k1 : Int) (kR : Int → Option R) : f_l_heldIntS_k a0 k1 kR = (f_l_heldIntS_k a0 k1 some).bind kR := by
  simp only [f_l_heldIntS_k, blB, someB]
theorem f_l_heldIntS_e (a0 : List Sc) (k1 : Int) : runFn E0 f_l_heldIntS_M H0 f_l_heldIntS_F (asL (addL 0 (f_l_heldIntS_t0) (noL))) Try.f27 (f_l_heldIntS_a a0 k1) (f_l_heldIntS_i a0 k1) = f_l_heldIntS_k a0 k1 (fun r => some (f_l_heldIntS_en r)) := by kernel_rfl
theorem f_l_heldIntS_ok (a0 : List Sc) (k1 : Int) (r : Int) (h : f_l_heldIntS a0 k1 = some r) : CS Try.prog 27 (f_l_heldIntS_a a0 k1) (f_l_heldIntS_i a0 k1) (f_l_heldIntS_en r).1 (f_l_heldIntS_en r).2 :=
  fn_true (Gk := fun k => f_l_heldIntS_k a0 k1 k) (en := f_l_heldIntS_en) Try.func27 E0ok f_l_heldIntS_Mt (addL_true (f_l_heldIntS_tt0) (noL_true)) f_l_heldIntS_o (f_l_heldIntS_e a0 k1) (f_l_heldIntS_p a0 k1) h
def f_l_heldIntS_c : CRow := fun args inh => match dec2 [.p .sl, .p (.int .i64)] [] args inh with
  | some ([.l a0, .i k1], []) => some ((f_l_heldIntS a0 k1).isSome, (f_l_heldIntS_en ((f_l_heldIntS a0 k1).getD 0)).1, (f_l_heldIntS_en ((f_l_heldIntS a0 k1).getD 0)).2)
  | _ => none
theorem f_l_heldIntS_cc : CTrue Try.prog 27 f_l_heldIntS_c := by
  intro args inh rs out h
  unfold f_l_heldIntS_c at h
  split at h
  · rename_i hd
    obtain ⟨h1, h2⟩ := dec2_enc hd
    rw [← h1, ← h2]
    exact rowC (f_l_heldIntS_ok _ _) h
  · cases h

def f_l_FnExactLongestZeroFree_F : Fi := { nv := 6, nc := 1, m := 0, vt := [(6, 0), (21, 1), (26, 2), (29, 3), (75, 4), (76, 5)], kl := [], sk := [], mvs := [1, 2, 3, 4, 5], fz := [] }
def f_l_FnExactLongestZeroFree_a (L0 : List Sc) : List AV := enc [.p .gr] [.l L0]
def f_l_FnExactLongestZeroFree_i (L0 : List Sc) : List AV := enc [] []
def f_l_FnExactLongestZeroFree_en (r : Bool) : List AV × List AV := (enc [.p .boo] [.b r], enc [] [])
def f_l_FnExactLongestZeroFree_M : Calling := addC 15 f_l_szGroup_c (addC 17 f_l_toGroup_c (addC 22 f_s_LongestZeroFree_c (addC 23 f_i_LongestZeroFree_c (addC 24 f_l_eqIntS_c (addC 19 f_l_eqGroup_c (addC 25 f_l_markGroup_io_c (addC 26 f_l_markIntS_io_c (addC 27 f_l_heldIntS_c (noC)))))))))
theorem f_l_FnExactLongestZeroFree_Mt : CallOk Try.prog (f_l_FnExactLongestZeroFree_M) := addC_true f_l_szGroup_cc (addC_true f_l_toGroup_cc (addC_true f_s_LongestZeroFree_cc (addC_true f_i_LongestZeroFree_cc (addC_true f_l_eqIntS_cc (addC_true f_l_eqGroup_cc (addC_true f_l_markGroup_io_cc (addC_true f_l_markIntS_io_cc (addC_true f_l_heldIntS_cc (noC_true)))))))))
theorem f_l_FnExactLongestZeroFree_o : loopsOnce Try.f5 = true := by kernel_rfl
theorem f_l_FnExactLongestZeroFree_p {R : Type} (L0 : List Sc) (kR : Bool → Option R) : f_l_FnExactLongestZeroFree_k L0 kR = (f_l_FnExactLongestZeroFree_k L0 some).bind kR := by
  simp only [f_l_FnExactLongestZeroFree_k, brB, boB, someB]
theorem f_l_FnExactLongestZeroFree_e (L0 : List Sc) : runFn E0 f_l_FnExactLongestZeroFree_M H0 f_l_FnExactLongestZeroFree_F (asL (noL)) Try.f5 (f_l_FnExactLongestZeroFree_a L0) (f_l_FnExactLongestZeroFree_i L0) = f_l_FnExactLongestZeroFree_k L0 (fun r => some (f_l_FnExactLongestZeroFree_en r)) := by kernel_rfl
theorem f_l_FnExactLongestZeroFree_ok (L0 : List Sc) (r : Bool) (h : f_l_FnExactLongestZeroFree L0 = some r) : CS Try.prog 5 (f_l_FnExactLongestZeroFree_a L0) (f_l_FnExactLongestZeroFree_i L0) (f_l_FnExactLongestZeroFree_en r).1 (f_l_FnExactLongestZeroFree_en r).2 :=
  fn_true (Gk := fun k => f_l_FnExactLongestZeroFree_k L0 k) (en := f_l_FnExactLongestZeroFree_en) Try.func5 E0ok f_l_FnExactLongestZeroFree_Mt (noL_true) f_l_FnExactLongestZeroFree_o (f_l_FnExactLongestZeroFree_e L0) (f_l_FnExactLongestZeroFree_p L0) h
def f_l_FnExactLongestZeroFree_c : CRow := fun args inh => match dec2 [.p .gr] [] args inh with
  | some ([.l L0], []) => some ((f_l_FnExactLongestZeroFree L0).isSome, (f_l_FnExactLongestZeroFree_en ((f_l_FnExactLongestZeroFree L0).getD false)).1, (f_l_FnExactLongestZeroFree_en ((f_l_FnExactLongestZeroFree L0).getD false)).2)
  | _ => none
theorem f_l_FnExactLongestZeroFree_cc : CTrue Try.prog 5 f_l_FnExactLongestZeroFree_c := by
  intro args inh rs out h
  unfold f_l_FnExactLongestZeroFree_c at h
  split at h
  · rename_i hd
    obtain ⟨h1, h2⟩ := dec2_enc hd
    rw [← h1, ← h2]
    exact rowC (f_l_FnExactLongestZeroFree_ok _) h
  · cases h

def f_s_IsSet_F : Fi := { nv := 0, nc := 0, m := 0, vt := [], kl := [], sk := [], mvs := [], fz := [] }
def f_s_IsSet_a (g0 : List Sc) (a1 : Int) : List AV := enc [.p .gr, .p (.int .i64)] [.l g0, .i a1]
def f_s_IsSet_i (g0 : List Sc) (a1 : Int) : List AV := enc [] []
def f_s_IsSet_en (r : Bool) : List AV × List AV := (enc [.p .boo] [.b r], enc [] [])
def f_s_IsSet_M : Calling := addC 48 f_s_IsGroup_c (addC 49 f_s_l2Order_c (addC 50 f_s_l1In_c (noC)))
theorem f_s_IsSet_Mt : CallOk Try.prog (f_s_IsSet_M) := addC_true f_s_IsGroup_cc (addC_true f_s_l2Order_cc (addC_true f_s_l1In_cc (noC_true)))
theorem f_s_IsSet_o : loopsOnce Try.f59 = true := by kernel_rfl
theorem f_s_IsSet_p {R : Type} (g0 : List Sc) (a1 : Int) (kR : Bool → Option R) : f_s_IsSet_k g0 a1 kR = (f_s_IsSet_k g0 a1 some).bind kR := by
  simp only [f_s_IsSet_k, brB, boB, someB, noneB]
theorem f_s_IsSet_e (g0 : List Sc) (a1 : Int) : runFn E0 f_s_IsSet_M H0 f_s_IsSet_F (asL (noL)) Try.f59 (f_s_IsSet_a g0 a1) (f_s_IsSet_i g0 a1) = f_s_IsSet_k g0 a1 (fun r => some (f_s_IsSet_en r)) := by kernel_rfl
theorem f_s_IsSet_ok (g0 : List Sc) (a1 : Int) (r : Bool) (h : f_s_IsSet g0 a1 = some r) : CS Try.prog 59 (f_s_IsSet_a g0 a1) (f_s_IsSet_i g0 a1) (f_s_IsSet_en r).1 (f_s_IsSet_en r).2 :=
  fn_true (Gk := fun k => f_s_IsSet_k g0 a1 k) (en := f_s_IsSet_en) Try.func59 E0ok f_s_IsSet_Mt (noL_true) f_s_IsSet_o (f_s_IsSet_e g0 a1) (f_s_IsSet_p g0 a1) h
def f_s_IsSet_c : CRow := fun args inh => match dec2 [.p .gr, .p (.int .i64)] [] args inh with
  | some ([.l g0, .i a1], []) => some ((f_s_IsSet g0 a1).isSome, (f_s_IsSet_en ((f_s_IsSet g0 a1).getD false)).1, (f_s_IsSet_en ((f_s_IsSet g0 a1).getD false)).2)
  | _ => none
theorem f_s_IsSet_cc : CTrue Try.prog 59 f_s_IsSet_c := by
  intro args inh rs out h
  unfold f_s_IsSet_c at h
  split at h
  · rename_i hd
    obtain ⟨h1, h2⟩ := dec2_enc hd
    rw [← h1, ← h2]
    exact rowC (f_s_IsSet_ok _ _) h
  · cases h

def f_s_l3Bits_F : Fi := { nv := 0, nc := 0, m := 0, vt := [], kl := [(0, ([0, 1, 2, 5, 6, 7, 8, 9, 10, 11, 12, 13, 14], [0, 1, 2, 4, 5, 6, 7, 8, 9, 10, 11, 12, 13, 14], [0, 1, 3, 4, 5, 6, 7, 8, 9, 10, 11, 12, 13, 14]))], sk := [], mvs := [], fz := [] }
def f_s_l3Bits_a (a0 : Int) : List AV := enc [.p (.int .i64)] [.i a0]
def f_s_l3Bits_i (a0 : Int) : List AV := enc [] []
def f_s_l3Bits_en (r : Int) : List AV × List AV := (enc [.p (.int .i64)] [.i r], enc [] [])
def f_s_l3Bits_M : Calling := noC
theorem f_s_l3Bits_Mt : CallOk Try.prog (f_s_l3Bits_M) := noC_true
theorem f_s_l3Bits_o : loopsOnce Try.f60 = true := by kernel_rfl
def f_s_l3Bits_h0 : List Sh := [.u, .u, .u, .p (.int .i64), .p (.int .i64), .u, .u, .u, .u, .u, .u, .u, .u, .u, .u]
def f_s_l3Bits_fr0 (s : Int × Int) : List AV := enc f_s_l3Bits_h0 [.i s.1, .i s.2]
def f_s_l3Bits_g0_1 : List Sh := [.u, .u, .u, .p (.int .i64), .u, .u, .u, .u, .u, .u, .u, .u, .u, .u, .u]
def f_s_l3Bits_x0_1 (e : Int) : X × List AV := (.out 0, enc f_s_l3Bits_g0_1 [.i e])
def f_s_l3Bits_x0_2 (_e : Unit) : X × List AV := (.ret, [])
theorem f_s_l3Bits_p0 {R : Type} (s : Int × Int) (kN : Int × Int → Option R) (kA : Int → Option R) (kB : Unit → Option R) : f_s_l3Bits_k0 s.1 s.2 kN kA = (f_s_l3Bits_r0 s).bind (Ro.el kN kA kB) := by
  simp only [f_s_l3Bits_k0, f_s_l3Bits_r0, brB, someB, Ro.el]
theorem f_s_l3Bits_e0 (s : Int × Int) : EC E0 f_s_l3Bits_M H0 f_s_l3Bits_F (asL (noL)) 0 (bodyOf Try.f60 0) (f_s_l3Bits_fr0 s) (done (klOf f_s_l3Bits_F 0)) = f_s_l3Bits_k0 s.1 s.2 (fun s => some (.norm, f_s_l3Bits_fr0 s)) (fun e => some (f_s_l3Bits_x0_1 e)) := by kernel_rfl
theorem f_s_l3Bits_l0 : ∀ s r, loopL (f_s_l3Bits_r0) s = some r → LS Try.prog f_s_l3Bits_F (bodyOf Try.f60 0) (f_s_l3Bits_fr0 s) (enX (f_s_l3Bits_x0_1) (f_s_l3Bits_x0_2) r) :=
  loop_true E0ok f_s_l3Bits_Mt (noL_true) f_s_l3Bits_o (fun _ h => by cases h) (fun _ h => by cases h) (fun s => (f_s_l3Bits_e0 s).trans (f_s_l3Bits_p0 s _ _ (fun e => some (f_s_l3Bits_x0_2 e))))
def f_s_l3Bits_t0 (σ : List AV) : Option (Bool × Bool × (X × List AV) × (X × List AV)) := match dec f_s_l3Bits_h0 σ with
  | some [.i n3, .i x4] => some (isOne (loopL (f_s_l3Bits_r0) (n3, x4)), true, f_s_l3Bits_x0_1 (getOne 0 (loopL (f_s_l3Bits_r0) (n3, x4))), (.ret, []))
  | _ => none
theorem f_s_l3Bits_tt0 : TTrue Try.prog f_s_l3Bits_F Try.f60 0 (f_s_l3Bits_t0) := by
  intro σ p r r' h
  unfold f_s_l3Bits_t0 at h
  split at h
  · rename_i hd
    rw [← dec_enc hd]
    exact row1 (f_s_l3Bits_l0 _) h
  · cases h
theorem f_s_l3Bits_p {R : Type} (a0 : Int) (kR : Int → Option R) : f_s_l3Bits_k a0 kR = (f_s_l3Bits_k a0 some).bind kR := by
  simp only [f_s_l3Bits_k, bl1B, someB]
theorem f_s_l3Bits_e (a0 : Int) : runFn E0 f_s_l3Bits_M H0 f_s_l3Bits_F (asL (addL 0 (f_s_l3Bits_t0) (noL))) Try.f60 (f_s_l3Bits_a a0) (f_s_l3Bits_i a0) = f_s_l3Bits_k a0 (fun r => some (f_s_l3Bits_en r)) := by kernel_rfl
theorem f_s_l3Bits_ok (a0 : Int) (r : Int) (h : f_s_l3Bits a0 = some r) : CS Try.prog 60 (f_s_l3Bits_a a0) (f_s_l3Bits_i a0) (f_s_l3Bits_en r).1 (f_s_l3Bits_en r).2 :=
  fn_true (Gk := fun k => f_s_l3Bits_k a0 k) (en := f_s_l3Bits_en) Try.func60 E0ok f_s_l3Bits_Mt (addL_true (f_s_l3Bits_tt0) (noL_true)) f_s_l3Bits_o (f_s_l3Bits_e a0) (f_s_l3Bits_p a0) h
def f_s_l3Bits_c : CRow := fun args inh => match dec2 [.p (.int .i64)] [] args inh with
  | some ([.i a0], []) => some ((f_s_l3Bits a0).isSome, (f_s_l3Bits_en ((f_s_l3Bits a0).getD 0)).1, (f_s_l3Bits_en ((f_s_l3Bits a0).getD 0)).2)
  | _ => none
theorem f_s_l3Bits_cc : CTrue Try.prog 60 f_s_l3Bits_c := by
  intro args inh rs out h
  unfold f_s_l3Bits_c at h
  split at h
  · rename_i hd
    obtain ⟨h1, h2⟩ := dec2_enc hd
    rw [← h1, ← h2]
    exact rowC (f_s_l3Bits_ok _) h
  · cases h

def f_s_l15Keeps_F : Fi := { nv := 0, nc := 0, m := 0, vt := [], kl := [(6, ([0, 1, 6, 7, 8, 13, 14, 15, 16, 17, 18, 19, 20, 21, 22, 23, 24, 25, 26, 27, 28, 29, 30, 31, 32, 33, 34, 35, 36, 37, 38, 39, 40, 41, 42, 43, 44, 45, 46, 47, 48, 49, 50, 51, 52, 53, 54, 55, 56, 57, 58, 59, 60, 61, 62, 63, 64, 65, 66, 67, 68, 69, 70, 71, 72, 73, 74, 75, 76, 77, 78, 79, 80, 81], [0, 1, 6, 7, 8, 12, 13, 14, 15, 16, 17, 18, 19, 20, 21, 22, 23, 24, 25, 26, 27, 28, 29, 30, 31, 32, 33, 34, 35, 36, 37, 38, 39, 40, 41, 42, 43, 44, 45, 46, 47, 48, 49, 50, 51, 52, 53, 54, 55, 56, 57, 58, 59, 60, 61, 62, 63, 64, 65, 66, 67, 68, 69, 70, 71, 72, 73, 74, 75, 76, 77, 78, 79, 80, 81], [0, 1, 2, 3, 4, 5, 6, 7, 9, 10, 11, 12, 13, 14, 15, 16, 17, 18, 19, 20, 21, 22, 23, 24, 25, 26, 27, 28, 29, 30, 31, 32, 33, 34, 35, 36, 37, 38, 39, 40, 41, 42, 43, 44, 45, 46, 47, 48, 49, 50, 51, 52, 53, 54, 55, 56, 57, 58, 59, 60, 61, 62, 63, 64, 65, 66, 67, 68, 69, 70, 71, 72, 73, 74, 75, 76, 77, 78, 79, 80, 81])), (4, ([0, 1, 6, 7, 8, 12, 13, 14, 15, 16, 17, 18, 19, 20, 21, 22, 23, 24, 25, 26, 27, 28, 29, 30, 31, 32, 33, 34, 35, 36, 37, 38, 39, 40, 41, 42, 43, 44, 45, 46, 47, 48, 49, 50, 51, 52, 53, 54, 55, 56, 57, 58, 59, 60, 61, 62, 63, 64, 65, 66, 67, 68, 69, 70, 71, 72, 73, 74, 75, 76, 77, 78, 79, 80, 81], [0, 1, 6, 7, 8, 12, 13, 14, 15, 16, 17, 18, 19, 20, 21, 22, 23, 24, 25, 26, 27, 28, 29, 30, 31, 32, 33, 34, 35, 36, 37, 38, 39, 40, 41, 42, 43, 44, 45, 46, 47, 48, 49, 50, 51, 52, 53, 54, 55, 56, 57, 58, 59, 60, 61, 62, 63, 64, 65, 66, 67, 68, 69, 70, 71, 72, 73, 74, 75, 76, 77, 78, 79, 80, 81], [0, 1, 2, 3, 4, 5, 6, 7, 9, 10, 11, 12, 13, 14, 15, 16, 17, 18, 19, 20, 21, 22, 23, 24, 25, 26, 27, 28, 29, 30, 31, 32, 33, 34, 35, 36, 37, 38, 39, 40, 41, 42, 43, 44, 45, 46, 47, 48, 49, 50, 51, 52, 53, 54, 55, 56, 57, 58, 59, 60, 61, 62, 63, 64, 65, 66, 67, 68, 69, 70, 71, 72, 73, 74, 75, 76, 77, 78, 79, 80, 81])), (2, ([0, 1, 6, 7, 8, 11, 12, 13, 14, 15, 16, 17, 18, 19, 20, 21, 22, 23, 24, 25, 26, 27, 28, 29, 30, 31, 32, 33, 34, 35, 36, 37, 38, 39, 40, 41, 42, 43, 44, 45, 46, 47, 48, 49, 50, 51, 52, 53, 54, 55, 56, 57, 58, 59, 60, 61, 62, 63, 64, 65, 66, 67, 68, 69, 70, 71, 72, 73, 74, 75, 76, 77, 78, 79, 80, 81], [0, 1, 6, 7, 8, 12, 13, 14, 15, 16, 17, 18, 19, 20, 21, 22, 23, 24, 25, 26, 27, 28, 29, 30, 31, 32, 33, 34, 35, 36, 37, 38, 39, 40, 41, 42, 43, 44, 45, 46, 47, 48, 49, 50, 51, 52, 53, 54, 55, 56, 57, 58, 59, 60, 61, 62, 63, 64, 65, 66, 67, 68, 69, 70, 71, 72, 73, 74, 75, 76, 77, 78, 79, 80, 81], [0, 1, 2, 3, 4, 5, 6, 7, 9, 10, 11, 12, 13, 14, 15, 16, 17, 18, 19, 20, 21, 22, 23, 24, 25, 26, 27, 28, 29, 30, 31, 32, 33, 34, 35, 36, 37, 38, 39, 40, 41, 42, 43, 44, 45, 46, 47, 48, 49, 50, 51, 52, 53, 54, 55, 56, 57, 58, 59, 60, 61, 62, 63, 64, 65, 66, 67, 68, 69, 70, 71, 72, 73, 74, 75, 76, 77, 78, 79, 80, 81])), (0, ([0, 1, 6, 7, 8, 10, 11, 12, 13, 14, 15, 16, 17, 18, 19, 20, 21, 22, 23, 24, 25, 26, 27, 28, 29, 30, 31, 32, 33, 34, 35, 36, 37, 38, 39, 40, 41, 42, 43, 44, 45, 46, 47, 48, 49, 50, 51, 52, 53, 54, 55, 56, 57, 58, 59, 60, 61, 62, 63, 64, 65, 66, 67, 68, 69, 70, 71, 72, 73, 74, 75, 76, 77, 78, 79, 80, 81], [0, 1, 6, 7, 8, 12, 13, 14, 15, 16, 17, 18, 19, 20, 21, 22, 23, 24, 25, 26, 27, 28, 29, 30, 31, 32, 33, 34, 35, 36, 37, 38, 39, 40, 41, 42, 43, 44, 45, 46, 47, 48, 49, 50, 51, 52, 53, 54, 55, 56, 57, 58, 59, 60, 61, 62, 63, 64, 65, 66, 67, 68, 69, 70, 71, 72, 73, 74, 75, 76, 77, 78, 79, 80, 81], [0, 1, 2, 3, 4, 5, 6, 7, 9, 10, 11, 12, 13, 14, 15, 16, 17, 18, 19, 20, 21, 22, 23, 24, 25, 26, 27, 28, 29, 30, 31, 32, 33, 34, 35, 36, 37, 38, 39, 40, 41, 42, 43, 44, 45, 46, 47, 48, 49, 50, 51, 52, 53, 54, 55, 56, 57, 58, 59, 60, 61, 62, 63, 64, 65, 66, 67, 68, 69, 70, 71, 72, 73, 74, 75, 76, 77, 78, 79, 80, 81]))], sk := [], mvs := [], fz := [] }
def f_s_l15Keeps_a (L0 : List Sc) (p1 : List Sc) (p2 : List Sc) (p3 : List Sc) : List AV := enc [.p .gr, .p .gr, .p .sl, .p .sl] [.l L0, .l p1, .l p2, .l p3]
def f_s_l15Keeps_i (L0 : List Sc) (p1 : List Sc) (p2 : List Sc) (p3 : List Sc) : List AV := enc [] []
def f_s_l15Keeps_en (r : Bool) : List AV × List AV := (enc [.p .boo] [.b r], enc [] [])
def f_s_l15Keeps_M : Calling := addC 71 f_s_l2Add_c (noC)
theorem f_s_l15Keeps_Mt : CallOk Try.prog (f_s_l15Keeps_M) := addC_true f_s_l2Add_cc (noC_true)
theorem f_s_l15Keeps_o : loopsOnce Try.f92 = true := by kernel_rfl
def f_s_l15Keeps_h6 : List Sh := [.u, .u, .p .sl, .p .sl, .p .el, .p .el, .u, .u, .u, .p (.int .i64), .p (.int .i64), .p (.int .i64), .p (.int .i64), .u, .u, .u, .u, .u, .u, .u, .u, .u, .u, .u, .u, .u, .u, .u, .u, .u, .u, .u, .u, .u, .u, .u, .u, .u, .u, .u, .u, .u, .u, .u, .u, .u, .u, .u, .u, .u, .u, .u, .u, .u, .u, .u, .u, .u, .u, .u, .u, .u, .u, .u, .u, .u, .u, .u, .u, .u, .u, .u, .u, .u, .u, .u, .u, .u, .u, .u, .u, .u]
def f_s_l15Keeps_fr6 (t2 : List Sc) (t3 : List Sc) (t4 : List Sc) (t5 : List Sc) (t9 : Int) (t10 : Int) (t11 : Int) (s : Int) : List AV := enc f_s_l15Keeps_h6 [.l t2, .l t3, .l t4, .l t5, .i t9, .i t10, .i t11, .i s]
def f_s_l15Keeps_g6_1 : List Sh := [.u, .u, .p .sl, .p .sl, .p .el, .p .el, .u, .u, .u, .p (.int .i64), .p (.int .i64), .p (.int .i64), .u, .u, .u, .u, .u, .u, .u, .u, .u, .u, .u, .u, .u, .u, .u, .u, .u, .u, .u, .u, .u, .u, .u, .u, .u, .u, .u, .u, .u, .u, .u, .u, .u, .u, .u, .u, .u, .u, .u, .u, .u, .u, .u, .u, .u, .u, .u, .u, .u, .u, .u, .u, .u, .u, .u, .u, .u, .u, .u, .u, .u, .u, .u, .u, .u, .u, .u, .u, .u, .u]
def f_s_l15Keeps_x6_1 (t2 : List Sc) (t3 : List Sc) (t4 : List Sc) (t5 : List Sc) (t9 : Int) (t10 : Int) (t11 : Int) (e : Unit) : X × List AV := (.out 6, enc f_s_l15Keeps_g6_1 [.l t2, .l t3, .l t4, .l t5, .i t9, .i t10, .i t11])
def f_s_l15Keeps_g6_2 : List Sh := [.u, .u, .u, .u, .u, .u, .u, .u, .p .boo, .u, .u, .u, .u, .u, .u, .u, .u, .u, .u, .u, .u, .u, .u, .u, .u, .u, .u, .u, .u, .u, .u, .u, .u, .u, .u, .u, .u, .u, .u, .u, .u, .u, .u, .u, .u, .u, .u, .u, .u, .u, .u, .u, .u, .u, .u, .u, .u, .u, .u, .u, .u, .u, .u, .u, .u, .u, .u, .u, .u, .u, .u, .u, .u, .u, .u, .u, .u, .u, .u, .u, .u, .u]
def f_s_l15Keeps_x6_2 (t2 : List Sc) (t3 : List Sc) (t4 : List Sc) (t5 : List Sc) (t9 : Int) (t10 : Int) (t11 : Int) (e : Unit) : X × List AV := (.ret, enc f_s_l15Keeps_g6_2 [.b false])
theorem f_s_l15Keeps_p6 {R : Type} (t2 : List Sc) (t3 : List Sc) (t4 : List Sc) (t5 : List Sc) (t9 : Int) (t10 : Int) (t11 : Int) (s : Int) (kN : Int → Option R) (kA : Unit → Option R) (kB : Unit → Option R) : f_s_l15Keeps_k6 t2 t3 t4 t5 t9 t10 t11 s kN kA kB = (f_s_l15Keeps_r6 t2 t3 t4 t5 t9 t10 t11 s).bind (Ro.el kN kA kB) := by
  simp only [f_s_l15Keeps_k6, f_s_l15Keeps_r6, brB, boB, someB, noneB, Ro.el]
theorem f_s_l15Keeps_e6 (t2 : List Sc) (t3 : List Sc) (t4 : List Sc) (t5 : List Sc) (t9 : Int) (t10 : Int) (t11 : Int) (s : Int) : EC E0 f_s_l15Keeps_M H0 f_s_l15Keeps_F (asL (noL)) 6 (bodyOf Try.f92 6) (f_s_l15Keeps_fr6 t2 t3 t4 t5 t9 t10 t11 s) (done (klOf f_s_l15Keeps_F 6)) = f_s_l15Keeps_k6 t2 t3 t4 t5 t9 t10 t11 s (fun s => some (.norm, f_s_l15Keeps_fr6 t2 t3 t4 t5 t9 t10 t11 s)) (fun e => some (f_s_l15Keeps_x6_1 t2 t3 t4 t5 t9 t10 t11 e)) (fun e => some (f_s_l15Keeps_x6_2 t2 t3 t4 t5 t9 t10 t11 e)) := by kernel_rfl
theorem f_s_l15Keeps_l6 (t2 : List Sc) (t3 : List Sc) (t4 : List Sc) (t5 : List Sc) (t9 : Int) (t10 : Int) (t11 : Int) : ∀ s r, loopL (f_s_l15Keeps_r6 t2 t3 t4 t5 t9 t10 t11) s = some r → LS Try.prog f_s_l15Keeps_F (bodyOf Try.f92 6) (f_s_l15Keeps_fr6 t2 t3 t4 t5 t9 t10 t11 s) (enX (f_s_l15Keeps_x6_1 t2 t3 t4 t5 t9 t10 t11) (f_s_l15Keeps_x6_2 t2 t3 t4 t5 t9 t10 t11) r) :=
  loop_true E0ok f_s_l15Keeps_Mt (noL_true) f_s_l15Keeps_o (fun _ h => by cases h) (fun _ h => by cases h) (fun s => (f_s_l15Keeps_e6 t2 t3 t4 t5 t9 t10 t11 s).trans (f_s_l15Keeps_p6 t2 t3 t4 t5 t9 t10 t11 s _ _ (fun e => some (f_s_l15Keeps_x6_2 t2 t3 t4 t5 t9 t10 t11 e))))
def f_s_l15Keeps_t6 (σ : List AV) : Option (Bool × Bool × (X × List AV) × (X × List AV)) := match dec f_s_l15Keeps_h6 σ with
  | some [.l t2, .l t3, .l t4, .l t5, .i t9, .i t10, .i t11, .i t12] => some ((loopL (f_s_l15Keeps_r6 t2 t3 t4 t5 t9 t10 t11) t12).isSome, isOne (loopL (f_s_l15Keeps_r6 t2 t3 t4 t5 t9 t10 t11) t12), f_s_l15Keeps_x6_1 t2 t3 t4 t5 t9 t10 t11 (getOne () (loopL (f_s_l15Keeps_r6 t2 t3 t4 t5 t9 t10 t11) t12)), f_s_l15Keeps_x6_2 t2 t3 t4 t5 t9 t10 t11 (getTwo () (loopL (f_s_l15Keeps_r6 t2 t3 t4 t5 t9 t10 t11) t12)))
  | _ => none
theorem f_s_l15Keeps_tt6 : TTrue Try.prog f_s_l15Keeps_F Try.f92 6 (f_s_l15Keeps_t6) := by
  intro σ p r r' h
  unfold f_s_l15Keeps_t6 at h
  split at h
  · rename_i hd
    rw [← dec_enc hd]
    exact row2 (f_s_l15Keeps_l6 _ _ _ _ _ _ _ _) h
  · cases h
def f_s_l15Keeps_h4 : List Sh := [.u, .u, .p .sl, .p .sl, .p .el, .p .el, .u, .u, .u, .p (.int .i64), .p (.int .i64), .p (.int .i64), .u, .u, .u, .u, .u, .u, .u, .u, .u, .u, .u, .u, .u, .u, .u, .u, .u, .u, .u, .u, .u, .u, .u, .u, .u, .u, .u, .u, .u, .u, .u, .u, .u, .u, .u, .u, .u, .u, .u, .u, .u, .u, .u, .u, .u, .u, .u, .u, .u, .u, .u, .u, .u, .u, .u, .u, .u, .u, .u, .u, .u, .u, .u, .u, .u, .u, .u, .u, .u, .u]
def f_s_l15Keeps_fr4 (t2 : List Sc) (t3 : List Sc) (t4 : List Sc) (t5 : List Sc) (t9 : Int) (t10 : Int) (s : Int) : List AV := enc f_s_l15Keeps_h4 [.l t2, .l t3, .l t4, .l t5, .i t9, .i t10, .i s]
def f_s_l15Keeps_g4_1 : List Sh := [.u, .u, .p .sl, .p .sl, .p .el, .p .el, .u, .u, .u, .p (.int .i64), .p (.int .i64), .p (.int .i64), .u, .u, .u, .u, .u, .u, .u, .u, .u, .u, .u, .u, .u, .u, .u, .u, .u, .u, .u, .u, .u, .u, .u, .u, .u, .u, .u, .u, .u, .u, .u, .u, .u, .u, .u, .u, .u, .u, .u, .u, .u, .u, .u, .u, .u, .u, .u, .u, .u, .u, .u, .u, .u, .u, .u, .u, .u, .u, .u, .u, .u, .u, .u, .u, .u, .u, .u, .u, .u, .u]
def f_s_l15Keeps_x4_1 (t2 : List Sc) (t3 : List Sc) (t4 : List Sc) (t5 : List Sc) (t9 : Int) (t10 : Int) (e : Int) : X × List AV := (.out 4, enc f_s_l15Keeps_g4_1 [.l t2, .l t3, .l t4, .l t5, .i t9, .i t10, .i e])
def f_s_l15Keeps_g4_2 : List Sh := [.u, .u, .u, .u, .u, .u, .u, .u, .p .boo, .u, .u, .u, .u, .u, .u, .u, .u, .u, .u, .u, .u, .u, .u, .u, .u, .u, .u, .u, .u, .u, .u, .u, .u, .u, .u, .u, .u, .u, .u, .u, .u, .u, .u, .u, .u, .u, .u, .u, .u, .u, .u, .u, .u, .u, .u, .u, .u, .u, .u, .u, .u, .u, .u, .u, .u, .u, .u, .u, .u, .u, .u, .u, .u, .u, .u, .u, .u, .u, .u, .u, .u, .u]
def f_s_l15Keeps_x4_2 (t2 : List Sc) (t3 : List Sc) (t4 : List Sc) (t5 : List Sc) (t9 : Int) (t10 : Int) (e : Unit) : X × List AV := (.ret, enc f_s_l15Keeps_g4_2 [.b false])
theorem f_s_l15Keeps_p4 {R : Type} (t2 : List Sc) (t3 : List Sc) (t4 : List Sc) (t5 : List Sc) (t9 : Int) (t10 : Int) (s : Int) (kN : Int → Option R) (kA : Int → Option R) (kB : Unit → Option R) : f_s_l15Keeps_k4 t2 t3 t4 t5 t9 t10 s kN kA kB = (f_s_l15Keeps_r4 t2 t3 t4 t5 t9 t10 s).bind (Ro.el kN kA kB) := by
  simp only [f_s_l15Keeps_k4, f_s_l15Keeps_r4, brB, blB, someB, Ro.el]
theorem f_s_l15Keeps_e4 (t2 : List Sc) (t3 : List Sc) (t4 : List Sc) (t5 : List Sc) (t9 : Int) (t10 : Int) (s : Int) : EC E0 f_s_l15Keeps_M H0 f_s_l15Keeps_F (asL (addL 6 (f_s_l15Keeps_t6) (noL))) 4 (bodyOf Try.f92 4) (f_s_l15Keeps_fr4 t2 t3 t4 t5 t9 t10 s) (done (klOf f_s_l15Keeps_F 4)) = f_s_l15Keeps_k4 t2 t3 t4 t5 t9 t10 s (fun s => some (.norm, f_s_l15Keeps_fr4 t2 t3 t4 t5 t9 t10 s)) (fun e => some (f_s_l15Keeps_x4_1 t2 t3 t4 t5 t9 t10 e)) (fun e => some (f_s_l15Keeps_x4_2 t2 t3 t4 t5 t9 t10 e)) := by kernel_rfl
theorem f_s_l15Keeps_l4 (t2 : List Sc) (t3 : List Sc) (t4 : List Sc) (t5 : List Sc) (t9 : Int) (t10 : Int) : ∀ s r, loopL (f_s_l15Keeps_r4 t2 t3 t4 t5 t9 t10) s = some r → LS Try.prog f_s_l15Keeps_F (bodyOf Try.f92 4) (f_s_l15Keeps_fr4 t2 t3 t4 t5 t9 t10 s) (enX (f_s_l15Keeps_x4_1 t2 t3 t4 t5 t9 t10) (f_s_l15Keeps_x4_2 t2 t3 t4 t5 t9 t10) r) :=
  loop_true E0ok f_s_l15Keeps_Mt (addL_true (f_s_l15Keeps_tt6) (noL_true)) f_s_l15Keeps_o (fun _ h => by cases h) (fun _ h => by cases h) (fun s => (f_s_l15Keeps_e4 t2 t3 t4 t5 t9 t10 s).trans (f_s_l15Keeps_p4 t2 t3 t4 t5 t9 t10 s _ _ (fun e => some (f_s_l15Keeps_x4_2 t2 t3 t4 t5 t9 t10 e))))
def f_s_l15Keeps_t4 (σ : List AV) : Option (Bool × Bool × (X × List AV) × (X × List AV)) := match dec f_s_l15Keeps_h4 σ with
  | some [.l t2, .l t3, .l t4, .l t5, .i t9, .i t10, .i t11] => some ((loopL (f_s_l15Keeps_r4 t2 t3 t4 t5 t9 t10) t11).isSome, isOne (loopL (f_s_l15Keeps_r4 t2 t3 t4 t5 t9 t10) t11), f_s_l15Keeps_x4_1 t2 t3 t4 t5 t9 t10 (getOne 0 (loopL (f_s_l15Keeps_r4 t2 t3 t4 t5 t9 t10) t11)), f_s_l15Keeps_x4_2 t2 t3 t4 t5 t9 t10 (getTwo () (loopL (f_s_l15Keeps_r4 t2 t3 t4 t5 t9 t10) t11)))
  | _ => none
theorem f_s_l15Keeps_tt4 : TTrue Try.prog f_s_l15Keeps_F Try.f92 4 (f_s_l15Keeps_t4) := by
  intro σ p r r' h
  unfold f_s_l15Keeps_t4 at h
  split at h
  · rename_i hd
    rw [← dec_enc hd]
    exact row2 (f_s_l15Keeps_l4 _ _ _ _ _ _ _) h
  · cases h
def f_s_l15Keeps_h2 : List Sh := [.u, .u, .p .sl, .p .sl, .p .el, .p .el, .u, .u, .u, .p (.int .i64), .p (.int .i64), .u, .u, .u, .u, .u, .u, .u, .u, .u, .u, .u, .u, .u, .u, .u, .u, .u, .u, .u, .u, .u, .u, .u, .u, .u, .u, .u, .u, .u, .u, .u, .u, .u, .u, .u, .u, .u, .u, .u, .u, .u, .u, .u, .u, .u, .u, .u, .u, .u, .u, .u, .u, .u, .u, .u, .u, .u, .u, .u, .u, .u, .u, .u, .u, .u, .u, .u, .u, .u, .u, .u]
def f_s_l15Keeps_fr2 (t2 : List Sc) (t3 : List Sc) (t4 : List Sc) (t5 : List Sc) (t9 : Int) (s : Int) : List AV := enc f_s_l15Keeps_h2 [.l t2, .l t3, .l t4, .l t5, .i t9, .i s]
def f_s_l15Keeps_g2_1 : List Sh := [.u, .u, .p .sl, .p .sl, .p .el, .p .el, .u, .u, .u, .p (.int .i64), .p (.int .i64), .u, .u, .u, .u, .u, .u, .u, .u, .u, .u, .u, .u, .u, .u, .u, .u, .u, .u, .u, .u, .u, .u, .u, .u, .u, .u, .u, .u, .u, .u, .u, .u, .u, .u, .u, .u, .u, .u, .u, .u, .u, .u, .u, .u, .u, .u, .u, .u, .u, .u, .u, .u, .u, .u, .u, .u, .u, .u, .u, .u, .u, .u, .u, .u, .u, .u, .u, .u, .u, .u, .u]
def f_s_l15Keeps_x2_1 (t2 : List Sc) (t3 : List Sc) (t4 : List Sc) (t5 : List Sc) (t9 : Int) (e : Int) : X × List AV := (.out 2, enc f_s_l15Keeps_g2_1 [.l t2, .l t3, .l t4, .l t5, .i t9, .i e])
def f_s_l15Keeps_g2_2 : List Sh := [.u, .u, .u, .u, .u, .u, .u, .u, .p .boo, .u, .u, .u, .u, .u, .u, .u, .u, .u, .u, .u, .u, .u, .u, .u, .u, .u, .u, .u, .u, .u, .u, .u, .u, .u, .u, .u, .u, .u, .u, .u, .u, .u, .u, .u, .u, .u, .u, .u, .u, .u, .u, .u, .u, .u, .u, .u, .u, .u, .u, .u, .u, .u, .u, .u, .u, .u, .u, .u, .u, .u, .u, .u, .u, .u, .u, .u, .u, .u, .u, .u, .u, .u]
def f_s_l15Keeps_x2_2 (t2 : List Sc) (t3 : List Sc) (t4 : List Sc) (t5 : List Sc) (t9 : Int) (e : Unit) : X × List AV := (.ret, enc f_s_l15Keeps_g2_2 [.b false])
theorem f_s_l15Keeps_p2 {R : Type} (t2 : List Sc) (t3 : List Sc) (t4 : List Sc) (t5 : List Sc) (t9 : Int) (s : Int) (kN : Int → Option R) (kA : Int → Option R) (kB : Unit → Option R) : f_s_l15Keeps_k2 t2 t3 t4 t5 t9 s kN kA kB = (f_s_l15Keeps_r2 t2 t3 t4 t5 t9 s).bind (Ro.el kN kA kB) := by
  simp only [f_s_l15Keeps_k2, f_s_l15Keeps_r2, brB, blB, someB, Ro.el]
theorem f_s_l15Keeps_e2 (t2 : List Sc) (t3 : List Sc) (t4 : List Sc) (t5 : List Sc) (t9 : Int) (s : Int) : EC E0 f_s_l15Keeps_M H0 f_s_l15Keeps_F (asL (addL 4 (f_s_l15Keeps_t4) (addL 6 (f_s_l15Keeps_t6) (noL)))) 2 (bodyOf Try.f92 2) (f_s_l15Keeps_fr2 t2 t3 t4 t5 t9 s) (done (klOf f_s_l15Keeps_F 2)) = f_s_l15Keeps_k2 t2 t3 t4 t5 t9 s (fun s => some (.norm, f_s_l15Keeps_fr2 t2 t3 t4 t5 t9 s)) (fun e => some (f_s_l15Keeps_x2_1 t2 t3 t4 t5 t9 e)) (fun e => some (f_s_l15Keeps_x2_2 t2 t3 t4 t5 t9 e)) := by kernel_rfl
theorem f_s_l15Keeps_l2 (t2 : List Sc) (t3 : List Sc) (t4 : List Sc) (t5 : List Sc) (t9 : Int) : ∀ s r, loopL (f_s_l15Keeps_r2 t2 t3 t4 t5 t9) s = some r → LS Try.prog f_s_l15Keeps_F (bodyOf Try.f92 2) (f_s_l15Keeps_fr2 t2 t3 t4 t5 t9 s) (enX (f_s_l15Keeps_x2_1 t2 t3 t4 t5 t9) (f_s_l15Keeps_x2_2 t2 t3 t4 t5 t9) r) :=
  loop_true E0ok f_s_l15Keeps_Mt (addL_true (f_s_l15Keeps_tt4) (addL_true (f_s_l15Keeps_tt6) (noL_true))) f_s_l15Keeps_o (fun _ h => by cases h) (fun _ h => by cases h) (fun s => (f_s_l15Keeps_e2 t2 t3 t4 t5 t9 s).trans (f_s_l15Keeps_p2 t2 t3 t4 t5 t9 s _ _ (fun e => some (f_s_l15Keeps_x2_2 t2 t3 t4 t5 t9 e))))
def f_s_l15Keeps_t2 (σ : List AV) : Option (Bool × Bool × (X × List AV) × (X × List AV)) := match dec f_s_l15Keeps_h2 σ with
  | some [.l t2, .l t3, .l t4, .l t5, .i t9, .i t10] => some ((loopL (f_s_l15Keeps_r2 t2 t3 t4 t5 t9) t10).isSome, isOne (loopL (f_s_l15Keeps_r2 t2 t3 t4 t5 t9) t10), f_s_l15Keeps_x2_1 t2 t3 t4 t5 t9 (getOne 0 (loopL (f_s_l15Keeps_r2 t2 t3 t4 t5 t9) t10)), f_s_l15Keeps_x2_2 t2 t3 t4 t5 t9 (getTwo () (loopL (f_s_l15Keeps_r2 t2 t3 t4 t5 t9) t10)))
  | _ => none
theorem f_s_l15Keeps_tt2 : TTrue Try.prog f_s_l15Keeps_F Try.f92 2 (f_s_l15Keeps_t2) := by
  intro σ p r r' h
  unfold f_s_l15Keeps_t2 at h
  split at h
  · rename_i hd
    rw [← dec_enc hd]
    exact row2 (f_s_l15Keeps_l2 _ _ _ _ _ _) h
  · cases h
def f_s_l15Keeps_h0 : List Sh := [.u, .u, .p .sl, .p .sl, .p .el, .p .el, .u, .u, .u, .p (.int .i64), .u, .u, .u, .u, .u, .u, .u, .u, .u, .u, .u, .u, .u, .u, .u, .u, .u, .u, .u, .u, .u, .u, .u, .u, .u, .u, .u, .u, .u, .u, .u, .u, .u, .u, .u, .u, .u, .u, .u, .u, .u, .u, .u, .u, .u, .u, .u, .u, .u, .u, .u, .u, .u, .u, .u, .u, .u, .u, .u, .u, .u, .u, .u, .u, .u, .u, .u, .u, .u, .u, .u, .u]
def f_s_l15Keeps_fr0 (t2 : List Sc) (t3 : List Sc) (t4 : List Sc) (t5 : List Sc) (s : Int) : List AV := enc f_s_l15Keeps_h0 [.l t2, .l t3, .l t4, .l t5, .i s]
def f_s_l15Keeps_g0_1 : List Sh := [.u, .u, .p .sl, .p .sl, .p .el, .p .el, .u, .u, .u, .p (.int .i64), .u, .u, .u, .u, .u, .u, .u, .u, .u, .u, .u, .u, .u, .u, .u, .u, .u, .u, .u, .u, .u, .u, .u, .u, .u, .u, .u, .u, .u, .u, .u, .u, .u, .u, .u, .u, .u, .u, .u, .u, .u, .u, .u, .u, .u, .u, .u, .u, .u, .u, .u, .u, .u, .u, .u, .u, .u, .u, .u, .u, .u, .u, .u, .u, .u, .u, .u, .u, .u, .u, .u, .u]
def f_s_l15Keeps_x0_1 (t2 : List Sc) (t3 : List Sc) (t4 : List Sc) (t5 : List Sc) (e : Int) : X × List AV := (.out 0, enc f_s_l15Keeps_g0_1 [.l t2, .l t3, .l t4, .l t5, .i e])
def f_s_l15Keeps_g0_2 : List Sh := [.u, .u, .u, .u, .u, .u, .u, .u, .p .boo, .u, .u, .u, .u, .u, .u, .u, .u, .u, .u, .u, .u, .u, .u, .u, .u, .u, .u, .u, .u, .u, .u, .u, .u, .u, .u, .u, .u, .u, .u, .u, .u, .u, .u, .u, .u, .u, .u, .u, .u, .u, .u, .u, .u, .u, .u, .u, .u, .u, .u, .u, .u, .u, .u, .u, .u, .u, .u, .u, .u, .u, .u, .u, .u, .u, .u, .u, .u, .u, .u, .u, .u, .u]
def f_s_l15Keeps_x0_2 (t2 : List Sc) (t3 : List Sc) (t4 : List Sc) (t5 : List Sc) (e : Unit) : X × List AV := (.ret, enc f_s_l15Keeps_g0_2 [.b false])
theorem f_s_l15Keeps_p0 {R : Type} (t2 : List Sc) (t3 : List Sc) (t4 : List Sc) (t5 : List Sc) (s : Int) (kN : Int → Option R) (kA : Int → Option R) (kB : Unit → Option R) : f_s_l15Keeps_k0 t2 t3 t4 t5 s kN kA kB = (f_s_l15Keeps_r0 t2 t3 t4 t5 s).bind (Ro.el kN kA kB) := by
  simp only [f_s_l15Keeps_k0, f_s_l15Keeps_r0, brB, blB, someB, Ro.el]
theorem f_s_l15Keeps_e0 (t2 : List Sc) (t3 : List Sc) (t4 : List Sc) (t5 : List Sc) (s : Int) : EC E0 f_s_l15Keeps_M H0 f_s_l15Keeps_F (asL (addL 2 (f_s_l15Keeps_t2) (addL 4 (f_s_l15Keeps_t4) (addL 6 (f_s_l15Keeps_t6) (noL))))) 0 (bodyOf Try.f92 0) (f_s_l15Keeps_fr0 t2 t3 t4 t5 s) (done (klOf f_s_l15Keeps_F 0)) = f_s_l15Keeps_k0 t2 t3 t4 t5 s (fun s => some (.norm, f_s_l15Keeps_fr0 t2 t3 t4 t5 s)) (fun e => some (f_s_l15Keeps_x0_1 t2 t3 t4 t5 e)) (fun e => some (f_s_l15Keeps_x0_2 t2 t3 t4 t5 e)) := by kernel_rfl
theorem f_s_l15Keeps_l0 (t2 : List Sc) (t3 : List Sc) (t4 : List Sc) (t5 : List Sc) : ∀ s r, loopL (f_s_l15Keeps_r0 t2 t3 t4 t5) s = some r → LS Try.prog f_s_l15Keeps_F (bodyOf Try.f92 0) (f_s_l15Keeps_fr0 t2 t3 t4 t5 s) (enX (f_s_l15Keeps_x0_1 t2 t3 t4 t5) (f_s_l15Keeps_x0_2 t2 t3 t4 t5) r) :=
  loop_true E0ok f_s_l15Keeps_Mt (addL_true (f_s_l15Keeps_tt2) (addL_true (f_s_l15Keeps_tt4) (addL_true (f_s_l15Keeps_tt6) (noL_true)))) f_s_l15Keeps_o (fun _ h => by cases h) (fun _ h => by cases h) (fun s => (f_s_l15Keeps_e0 t2 t3 t4 t5 s).trans (f_s_l15Keeps_p0 t2 t3 t4 t5 s _ _ (fun e => some (f_s_l15Keeps_x0_2 t2 t3 t4 t5 e))))
def f_s_l15Keeps_t0 (σ : List AV) : Option (Bool × Bool × (X × List AV) × (X × List AV)) := match dec f_s_l15Keeps_h0 σ with
  | some [.l t2, .l t3, .l t4, .l t5, .i t9] => some ((loopL (f_s_l15Keeps_r0 t2 t3 t4 t5) t9).isSome, isOne (loopL (f_s_l15Keeps_r0 t2 t3 t4 t5) t9), f_s_l15Keeps_x0_1 t2 t3 t4 t5 (getOne 0 (loopL (f_s_l15Keeps_r0 t2 t3 t4 t5) t9)), f_s_l15Keeps_x0_2 t2 t3 t4 t5 (getTwo () (loopL (f_s_l15Keeps_r0 t2 t3 t4 t5) t9)))
  | _ => none
theorem f_s_l15Keeps_tt0 : TTrue Try.prog f_s_l15Keeps_F Try.f92 0 (f_s_l15Keeps_t0) := by
  intro σ p r r' h
  unfold f_s_l15Keeps_t0 at h
  split at h
  · rename_i hd
    rw [← dec_enc hd]
    exact row2 (f_s_l15Keeps_l0 _ _ _ _ _) h
  · cases h
theorem f_s_l15Keeps_p {R : Type} (L0 : List Sc) (p1 : List Sc) (p2 : List Sc) (p3 : List Sc) (kR : Bool → Option R) : f_s_l15Keeps_k L0 p1 p2 p3 kR = (f_s_l15Keeps_k L0 p1 p2 p3 some).bind kR := by
  simp only [f_s_l15Keeps_k, blB, someB]
theorem f_s_l15Keeps_e (L0 : List Sc) (p1 : List Sc) (p2 : List Sc) (p3 : List Sc) : runFn E0 f_s_l15Keeps_M H0 f_s_l15Keeps_F (asL (addL 0 (f_s_l15Keeps_t0) (addL 2 (f_s_l15Keeps_t2) (addL 4 (f_s_l15Keeps_t4) (addL 6 (f_s_l15Keeps_t6) (noL)))))) Try.f92 (f_s_l15Keeps_a L0 p1 p2 p3) (f_s_l15Keeps_i L0 p1 p2 p3) = f_s_l15Keeps_k L0 p1 p2 p3 (fun r => some (f_s_l15Keeps_en r)) := by kernel_rfl
theorem f_s_l15Keeps_ok (L0 : List Sc) (p1 : List Sc) (p2 : List Sc) (p3 : List Sc) (r : Bool) (h : f_s_l15Keeps L0 p1 p2 p3 = some r) : CS Try.prog 92 (f_s_l15Keeps_a L0 p1 p2 p3) (f_s_l15Keeps_i L0 p1 p2 p3) (f_s_l15Keeps_en r).1 (f_s_l15Keeps_en r).2 :=
  fn_true (Gk := fun k => f_s_l15Keeps_k L0 p1 p2 p3 k) (en := f_s_l15Keeps_en) Try.func92 E0ok f_s_l15Keeps_Mt (addL_true (f_s_l15Keeps_tt0) (addL_true (f_s_l15Keeps_tt2) (addL_true (f_s_l15Keeps_tt4) (addL_true (f_s_l15Keeps_tt6) (noL_true))))) f_s_l15Keeps_o (f_s_l15Keeps_e L0 p1 p2 p3) (f_s_l15Keeps_p L0 p1 p2 p3) h
def f_s_l15Keeps_c : CRow := fun args inh => match dec2 [.p .gr, .p .gr, .p .sl, .p .sl] [] args inh with
  | some ([.l L0, .l p1, .l p2, .l p3], []) => some ((f_s_l15Keeps L0 p1 p2 p3).isSome, (f_s_l15Keeps_en ((f_s_l15Keeps L0 p1 p2 p3).getD false)).1, (f_s_l15Keeps_en ((f_s_l15Keeps L0 p1 p2 p3).getD false)).2)
  | _ => none
theorem f_s_l15Keeps_cc : CTrue Try.prog 92 f_s_l15Keeps_c := by
  intro args inh rs out h
  unfold f_s_l15Keeps_c at h
  split at h
  · rename_i hd
    obtain ⟨h1, h2⟩ := dec2_enc hd
    rw [← h1, ← h2]
    exact rowC (f_s_l15Keeps_ok _ _ _ _) h
  · cases h

def f_s_l15Search_F : Fi := { nv := 0, nc := 0, m := 0, vt := [], kl := [(0, ([0, 1, 6, 7, 8, 11, 12, 13, 14, 15, 16, 17, 18, 19, 20, 21, 22, 23, 24, 25, 26, 27, 28, 29, 30, 31, 32, 33, 34, 35, 36, 37, 38, 39, 40, 41, 42, 43, 44], [0, 1, 2, 3, 4, 5, 6, 7, 8, 10, 11, 12, 13, 14, 15, 16, 17, 18, 19, 20, 21, 22, 23, 24, 25, 26, 27, 28, 29, 30, 31, 32, 33, 34, 35, 36, 37, 38, 39, 40, 41, 42, 43, 44], [0, 1, 2, 3, 4, 5, 6, 7, 9, 10, 11, 12, 13, 14, 15, 16, 17, 18, 19, 20, 21, 22, 23, 24, 25, 26, 27, 28, 29, 30, 31, 32, 33, 34, 35, 36, 37, 38, 39, 40, 41, 42, 43, 44]))], sk := [], mvs := [], fz := [] }
def f_s_l15Search_a (g0 : List Sc) (h1 : List Sc) (l2 : List Sc) (m3 : List Sc) : List AV := enc [.p .gr, .p .gr, .p .sl, .p .sl] [.l g0, .l h1, .l l2, .l m3]
def f_s_l15Search_i (g0 : List Sc) (h1 : List Sc) (l2 : List Sc) (m3 : List Sc) : List AV := enc [] []
def f_s_l15Search_en (r : Int) : List AV × List AV := (enc [.p (.int .i64)] [.i r], enc [] [])
def f_s_l15Search_cs (self : (List Sc × List Sc × List Sc × List Sc) → Option (Int)) : CRow := fun args inh => match dec2 [.p .gr, .p .gr, .p .sl, .p .sl] [] args inh with
  | some ([.l g0, .l h1, .l l2, .l m3], []) => some ((self (g0, h1, l2, m3)).isSome, (f_s_l15Search_en ((self (g0, h1, l2, m3)).getD 0)).1, (f_s_l15Search_en ((self (g0, h1, l2, m3)).getD 0)).2)
  | _ => none
theorem f_s_l15Search_cst (self : (List Sc × List Sc × List Sc × List Sc) → Option (Int)) (hs : ∀ a r, self a = some r → CS Try.prog 61 (f_s_l15Search_a a.1 a.2.1 a.2.2.1 a.2.2.2) (f_s_l15Search_i a.1 a.2.1 a.2.2.1 a.2.2.2) (f_s_l15Search_en r).1 (f_s_l15Search_en r).2) : CTrue Try.prog 61 (f_s_l15Search_cs self) := by
  intro args inh rs out h
  unfold f_s_l15Search_cs at h
  split at h
  · rename_i hd
    obtain ⟨h1, h2⟩ := dec2_enc hd
    rw [← h1, ← h2]
    exact rowC (hs _) h
  · cases h
def f_s_l15Search_M (self : (List Sc × List Sc × List Sc × List Sc) → Option (Int)) : Calling := addC 61 (f_s_l15Search_cs self) (addC 49 f_s_l2Order_c (addC 92 f_s_l15Keeps_c (noC)))
theorem f_s_l15Search_Mt (self : (List Sc × List Sc × List Sc × List Sc) → Option (Int)) (hs : ∀ a r, self a = some r → CS Try.prog 61 (f_s_l15Search_a a.1 a.2.1 a.2.2.1 a.2.2.2) (f_s_l15Search_i a.1 a.2.1 a.2.2.1 a.2.2.2) (f_s_l15Search_en r).1 (f_s_l15Search_en r).2) : CallOk Try.prog (f_s_l15Search_M self) := addC_true (f_s_l15Search_cst self hs) (addC_true f_s_l2Order_cc (addC_true f_s_l15Keeps_cc (noC_true)))
theorem f_s_l15Search_o : loopsOnce Try.f61 = true := by kernel_rfl
def f_s_l15Search_h0 : List Sh := [.u, .u, .p .sl, .p .sl, .p .el, .p .el, .u, .u, .u, .p (.int .i64), .p (.int .i64), .u, .u, .u, .u, .u, .u, .u, .u, .u, .u, .u, .u, .u, .u, .u, .u, .u, .u, .u, .u, .u, .u, .u, .u, .u, .u, .u, .u, .u, .u, .u, .u, .u, .u]
def f_s_l15Search_fr0 (self : (List Sc × List Sc × List Sc × List Sc) → Option (Int)) (l2 : List Sc) (m3 : List Sc) (g4 : List Sc) (h5 : List Sc) (s : Int × Int) : List AV := enc f_s_l15Search_h0 [.l l2, .l m3, .l g4, .l h5, .i s.1, .i s.2]
def f_s_l15Search_g0_1 : List Sh := [.u, .u, .u, .u, .u, .u, .u, .u, .u, .p (.int .i64), .u, .u, .u, .u, .u, .u, .u, .u, .u, .u, .u, .u, .u, .u, .u, .u, .u, .u, .u, .u, .u, .u, .u, .u, .u, .u, .u, .u, .u, .u, .u, .u, .u, .u, .u]
def f_s_l15Search_x0_1 (self : (List Sc × List Sc × List Sc × List Sc) → Option (Int)) (l2 : List Sc) (m3 : List Sc) (g4 : List Sc) (h5 : List Sc) (e : Int) : X × List AV := (.out 0, enc f_s_l15Search_g0_1 [.i e])
def f_s_l15Search_x0_2 (self : (List Sc × List Sc × List Sc × List Sc) → Option (Int)) (l2 : List Sc) (m3 : List Sc) (g4 : List Sc) (h5 : List Sc) (_e : Unit) : X × List AV := (.ret, [])
theorem f_s_l15Search_p0 {R : Type} (self : (List Sc × List Sc × List Sc × List Sc) → Option (Int)) (l2 : List Sc) (m3 : List Sc) (g4 : List Sc) (h5 : List Sc) (s : Int × Int) (kN : Int × Int → Option R) (kA : Int → Option R) (kB : Unit → Option R) : f_s_l15Search_k0 self l2 m3 g4 h5 s.1 s.2 kN kA = (f_s_l15Search_r0 self l2 m3 g4 h5 s).bind (Ro.el kN kA kB) := by
  simp only [f_s_l15Search_k0, f_s_l15Search_r0, brB, boB, someB, noneB, Ro.el]
theorem f_s_l15Search_e0 (self : (List Sc × List Sc × List Sc × List Sc) → Option (Int)) (l2 : List Sc) (m3 : List Sc) (g4 : List Sc) (h5 : List Sc) (s : Int × Int) : EC E0 (f_s_l15Search_M self) H0 f_s_l15Search_F (asL (noL)) 0 (bodyOf Try.f61 0) (f_s_l15Search_fr0 self l2 m3 g4 h5 s) (done (klOf f_s_l15Search_F 0)) = f_s_l15Search_k0 self l2 m3 g4 h5 s.1 s.2 (fun s => some (.norm, f_s_l15Search_fr0 self l2 m3 g4 h5 s)) (fun e => some (f_s_l15Search_x0_1 self l2 m3 g4 h5 e)) := by kernel_rfl
theorem f_s_l15Search_l0 (self : (List Sc × List Sc × List Sc × List Sc) → Option (Int)) (hs : ∀ a r, self a = some r → CS Try.prog 61 (f_s_l15Search_a a.1 a.2.1 a.2.2.1 a.2.2.2) (f_s_l15Search_i a.1 a.2.1 a.2.2.1 a.2.2.2) (f_s_l15Search_en r).1 (f_s_l15Search_en r).2) (l2 : List Sc) (m3 : List Sc) (g4 : List Sc) (h5 : List Sc) : ∀ s r, loopL (f_s_l15Search_r0 self l2 m3 g4 h5) s = some r → LS Try.prog f_s_l15Search_F (bodyOf Try.f61 0) (f_s_l15Search_fr0 self l2 m3 g4 h5 s) (enX (f_s_l15Search_x0_1 self l2 m3 g4 h5) (f_s_l15Search_x0_2 self l2 m3 g4 h5) r) :=
  loop_true E0ok (f_s_l15Search_Mt self hs) (noL_true) f_s_l15Search_o (fun _ h => by cases h) (fun _ h => by cases h) (fun s => (f_s_l15Search_e0 self l2 m3 g4 h5 s).trans (f_s_l15Search_p0 self l2 m3 g4 h5 s _ _ (fun e => some (f_s_l15Search_x0_2 self l2 m3 g4 h5 e))))
def f_s_l15Search_t0 (self : (List Sc × List Sc × List Sc × List Sc) → Option (Int)) (σ : List AV) : Option (Bool × Bool × (X × List AV) × (X × List AV)) := match dec f_s_l15Search_h0 σ with
  | some [.l l2, .l m3, .l g4, .l h5, .i n9, .i x10] => some (isOne (loopL (f_s_l15Search_r0 self l2 m3 g4 h5) (n9, x10)), true, f_s_l15Search_x0_1 self l2 m3 g4 h5 (getOne 0 (loopL (f_s_l15Search_r0 self l2 m3 g4 h5) (n9, x10))), (.ret, []))
  | _ => none
theorem f_s_l15Search_tt0 (self : (List Sc × List Sc × List Sc × List Sc) → Option (Int)) (hs : ∀ a r, self a = some r → CS Try.prog 61 (f_s_l15Search_a a.1 a.2.1 a.2.2.1 a.2.2.2) (f_s_l15Search_i a.1 a.2.1 a.2.2.1 a.2.2.2) (f_s_l15Search_en r).1 (f_s_l15Search_en r).2) : TTrue Try.prog f_s_l15Search_F Try.f61 0 (f_s_l15Search_t0 self) := by
  intro σ p r r' h
  unfold f_s_l15Search_t0 at h
  split at h
  · rename_i hd
    rw [← dec_enc hd]
    exact row1 (f_s_l15Search_l0 self hs _ _ _ _ _) h
  · cases h
theorem f_s_l15Search_p {R : Type} (self : (List Sc × List Sc × List Sc × List Sc) → Option (Int)) (g0 : List Sc) (h1 : List Sc) (l2 : List Sc) (m3 : List Sc) (kR : Int → Option R) : f_s_l15Search_k self g0 h1 l2 m3 kR = (f_s_l15Search_k self g0 h1 l2 m3 some).bind kR := by
  simp only [f_s_l15Search_k, brB, bl1B, someB]
theorem f_s_l15Search_e (self : (List Sc × List Sc × List Sc × List Sc) → Option (Int)) (g0 : List Sc) (h1 : List Sc) (l2 : List Sc) (m3 : List Sc) : runFn E0 (f_s_l15Search_M self) H0 f_s_l15Search_F (asL (addL 0 (f_s_l15Search_t0 self) (noL))) Try.f61 (f_s_l15Search_a g0 h1 l2 m3) (f_s_l15Search_i g0 h1 l2 m3) = f_s_l15Search_k self g0 h1 l2 m3 (fun r => some (f_s_l15Search_en r)) := by kernel_rfl
theorem f_s_l15Search_ks (self : (List Sc × List Sc × List Sc × List Sc) → Option (Int)) (hs : ∀ a r, self a = some r → CS Try.prog 61 (f_s_l15Search_a a.1 a.2.1 a.2.2.1 a.2.2.2) (f_s_l15Search_i a.1 a.2.1 a.2.2.1 a.2.2.2) (f_s_l15Search_en r).1 (f_s_l15Search_en r).2) (g0 : List Sc) (h1 : List Sc) (l2 : List Sc) (m3 : List Sc) (r : Int) (h : f_s_l15Search_k self g0 h1 l2 m3 some = some r) : CS Try.prog 61 (f_s_l15Search_a g0 h1 l2 m3) (f_s_l15Search_i g0 h1 l2 m3) (f_s_l15Search_en r).1 (f_s_l15Search_en r).2 :=
  fn_true (Gk := fun k => f_s_l15Search_k self g0 h1 l2 m3 k) (en := f_s_l15Search_en) Try.func61 E0ok (f_s_l15Search_Mt self hs) (addL_true (f_s_l15Search_tt0 self hs) (noL_true)) f_s_l15Search_o (f_s_l15Search_e self g0 h1 l2 m3) (f_s_l15Search_p self g0 h1 l2 m3) h
theorem f_s_l15Search_ns : ∀ n a r, f_s_l15Search_n n a = some r → CS Try.prog 61 (f_s_l15Search_a a.1 a.2.1 a.2.2.1 a.2.2.2) (f_s_l15Search_i a.1 a.2.1 a.2.2.1 a.2.2.2) (f_s_l15Search_en r).1 (f_s_l15Search_en r).2
  | 0, _, _, h => by cases h
  | n + 1, a, r, h => f_s_l15Search_ks (f_s_l15Search_n n) (f_s_l15Search_ns n) a.1 a.2.1 a.2.2.1 a.2.2.2 r h
theorem f_s_l15Search_ok (g0 : List Sc) (h1 : List Sc) (l2 : List Sc) (m3 : List Sc) (r : Int) (h : f_s_l15Search g0 h1 l2 m3 = some r) : CS Try.prog 61 (f_s_l15Search_a g0 h1 l2 m3) (f_s_l15Search_i g0 h1 l2 m3) (f_s_l15Search_en r).1 (f_s_l15Search_en r).2 := by
  obtain ⟨n, hn⟩ := limF_some h
  exact f_s_l15Search_ns n _ r hn
def f_s_l15Search_c : CRow := fun args inh => match dec2 [.p .gr, .p .gr, .p .sl, .p .sl] [] args inh with
  | some ([.l g0, .l h1, .l l2, .l m3], []) => some ((f_s_l15Search g0 h1 l2 m3).isSome, (f_s_l15Search_en ((f_s_l15Search g0 h1 l2 m3).getD 0)).1, (f_s_l15Search_en ((f_s_l15Search g0 h1 l2 m3).getD 0)).2)
  | _ => none
theorem f_s_l15Search_cc : CTrue Try.prog 61 f_s_l15Search_c := by
  intro args inh rs out h
  unfold f_s_l15Search_c at h
  split at h
  · rename_i hd
    obtain ⟨h1, h2⟩ := dec2_enc hd
    rw [← h1, ← h2]
    exact rowC (f_s_l15Search_ok _ _ _ _) h
  · cases h

def f_s_CountFreimanMaps_F : Fi := { nv := 0, nc := 0, m := 0, vt := [], kl := [], sk := [], mvs := [], fz := [] }
def f_s_CountFreimanMaps_a (g0 : List Sc) (h1 : List Sc) (a2 : Int) : List AV := enc [.p .gr, .p .gr, .p (.int .i64)] [.l g0, .l h1, .i a2]
def f_s_CountFreimanMaps_i (g0 : List Sc) (h1 : List Sc) (a2 : Int) : List AV := enc [] []
def f_s_CountFreimanMaps_en (r : Int) : List AV × List AV := (enc [.p (.int .i64)] [.i r], enc [] [])
def f_s_CountFreimanMaps_M : Calling := addC 59 f_s_IsSet_c (addC 48 f_s_IsGroup_c (addC 49 f_s_l2Order_c (addC 60 f_s_l3Bits_c (addC 50 f_s_l1In_c (addC 62 f_s_l3List_c (addC 61 f_s_l15Search_c (noC)))))))
theorem f_s_CountFreimanMaps_Mt : CallOk Try.prog (f_s_CountFreimanMaps_M) := addC_true f_s_IsSet_cc (addC_true f_s_IsGroup_cc (addC_true f_s_l2Order_cc (addC_true f_s_l3Bits_cc (addC_true f_s_l1In_cc (addC_true f_s_l3List_cc (addC_true f_s_l15Search_cc (noC_true)))))))
theorem f_s_CountFreimanMaps_o : loopsOnce Try.f28 = true := by kernel_rfl
theorem f_s_CountFreimanMaps_p {R : Type} (g0 : List Sc) (h1 : List Sc) (a2 : Int) (kR : Int → Option R) : f_s_CountFreimanMaps_k g0 h1 a2 kR = (f_s_CountFreimanMaps_k g0 h1 a2 some).bind kR := by
  simp only [f_s_CountFreimanMaps_k, brB, boB, someB]
theorem f_s_CountFreimanMaps_e (g0 : List Sc) (h1 : List Sc) (a2 : Int) : runFn E0 f_s_CountFreimanMaps_M H0 f_s_CountFreimanMaps_F (asL (noL)) Try.f28 (f_s_CountFreimanMaps_a g0 h1 a2) (f_s_CountFreimanMaps_i g0 h1 a2) = f_s_CountFreimanMaps_k g0 h1 a2 (fun r => some (f_s_CountFreimanMaps_en r)) := by kernel_rfl
theorem f_s_CountFreimanMaps_ok (g0 : List Sc) (h1 : List Sc) (a2 : Int) (r : Int) (h : f_s_CountFreimanMaps g0 h1 a2 = some r) : CS Try.prog 28 (f_s_CountFreimanMaps_a g0 h1 a2) (f_s_CountFreimanMaps_i g0 h1 a2) (f_s_CountFreimanMaps_en r).1 (f_s_CountFreimanMaps_en r).2 :=
  fn_true (Gk := fun k => f_s_CountFreimanMaps_k g0 h1 a2 k) (en := f_s_CountFreimanMaps_en) Try.func28 E0ok f_s_CountFreimanMaps_Mt (noL_true) f_s_CountFreimanMaps_o (f_s_CountFreimanMaps_e g0 h1 a2) (f_s_CountFreimanMaps_p g0 h1 a2) h
def f_s_CountFreimanMaps_c : CRow := fun args inh => match dec2 [.p .gr, .p .gr, .p (.int .i64)] [] args inh with
  | some ([.l g0, .l h1, .i a2], []) => some ((f_s_CountFreimanMaps g0 h1 a2).isSome, (f_s_CountFreimanMaps_en ((f_s_CountFreimanMaps g0 h1 a2).getD 0)).1, (f_s_CountFreimanMaps_en ((f_s_CountFreimanMaps g0 h1 a2).getD 0)).2)
  | _ => none
theorem f_s_CountFreimanMaps_cc : CTrue Try.prog 28 f_s_CountFreimanMaps_c := by
  intro args inh rs out h
  unfold f_s_CountFreimanMaps_c at h
  split at h
  · rename_i hd
    obtain ⟨h1, h2⟩ := dec2_enc hd
    rw [← h1, ← h2]
    exact rowC (f_s_CountFreimanMaps_ok _ _ _) h
  · cases h

def f_i_IsSet_F : Fi := { nv := 0, nc := 0, m := 0, vt := [], kl := [], sk := [], mvs := [], fz := [] }
def f_i_IsSet_a (g0 : List Sc) (a1 : Int) : List AV := enc [.p .gr, .p (.int .i64)] [.l g0, .i a1]
def f_i_IsSet_i (g0 : List Sc) (a1 : Int) : List AV := enc [] []
def f_i_IsSet_en (r : Bool) : List AV × List AV := (enc [.p .boo] [.b r], enc [] [])
def f_i_IsSet_M : Calling := addC 52 f_i_IsGroup_c (addC 53 f_i_OrderOf_c (noC))
theorem f_i_IsSet_Mt : CallOk Try.prog (f_i_IsSet_M) := addC_true f_i_IsGroup_cc (addC_true f_i_OrderOf_cc (noC_true))
theorem f_i_IsSet_o : loopsOnce Try.f63 = true := by kernel_rfl
theorem f_i_IsSet_p {R : Type} (g0 : List Sc) (a1 : Int) (kR : Bool → Option R) : f_i_IsSet_k g0 a1 kR = (f_i_IsSet_k g0 a1 some).bind kR := by
  simp only [f_i_IsSet_k, brB, boB, someB, noneB]
theorem f_i_IsSet_e (g0 : List Sc) (a1 : Int) : runFn E0 f_i_IsSet_M H0 f_i_IsSet_F (asL (noL)) Try.f63 (f_i_IsSet_a g0 a1) (f_i_IsSet_i g0 a1) = f_i_IsSet_k g0 a1 (fun r => some (f_i_IsSet_en r)) := by kernel_rfl
theorem f_i_IsSet_ok (g0 : List Sc) (a1 : Int) (r : Bool) (h : f_i_IsSet g0 a1 = some r) : CS Try.prog 63 (f_i_IsSet_a g0 a1) (f_i_IsSet_i g0 a1) (f_i_IsSet_en r).1 (f_i_IsSet_en r).2 :=
  fn_true (Gk := fun k => f_i_IsSet_k g0 a1 k) (en := f_i_IsSet_en) Try.func63 E0ok f_i_IsSet_Mt (noL_true) f_i_IsSet_o (f_i_IsSet_e g0 a1) (f_i_IsSet_p g0 a1) h
def f_i_IsSet_c : CRow := fun args inh => match dec2 [.p .gr, .p (.int .i64)] [] args inh with
  | some ([.l g0, .i a1], []) => some ((f_i_IsSet g0 a1).isSome, (f_i_IsSet_en ((f_i_IsSet g0 a1).getD false)).1, (f_i_IsSet_en ((f_i_IsSet g0 a1).getD false)).2)
  | _ => none
theorem f_i_IsSet_cc : CTrue Try.prog 63 f_i_IsSet_c := by
  intro args inh rs out h
  unfold f_i_IsSet_c at h
  split at h
  · rename_i hd
    obtain ⟨h1, h2⟩ := dec2_enc hd
    rw [← h1, ← h2]
    exact rowC (f_i_IsSet_ok _ _) h
  · cases h

def f_i_bits_F : Fi := { nv := 0, nc := 0, m := 0, vt := [], kl := [(0, ([1, 2, 4, 5, 6, 7, 8, 9, 10, 11, 12], [0, 1, 2, 4, 5, 6, 7, 8, 9, 10, 11, 12], [0, 1, 3, 4, 5, 6, 7, 8, 9, 10, 11, 12]))], sk := [], mvs := [], fz := [] }
def f_i_bits_a (a0 : Int) : List AV := enc [.p (.int .i64)] [.i a0]
def f_i_bits_i (a0 : Int) : List AV := enc [] []
def f_i_bits_en (r : Int) : List AV × List AV := (enc [.p (.int .i64)] [.i r], enc [] [])
def f_i_bits_M : Calling := noC
theorem f_i_bits_Mt : CallOk Try.prog (f_i_bits_M) := noC_true
theorem f_i_bits_o : loopsOnce Try.f64 = true := by kernel_rfl
def f_i_bits_h0 : List Sh := [.p (.int .i64), .u, .u, .p (.int .i64), .u, .u, .u, .u, .u, .u, .u, .u, .u]
def f_i_bits_fr0 (s : Int × Int) : List AV := enc f_i_bits_h0 [.i s.1, .i s.2]
def f_i_bits_g0_1 : List Sh := [.u, .u, .u, .p (.int .i64), .u, .u, .u, .u, .u, .u, .u, .u, .u]
def f_i_bits_x0_1 (e : Int) : X × List AV := (.out 0, enc f_i_bits_g0_1 [.i e])
def f_i_bits_x0_2 (_e : Unit) : X × List AV := (.ret, [])
theorem f_i_bits_p0 {R : Type} (s : Int × Int) (kN : Int × Int → Option R) (kA : Int → Option R) (kB : Unit → Option R) : f_i_bits_k0 s.1 s.2 kN kA = (f_i_bits_r0 s).bind (Ro.el kN kA kB) := by
  simp only [f_i_bits_k0, f_i_bits_r0, brB, someB, Ro.el]
theorem f_i_bits_e0 (s : Int × Int) : EC E0 f_i_bits_M H0 f_i_bits_F (asL (noL)) 0 (bodyOf Try.f64 0) (f_i_bits_fr0 s) (done (klOf f_i_bits_F 0)) = f_i_bits_k0 s.1 s.2 (fun s => some (.norm, f_i_bits_fr0 s)) (fun e => some (f_i_bits_x0_1 e)) := by kernel_rfl
theorem f_i_bits_l0 : ∀ s r, loopL (f_i_bits_r0) s = some r → LS Try.prog f_i_bits_F (bodyOf Try.f64 0) (f_i_bits_fr0 s) (enX (f_i_bits_x0_1) (f_i_bits_x0_2) r) :=
  loop_true E0ok f_i_bits_Mt (noL_true) f_i_bits_o (fun _ h => by cases h) (fun _ h => by cases h) (fun s => (f_i_bits_e0 s).trans (f_i_bits_p0 s _ _ (fun e => some (f_i_bits_x0_2 e))))
def f_i_bits_t0 (σ : List AV) : Option (Bool × Bool × (X × List AV) × (X × List AV)) := match dec f_i_bits_h0 σ with
  | some [.i a0, .i n3] => some (isOne (loopL (f_i_bits_r0) (a0, n3)), true, f_i_bits_x0_1 (getOne 0 (loopL (f_i_bits_r0) (a0, n3))), (.ret, []))
  | _ => none
theorem f_i_bits_tt0 : TTrue Try.prog f_i_bits_F Try.f64 0 (f_i_bits_t0) := by
  intro σ p r r' h
  unfold f_i_bits_t0 at h
  split at h
  · rename_i hd
    rw [← dec_enc hd]
    exact row1 (f_i_bits_l0 _) h
  · cases h
theorem f_i_bits_p {R : Type} (a0 : Int) (kR : Int → Option R) : f_i_bits_k a0 kR = (f_i_bits_k a0 some).bind kR := by
  simp only [f_i_bits_k, bl1B, someB]
theorem f_i_bits_e (a0 : Int) : runFn E0 f_i_bits_M H0 f_i_bits_F (asL (addL 0 (f_i_bits_t0) (noL))) Try.f64 (f_i_bits_a a0) (f_i_bits_i a0) = f_i_bits_k a0 (fun r => some (f_i_bits_en r)) := by kernel_rfl
theorem f_i_bits_ok (a0 : Int) (r : Int) (h : f_i_bits a0 = some r) : CS Try.prog 64 (f_i_bits_a a0) (f_i_bits_i a0) (f_i_bits_en r).1 (f_i_bits_en r).2 :=
  fn_true (Gk := fun k => f_i_bits_k a0 k) (en := f_i_bits_en) Try.func64 E0ok f_i_bits_Mt (addL_true (f_i_bits_tt0) (noL_true)) f_i_bits_o (f_i_bits_e a0) (f_i_bits_p a0) h
def f_i_bits_c : CRow := fun args inh => match dec2 [.p (.int .i64)] [] args inh with
  | some ([.i a0], []) => some ((f_i_bits a0).isSome, (f_i_bits_en ((f_i_bits a0).getD 0)).1, (f_i_bits_en ((f_i_bits a0).getD 0)).2)
  | _ => none
theorem f_i_bits_cc : CTrue Try.prog 64 f_i_bits_c := by
  intro args inh rs out h
  unfold f_i_bits_c at h
  split at h
  · rename_i hd
    obtain ⟨h1, h2⟩ := dec2_enc hd
    rw [← h1, ← h2]
    exact rowC (f_i_bits_ok _) h
  · cases h
end
end Go.Proofs.Ytdlofeehgkijhaa
