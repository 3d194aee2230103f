/-
  That the program computes just that (printed by gen2.py).
-/
import Derived.Test.YtgbjnchipnbohaaShal
import Derived.Test.YtgbjnchipnbohaaRows
import Derived.WalkKit
set_option linter.unusedVariables false
namespace Go.Proofs.Ytgbjnchipnbohaa
open Go Ev
noncomputable section
def E0 : Env := { sl := [(22, 3, .n .i64 0), (53, 9, .s ByteArray.empty), (69, 5, .n .u8 0)], gr := [(24, 22), (27, 22)], sc := [3, 4, 5, 9, 21, 86, 88], bl := [4], ik := [(3, .i64), (5, .u8), (21, .i32), (86, .u32), (88, .u64)], st := [9], one := [3, 4, 5, 9, 21, 86, 88, 22, 53, 69, 1, 25, 26, 28, 29, 30, 31, 32, 34, 35, 36, 37, 39, 40, 41, 42, 43, 44, 45, 46, 47, 49, 50, 51, 52, 54, 55, 56, 57, 58, 59, 60, 61, 62, 63, 64, 65, 66, 67, 68, 70, 71, 72, 74, 75, 76, 77, 78, 81, 82, 83, 84, 85, 87, 90, 91, 92, 94, 97, 98, 104, 107], al := [(3, [.sc (.n .i64 0)]), (4, [.sc (.b false)]), (5, [.sc (.n .u8 0)]), (9, [.sc (.s ByteArray.empty)]), (21, [.sc (.n .i32 0)]), (86, [.sc (.n .u32 0)]), (88, [.sc (.n .u64 0)]), (22, [.sl]), (53, [.sl]), (69, [.sl]), (1, [.fn]), (24, [.sl]), (25, [.fn]), (26, [.fn]), (27, [.sl]), (28, [.fn]), (29, [.fn]), (30, [.fn]), (31, [.fn]), (32, [.fn]), (34, [.fn]), (35, [.fn]), (36, [.fn]), (37, [.fn]), (39, [.fn]), (40, [.fn]), (41, [.fn]), (42, [.fn]), (43, [.fn]), (44, [.fn]), (45, [.fn]), (46, [.fn]), (47, [.fn]), (49, [.fn]), (50, [.fn]), (51, [.fn]), (52, [.fn]), (54, [.fn]), (55, [.fn]), (56, [.fn]), (57, [.fn]), (58, [.fn]), (59, [.fn]), (60, [.fn]), (61, [.fn]), (62, [.fn]), (63, [.fn]), (64, [.fn]), (65, [.fn]), (66, [.fn]), (67, [.fn]), (68, [.fn]), (70, [.fn]), (71, [.fn]), (72, [.fn]), (74, [.fn]), (75, [.fn]), (76, [.fn]), (77, [.fn]), (78, [.fn]), (81, [.fn]), (82, [.fn]), (83, [.fn]), (84, [.fn]), (85, [.fn]), (87, [.fn]), (90, [.fn]), (91, [.fn]), (92, [.fn]), (94, [.fn]), (97, [.fn]), (98, [.fn]), (104, [.fn]), (107, [.fn])], fd := [(24, 1), (27, 1)] }
def H0 : Hints := { md := [(29, [.io]), (30, [.io])], soft := [] }
theorem E0ok : EnvOk Try.prog E0 := okEnv_spec (by kernel_rfl)

def f_l_szIntS_F : Fi := { nv := 0, nc := 0, m := 0, vt := [], kl := [], sk := [], mvs := [], fz := [] }
def f_l_szIntS_a (a0 : List Sc) (left1 : Int) : List AV := enc [.p .sl, .p (.int .i64)] [.l a0, .i left1]
def f_l_szIntS_i (a0 : List Sc) (left1 : Int) : List AV := enc [] []
def f_l_szIntS_en (r : Int) : List AV × List AV := (enc [.p (.int .i64)] [.i r], enc [] [])
def f_l_szIntS_M : Calling := noC
theorem f_l_szIntS_Mt : CallOk Try.prog (f_l_szIntS_M) := noC_true
theorem f_l_szIntS_o : loopsOnce Try.f44 = true := by kernel_rfl
theorem f_l_szIntS_p {R : Type} (a0 : List Sc) (left1 : Int) (kR : Int → Option R) : f_l_szIntS_k a0 left1 kR = (f_l_szIntS_k a0 left1 some).bind kR := by
  simp only [f_l_szIntS_k, brB, someB]
theorem f_l_szIntS_e (a0 : List Sc) (left1 : Int) : runFn E0 f_l_szIntS_M H0 f_l_szIntS_F (asL (noL)) Try.f44 (f_l_szIntS_a a0 left1) (f_l_szIntS_i a0 left1) = f_l_szIntS_k a0 left1 (fun r => some (f_l_szIntS_en r)) := by kernel_rfl
theorem f_l_szIntS_ok (a0 : List Sc) (left1 : Int) (r : Int) (h : f_l_szIntS a0 left1 = some r) : CS Try.prog 44 (f_l_szIntS_a a0 left1) (f_l_szIntS_i a0 left1) (f_l_szIntS_en r).1 (f_l_szIntS_en r).2 :=
  fn_true (Gk := fun k => f_l_szIntS_k a0 left1 k) (en := f_l_szIntS_en) Try.func44 E0ok f_l_szIntS_Mt (noL_true) f_l_szIntS_o (f_l_szIntS_e a0 left1) (f_l_szIntS_p a0 left1) h
def f_l_szIntS_c : CRow := fun args inh => match dec2 [.p .sl, .p (.int .i64)] [] args inh with
  | some ([.l a0, .i left1], []) => some ((f_l_szIntS a0 left1).isSome, (f_l_szIntS_en ((f_l_szIntS a0 left1).getD 0)).1, (f_l_szIntS_en ((f_l_szIntS a0 left1).getD 0)).2)
  | _ => none
theorem f_l_szIntS_cc : CTrue Try.prog 44 f_l_szIntS_c := by
  intro args inh rs out h
  unfold f_l_szIntS_c at h
  split at h
  · rename_i hd
    obtain ⟨h1, h2⟩ := dec2_enc hd
    rw [← h1, ← h2]
    exact rowC (f_l_szIntS_ok _ _) h
  · cases h

def f_l_szGroup_F : Fi := { nv := 0, nc := 0, m := 0, vt := [], kl := [], sk := [], mvs := [], fz := [] }
def f_l_szGroup_a (a0 : List Sc) (left1 : Int) : List AV := enc [.p .gr, .p (.int .i64)] [.l a0, .i left1]
def f_l_szGroup_i (a0 : List Sc) (left1 : Int) : List AV := enc [] []
def f_l_szGroup_en (r : Int) : List AV × List AV := (enc [.p (.int .i64)] [.i r], enc [] [])
def f_l_szGroup_M : Calling := addC 44 f_l_szIntS_c (noC)
theorem f_l_szGroup_Mt : CallOk Try.prog (f_l_szGroup_M) := addC_true f_l_szIntS_cc (noC_true)
theorem f_l_szGroup_o : loopsOnce Try.f14 = true := by kernel_rfl
theorem f_l_szGroup_p {R : Type} (a0 : List Sc) (left1 : Int) (kR : Int → Option R) : f_l_szGroup_k a0 left1 kR = (f_l_szGroup_k a0 left1 some).bind kR := by
  simp only [f_l_szGroup_k, brB, boB, someB]
theorem f_l_szGroup_e (a0 : List Sc) (left1 : Int) : runFn E0 f_l_szGroup_M H0 f_l_szGroup_F (asL (noL)) Try.f14 (f_l_szGroup_a a0 left1) (f_l_szGroup_i a0 left1) = f_l_szGroup_k a0 left1 (fun r => some (f_l_szGroup_en r)) := by kernel_rfl
theorem f_l_szGroup_ok (a0 : List Sc) (left1 : Int) (r : Int) (h : f_l_szGroup a0 left1 = some r) : CS Try.prog 14 (f_l_szGroup_a a0 left1) (f_l_szGroup_i a0 left1) (f_l_szGroup_en r).1 (f_l_szGroup_en r).2 :=
  fn_true (Gk := fun k => f_l_szGroup_k a0 left1 k) (en := f_l_szGroup_en) Try.func14 E0ok f_l_szGroup_Mt (noL_true) f_l_szGroup_o (f_l_szGroup_e a0 left1) (f_l_szGroup_p a0 left1) h
def f_l_szGroup_c : CRow := fun args inh => match dec2 [.p .gr, .p (.int .i64)] [] args inh with
  | some ([.l a0, .i left1], []) => some ((f_l_szGroup a0 left1).isSome, (f_l_szGroup_en ((f_l_szGroup a0 left1).getD 0)).1, (f_l_szGroup_en ((f_l_szGroup a0 left1).getD 0)).2)
  | _ => none
theorem f_l_szGroup_cc : CTrue Try.prog 14 f_l_szGroup_c := by
  intro args inh rs out h
  unfold f_l_szGroup_c at h
  split at h
  · rename_i hd
    obtain ⟨h1, h2⟩ := dec2_enc hd
    rw [← h1, ← h2]
    exact rowC (f_l_szGroup_ok _ _) h
  · cases h

def f_l_toIntS_F : Fi := { nv := 0, nc := 0, m := 0, vt := [], kl := [(0, ([1, 2, 5, 6, 7, 8, 9, 10, 11, 12, 13, 14, 15, 16, 17, 18, 19, 20, 21], [0, 1, 2, 4, 5, 6, 7, 8, 9, 10, 11, 12, 13, 14, 15, 16, 17, 18, 19, 20, 21], [0, 1, 3, 4, 5, 6, 7, 8, 9, 10, 11, 12, 13, 14, 15, 16, 17, 18, 19, 20, 21]))], sk := [], mvs := [], fz := [] }
def f_l_toIntS_a (a0 : List Sc) : List AV := enc [.p .sl] [.l a0]
def f_l_toIntS_i (a0 : List Sc) : List AV := enc [] []
def f_l_toIntS_en (r : List Sc) : List AV × List AV := (enc [.p (.al 0)] [], enc [.own 3] [.l r])
def f_l_toIntS_M : Calling := noC
theorem f_l_toIntS_Mt : CallOk Try.prog (f_l_toIntS_M) := noC_true
theorem f_l_toIntS_o : loopsOnce Try.f17 = true := by kernel_rfl
def f_l_toIntS_h0 : List Sh := [.p .sl, .u, .u, .own 3, .p (.int .i64), .u, .u, .u, .u, .u, .u, .u, .u, .u, .u, .u, .u, .u, .u, .u, .u, .u]
def f_l_toIntS_fr0 (a0 : List Sc) (s : List Sc × Int) : List AV := enc f_l_toIntS_h0 [.l a0, .l s.1, .i s.2]
def f_l_toIntS_g0_1 : List Sh := [.u, .u, .u, .own 3, .u, .u, .u, .u, .u, .u, .u, .u, .u, .u, .u, .u, .u, .u, .u, .u, .u, .u]
def f_l_toIntS_x0_1 (a0 : List Sc) (e : List Sc) : X × List AV := (.out 0, enc f_l_toIntS_g0_1 [.l e])
def f_l_toIntS_x0_2 (a0 : List Sc) (_e : Unit) : X × List AV := (.ret, [])
theorem f_l_toIntS_p0 {R : Type} (a0 : List Sc) (s : List Sc × Int) (kN : List Sc × Int → Option R) (kA : List Sc → Option R) (kB : Unit → Option R) : f_l_toIntS_k0 a0 s.1 s.2 kN kA = (f_l_toIntS_r0 a0 s).bind (Ro.el kN kA kB) := by
  simp only [f_l_toIntS_k0, f_l_toIntS_r0, brB, someB, noneB, Ro.el]
theorem f_l_toIntS_e0 (a0 : List Sc) (s : List Sc × Int) : EC E0 f_l_toIntS_M H0 f_l_toIntS_F (asL (noL)) 0 (bodyOf Try.f17 0) (f_l_toIntS_fr0 a0 s) (done (klOf f_l_toIntS_F 0)) = f_l_toIntS_k0 a0 s.1 s.2 (fun s => some (.norm, f_l_toIntS_fr0 a0 s)) (fun e => some (f_l_toIntS_x0_1 a0 e)) := by kernel_rfl
theorem f_l_toIntS_l0 (a0 : List Sc) : ∀ s r, loopL (f_l_toIntS_r0 a0) s = some r → LS Try.prog f_l_toIntS_F (bodyOf Try.f17 0) (f_l_toIntS_fr0 a0 s) (enX (f_l_toIntS_x0_1 a0) (f_l_toIntS_x0_2 a0) r) :=
  loop_true E0ok f_l_toIntS_Mt (noL_true) f_l_toIntS_o (fun _ h => by cases h) (fun _ h => by cases h) (fun s => (f_l_toIntS_e0 a0 s).trans (f_l_toIntS_p0 a0 s _ _ (fun e => some (f_l_toIntS_x0_2 a0 e))))
def f_l_toIntS_t0 (σ : List AV) : Option (Bool × Bool × (X × List AV) × (X × List AV)) := match dec f_l_toIntS_h0 σ with
  | some [.l a0, .l out3, .i i4] => some (isOne (loopL (f_l_toIntS_r0 a0) (out3, i4)), true, f_l_toIntS_x0_1 a0 (getOne [] (loopL (f_l_toIntS_r0 a0) (out3, i4))), (.ret, []))
  | _ => none
theorem f_l_toIntS_tt0 : TTrue Try.prog f_l_toIntS_F Try.f17 0 (f_l_toIntS_t0) := by
  intro σ p r r' h
  unfold f_l_toIntS_t0 at h
  split at h
  · rename_i hd
    rw [← dec_enc hd]
    exact row1 (f_l_toIntS_l0 _ _) h
  · cases h
theorem f_l_toIntS_p {R : Type} (a0 : List Sc) (kR : List Sc → Option R) : f_l_toIntS_k a0 kR = (f_l_toIntS_k a0 some).bind kR := by
  simp only [f_l_toIntS_k, brB, bl1B, someB, noneB]
theorem f_l_toIntS_e (a0 : List Sc) : runFn E0 f_l_toIntS_M H0 f_l_toIntS_F (asL (addL 0 (f_l_toIntS_t0) (noL))) Try.f17 (f_l_toIntS_a a0) (f_l_toIntS_i a0) = f_l_toIntS_k a0 (fun r => some (f_l_toIntS_en r)) := by kernel_rfl
theorem f_l_toIntS_ok (a0 : List Sc) (r : List Sc) (h : f_l_toIntS a0 = some r) : CS Try.prog 17 (f_l_toIntS_a a0) (f_l_toIntS_i a0) (f_l_toIntS_en r).1 (f_l_toIntS_en r).2 :=
  fn_true (Gk := fun k => f_l_toIntS_k a0 k) (en := f_l_toIntS_en) Try.func17 E0ok f_l_toIntS_Mt (addL_true (f_l_toIntS_tt0) (noL_true)) f_l_toIntS_o (f_l_toIntS_e a0) (f_l_toIntS_p a0) h
def f_l_toIntS_c : CRow := fun args inh => match dec2 [.p .sl] [] args inh with
  | some ([.l a0], []) => some ((f_l_toIntS a0).isSome, (f_l_toIntS_en ((f_l_toIntS a0).getD [])).1, (f_l_toIntS_en ((f_l_toIntS a0).getD [])).2)
  | _ => none
theorem f_l_toIntS_cc : CTrue Try.prog 17 f_l_toIntS_c := by
  intro args inh rs out h
  unfold f_l_toIntS_c at h
  split at h
  · rename_i hd
    obtain ⟨h1, h2⟩ := dec2_enc hd
    rw [← h1, ← h2]
    exact rowC (f_l_toIntS_ok _) h
  · cases h

def f_l_toGroup_F : Fi := { nv := 2, nc := 2, m := 0, vt := [(2, 0), (3, 1)], kl := [], sk := [], mvs := [], fz := [] }
def f_l_toGroup_a (a0 : List Sc) : List AV := enc [.p .gr] [.l a0]
def f_l_toGroup_i (a0 : List Sc) : List AV := enc [] []
def f_l_toGroup_en (r : List Sc) : List AV × List AV := (enc [.p (.go 0)] [], enc [.own 3] [.l r])
def f_l_toGroup_M : Calling := addC 17 f_l_toIntS_c (noC)
theorem f_l_toGroup_Mt : CallOk Try.prog (f_l_toGroup_M) := addC_true f_l_toIntS_cc (noC_true)
theorem f_l_toGroup_o : loopsOnce Try.f16 = true := by kernel_rfl
theorem f_l_toGroup_p {R : Type} (a0 : List Sc) (kR : List Sc → Option R) : f_l_toGroup_k a0 kR = (f_l_toGroup_k a0 some).bind kR := by
  simp only [f_l_toGroup_k, boB, someB]
theorem f_l_toGroup_e (a0 : List Sc) : runFn E0 f_l_toGroup_M H0 f_l_toGroup_F (asL (noL)) Try.f16 (f_l_toGroup_a a0) (f_l_toGroup_i a0) = f_l_toGroup_k a0 (fun r => some (f_l_toGroup_en r)) := by kernel_rfl
theorem f_l_toGroup_ok (a0 : List Sc) (r : List Sc) (h : f_l_toGroup a0 = some r) : CS Try.prog 16 (f_l_toGroup_a a0) (f_l_toGroup_i a0) (f_l_toGroup_en r).1 (f_l_toGroup_en r).2 :=
  fn_true (Gk := fun k => f_l_toGroup_k a0 k) (en := f_l_toGroup_en) Try.func16 E0ok f_l_toGroup_Mt (noL_true) f_l_toGroup_o (f_l_toGroup_e a0) (f_l_toGroup_p a0) h
def f_l_toGroup_c : CRow := fun args inh => match dec2 [.p .gr] [] args inh with
  | some ([.l a0], []) => some ((f_l_toGroup a0).isSome, (f_l_toGroup_en ((f_l_toGroup a0).getD [])).1, (f_l_toGroup_en ((f_l_toGroup a0).getD [])).2)
  | _ => none
theorem f_l_toGroup_cc : CTrue Try.prog 16 f_l_toGroup_c := by
  intro args inh rs out h
  unfold f_l_toGroup_c at h
  split at h
  · rename_i hd
    obtain ⟨h1, h2⟩ := dec2_enc hd
    rw [← h1, ← h2]
    exact rowC (f_l_toGroup_ok _) h
  · cases h

def f_s_l1In_F : Fi := { nv := 0, nc := 0, m := 0, vt := [], kl := [], sk := [], mvs := [], fz := [] }
def f_s_l1In_a (x0 : Int) (low1 : Int) (high2 : Int) : List AV := enc [.p (.int .i64), .p (.int .i64), .p (.int .i64)] [.i x0, .i low1, .i high2]
def f_s_l1In_i (x0 : Int) (low1 : Int) (high2 : Int) : List AV := enc [] []
def f_s_l1In_en (r : Bool) : List AV × List AV := (enc [.p .boo] [.b r], enc [] [])
def f_s_l1In_M : Calling := noC
theorem f_s_l1In_Mt : CallOk Try.prog (f_s_l1In_M) := noC_true
theorem f_s_l1In_o : loopsOnce Try.f68 = true := by kernel_rfl
theorem f_s_l1In_p {R : Type} (x0 : Int) (low1 : Int) (high2 : Int) (kR : Bool → Option R) : f_s_l1In_k x0 low1 high2 kR = (f_s_l1In_k x0 low1 high2 some).bind kR := by
  simp only [f_s_l1In_k, brB, someB]
theorem f_s_l1In_e (x0 : Int) (low1 : Int) (high2 : Int) : runFn E0 f_s_l1In_M H0 f_s_l1In_F (asL (noL)) Try.f68 (f_s_l1In_a x0 low1 high2) (f_s_l1In_i x0 low1 high2) = f_s_l1In_k x0 low1 high2 (fun r => some (f_s_l1In_en r)) := by kernel_rfl
theorem f_s_l1In_ok (x0 : Int) (low1 : Int) (high2 : Int) (r : Bool) (h : f_s_l1In x0 low1 high2 = some r) : CS Try.prog 68 (f_s_l1In_a x0 low1 high2) (f_s_l1In_i x0 low1 high2) (f_s_l1In_en r).1 (f_s_l1In_en r).2 :=
  fn_true (Gk := fun k => f_s_l1In_k x0 low1 high2 k) (en := f_s_l1In_en) Try.func68 E0ok f_s_l1In_Mt (noL_true) f_s_l1In_o (f_s_l1In_e x0 low1 high2) (f_s_l1In_p x0 low1 high2) h
def f_s_l1In_c : CRow := fun args inh => match dec2 [.p (.int .i64), .p (.int .i64), .p (.int .i64)] [] args inh with
  | some ([.i x0, .i low1, .i high2], []) => some ((f_s_l1In x0 low1 high2).isSome, (f_s_l1In_en ((f_s_l1In x0 low1 high2).getD false)).1, (f_s_l1In_en ((f_s_l1In x0 low1 high2).getD false)).2)
  | _ => none
theorem f_s_l1In_cc : CTrue Try.prog 68 f_s_l1In_c := by
  intro args inh rs out h
  unfold f_s_l1In_c at h
  split at h
  · rename_i hd
    obtain ⟨h1, h2⟩ := dec2_enc hd
    rw [← h1, ← h2]
    exact rowC (f_s_l1In_ok _ _ _) h
  · cases h

def f_s_IsGroup_F : Fi := { nv := 0, nc := 0, m := 0, vt := [], kl := [(0, ([0, 2, 5, 6, 7, 8, 9, 10, 11, 12, 13, 14, 15, 16, 17, 18, 19, 20, 21, 22, 23, 24, 25, 26, 27, 28, 29, 30, 31], [0, 1, 2, 4, 5, 6, 7, 8, 9, 10, 11, 12, 13, 14, 15, 16, 17, 18, 19, 20, 21, 22, 23, 24, 25, 26, 27, 28, 29, 30, 31], [0, 1, 3, 4, 5, 6, 7, 8, 9, 10, 11, 12, 13, 14, 15, 16, 17, 18, 19, 20, 21, 22, 23, 24, 25, 26, 27, 28, 29, 30, 31]))], sk := [], mvs := [], fz := [] }
def f_s_IsGroup_a (g0 : List Sc) : List AV := enc [.p .gr] [.l g0]
def f_s_IsGroup_i (g0 : List Sc) : List AV := enc [] []
def f_s_IsGroup_en (r : Bool) : List AV × List AV := (enc [.p .boo] [.b r], enc [] [])
def f_s_IsGroup_M : Calling := addC 68 f_s_l1In_c (noC)
theorem f_s_IsGroup_Mt : CallOk Try.prog (f_s_IsGroup_M) := addC_true f_s_l1In_cc (noC_true)
theorem f_s_IsGroup_o : loopsOnce Try.f89 = true := by kernel_rfl
def f_s_IsGroup_h0 : List Sh := [.u, .p .el, .u, .p (.int .i64), .p (.int .i64), .u, .u, .u, .u, .u, .u, .u, .u, .u, .u, .u, .u, .u, .u, .u, .u, .u, .u, .u, .u, .u, .u, .u, .u, .u, .u, .u]
def f_s_IsGroup_fr0 (g1 : List Sc) (s : Int × Int) : List AV := enc f_s_IsGroup_h0 [.l g1, .i s.1, .i s.2]
def f_s_IsGroup_g0_1 : List Sh := [.u, .u, .u, .p (.int .i64), .u, .u, .u, .u, .u, .u, .u, .u, .u, .u, .u, .u, .u, .u, .u, .u, .u, .u, .u, .u, .u, .u, .u, .u, .u, .u, .u, .u]
def f_s_IsGroup_x0_1 (g1 : List Sc) (e : Int) : X × List AV := (.out 0, enc f_s_IsGroup_g0_1 [.i e])
def f_s_IsGroup_g0_2 : List Sh := [.u, .u, .p .boo, .u, .u, .u, .u, .u, .u, .u, .u, .u, .u, .u, .u, .u, .u, .u, .u, .u, .u, .u, .u, .u, .u, .u, .u, .u, .u, .u, .u, .u]
def f_s_IsGroup_x0_2 (g1 : List Sc) (e : Unit) : X × List AV := (.ret, enc f_s_IsGroup_g0_2 [.b false])
theorem f_s_IsGroup_p0 {R : Type} (g1 : List Sc) (s : Int × Int) (kN : Int × Int → Option R) (kA : Int → Option R) (kB : Unit → Option R) : f_s_IsGroup_k0 g1 s.1 s.2 kN kA kB = (f_s_IsGroup_r0 g1 s).bind (Ro.el kN kA kB) := by
  simp only [f_s_IsGroup_k0, f_s_IsGroup_r0, brB, boB, someB, noneB, Ro.el]
theorem f_s_IsGroup_e0 (g1 : List Sc) (s : Int × Int) : EC E0 f_s_IsGroup_M H0 f_s_IsGroup_F (asL (noL)) 0 (bodyOf Try.f89 0) (f_s_IsGroup_fr0 g1 s) (done (klOf f_s_IsGroup_F 0)) = f_s_IsGroup_k0 g1 s.1 s.2 (fun s => some (.norm, f_s_IsGroup_fr0 g1 s)) (fun e => some (f_s_IsGroup_x0_1 g1 e)) (fun e => some (f_s_IsGroup_x0_2 g1 e)) := by kernel_rfl
theorem f_s_IsGroup_l0 (g1 : List Sc) : ∀ s r, loopL (f_s_IsGroup_r0 g1) s = some r → LS Try.prog f_s_IsGroup_F (bodyOf Try.f89 0) (f_s_IsGroup_fr0 g1 s) (enX (f_s_IsGroup_x0_1 g1) (f_s_IsGroup_x0_2 g1) r) :=
  loop_true E0ok f_s_IsGroup_Mt (noL_true) f_s_IsGroup_o (fun _ h => by cases h) (fun _ h => by cases h) (fun s => (f_s_IsGroup_e0 g1 s).trans (f_s_IsGroup_p0 g1 s _ _ (fun e => some (f_s_IsGroup_x0_2 g1 e))))
def f_s_IsGroup_t0 (σ : List AV) : Option (Bool × Bool × (X × List AV) × (X × List AV)) := match dec f_s_IsGroup_h0 σ with
  | some [.l g1, .i n3, .i i4] => some ((loopL (f_s_IsGroup_r0 g1) (n3, i4)).isSome, isOne (loopL (f_s_IsGroup_r0 g1) (n3, i4)), f_s_IsGroup_x0_1 g1 (getOne 0 (loopL (f_s_IsGroup_r0 g1) (n3, i4))), f_s_IsGroup_x0_2 g1 (getTwo () (loopL (f_s_IsGroup_r0 g1) (n3, i4))))
  | _ => none
theorem f_s_IsGroup_tt0 : TTrue Try.prog f_s_IsGroup_F Try.f89 0 (f_s_IsGroup_t0) := by
  intro σ p r r' h
  unfold f_s_IsGroup_t0 at h
  split at h
  · rename_i hd
    rw [← dec_enc hd]
    exact row2 (f_s_IsGroup_l0 _ _) h
  · cases h
theorem f_s_IsGroup_p {R : Type} (g0 : List Sc) (kR : Bool → Option R) : f_s_IsGroup_k g0 kR = (f_s_IsGroup_k g0 some).bind kR := by
  simp only [f_s_IsGroup_k, blB, someB]
theorem f_s_IsGroup_e (g0 : List Sc) : runFn E0 f_s_IsGroup_M H0 f_s_IsGroup_F (asL (addL 0 (f_s_IsGroup_t0) (noL))) Try.f89 (f_s_IsGroup_a g0) (f_s_IsGroup_i g0) = f_s_IsGroup_k g0 (fun r => some (f_s_IsGroup_en r)) := by kernel_rfl
theorem f_s_IsGroup_ok (g0 : List Sc) (r : Bool) (h : f_s_IsGroup g0 = some r) : CS Try.prog 89 (f_s_IsGroup_a g0) (f_s_IsGroup_i g0) (f_s_IsGroup_en r).1 (f_s_IsGroup_en r).2 :=
  fn_true (Gk := fun k => f_s_IsGroup_k g0 k) (en := f_s_IsGroup_en) Try.func89 E0ok f_s_IsGroup_Mt (addL_true (f_s_IsGroup_tt0) (noL_true)) f_s_IsGroup_o (f_s_IsGroup_e g0) (f_s_IsGroup_p g0) h
def f_s_IsGroup_c : CRow := fun args inh => match dec2 [.p .gr] [] args inh with
  | some ([.l g0], []) => some ((f_s_IsGroup g0).isSome, (f_s_IsGroup_en ((f_s_IsGroup g0).getD false)).1, (f_s_IsGroup_en ((f_s_IsGroup g0).getD false)).2)
  | _ => none
theorem f_s_IsGroup_cc : CTrue Try.prog 89 f_s_IsGroup_c := by
  intro args inh rs out h
  unfold f_s_IsGroup_c at h
  split at h
  · rename_i hd
    obtain ⟨h1, h2⟩ := dec2_enc hd
    rw [← h1, ← h2]
    exact rowC (f_s_IsGroup_ok _) h
  · cases h

def f_s_l2Order_F : Fi := { nv := 0, nc := 0, m := 0, vt := [], kl := [(0, ([0, 2, 5, 6, 7, 8, 9, 10, 11, 12, 13, 14, 15, 16, 17, 18, 19], [0, 1, 2, 4, 5, 6, 7, 8, 9, 10, 11, 12, 13, 14, 15, 16, 17, 18, 19], [0, 1, 3, 4, 5, 6, 7, 8, 9, 10, 11, 12, 13, 14, 15, 16, 17, 18, 19]))], sk := [], mvs := [], fz := [] }
def f_s_l2Order_a (g0 : List Sc) : List AV := enc [.p .gr] [.l g0]
def f_s_l2Order_i (g0 : List Sc) : List AV := enc [] []
def f_s_l2Order_en (r : Int) : List AV × List AV := (enc [.p (.int .i64)] [.i r], enc [] [])
def f_s_l2Order_M : Calling := noC
theorem f_s_l2Order_Mt : CallOk Try.prog (f_s_l2Order_M) := noC_true
theorem f_s_l2Order_o : loopsOnce Try.f53 = true := by kernel_rfl
def f_s_l2Order_h0 : List Sh := [.u, .p .el, .u, .p (.int .i64), .p (.int .i64), .u, .u, .u, .u, .u, .u, .u, .u, .u, .u, .u, .u, .u, .u, .u]
def f_s_l2Order_fr0 (g1 : List Sc) (s : Int × Int) : List AV := enc f_s_l2Order_h0 [.l g1, .i s.1, .i s.2]
def f_s_l2Order_g0_1 : List Sh := [.u, .u, .u, .p (.int .i64), .u, .u, .u, .u, .u, .u, .u, .u, .u, .u, .u, .u, .u, .u, .u, .u]
def f_s_l2Order_x0_1 (g1 : List Sc) (e : Int) : X × List AV := (.out 0, enc f_s_l2Order_g0_1 [.i e])
def f_s_l2Order_x0_2 (g1 : List Sc) (_e : Unit) : X × List AV := (.ret, [])
theorem f_s_l2Order_p0 {R : Type} (g1 : List Sc) (s : Int × Int) (kN : Int × Int → Option R) (kA : Int → Option R) (kB : Unit → Option R) : f_s_l2Order_k0 g1 s.1 s.2 kN kA = (f_s_l2Order_r0 g1 s).bind (Ro.el kN kA kB) := by
  simp only [f_s_l2Order_k0, f_s_l2Order_r0, brB, someB, noneB, Ro.el]
theorem f_s_l2Order_e0 (g1 : List Sc) (s : Int × Int) : EC E0 f_s_l2Order_M H0 f_s_l2Order_F (asL (noL)) 0 (bodyOf Try.f53 0) (f_s_l2Order_fr0 g1 s) (done (klOf f_s_l2Order_F 0)) = f_s_l2Order_k0 g1 s.1 s.2 (fun s => some (.norm, f_s_l2Order_fr0 g1 s)) (fun e => some (f_s_l2Order_x0_1 g1 e)) := by kernel_rfl
theorem f_s_l2Order_l0 (g1 : List Sc) : ∀ s r, loopL (f_s_l2Order_r0 g1) s = some r → LS Try.prog f_s_l2Order_F (bodyOf Try.f53 0) (f_s_l2Order_fr0 g1 s) (enX (f_s_l2Order_x0_1 g1) (f_s_l2Order_x0_2 g1) r) :=
  loop_true E0ok f_s_l2Order_Mt (noL_true) f_s_l2Order_o (fun _ h => by cases h) (fun _ h => by cases h) (fun s => (f_s_l2Order_e0 g1 s).trans (f_s_l2Order_p0 g1 s _ _ (fun e => some (f_s_l2Order_x0_2 g1 e))))
def f_s_l2Order_t0 (σ : List AV) : Option (Bool × Bool × (X × List AV) × (X × List AV)) := match dec f_s_l2Order_h0 σ with
  | some [.l g1, .i n3, .i i4] => some (isOne (loopL (f_s_l2Order_r0 g1) (n3, i4)), true, f_s_l2Order_x0_1 g1 (getOne 0 (loopL (f_s_l2Order_r0 g1) (n3, i4))), (.ret, []))
  | _ => none
theorem f_s_l2Order_tt0 : TTrue Try.prog f_s_l2Order_F Try.f53 0 (f_s_l2Order_t0) := by
  intro σ p r r' h
  unfold f_s_l2Order_t0 at h
  split at h
  · rename_i hd
    rw [← dec_enc hd]
    exact row1 (f_s_l2Order_l0 _ _) h
  · cases h
theorem f_s_l2Order_p {R : Type} (g0 : List Sc) (kR : Int → Option R) : f_s_l2Order_k g0 kR = (f_s_l2Order_k g0 some).bind kR := by
  simp only [f_s_l2Order_k, bl1B, someB]
theorem f_s_l2Order_e (g0 : List Sc) : runFn E0 f_s_l2Order_M H0 f_s_l2Order_F (asL (addL 0 (f_s_l2Order_t0) (noL))) Try.f53 (f_s_l2Order_a g0) (f_s_l2Order_i g0) = f_s_l2Order_k g0 (fun r => some (f_s_l2Order_en r)) := by kernel_rfl
theorem f_s_l2Order_ok (g0 : List Sc) (r : Int) (h : f_s_l2Order g0 = some r) : CS Try.prog 53 (f_s_l2Order_a g0) (f_s_l2Order_i g0) (f_s_l2Order_en r).1 (f_s_l2Order_en r).2 :=
  fn_true (Gk := fun k => f_s_l2Order_k g0 k) (en := f_s_l2Order_en) Try.func53 E0ok f_s_l2Order_Mt (addL_true (f_s_l2Order_tt0) (noL_true)) f_s_l2Order_o (f_s_l2Order_e g0) (f_s_l2Order_p g0) h
def f_s_l2Order_c : CRow := fun args inh => match dec2 [.p .gr] [] args inh with
  | some ([.l g0], []) => some ((f_s_l2Order g0).isSome, (f_s_l2Order_en ((f_s_l2Order g0).getD 0)).1, (f_s_l2Order_en ((f_s_l2Order g0).getD 0)).2)
  | _ => none
theorem f_s_l2Order_cc : CTrue Try.prog 53 f_s_l2Order_c := by
  intro args inh rs out h
  unfold f_s_l2Order_c at h
  split at h
  · rename_i hd
    obtain ⟨h1, h2⟩ := dec2_enc hd
    rw [← h1, ← h2]
    exact rowC (f_s_l2Order_ok _) h
  · cases h

def f_s_OrderOf_F : Fi := { nv := 0, nc := 0, m := 0, vt := [], kl := [], sk := [], mvs := [], fz := [] }
def f_s_OrderOf_a (g0 : List Sc) : List AV := enc [.p .gr] [.l g0]
def f_s_OrderOf_i (g0 : List Sc) : List AV := enc [] []
def f_s_OrderOf_en (r : Int) : List AV × List AV := (enc [.p (.int .i64)] [.i r], enc [] [])
def f_s_OrderOf_M : Calling := addC 89 f_s_IsGroup_c (addC 53 f_s_l2Order_c (noC))
theorem f_s_OrderOf_Mt : CallOk Try.prog (f_s_OrderOf_M) := addC_true f_s_IsGroup_cc (addC_true f_s_l2Order_cc (noC_true))
theorem f_s_OrderOf_o : loopsOnce Try.f108 = true := by kernel_rfl
theorem f_s_OrderOf_p {R : Type} (g0 : List Sc) (kR : Int → Option R) : f_s_OrderOf_k g0 kR = (f_s_OrderOf_k g0 some).bind kR := by
  simp only [f_s_OrderOf_k, brB, boB, someB]
theorem f_s_OrderOf_e (g0 : List Sc) : runFn E0 f_s_OrderOf_M H0 f_s_OrderOf_F (asL (noL)) Try.f108 (f_s_OrderOf_a g0) (f_s_OrderOf_i g0) = f_s_OrderOf_k g0 (fun r => some (f_s_OrderOf_en r)) := by kernel_rfl
theorem f_s_OrderOf_ok (g0 : List Sc) (r : Int) (h : f_s_OrderOf g0 = some r) : CS Try.prog 108 (f_s_OrderOf_a g0) (f_s_OrderOf_i g0) (f_s_OrderOf_en r).1 (f_s_OrderOf_en r).2 :=
  fn_true (Gk := fun k => f_s_OrderOf_k g0 k) (en := f_s_OrderOf_en) Try.func108 E0ok f_s_OrderOf_Mt (noL_true) f_s_OrderOf_o (f_s_OrderOf_e g0) (f_s_OrderOf_p g0) h
def f_s_OrderOf_c : CRow := fun args inh => match dec2 [.p .gr] [] args inh with
  | some ([.l g0], []) => some ((f_s_OrderOf g0).isSome, (f_s_OrderOf_en ((f_s_OrderOf g0).getD 0)).1, (f_s_OrderOf_en ((f_s_OrderOf g0).getD 0)).2)
  | _ => none
theorem f_s_OrderOf_cc : CTrue Try.prog 108 f_s_OrderOf_c := by
  intro args inh rs out h
  unfold f_s_OrderOf_c at h
  split at h
  · rename_i hd
    obtain ⟨h1, h2⟩ := dec2_enc hd
    rw [← h1, ← h2]
    exact rowC (f_s_OrderOf_ok _) h
  · cases h

def f_s_l2Is_F : Fi := { nv := 0, nc := 0, m := 0, vt := [], kl := [], sk := [], mvs := [], fz := [] }
def f_s_l2Is_a (g0 : List Sc) (x1 : Int) : List AV := enc [.p .gr, .p (.int .i64)] [.l g0, .i x1]
def f_s_l2Is_i (g0 : List Sc) (x1 : Int) : List AV := enc [] []
def f_s_l2Is_en (r : Bool) : List AV × List AV := (enc [.p .boo] [.b r], enc [] [])
def f_s_l2Is_M : Calling := addC 108 f_s_OrderOf_c (noC)
theorem f_s_l2Is_Mt : CallOk Try.prog (f_s_l2Is_M) := addC_true f_s_OrderOf_cc (noC_true)
theorem f_s_l2Is_o : loopsOnce Try.f88 = true := by kernel_rfl
theorem f_s_l2Is_p {R : Type} (g0 : List Sc) (x1 : Int) (kR : Bool → Option R) : f_s_l2Is_k g0 x1 kR = (f_s_l2Is_k g0 x1 some).bind kR := by
  simp only [f_s_l2Is_k, brB, boB, someB]
theorem f_s_l2Is_e (g0 : List Sc) (x1 : Int) : runFn E0 f_s_l2Is_M H0 f_s_l2Is_F (asL (noL)) Try.f88 (f_s_l2Is_a g0 x1) (f_s_l2Is_i g0 x1) = f_s_l2Is_k g0 x1 (fun r => some (f_s_l2Is_en r)) := by kernel_rfl
theorem f_s_l2Is_ok (g0 : List Sc) (x1 : Int) (r : Bool) (h : f_s_l2Is g0 x1 = some r) : CS Try.prog 88 (f_s_l2Is_a g0 x1) (f_s_l2Is_i g0 x1) (f_s_l2Is_en r).1 (f_s_l2Is_en r).2 :=
  fn_true (Gk := fun k => f_s_l2Is_k g0 x1 k) (en := f_s_l2Is_en) Try.func88 E0ok f_s_l2Is_Mt (noL_true) f_s_l2Is_o (f_s_l2Is_e g0 x1) (f_s_l2Is_p g0 x1) h
def f_s_l2Is_c : CRow := fun args inh => match dec2 [.p .gr, .p (.int .i64)] [] args inh with
  | some ([.l g0, .i x1], []) => some ((f_s_l2Is g0 x1).isSome, (f_s_l2Is_en ((f_s_l2Is g0 x1).getD false)).1, (f_s_l2Is_en ((f_s_l2Is g0 x1).getD false)).2)
  | _ => none
theorem f_s_l2Is_cc : CTrue Try.prog 88 f_s_l2Is_c := by
  intro args inh rs out h
  unfold f_s_l2Is_c at h
  split at h
  · rename_i hd
    obtain ⟨h1, h2⟩ := dec2_enc hd
    rw [← h1, ← h2]
    exact rowC (f_s_l2Is_ok _ _) h
  · cases h

def f_s_IsSequence_F : Fi := { nv := 0, nc := 0, m := 0, vt := [], kl := [(0, ([0, 3, 4, 6, 7, 8, 9, 10, 11, 12, 13, 14, 15, 16, 17, 18, 19, 20, 21, 22, 23, 24, 25, 26, 27, 28, 29, 30, 31, 32, 33, 34, 35, 36, 37, 38, 39, 40, 41], [0, 3, 4, 5, 6, 7, 8, 9, 10, 11, 12, 13, 14, 15, 16, 17, 18, 19, 20, 21, 22, 23, 24, 25, 26, 27, 28, 29, 30, 31, 32, 33, 34, 35, 36, 37, 38, 39, 40, 41], [0, 1, 2, 3, 5, 6, 7, 8, 9, 10, 11, 12, 13, 14, 15, 16, 17, 18, 19, 20, 21, 22, 23, 24, 25, 26, 27, 28, 29, 30, 31, 32, 33, 34, 35, 36, 37, 38, 39, 40, 41]))], sk := [], mvs := [], fz := [] }
def f_s_IsSequence_a (g0 : List Sc) (l1 : List Sc) : List AV := enc [.p .gr, .p .sl] [.l g0, .l l1]
def f_s_IsSequence_i (g0 : List Sc) (l1 : List Sc) : List AV := enc [] []
def f_s_IsSequence_en (r : Bool) : List AV × List AV := (enc [.p .boo] [.b r], enc [] [])
def f_s_IsSequence_M : Calling := addC 88 f_s_l2Is_c (addC 89 f_s_IsGroup_c (noC))
theorem f_s_IsSequence_Mt : CallOk Try.prog (f_s_IsSequence_M) := addC_true f_s_l2Is_cc (addC_true f_s_IsGroup_cc (noC_true))
theorem f_s_IsSequence_o : loopsOnce Try.f45 = true := by kernel_rfl
def f_s_IsSequence_h0 : List Sh := [.u, .p .sl, .p .el, .u, .u, .p (.int .i64), .u, .u, .u, .u, .u, .u, .u, .u, .u, .u, .u, .u, .u, .u, .u, .u, .u, .u, .u, .u, .u, .u, .u, .u, .u, .u, .u, .u, .u, .u, .u, .u, .u, .u, .u, .u]
def f_s_IsSequence_fr0 (l1 : List Sc) (g2 : List Sc) (s : Int) : List AV := enc f_s_IsSequence_h0 [.l l1, .l g2, .i s]
def f_s_IsSequence_g0_1 : List Sh := [.u, .p .sl, .p .el, .u, .u, .u, .u, .u, .u, .u, .u, .u, .u, .u, .u, .u, .u, .u, .u, .u, .u, .u, .u, .u, .u, .u, .u, .u, .u, .u, .u, .u, .u, .u, .u, .u, .u, .u, .u, .u, .u, .u]
def f_s_IsSequence_x0_1 (l1 : List Sc) (g2 : List Sc) (e : Unit) : X × List AV := (.out 0, enc f_s_IsSequence_g0_1 [.l l1, .l g2])
def f_s_IsSequence_g0_2 : List Sh := [.u, .u, .u, .u, .p .boo, .u, .u, .u, .u, .u, .u, .u, .u, .u, .u, .u, .u, .u, .u, .u, .u, .u, .u, .u, .u, .u, .u, .u, .u, .u, .u, .u, .u, .u, .u, .u, .u, .u, .u, .u, .u, .u]
def f_s_IsSequence_x0_2 (l1 : List Sc) (g2 : List Sc) (e : Unit) : X × List AV := (.ret, enc f_s_IsSequence_g0_2 [.b false])
theorem f_s_IsSequence_p0 {R : Type} (l1 : List Sc) (g2 : List Sc) (s : Int) (kN : Int → Option R) (kA : Unit → Option R) (kB : Unit → Option R) : f_s_IsSequence_k0 l1 g2 s kN kA kB = (f_s_IsSequence_r0 l1 g2 s).bind (Ro.el kN kA kB) := by
  simp only [f_s_IsSequence_k0, f_s_IsSequence_r0, brB, boB, someB, noneB, Ro.el]
theorem f_s_IsSequence_e0 (l1 : List Sc) (g2 : List Sc) (s : Int) : EC E0 f_s_IsSequence_M H0 f_s_IsSequence_F (asL (noL)) 0 (bodyOf Try.f45 0) (f_s_IsSequence_fr0 l1 g2 s) (done (klOf f_s_IsSequence_F 0)) = f_s_IsSequence_k0 l1 g2 s (fun s => some (.norm, f_s_IsSequence_fr0 l1 g2 s)) (fun e => some (f_s_IsSequence_x0_1 l1 g2 e)) (fun e => some (f_s_IsSequence_x0_2 l1 g2 e)) := by kernel_rfl
theorem f_s_IsSequence_l0 (l1 : List Sc) (g2 : List Sc) : ∀ s r, loopL (f_s_IsSequence_r0 l1 g2) s = some r → LS Try.prog f_s_IsSequence_F (bodyOf Try.f45 0) (f_s_IsSequence_fr0 l1 g2 s) (enX (f_s_IsSequence_x0_1 l1 g2) (f_s_IsSequence_x0_2 l1 g2) r) :=
  loop_true E0ok f_s_IsSequence_Mt (noL_true) f_s_IsSequence_o (fun _ h => by cases h) (fun _ h => by cases h) (fun s => (f_s_IsSequence_e0 l1 g2 s).trans (f_s_IsSequence_p0 l1 g2 s _ _ (fun e => some (f_s_IsSequence_x0_2 l1 g2 e))))
def f_s_IsSequence_t0 (σ : List AV) : Option (Bool × Bool × (X × List AV) × (X × List AV)) := match dec f_s_IsSequence_h0 σ with
  | some [.l l1, .l g2, .i i5] => some ((loopL (f_s_IsSequence_r0 l1 g2) i5).isSome, isOne (loopL (f_s_IsSequence_r0 l1 g2) i5), f_s_IsSequence_x0_1 l1 g2 (getOne () (loopL (f_s_IsSequence_r0 l1 g2) i5)), f_s_IsSequence_x0_2 l1 g2 (getTwo () (loopL (f_s_IsSequence_r0 l1 g2) i5)))
  | _ => none
theorem f_s_IsSequence_tt0 : TTrue Try.prog f_s_IsSequence_F Try.f45 0 (f_s_IsSequence_t0) := by
  intro σ p r r' h
  unfold f_s_IsSequence_t0 at h
  split at h
  · rename_i hd
    rw [← dec_enc hd]
    exact row2 (f_s_IsSequence_l0 _ _ _) h
  · cases h
theorem f_s_IsSequence_p {R : Type} (g0 : List Sc) (l1 : List Sc) (kR : Bool → Option R) : f_s_IsSequence_k g0 l1 kR = (f_s_IsSequence_k g0 l1 some).bind kR := by
  simp only [f_s_IsSequence_k, brB, boB, blB, someB]
theorem f_s_IsSequence_e (g0 : List Sc) (l1 : List Sc) : runFn E0 f_s_IsSequence_M H0 f_s_IsSequence_F (asL (addL 0 (f_s_IsSequence_t0) (noL))) Try.f45 (f_s_IsSequence_a g0 l1) (f_s_IsSequence_i g0 l1) = f_s_IsSequence_k g0 l1 (fun r => some (f_s_IsSequence_en r)) := by kernel_rfl
theorem f_s_IsSequence_ok (g0 : List Sc) (l1 : List Sc) (r : Bool) (h : f_s_IsSequence g0 l1 = some r) : CS Try.prog 45 (f_s_IsSequence_a g0 l1) (f_s_IsSequence_i g0 l1) (f_s_IsSequence_en r).1 (f_s_IsSequence_en r).2 :=
  fn_true (Gk := fun k => f_s_IsSequence_k g0 l1 k) (en := f_s_IsSequence_en) Try.func45 E0ok f_s_IsSequence_Mt (addL_true (f_s_IsSequence_tt0) (noL_true)) f_s_IsSequence_o (f_s_IsSequence_e g0 l1) (f_s_IsSequence_p g0 l1) h
def f_s_IsSequence_c : CRow := fun args inh => match dec2 [.p .gr, .p .sl] [] args inh with
  | some ([.l g0, .l l1], []) => some ((f_s_IsSequence g0 l1).isSome, (f_s_IsSequence_en ((f_s_IsSequence g0 l1).getD false)).1, (f_s_IsSequence_en ((f_s_IsSequence g0 l1).getD false)).2)
  | _ => none
theorem f_s_IsSequence_cc : CTrue Try.prog 45 f_s_IsSequence_c := by
  intro args inh rs out h
  unfold f_s_IsSequence_c at h
  split at h
  · rename_i hd
    obtain ⟨h1, h2⟩ := dec2_enc hd
    rw [← h1, ← h2]
    exact rowC (f_s_IsSequence_ok _ _) h
  · cases h

def f_s_l3List_F : Fi := { nv := 0, nc := 0, m := 0, vt := [], kl := [(0, ([0, 1, 2, 6, 7, 8, 9, 10, 11, 12, 13, 14, 15, 16, 17, 18, 19, 20, 21], [0, 1, 2, 4, 5, 6, 7, 8, 9, 10, 11, 12, 13, 14, 15, 16, 17, 18, 19, 20, 21], [0, 1, 3, 4, 5, 6, 7, 8, 9, 10, 11, 12, 13, 14, 15, 16, 17, 18, 19, 20, 21]))], sk := [], mvs := [], fz := [] }
def f_s_l3List_a (a0 : Int) : List AV := enc [.p (.int .i64)] [.i a0]
def f_s_l3List_i (a0 : Int) : List AV := enc [] []
def f_s_l3List_en (r : List Sc) : List AV × List AV := (enc [.p (.al 0)] [], enc [.own 3] [.l r])
def f_s_l3List_M : Calling := noC
theorem f_s_l3List_Mt : CallOk Try.prog (f_s_l3List_M) := noC_true
theorem f_s_l3List_o : loopsOnce Try.f102 = true := by kernel_rfl
def f_s_l3List_h0 : List Sh := [.u, .u, .u, .own 3, .p (.int .i64), .p (.int .i64), .u, .u, .u, .u, .u, .u, .u, .u, .u, .u, .u, .u, .u, .u, .u, .u]
def f_s_l3List_fr0 (s : List Sc × Int × Int) : List AV := enc f_s_l3List_h0 [.l s.1, .i s.2.1, .i s.2.2]
def f_s_l3List_g0_1 : List Sh := [.u, .u, .u, .own 3, .u, .u, .u, .u, .u, .u, .u, .u, .u, .u, .u, .u, .u, .u, .u, .u, .u, .u]
def f_s_l3List_x0_1 (e : List Sc) : X × List AV := (.out 0, enc f_s_l3List_g0_1 [.l e])
def f_s_l3List_x0_2 (_e : Unit) : X × List AV := (.ret, [])
theorem f_s_l3List_p0 {R : Type} (s : List Sc × Int × Int) (kN : List Sc × Int × Int → Option R) (kA : List Sc → Option R) (kB : Unit → Option R) : f_s_l3List_k0 s.1 s.2.1 s.2.2 kN kA = (f_s_l3List_r0 s).bind (Ro.el kN kA kB) := by
  simp only [f_s_l3List_k0, f_s_l3List_r0, brB, someB, noneB, Ro.el]
theorem f_s_l3List_e0 (s : List Sc × Int × Int) : EC E0 f_s_l3List_M H0 f_s_l3List_F (asL (noL)) 0 (bodyOf Try.f102 0) (f_s_l3List_fr0 s) (done (klOf f_s_l3List_F 0)) = f_s_l3List_k0 s.1 s.2.1 s.2.2 (fun s => some (.norm, f_s_l3List_fr0 s)) (fun e => some (f_s_l3List_x0_1 e)) := by kernel_rfl
theorem f_s_l3List_l0 : ∀ s r, loopL (f_s_l3List_r0) s = some r → LS Try.prog f_s_l3List_F (bodyOf Try.f102 0) (f_s_l3List_fr0 s) (enX (f_s_l3List_x0_1) (f_s_l3List_x0_2) r) :=
  loop_true E0ok f_s_l3List_Mt (noL_true) f_s_l3List_o (fun _ h => by cases h) (fun _ h => by cases h) (fun s => (f_s_l3List_e0 s).trans (f_s_l3List_p0 s _ _ (fun e => some (f_s_l3List_x0_2 e))))
def f_s_l3List_t0 (σ : List AV) : Option (Bool × Bool × (X × List AV) × (X × List AV)) := match dec f_s_l3List_h0 σ with
  | some [.l out3, .i i4, .i x5] => some (isOne (loopL (f_s_l3List_r0) (out3, i4, x5)), true, f_s_l3List_x0_1 (getOne [] (loopL (f_s_l3List_r0) (out3, i4, x5))), (.ret, []))
  | _ => none
theorem f_s_l3List_tt0 : TTrue Try.prog f_s_l3List_F Try.f102 0 (f_s_l3List_t0) := by
  intro σ p r r' h
  unfold f_s_l3List_t0 at h
  split at h
  · rename_i hd
    rw [← dec_enc hd]
    exact row1 (f_s_l3List_l0 _) h
  · cases h
theorem f_s_l3List_p {R : Type} (a0 : Int) (kR : List Sc → Option R) : f_s_l3List_k a0 kR = (f_s_l3List_k a0 some).bind kR := by
  simp only [f_s_l3List_k, bl1B, someB]
theorem f_s_l3List_e (a0 : Int) : runFn E0 f_s_l3List_M H0 f_s_l3List_F (asL (addL 0 (f_s_l3List_t0) (noL))) Try.f102 (f_s_l3List_a a0) (f_s_l3List_i a0) = f_s_l3List_k a0 (fun r => some (f_s_l3List_en r)) := by kernel_rfl
theorem f_s_l3List_ok (a0 : Int) (r : List Sc) (h : f_s_l3List a0 = some r) : CS Try.prog 102 (f_s_l3List_a a0) (f_s_l3List_i a0) (f_s_l3List_en r).1 (f_s_l3List_en r).2 :=
  fn_true (Gk := fun k => f_s_l3List_k a0 k) (en := f_s_l3List_en) Try.func102 E0ok f_s_l3List_Mt (addL_true (f_s_l3List_tt0) (noL_true)) f_s_l3List_o (f_s_l3List_e a0) (f_s_l3List_p a0) h
def f_s_l3List_c : CRow := fun args inh => match dec2 [.p (.int .i64)] [] args inh with
  | some ([.i a0], []) => some ((f_s_l3List a0).isSome, (f_s_l3List_en ((f_s_l3List a0).getD [])).1, (f_s_l3List_en ((f_s_l3List a0).getD [])).2)
  | _ => none
theorem f_s_l3List_cc : CTrue Try.prog 102 f_s_l3List_c := by
  intro args inh rs out h
  unfold f_s_l3List_c at h
  split at h
  · rename_i hd
    obtain ⟨h1, h2⟩ := dec2_enc hd
    rw [← h1, ← h2]
    exact rowC (f_s_l3List_ok _) h
  · cases h

def f_s_l2Add_F : Fi := { nv := 0, nc := 0, m := 0, vt := [], kl := [(0, ([0, 4, 5, 6, 10, 11, 12, 13, 14, 15, 16, 17, 18, 19, 20, 21, 22, 23, 24, 25, 26, 27, 28, 29, 30, 31, 32, 33, 34, 35, 36, 37, 38, 39, 40, 41, 42, 43, 44, 45], [0, 1, 2, 3, 4, 5, 6, 8, 9, 10, 11, 12, 13, 14, 15, 16, 17, 18, 19, 20, 21, 22, 23, 24, 25, 26, 27, 28, 29, 30, 31, 32, 33, 34, 35, 36, 37, 38, 39, 40, 41, 42, 43, 44, 45], [0, 1, 2, 3, 4, 5, 7, 8, 9, 10, 11, 12, 13, 14, 15, 16, 17, 18, 19, 20, 21, 22, 23, 24, 25, 26, 27, 28, 29, 30, 31, 32, 33, 34, 35, 36, 37, 38, 39, 40, 41, 42, 43, 44, 45]))], sk := [], mvs := [], fz := [] }
def f_s_l2Add_a (g0 : List Sc) (x1 : Int) (y2 : Int) : List AV := enc [.p .gr, .p (.int .i64), .p (.int .i64)] [.l g0, .i x1, .i y2]
def f_s_l2Add_i (g0 : List Sc) (x1 : Int) (y2 : Int) : List AV := enc [] []
def f_s_l2Add_en (r : Int) : List AV × List AV := (enc [.p (.int .i64)] [.i r], enc [] [])
def f_s_l2Add_M : Calling := noC
theorem f_s_l2Add_Mt : CallOk Try.prog (f_s_l2Add_M) := noC_true
theorem f_s_l2Add_o : loopsOnce Try.f101 = true := by kernel_rfl
def f_s_l2Add_h0 : List Sh := [.u, .p (.int .i64), .p (.int .i64), .p .el, .u, .u, .u, .p (.int .i64), .p (.int .i64), .p (.int .i64), .u, .u, .u, .u, .u, .u, .u, .u, .u, .u, .u, .u, .u, .u, .u, .u, .u, .u, .u, .u, .u, .u, .u, .u, .u, .u, .u, .u, .u, .u, .u, .u, .u, .u, .u, .u]
def f_s_l2Add_fr0 (g3 : List Sc) (s : Int × Int × Int × Int × Int) : List AV := enc f_s_l2Add_h0 [.i s.1, .i s.2.1, .l g3, .i s.2.2.1, .i s.2.2.2.1, .i s.2.2.2.2]
def f_s_l2Add_g0_1 : List Sh := [.u, .u, .u, .u, .u, .u, .u, .p (.int .i64), .u, .u, .u, .u, .u, .u, .u, .u, .u, .u, .u, .u, .u, .u, .u, .u, .u, .u, .u, .u, .u, .u, .u, .u, .u, .u, .u, .u, .u, .u, .u, .u, .u, .u, .u, .u, .u, .u]
def f_s_l2Add_x0_1 (g3 : List Sc) (e : Int) : X × List AV := (.out 0, enc f_s_l2Add_g0_1 [.i e])
def f_s_l2Add_x0_2 (g3 : List Sc) (_e : Unit) : X × List AV := (.ret, [])
theorem f_s_l2Add_p0 {R : Type} (g3 : List Sc) (s : Int × Int × Int × Int × Int) (kN : Int × Int × Int × Int × Int → Option R) (kA : Int → Option R) (kB : Unit → Option R) : f_s_l2Add_k0 g3 s.1 s.2.1 s.2.2.1 s.2.2.2.1 s.2.2.2.2 kN kA = (f_s_l2Add_r0 g3 s).bind (Ro.el kN kA kB) := by
  simp only [f_s_l2Add_k0, f_s_l2Add_r0, brB, someB, noneB, Ro.el]
theorem f_s_l2Add_e0 (g3 : List Sc) (s : Int × Int × Int × Int × Int) : EC E0 f_s_l2Add_M H0 f_s_l2Add_F (asL (noL)) 0 (bodyOf Try.f101 0) (f_s_l2Add_fr0 g3 s) (done (klOf f_s_l2Add_F 0)) = f_s_l2Add_k0 g3 s.1 s.2.1 s.2.2.1 s.2.2.2.1 s.2.2.2.2 (fun s => some (.norm, f_s_l2Add_fr0 g3 s)) (fun e => some (f_s_l2Add_x0_1 g3 e)) := by kernel_rfl
theorem f_s_l2Add_l0 (g3 : List Sc) : ∀ s r, loopL (f_s_l2Add_r0 g3) s = some r → LS Try.prog f_s_l2Add_F (bodyOf Try.f101 0) (f_s_l2Add_fr0 g3 s) (enX (f_s_l2Add_x0_1 g3) (f_s_l2Add_x0_2 g3) r) :=
  loop_true E0ok f_s_l2Add_Mt (noL_true) f_s_l2Add_o (fun _ h => by cases h) (fun _ h => by cases h) (fun s => (f_s_l2Add_e0 g3 s).trans (f_s_l2Add_p0 g3 s _ _ (fun e => some (f_s_l2Add_x0_2 g3 e))))
def f_s_l2Add_t0 (σ : List AV) : Option (Bool × Bool × (X × List AV) × (X × List AV)) := match dec f_s_l2Add_h0 σ with
  | some [.i x1, .i y2, .l g3, .i z7, .i step8, .i i9] => some (isOne (loopL (f_s_l2Add_r0 g3) (x1, y2, z7, step8, i9)), true, f_s_l2Add_x0_1 g3 (getOne 0 (loopL (f_s_l2Add_r0 g3) (x1, y2, z7, step8, i9))), (.ret, []))
  | _ => none
theorem f_s_l2Add_tt0 : TTrue Try.prog f_s_l2Add_F Try.f101 0 (f_s_l2Add_t0) := by
  intro σ p r r' h
  unfold f_s_l2Add_t0 at h
  split at h
  · rename_i hd
    rw [← dec_enc hd]
    exact row1 (f_s_l2Add_l0 _ _) h
  · cases h
theorem f_s_l2Add_p {R : Type} (g0 : List Sc) (x1 : Int) (y2 : Int) (kR : Int → Option R) : f_s_l2Add_k g0 x1 y2 kR = (f_s_l2Add_k g0 x1 y2 some).bind kR := by
  simp only [f_s_l2Add_k, bl1B, someB]
theorem f_s_l2Add_e (g0 : List Sc) (x1 : Int) (y2 : Int) : runFn E0 f_s_l2Add_M H0 f_s_l2Add_F (asL (addL 0 (f_s_l2Add_t0) (noL))) Try.f101 (f_s_l2Add_a g0 x1 y2) (f_s_l2Add_i g0 x1 y2) = f_s_l2Add_k g0 x1 y2 (fun r => some (f_s_l2Add_en r)) := by kernel_rfl
theorem f_s_l2Add_ok (g0 : List Sc) (x1 : Int) (y2 : Int) (r : Int) (h : f_s_l2Add g0 x1 y2 = some r) : CS Try.prog 101 (f_s_l2Add_a g0 x1 y2) (f_s_l2Add_i g0 x1 y2) (f_s_l2Add_en r).1 (f_s_l2Add_en r).2 :=
  fn_true (Gk := fun k => f_s_l2Add_k g0 x1 y2 k) (en := f_s_l2Add_en) Try.func101 E0ok f_s_l2Add_Mt (addL_true (f_s_l2Add_tt0) (noL_true)) f_s_l2Add_o (f_s_l2Add_e g0 x1 y2) (f_s_l2Add_p g0 x1 y2) h
def f_s_l2Add_c : CRow := fun args inh => match dec2 [.p .gr, .p (.int .i64), .p (.int .i64)] [] args inh with
  | some ([.l g0, .i x1, .i y2], []) => some ((f_s_l2Add g0 x1 y2).isSome, (f_s_l2Add_en ((f_s_l2Add g0 x1 y2).getD 0)).1, (f_s_l2Add_en ((f_s_l2Add g0 x1 y2).getD 0)).2)
  | _ => none
theorem f_s_l2Add_cc : CTrue Try.prog 101 f_s_l2Add_c := by
  intro args inh rs out h
  unfold f_s_l2Add_c at h
  split at h
  · rename_i hd
    obtain ⟨h1, h2⟩ := dec2_enc hd
    rw [← h1, ← h2]
    exact rowC (f_s_l2Add_ok _ _ _) h
  · cases h

def f_s_l3Shift_F : Fi := { nv := 0, nc := 0, m := 0, vt := [], kl := [(0, ([0, 1, 4, 5, 6, 10, 11, 12, 13, 14, 15, 16, 17, 18, 19, 20, 21, 22, 23, 24, 25, 26, 27, 28], [0, 1, 2, 3, 4, 5, 6, 8, 9, 10, 11, 12, 13, 14, 15, 16, 17, 18, 19, 20, 21, 22, 23, 24, 25, 26, 27, 28], [0, 1, 2, 3, 4, 5, 7, 8, 9, 10, 11, 12, 13, 14, 15, 16, 17, 18, 19, 20, 21, 22, 23, 24, 25, 26, 27, 28]))], sk := [], mvs := [], fz := [] }
def f_s_l3Shift_a (g0 : List Sc) (a1 : Int) (x2 : Int) : List AV := enc [.p .gr, .p (.int .i64), .p (.int .i64)] [.l g0, .i a1, .i x2]
def f_s_l3Shift_i (g0 : List Sc) (a1 : Int) (x2 : Int) : List AV := enc [] []
def f_s_l3Shift_en (r : Int) : List AV × List AV := (enc [.p (.int .i64)] [.i r], enc [] [])
def f_s_l3Shift_M : Calling := addC 102 f_s_l3List_c (addC 101 f_s_l2Add_c (noC))
theorem f_s_l3Shift_Mt : CallOk Try.prog (f_s_l3Shift_M) := addC_true f_s_l3List_cc (addC_true f_s_l2Add_cc (noC_true))
theorem f_s_l3Shift_o : loopsOnce Try.f78 = true := by kernel_rfl
def f_s_l3Shift_h0 : List Sh := [.u, .u, .p (.int .i64), .p .el, .u, .u, .u, .p (.int .i64), .own 3, .p (.int .i64), .u, .u, .u, .u, .u, .u, .u, .u, .u, .u, .u, .u, .u, .u, .u, .u, .u, .u, .u]
def f_s_l3Shift_fr0 (x2 : Int) (g3 : List Sc) (s : Int × List Sc × Int) : List AV := enc f_s_l3Shift_h0 [.i x2, .l g3, .i s.1, .l s.2.1, .i s.2.2]
def f_s_l3Shift_g0_1 : List Sh := [.u, .u, .u, .u, .u, .u, .u, .p (.int .i64), .u, .u, .u, .u, .u, .u, .u, .u, .u, .u, .u, .u, .u, .u, .u, .u, .u, .u, .u, .u, .u]
def f_s_l3Shift_x0_1 (x2 : Int) (g3 : List Sc) (e : Int) : X × List AV := (.out 0, enc f_s_l3Shift_g0_1 [.i e])
def f_s_l3Shift_x0_2 (x2 : Int) (g3 : List Sc) (_e : Unit) : X × List AV := (.ret, [])
theorem f_s_l3Shift_p0 {R : Type} (x2 : Int) (g3 : List Sc) (s : Int × List Sc × Int) (kN : Int × List Sc × Int → Option R) (kA : Int → Option R) (kB : Unit → Option R) : f_s_l3Shift_k0 x2 g3 s.1 s.2.1 s.2.2 kN kA = (f_s_l3Shift_r0 x2 g3 s).bind (Ro.el kN kA kB) := by
  simp only [f_s_l3Shift_k0, f_s_l3Shift_r0, brB, boB, someB, noneB, Ro.el]
theorem f_s_l3Shift_e0 (x2 : Int) (g3 : List Sc) (s : Int × List Sc × Int) : EC E0 f_s_l3Shift_M H0 f_s_l3Shift_F (asL (noL)) 0 (bodyOf Try.f78 0) (f_s_l3Shift_fr0 x2 g3 s) (done (klOf f_s_l3Shift_F 0)) = f_s_l3Shift_k0 x2 g3 s.1 s.2.1 s.2.2 (fun s => some (.norm, f_s_l3Shift_fr0 x2 g3 s)) (fun e => some (f_s_l3Shift_x0_1 x2 g3 e)) := by kernel_rfl
theorem f_s_l3Shift_l0 (x2 : Int) (g3 : List Sc) : ∀ s r, loopL (f_s_l3Shift_r0 x2 g3) s = some r → LS Try.prog f_s_l3Shift_F (bodyOf Try.f78 0) (f_s_l3Shift_fr0 x2 g3 s) (enX (f_s_l3Shift_x0_1 x2 g3) (f_s_l3Shift_x0_2 x2 g3) r) :=
  loop_true E0ok f_s_l3Shift_Mt (noL_true) f_s_l3Shift_o (fun _ h => by cases h) (fun _ h => by cases h) (fun s => (f_s_l3Shift_e0 x2 g3 s).trans (f_s_l3Shift_p0 x2 g3 s _ _ (fun e => some (f_s_l3Shift_x0_2 x2 g3 e))))
def f_s_l3Shift_t0 (σ : List AV) : Option (Bool × Bool × (X × List AV) × (X × List AV)) := match dec f_s_l3Shift_h0 σ with
  | some [.i x2, .l g3, .i out7, .l l8, .i i9] => some (isOne (loopL (f_s_l3Shift_r0 x2 g3) (out7, l8, i9)), true, f_s_l3Shift_x0_1 x2 g3 (getOne 0 (loopL (f_s_l3Shift_r0 x2 g3) (out7, l8, i9))), (.ret, []))
  | _ => none
theorem f_s_l3Shift_tt0 : TTrue Try.prog f_s_l3Shift_F Try.f78 0 (f_s_l3Shift_t0) := by
  intro σ p r r' h
  unfold f_s_l3Shift_t0 at h
  split at h
  · rename_i hd
    rw [← dec_enc hd]
    exact row1 (f_s_l3Shift_l0 _ _ _) h
  · cases h
theorem f_s_l3Shift_p {R : Type} (g0 : List Sc) (a1 : Int) (x2 : Int) (kR : Int → Option R) : f_s_l3Shift_k g0 a1 x2 kR = (f_s_l3Shift_k g0 a1 x2 some).bind kR := by
  simp only [f_s_l3Shift_k, boB, bl1B, someB]
theorem f_s_l3Shift_e (g0 : List Sc) (a1 : Int) (x2 : Int) : runFn E0 f_s_l3Shift_M H0 f_s_l3Shift_F (asL (addL 0 (f_s_l3Shift_t0) (noL))) Try.f78 (f_s_l3Shift_a g0 a1 x2) (f_s_l3Shift_i g0 a1 x2) = f_s_l3Shift_k g0 a1 x2 (fun r => some (f_s_l3Shift_en r)) := by kernel_rfl
theorem f_s_l3Shift_ok (g0 : List Sc) (a1 : Int) (x2 : Int) (r : Int) (h : f_s_l3Shift g0 a1 x2 = some r) : CS Try.prog 78 (f_s_l3Shift_a g0 a1 x2) (f_s_l3Shift_i g0 a1 x2) (f_s_l3Shift_en r).1 (f_s_l3Shift_en r).2 :=
  fn_true (Gk := fun k => f_s_l3Shift_k g0 a1 x2 k) (en := f_s_l3Shift_en) Try.func78 E0ok f_s_l3Shift_Mt (addL_true (f_s_l3Shift_tt0) (noL_true)) f_s_l3Shift_o (f_s_l3Shift_e g0 a1 x2) (f_s_l3Shift_p g0 a1 x2) h
def f_s_l3Shift_c : CRow := fun args inh => match dec2 [.p .gr, .p (.int .i64), .p (.int .i64)] [] args inh with
  | some ([.l g0, .i a1, .i x2], []) => some ((f_s_l3Shift g0 a1 x2).isSome, (f_s_l3Shift_en ((f_s_l3Shift g0 a1 x2).getD 0)).1, (f_s_l3Shift_en ((f_s_l3Shift g0 a1 x2).getD 0)).2)
  | _ => none
theorem f_s_l3Shift_cc : CTrue Try.prog 78 f_s_l3Shift_c := by
  intro args inh rs out h
  unfold f_s_l3Shift_c at h
  split at h
  · rename_i hd
    obtain ⟨h1, h2⟩ := dec2_enc hd
    rw [← h1, ← h2]
    exact rowC (f_s_l3Shift_ok _ _ _) h
  · cases h

def f_s_l16Subsums_F : Fi := { nv := 0, nc := 0, m := 0, vt := [], kl := [(0, ([0, 3, 4, 7, 8, 9, 10, 11, 12, 13, 14, 15, 16, 17, 18, 19, 20, 21, 22, 23, 24, 25, 26, 27, 28], [0, 1, 2, 3, 4, 6, 7, 8, 9, 10, 11, 12, 13, 14, 15, 16, 17, 18, 19, 20, 21, 22, 23, 24, 25, 26, 27, 28], [0, 1, 2, 3, 5, 6, 7, 8, 9, 10, 11, 12, 13, 14, 15, 16, 17, 18, 19, 20, 21, 22, 23, 24, 25, 26, 27, 28]))], sk := [], mvs := [], fz := [] }
def f_s_l16Subsums_a (g0 : List Sc) (l1 : List Sc) : List AV := enc [.p .gr, .p .sl] [.l g0, .l l1]
def f_s_l16Subsums_i (g0 : List Sc) (l1 : List Sc) : List AV := enc [] []
def f_s_l16Subsums_en (r : Int) : List AV × List AV := (enc [.p (.int .i64)] [.i r], enc [] [])
def f_s_l16Subsums_M : Calling := addC 78 f_s_l3Shift_c (noC)
theorem f_s_l16Subsums_Mt : CallOk Try.prog (f_s_l16Subsums_M) := addC_true f_s_l3Shift_cc (noC_true)
theorem f_s_l16Subsums_o : loopsOnce Try.f57 = true := by kernel_rfl
def f_s_l16Subsums_h0 : List Sh := [.u, .p .sl, .p .el, .u, .u, .p (.int .i64), .p (.int .i64), .u, .u, .u, .u, .u, .u, .u, .u, .u, .u, .u, .u, .u, .u, .u, .u, .u, .u, .u, .u, .u, .u]
def f_s_l16Subsums_fr0 (l1 : List Sc) (g2 : List Sc) (s : Int × Int) : List AV := enc f_s_l16Subsums_h0 [.l l1, .l g2, .i s.1, .i s.2]
def f_s_l16Subsums_g0_1 : List Sh := [.u, .u, .u, .u, .u, .p (.int .i64), .u, .u, .u, .u, .u, .u, .u, .u, .u, .u, .u, .u, .u, .u, .u, .u, .u, .u, .u, .u, .u, .u, .u]
def f_s_l16Subsums_x0_1 (l1 : List Sc) (g2 : List Sc) (e : Int) : X × List AV := (.out 0, enc f_s_l16Subsums_g0_1 [.i e])
def f_s_l16Subsums_x0_2 (l1 : List Sc) (g2 : List Sc) (_e : Unit) : X × List AV := (.ret, [])
theorem f_s_l16Subsums_p0 {R : Type} (l1 : List Sc) (g2 : List Sc) (s : Int × Int) (kN : Int × Int → Option R) (kA : Int → Option R) (kB : Unit → Option R) : f_s_l16Subsums_k0 l1 g2 s.1 s.2 kN kA = (f_s_l16Subsums_r0 l1 g2 s).bind (Ro.el kN kA kB) := by
  simp only [f_s_l16Subsums_k0, f_s_l16Subsums_r0, brB, boB, someB, noneB, Ro.el]
theorem f_s_l16Subsums_e0 (l1 : List Sc) (g2 : List Sc) (s : Int × Int) : EC E0 f_s_l16Subsums_M H0 f_s_l16Subsums_F (asL (noL)) 0 (bodyOf Try.f57 0) (f_s_l16Subsums_fr0 l1 g2 s) (done (klOf f_s_l16Subsums_F 0)) = f_s_l16Subsums_k0 l1 g2 s.1 s.2 (fun s => some (.norm, f_s_l16Subsums_fr0 l1 g2 s)) (fun e => some (f_s_l16Subsums_x0_1 l1 g2 e)) := by kernel_rfl
theorem f_s_l16Subsums_l0 (l1 : List Sc) (g2 : List Sc) : ∀ s r, loopL (f_s_l16Subsums_r0 l1 g2) s = some r → LS Try.prog f_s_l16Subsums_F (bodyOf Try.f57 0) (f_s_l16Subsums_fr0 l1 g2 s) (enX (f_s_l16Subsums_x0_1 l1 g2) (f_s_l16Subsums_x0_2 l1 g2) r) :=
  loop_true E0ok f_s_l16Subsums_Mt (noL_true) f_s_l16Subsums_o (fun _ h => by cases h) (fun _ h => by cases h) (fun s => (f_s_l16Subsums_e0 l1 g2 s).trans (f_s_l16Subsums_p0 l1 g2 s _ _ (fun e => some (f_s_l16Subsums_x0_2 l1 g2 e))))
def f_s_l16Subsums_t0 (σ : List AV) : Option (Bool × Bool × (X × List AV) × (X × List AV)) := match dec f_s_l16Subsums_h0 σ with
  | some [.l l1, .l g2, .i out5, .i i6] => some (isOne (loopL (f_s_l16Subsums_r0 l1 g2) (out5, i6)), true, f_s_l16Subsums_x0_1 l1 g2 (getOne 0 (loopL (f_s_l16Subsums_r0 l1 g2) (out5, i6))), (.ret, []))
  | _ => none
theorem f_s_l16Subsums_tt0 : TTrue Try.prog f_s_l16Subsums_F Try.f57 0 (f_s_l16Subsums_t0) := by
  intro σ p r r' h
  unfold f_s_l16Subsums_t0 at h
  split at h
  · rename_i hd
    rw [← dec_enc hd]
    exact row1 (f_s_l16Subsums_l0 _ _ _) h
  · cases h
theorem f_s_l16Subsums_p {R : Type} (g0 : List Sc) (l1 : List Sc) (kR : Int → Option R) : f_s_l16Subsums_k g0 l1 kR = (f_s_l16Subsums_k g0 l1 some).bind kR := by
  simp only [f_s_l16Subsums_k, bl1B, someB]
theorem f_s_l16Subsums_e (g0 : List Sc) (l1 : List Sc) : runFn E0 f_s_l16Subsums_M H0 f_s_l16Subsums_F (asL (addL 0 (f_s_l16Subsums_t0) (noL))) Try.f57 (f_s_l16Subsums_a g0 l1) (f_s_l16Subsums_i g0 l1) = f_s_l16Subsums_k g0 l1 (fun r => some (f_s_l16Subsums_en r)) := by kernel_rfl
theorem f_s_l16Subsums_ok (g0 : List Sc) (l1 : List Sc) (r : Int) (h : f_s_l16Subsums g0 l1 = some r) : CS Try.prog 57 (f_s_l16Subsums_a g0 l1) (f_s_l16Subsums_i g0 l1) (f_s_l16Subsums_en r).1 (f_s_l16Subsums_en r).2 :=
  fn_true (Gk := fun k => f_s_l16Subsums_k g0 l1 k) (en := f_s_l16Subsums_en) Try.func57 E0ok f_s_l16Subsums_Mt (addL_true (f_s_l16Subsums_tt0) (noL_true)) f_s_l16Subsums_o (f_s_l16Subsums_e g0 l1) (f_s_l16Subsums_p g0 l1) h
def f_s_l16Subsums_c : CRow := fun args inh => match dec2 [.p .gr, .p .sl] [] args inh with
  | some ([.l g0, .l l1], []) => some ((f_s_l16Subsums g0 l1).isSome, (f_s_l16Subsums_en ((f_s_l16Subsums g0 l1).getD 0)).1, (f_s_l16Subsums_en ((f_s_l16Subsums g0 l1).getD 0)).2)
  | _ => none
theorem f_s_l16Subsums_cc : CTrue Try.prog 57 f_s_l16Subsums_c := by
  intro args inh rs out h
  unfold f_s_l16Subsums_c at h
  split at h
  · rename_i hd
    obtain ⟨h1, h2⟩ := dec2_enc hd
    rw [← h1, ← h2]
    exact rowC (f_s_l16Subsums_ok _ _) h
  · cases h

def f_s_IsZeroFree_F : Fi := { nv := 0, nc := 0, m := 0, vt := [], kl := [], sk := [], mvs := [], fz := [] }
def f_s_IsZeroFree_a (g0 : List Sc) (l1 : List Sc) : List AV := enc [.p .gr, .p .sl] [.l g0, .l l1]
def f_s_IsZeroFree_i (g0 : List Sc) (l1 : List Sc) : List AV := enc [] []
def f_s_IsZeroFree_en (r : Bool) : List AV × List AV := (enc [.p .boo] [.b r], enc [] [])
def f_s_IsZeroFree_M : Calling := addC 45 f_s_IsSequence_c (addC 57 f_s_l16Subsums_c (noC))
theorem f_s_IsZeroFree_Mt : CallOk Try.prog (f_s_IsZeroFree_M) := addC_true f_s_IsSequence_cc (addC_true f_s_l16Subsums_cc (noC_true))
theorem f_s_IsZeroFree_o : loopsOnce Try.f52 = true := by kernel_rfl
theorem f_s_IsZeroFree_p {R : Type} (g0 : List Sc) (l1 : List Sc) (kR : Bool → Option R) : f_s_IsZeroFree_k g0 l1 kR = (f_s_IsZeroFree_k g0 l1 some).bind kR := by
  simp only [f_s_IsZeroFree_k, brB, boB, someB]
theorem f_s_IsZeroFree_e (g0 : List Sc) (l1 : List Sc) : runFn E0 f_s_IsZeroFree_M H0 f_s_IsZeroFree_F (asL (noL)) Try.f52 (f_s_IsZeroFree_a g0 l1) (f_s_IsZeroFree_i g0 l1) = f_s_IsZeroFree_k g0 l1 (fun r => some (f_s_IsZeroFree_en r)) := by kernel_rfl
theorem f_s_IsZeroFree_ok (g0 : List Sc) (l1 : List Sc) (r : Bool) (h : f_s_IsZeroFree g0 l1 = some r) : CS Try.prog 52 (f_s_IsZeroFree_a g0 l1) (f_s_IsZeroFree_i g0 l1) (f_s_IsZeroFree_en r).1 (f_s_IsZeroFree_en r).2 :=
  fn_true (Gk := fun k => f_s_IsZeroFree_k g0 l1 k) (en := f_s_IsZeroFree_en) Try.func52 E0ok f_s_IsZeroFree_Mt (noL_true) f_s_IsZeroFree_o (f_s_IsZeroFree_e g0 l1) (f_s_IsZeroFree_p g0 l1) h
def f_s_IsZeroFree_c : CRow := fun args inh => match dec2 [.p .gr, .p .sl] [] args inh with
  | some ([.l g0, .l l1], []) => some ((f_s_IsZeroFree g0 l1).isSome, (f_s_IsZeroFree_en ((f_s_IsZeroFree g0 l1).getD false)).1, (f_s_IsZeroFree_en ((f_s_IsZeroFree g0 l1).getD false)).2)
  | _ => none
theorem f_s_IsZeroFree_cc : CTrue Try.prog 52 f_s_IsZeroFree_c := by
  intro args inh rs out h
  unfold f_s_IsZeroFree_c at h
  split at h
  · rename_i hd
    obtain ⟨h1, h2⟩ := dec2_enc hd
    rw [← h1, ← h2]
    exact rowC (f_s_IsZeroFree_ok _ _) h
  · cases h

def f_s_CyclicStructure_F : Fi := { nv := 0, nc := 0, m := 0, vt := [], kl := [(0, ([0, 2, 3, 4, 5, 7, 8, 9, 10, 11, 12, 13, 14, 15, 16, 17, 18, 19, 20, 21, 22, 23, 24, 25, 26, 27, 28, 29, 30, 31, 32, 33, 34, 35, 36, 37, 38, 39, 40, 41, 42, 43, 44, 45, 46], [0, 2, 3, 4, 5, 6, 7, 8, 9, 10, 11, 12, 13, 14, 15, 16, 17, 18, 19, 20, 21, 22, 23, 24, 25, 26, 27, 28, 29, 30, 31, 32, 33, 34, 35, 36, 37, 38, 39, 40, 41, 42, 43, 44, 45, 46], [0, 1, 2, 3, 6, 7, 8, 9, 10, 11, 12, 13, 14, 15, 16, 17, 18, 19, 20, 21, 22, 23, 24, 25, 26, 27, 28, 29, 30, 31, 32, 33, 34, 35, 36, 37, 38, 39, 40, 41, 42, 43, 44, 45, 46]))], sk := [], mvs := [], fz := [] }
def f_s_CyclicStructure_a (g0 : List Sc) (l1 : List Sc) : List AV := enc [.p .gr, .p .sl] [.l g0, .l l1]
def f_s_CyclicStructure_i (g0 : List Sc) (l1 : List Sc) : List AV := enc [] []
def f_s_CyclicStructure_en (r : Int × Bool) : List AV × List AV := (enc [.p (.int .i64), .p .boo] [.i r.1, .b r.2], enc [] [])
def f_s_CyclicStructure_M : Calling := addC 52 f_s_IsZeroFree_c (addC 53 f_s_l2Order_c (noC))
theorem f_s_CyclicStructure_Mt : CallOk Try.prog (f_s_CyclicStructure_M) := addC_true f_s_IsZeroFree_cc (addC_true f_s_l2Order_cc (noC_true))
theorem f_s_CyclicStructure_o : loopsOnce Try.f21 = true := by kernel_rfl
def f_s_CyclicStructure_h0 : List Sh := [.u, .p .sl, .u, .u, .u, .u, .p (.int .i64), .u, .u, .u, .u, .u, .u, .u, .u, .u, .u, .u, .u, .u, .u, .u, .u, .u, .u, .u, .u, .u, .u, .u, .u, .u, .u, .u, .u, .u, .u, .u, .u, .u, .u, .u, .u, .u, .u, .u, .u]
def f_s_CyclicStructure_fr0 (l1 : List Sc) (s : Int) : List AV := enc f_s_CyclicStructure_h0 [.l l1, .i s]
def f_s_CyclicStructure_g0_1 : List Sh := [.u, .p .sl, .u, .u, .u, .u, .u, .u, .u, .u, .u, .u, .u, .u, .u, .u, .u, .u, .u, .u, .u, .u, .u, .u, .u, .u, .u, .u, .u, .u, .u, .u, .u, .u, .u, .u, .u, .u, .u, .u, .u, .u, .u, .u, .u, .u, .u]
def f_s_CyclicStructure_x0_1 (l1 : List Sc) (e : Unit) : X × List AV := (.out 0, enc f_s_CyclicStructure_g0_1 [.l l1])
def f_s_CyclicStructure_g0_2 : List Sh := [.u, .u, .u, .u, .p (.int .i64), .p .boo, .u, .u, .u, .u, .u, .u, .u, .u, .u, .u, .u, .u, .u, .u, .u, .u, .u, .u, .u, .u, .u, .u, .u, .u, .u, .u, .u, .u, .u, .u, .u, .u, .u, .u, .u, .u, .u, .u, .u, .u, .u]
def f_s_CyclicStructure_x0_2 (l1 : List Sc) (e : Unit) : X × List AV := (.ret, enc f_s_CyclicStructure_g0_2 [.i 0, .b false])
theorem f_s_CyclicStructure_p0 {R : Type} (l1 : List Sc) (s : Int) (kN : Int → Option R) (kA : Unit → Option R) (kB : Unit → Option R) : f_s_CyclicStructure_k0 l1 s kN kA kB = (f_s_CyclicStructure_r0 l1 s).bind (Ro.el kN kA kB) := by
  simp only [f_s_CyclicStructure_k0, f_s_CyclicStructure_r0, brB, someB, noneB, Ro.el]
theorem f_s_CyclicStructure_e0 (l1 : List Sc) (s : Int) : EC E0 f_s_CyclicStructure_M H0 f_s_CyclicStructure_F (asL (noL)) 0 (bodyOf Try.f21 0) (f_s_CyclicStructure_fr0 l1 s) (done (klOf f_s_CyclicStructure_F 0)) = f_s_CyclicStructure_k0 l1 s (fun s => some (.norm, f_s_CyclicStructure_fr0 l1 s)) (fun e => some (f_s_CyclicStructure_x0_1 l1 e)) (fun e => some (f_s_CyclicStructure_x0_2 l1 e)) := by kernel_rfl
theorem f_s_CyclicStructure_l0 (l1 : List Sc) : ∀ s r, loopL (f_s_CyclicStructure_r0 l1) s = some r → LS Try.prog f_s_CyclicStructure_F (bodyOf Try.f21 0) (f_s_CyclicStructure_fr0 l1 s) (enX (f_s_CyclicStructure_x0_1 l1) (f_s_CyclicStructure_x0_2 l1) r) :=
  loop_true E0ok f_s_CyclicStructure_Mt (noL_true) f_s_CyclicStructure_o (fun _ h => by cases h) (fun _ h => by cases h) (fun s => (f_s_CyclicStructure_e0 l1 s).trans (f_s_CyclicStructure_p0 l1 s _ _ (fun e => some (f_s_CyclicStructure_x0_2 l1 e))))
def f_s_CyclicStructure_t0 (σ : List AV) : Option (Bool × Bool × (X × List AV) × (X × List AV)) := match dec f_s_CyclicStructure_h0 σ with
  | some [.l l1, .i i6] => some ((loopL (f_s_CyclicStructure_r0 l1) i6).isSome, isOne (loopL (f_s_CyclicStructure_r0 l1) i6), f_s_CyclicStructure_x0_1 l1 (getOne () (loopL (f_s_CyclicStructure_r0 l1) i6)), f_s_CyclicStructure_x0_2 l1 (getTwo () (loopL (f_s_CyclicStructure_r0 l1) i6)))
  | _ => none
theorem f_s_CyclicStructure_tt0 : TTrue Try.prog f_s_CyclicStructure_F Try.f21 0 (f_s_CyclicStructure_t0) := by
  intro σ p r r' h
  unfold f_s_CyclicStructure_t0 at h
  split at h
  · rename_i hd
    rw [← dec_enc hd]
    exact row2 (f_s_CyclicStructure_l0 _ _) h
  · cases h
theorem f_s_CyclicStructure_p {R : Type} (g0 : List Sc) (l1 : List Sc) (kR : Int × Bool → Option R) : f_s_CyclicStructure_k g0 l1 kR = (f_s_CyclicStructure_k g0 l1 some).bind kR := by
  simp only [f_s_CyclicStructure_k, brB, boB, blB, someB, noneB]
theorem f_s_CyclicStructure_e (g0 : List Sc) (l1 : List Sc) : runFn E0 f_s_CyclicStructure_M H0 f_s_CyclicStructure_F (asL (addL 0 (f_s_CyclicStructure_t0) (noL))) Try.f21 (f_s_CyclicStructure_a g0 l1) (f_s_CyclicStructure_i g0 l1) = f_s_CyclicStructure_k g0 l1 (fun r => some (f_s_CyclicStructure_en r)) := by kernel_rfl
theorem f_s_CyclicStructure_ok (g0 : List Sc) (l1 : List Sc) (r : Int × Bool) (h : f_s_CyclicStructure g0 l1 = some r) : CS Try.prog 21 (f_s_CyclicStructure_a g0 l1) (f_s_CyclicStructure_i g0 l1) (f_s_CyclicStructure_en r).1 (f_s_CyclicStructure_en r).2 :=
  fn_true (Gk := fun k => f_s_CyclicStructure_k g0 l1 k) (en := f_s_CyclicStructure_en) Try.func21 E0ok f_s_CyclicStructure_Mt (addL_true (f_s_CyclicStructure_tt0) (noL_true)) f_s_CyclicStructure_o (f_s_CyclicStructure_e g0 l1) (f_s_CyclicStructure_p g0 l1) h
def f_s_CyclicStructure_c : CRow := fun args inh => match dec2 [.p .gr, .p .sl] [] args inh with
  | some ([.l g0, .l l1], []) => some ((f_s_CyclicStructure g0 l1).isSome, (f_s_CyclicStructure_en ((f_s_CyclicStructure g0 l1).getD (0, false))).1, (f_s_CyclicStructure_en ((f_s_CyclicStructure g0 l1).getD (0, false))).2)
  | _ => none
theorem f_s_CyclicStructure_cc : CTrue Try.prog 21 f_s_CyclicStructure_c := by
  intro args inh rs out h
  unfold f_s_CyclicStructure_c at h
  split at h
  · rename_i hd
    obtain ⟨h1, h2⟩ := dec2_enc hd
    rw [← h1, ← h2]
    exact rowC (f_s_CyclicStructure_ok _ _) h
  · cases h

def f_i_within_F : Fi := { nv := 0, nc := 0, m := 0, vt := [], kl := [], sk := [], mvs := [], fz := [] }
def f_i_within_a (x0 : Int) (lo1 : Int) (hi2 : Int) : List AV := enc [.p (.int .i64), .p (.int .i64), .p (.int .i64)] [.i x0, .i lo1, .i hi2]
def f_i_within_i (x0 : Int) (lo1 : Int) (hi2 : Int) : List AV := enc [] []
def f_i_within_en (r : Bool) : List AV × List AV := (enc [.p .boo] [.b r], enc [] [])
def f_i_within_M : Calling := noC
theorem f_i_within_Mt : CallOk Try.prog (f_i_within_M) := noC_true
theorem f_i_within_o : loopsOnce Try.f70 = true := by kernel_rfl
theorem f_i_within_p {R : Type} (x0 : Int) (lo1 : Int) (hi2 : Int) (kR : Bool → Option R) : f_i_within_k x0 lo1 hi2 kR = (f_i_within_k x0 lo1 hi2 some).bind kR := by
  simp only [f_i_within_k, brB, someB]
theorem f_i_within_e (x0 : Int) (lo1 : Int) (hi2 : Int) : runFn E0 f_i_within_M H0 f_i_within_F (asL (noL)) Try.f70 (f_i_within_a x0 lo1 hi2) (f_i_within_i x0 lo1 hi2) = f_i_within_k x0 lo1 hi2 (fun r => some (f_i_within_en r)) := by kernel_rfl
theorem f_i_within_ok (x0 : Int) (lo1 : Int) (hi2 : Int) (r : Bool) (h : f_i_within x0 lo1 hi2 = some r) : CS Try.prog 70 (f_i_within_a x0 lo1 hi2) (f_i_within_i x0 lo1 hi2) (f_i_within_en r).1 (f_i_within_en r).2 :=
  fn_true (Gk := fun k => f_i_within_k x0 lo1 hi2 k) (en := f_i_within_en) Try.func70 E0ok f_i_within_Mt (noL_true) f_i_within_o (f_i_within_e x0 lo1 hi2) (f_i_within_p x0 lo1 hi2) h
def f_i_within_c : CRow := fun args inh => match dec2 [.p (.int .i64), .p (.int .i64), .p (.int .i64)] [] args inh with
  | some ([.i x0, .i lo1, .i hi2], []) => some ((f_i_within x0 lo1 hi2).isSome, (f_i_within_en ((f_i_within x0 lo1 hi2).getD false)).1, (f_i_within_en ((f_i_within x0 lo1 hi2).getD false)).2)
  | _ => none
theorem f_i_within_cc : CTrue Try.prog 70 f_i_within_c := by
  intro args inh rs out h
  unfold f_i_within_c at h
  split at h
  · rename_i hd
    obtain ⟨h1, h2⟩ := dec2_enc hd
    rw [← h1, ← h2]
    exact rowC (f_i_within_ok _ _ _) h
  · cases h

def f_i_IsGroup_F : Fi := { nv := 0, nc := 0, m := 0, vt := [], kl := [(0, ([0, 1, 2, 4, 5, 6, 7, 8, 9, 10, 14, 15, 16, 17, 18, 19, 20, 21, 22, 23, 24, 25], [0, 1, 2, 4, 5, 6, 7, 8, 9, 10, 11, 12, 13, 14, 15, 16, 17, 18, 19, 20, 21, 22, 23, 24, 25], [0, 1, 3, 4, 5, 6, 7, 8, 9, 10, 11, 12, 13, 14, 15, 16, 17, 18, 19, 20, 21, 22, 23, 24, 25]))], sk := [], mvs := [], fz := [] }
def f_i_IsGroup_a (g0 : List Sc) : List AV := enc [.p .gr] [.l g0]
def f_i_IsGroup_i (g0 : List Sc) : List AV := enc [] []
def f_i_IsGroup_en (r : Bool) : List AV × List AV := (enc [.p .boo] [.b r], enc [] [])
def f_i_IsGroup_M : Calling := addC 70 f_i_within_c (noC)
theorem f_i_IsGroup_Mt : CallOk Try.prog (f_i_IsGroup_M) := addC_true f_i_within_cc (noC_true)
theorem f_i_IsGroup_o : loopsOnce Try.f91 = true := by kernel_rfl
def f_i_IsGroup_h0 : List Sh := [.u, .u, .u, .p (.int .i64), .u, .u, .u, .u, .u, .u, .u, .p .sl, .p (.int .i64), .p (.int .i64), .u, .u, .u, .u, .u, .u, .u, .u, .u, .u, .u, .u]
def f_i_IsGroup_fr0 (t11 : List Sc) (t12 : Int) (s : Int × Int) : List AV := enc f_i_IsGroup_h0 [.i s.1, .l t11, .i t12, .i s.2]
def f_i_IsGroup_g0_1 : List Sh := [.u, .u, .u, .p (.int .i64), .u, .u, .u, .u, .u, .u, .u, .u, .u, .u, .u, .u, .u, .u, .u, .u, .u, .u, .u, .u, .u, .u]
def f_i_IsGroup_x0_1 (t11 : List Sc) (t12 : Int) (e : Int) : X × List AV := (.out 0, enc f_i_IsGroup_g0_1 [.i e])
def f_i_IsGroup_g0_2 : List Sh := [.u, .u, .p .boo, .u, .u, .u, .u, .u, .u, .u, .u, .u, .u, .u, .u, .u, .u, .u, .u, .u, .u, .u, .u, .u, .u, .u]
def f_i_IsGroup_x0_2 (t11 : List Sc) (t12 : Int) (e : Unit) : X × List AV := (.ret, enc f_i_IsGroup_g0_2 [.b false])
theorem f_i_IsGroup_p0 {R : Type} (t11 : List Sc) (t12 : Int) (s : Int × Int) (kN : Int × Int → Option R) (kA : Int → Option R) (kB : Unit → Option R) : f_i_IsGroup_k0 t11 t12 s.1 s.2 kN kA kB = (f_i_IsGroup_r0 t11 t12 s).bind (Ro.el kN kA kB) := by
  simp only [f_i_IsGroup_k0, f_i_IsGroup_r0, brB, boB, someB, noneB, Ro.el]
theorem f_i_IsGroup_e0 (t11 : List Sc) (t12 : Int) (s : Int × Int) : EC E0 f_i_IsGroup_M H0 f_i_IsGroup_F (asL (noL)) 0 (bodyOf Try.f91 0) (f_i_IsGroup_fr0 t11 t12 s) (done (klOf f_i_IsGroup_F 0)) = f_i_IsGroup_k0 t11 t12 s.1 s.2 (fun s => some (.norm, f_i_IsGroup_fr0 t11 t12 s)) (fun e => some (f_i_IsGroup_x0_1 t11 t12 e)) (fun e => some (f_i_IsGroup_x0_2 t11 t12 e)) := by kernel_rfl
theorem f_i_IsGroup_l0 (t11 : List Sc) (t12 : Int) : ∀ s r, loopL (f_i_IsGroup_r0 t11 t12) s = some r → LS Try.prog f_i_IsGroup_F (bodyOf Try.f91 0) (f_i_IsGroup_fr0 t11 t12 s) (enX (f_i_IsGroup_x0_1 t11 t12) (f_i_IsGroup_x0_2 t11 t12) r) :=
  loop_true E0ok f_i_IsGroup_Mt (noL_true) f_i_IsGroup_o (fun _ h => by cases h) (fun _ h => by cases h) (fun s => (f_i_IsGroup_e0 t11 t12 s).trans (f_i_IsGroup_p0 t11 t12 s _ _ (fun e => some (f_i_IsGroup_x0_2 t11 t12 e))))
def f_i_IsGroup_t0 (σ : List AV) : Option (Bool × Bool × (X × List AV) × (X × List AV)) := match dec f_i_IsGroup_h0 σ with
  | some [.i n3, .l t11, .i t12, .i t13] => some ((loopL (f_i_IsGroup_r0 t11 t12) (n3, t13)).isSome, isOne (loopL (f_i_IsGroup_r0 t11 t12) (n3, t13)), f_i_IsGroup_x0_1 t11 t12 (getOne 0 (loopL (f_i_IsGroup_r0 t11 t12) (n3, t13))), f_i_IsGroup_x0_2 t11 t12 (getTwo () (loopL (f_i_IsGroup_r0 t11 t12) (n3, t13))))
  | _ => none
theorem f_i_IsGroup_tt0 : TTrue Try.prog f_i_IsGroup_F Try.f91 0 (f_i_IsGroup_t0) := by
  intro σ p r r' h
  unfold f_i_IsGroup_t0 at h
  split at h
  · rename_i hd
    rw [← dec_enc hd]
    exact row2 (f_i_IsGroup_l0 _ _ _) h
  · cases h
theorem f_i_IsGroup_p {R : Type} (g0 : List Sc) (kR : Bool → Option R) : f_i_IsGroup_k g0 kR = (f_i_IsGroup_k g0 some).bind kR := by
  simp only [f_i_IsGroup_k, brB, blB, someB]
theorem f_i_IsGroup_e (g0 : List Sc) : runFn E0 f_i_IsGroup_M H0 f_i_IsGroup_F (asL (addL 0 (f_i_IsGroup_t0) (noL))) Try.f91 (f_i_IsGroup_a g0) (f_i_IsGroup_i g0) = f_i_IsGroup_k g0 (fun r => some (f_i_IsGroup_en r)) := by kernel_rfl
theorem f_i_IsGroup_ok (g0 : List Sc) (r : Bool) (h : f_i_IsGroup g0 = some r) : CS Try.prog 91 (f_i_IsGroup_a g0) (f_i_IsGroup_i g0) (f_i_IsGroup_en r).1 (f_i_IsGroup_en r).2 :=
  fn_true (Gk := fun k => f_i_IsGroup_k g0 k) (en := f_i_IsGroup_en) Try.func91 E0ok f_i_IsGroup_Mt (addL_true (f_i_IsGroup_tt0) (noL_true)) f_i_IsGroup_o (f_i_IsGroup_e g0) (f_i_IsGroup_p g0) h
def f_i_IsGroup_c : CRow := fun args inh => match dec2 [.p .gr] [] args inh with
  | some ([.l g0], []) => some ((f_i_IsGroup g0).isSome, (f_i_IsGroup_en ((f_i_IsGroup g0).getD false)).1, (f_i_IsGroup_en ((f_i_IsGroup g0).getD false)).2)
  | _ => none
theorem f_i_IsGroup_cc : CTrue Try.prog 91 f_i_IsGroup_c := by
  intro args inh rs out h
  unfold f_i_IsGroup_c at h
  split at h
  · rename_i hd
    obtain ⟨h1, h2⟩ := dec2_enc hd
    rw [← h1, ← h2]
    exact rowC (f_i_IsGroup_ok _) h
  · cases h

def f_i_OrderOf_F : Fi := { nv := 0, nc := 0, m := 0, vt := [], kl := [(0, ([0, 1, 2, 4, 5, 6, 7, 8, 9, 13, 14, 15, 16, 17, 18, 19, 20], [0, 1, 2, 4, 5, 6, 7, 8, 9, 10, 11, 12, 13, 14, 15, 16, 17, 18, 19, 20], [0, 1, 3, 4, 5, 6, 7, 8, 9, 10, 11, 12, 13, 14, 15, 16, 17, 18, 19, 20]))], sk := [], mvs := [], fz := [] }
def f_i_OrderOf_a (g0 : List Sc) : List AV := enc [.p .gr] [.l g0]
def f_i_OrderOf_i (g0 : List Sc) : List AV := enc [] []
def f_i_OrderOf_en (r : Int) : List AV × List AV := (enc [.p (.int .i64)] [.i r], enc [] [])
def f_i_OrderOf_M : Calling := addC 91 f_i_IsGroup_c (noC)
theorem f_i_OrderOf_Mt : CallOk Try.prog (f_i_OrderOf_M) := addC_true f_i_IsGroup_cc (noC_true)
theorem f_i_OrderOf_o : loopsOnce Try.f55 = true := by kernel_rfl
def f_i_OrderOf_h0 : List Sh := [.u, .u, .u, .p (.int .i64), .u, .u, .u, .u, .u, .u, .p .sl, .p (.int .i64), .p (.int .i64), .u, .u, .u, .u, .u, .u, .u, .u]
def f_i_OrderOf_fr0 (t10 : List Sc) (t11 : Int) (s : Int × Int) : List AV := enc f_i_OrderOf_h0 [.i s.1, .l t10, .i t11, .i s.2]
def f_i_OrderOf_g0_1 : List Sh := [.u, .u, .u, .p (.int .i64), .u, .u, .u, .u, .u, .u, .u, .u, .u, .u, .u, .u, .u, .u, .u, .u, .u]
def f_i_OrderOf_x0_1 (t10 : List Sc) (t11 : Int) (e : Int) : X × List AV := (.out 0, enc f_i_OrderOf_g0_1 [.i e])
def f_i_OrderOf_x0_2 (t10 : List Sc) (t11 : Int) (_e : Unit) : X × List AV := (.ret, [])
theorem f_i_OrderOf_p0 {R : Type} (t10 : List Sc) (t11 : Int) (s : Int × Int) (kN : Int × Int → Option R) (kA : Int → Option R) (kB : Unit → Option R) : f_i_OrderOf_k0 t10 t11 s.1 s.2 kN kA = (f_i_OrderOf_r0 t10 t11 s).bind (Ro.el kN kA kB) := by
  simp only [f_i_OrderOf_k0, f_i_OrderOf_r0, brB, someB, noneB, Ro.el]
theorem f_i_OrderOf_e0 (t10 : List Sc) (t11 : Int) (s : Int × Int) : EC E0 f_i_OrderOf_M H0 f_i_OrderOf_F (asL (noL)) 0 (bodyOf Try.f55 0) (f_i_OrderOf_fr0 t10 t11 s) (done (klOf f_i_OrderOf_F 0)) = f_i_OrderOf_k0 t10 t11 s.1 s.2 (fun s => some (.norm, f_i_OrderOf_fr0 t10 t11 s)) (fun e => some (f_i_OrderOf_x0_1 t10 t11 e)) := by kernel_rfl
theorem f_i_OrderOf_l0 (t10 : List Sc) (t11 : Int) : ∀ s r, loopL (f_i_OrderOf_r0 t10 t11) s = some r → LS Try.prog f_i_OrderOf_F (bodyOf Try.f55 0) (f_i_OrderOf_fr0 t10 t11 s) (enX (f_i_OrderOf_x0_1 t10 t11) (f_i_OrderOf_x0_2 t10 t11) r) :=
  loop_true E0ok f_i_OrderOf_Mt (noL_true) f_i_OrderOf_o (fun _ h => by cases h) (fun _ h => by cases h) (fun s => (f_i_OrderOf_e0 t10 t11 s).trans (f_i_OrderOf_p0 t10 t11 s _ _ (fun e => some (f_i_OrderOf_x0_2 t10 t11 e))))
def f_i_OrderOf_t0 (σ : List AV) : Option (Bool × Bool × (X × List AV) × (X × List AV)) := match dec f_i_OrderOf_h0 σ with
  | some [.i n3, .l t10, .i t11, .i t12] => some (isOne (loopL (f_i_OrderOf_r0 t10 t11) (n3, t12)), true, f_i_OrderOf_x0_1 t10 t11 (getOne 0 (loopL (f_i_OrderOf_r0 t10 t11) (n3, t12))), (.ret, []))
  | _ => none
theorem f_i_OrderOf_tt0 : TTrue Try.prog f_i_OrderOf_F Try.f55 0 (f_i_OrderOf_t0) := by
  intro σ p r r' h
  unfold f_i_OrderOf_t0 at h
  split at h
  · rename_i hd
    rw [← dec_enc hd]
    exact row1 (f_i_OrderOf_l0 _ _ _) h
  · cases h
theorem f_i_OrderOf_p {R : Type} (g0 : List Sc) (kR : Int → Option R) : f_i_OrderOf_k g0 kR = (f_i_OrderOf_k g0 some).bind kR := by
  simp only [f_i_OrderOf_k, brB, boB, bl1B, someB]
theorem f_i_OrderOf_e (g0 : List Sc) : runFn E0 f_i_OrderOf_M H0 f_i_OrderOf_F (asL (addL 0 (f_i_OrderOf_t0) (noL))) Try.f55 (f_i_OrderOf_a g0) (f_i_OrderOf_i g0) = f_i_OrderOf_k g0 (fun r => some (f_i_OrderOf_en r)) := by kernel_rfl
theorem f_i_OrderOf_ok (g0 : List Sc) (r : Int) (h : f_i_OrderOf g0 = some r) : CS Try.prog 55 (f_i_OrderOf_a g0) (f_i_OrderOf_i g0) (f_i_OrderOf_en r).1 (f_i_OrderOf_en r).2 :=
  fn_true (Gk := fun k => f_i_OrderOf_k g0 k) (en := f_i_OrderOf_en) Try.func55 E0ok f_i_OrderOf_Mt (addL_true (f_i_OrderOf_tt0) (noL_true)) f_i_OrderOf_o (f_i_OrderOf_e g0) (f_i_OrderOf_p g0) h
def f_i_OrderOf_c : CRow := fun args inh => match dec2 [.p .gr] [] args inh with
  | some ([.l g0], []) => some ((f_i_OrderOf g0).isSome, (f_i_OrderOf_en ((f_i_OrderOf g0).getD 0)).1, (f_i_OrderOf_en ((f_i_OrderOf g0).getD 0)).2)
  | _ => none
theorem f_i_OrderOf_cc : CTrue Try.prog 55 f_i_OrderOf_c := by
  intro args inh rs out h
  unfold f_i_OrderOf_c at h
  split at h
  · rename_i hd
    obtain ⟨h1, h2⟩ := dec2_enc hd
    rw [← h1, ← h2]
    exact rowC (f_i_OrderOf_ok _) h
  · cases h

def f_i_Group_has_F : Fi := { nv := 0, nc := 0, m := 0, vt := [], kl := [], sk := [], mvs := [], fz := [] }
def f_i_Group_has_a (g0 : List Sc) (x1 : Int) : List AV := enc [.p .gr, .p (.int .i64)] [.l g0, .i x1]
def f_i_Group_has_i (g0 : List Sc) (x1 : Int) : List AV := enc [] []
def f_i_Group_has_en (r : Bool) : List AV × List AV := (enc [.p .boo] [.b r], enc [] [])
def f_i_Group_has_M : Calling := addC 55 f_i_OrderOf_c (addC 70 f_i_within_c (noC))
theorem f_i_Group_has_Mt : CallOk Try.prog (f_i_Group_has_M) := addC_true f_i_OrderOf_cc (addC_true f_i_within_cc (noC_true))
theorem f_i_Group_has_o : loopsOnce Try.f90 = true := by kernel_rfl
theorem f_i_Group_has_p {R : Type} (g0 : List Sc) (x1 : Int) (kR : Bool → Option R) : f_i_Group_has_k g0 x1 kR = (f_i_Group_has_k g0 x1 some).bind kR := by
  simp only [f_i_Group_has_k, boB, someB]
theorem f_i_Group_has_e (g0 : List Sc) (x1 : Int) : runFn E0 f_i_Group_has_M H0 f_i_Group_has_F (asL (noL)) Try.f90 (f_i_Group_has_a g0 x1) (f_i_Group_has_i g0 x1) = f_i_Group_has_k g0 x1 (fun r => some (f_i_Group_has_en r)) := by kernel_rfl
theorem f_i_Group_has_ok (g0 : List Sc) (x1 : Int) (r : Bool) (h : f_i_Group_has g0 x1 = some r) : CS Try.prog 90 (f_i_Group_has_a g0 x1) (f_i_Group_has_i g0 x1) (f_i_Group_has_en r).1 (f_i_Group_has_en r).2 :=
  fn_true (Gk := fun k => f_i_Group_has_k g0 x1 k) (en := f_i_Group_has_en) Try.func90 E0ok f_i_Group_has_Mt (noL_true) f_i_Group_has_o (f_i_Group_has_e g0 x1) (f_i_Group_has_p g0 x1) h
def f_i_Group_has_c : CRow := fun args inh => match dec2 [.p .gr, .p (.int .i64)] [] args inh with
  | some ([.l g0, .i x1], []) => some ((f_i_Group_has g0 x1).isSome, (f_i_Group_has_en ((f_i_Group_has g0 x1).getD false)).1, (f_i_Group_has_en ((f_i_Group_has g0 x1).getD false)).2)
  | _ => none
theorem f_i_Group_has_cc : CTrue Try.prog 90 f_i_Group_has_c := by
  intro args inh rs out h
  unfold f_i_Group_has_c at h
  split at h
  · rename_i hd
    obtain ⟨h1, h2⟩ := dec2_enc hd
    rw [← h1, ← h2]
    exact rowC (f_i_Group_has_ok _ _) h
  · cases h

def f_cmp_isNaN_F : Fi := { nv := 0, nc := 0, m := 0, vt := [], kl := [], sk := [], mvs := [], fz := [] }
def f_cmp_isNaN_a (x0 : Int) : List AV := enc [.p (.int .i64)] [.i x0]
def f_cmp_isNaN_i (x0 : Int) : List AV := enc [] []
def f_cmp_isNaN_en (r : Bool) : List AV × List AV := (enc [.p .boo] [.b r], enc [] [])
def f_cmp_isNaN_M : Calling := noC
theorem f_cmp_isNaN_Mt : CallOk Try.prog (f_cmp_isNaN_M) := noC_true
theorem f_cmp_isNaN_o : loopsOnce Try.f123 = true := by kernel_rfl
theorem f_cmp_isNaN_p {R : Type} (x0 : Int) (kR : Bool → Option R) : f_cmp_isNaN_k x0 kR = (f_cmp_isNaN_k x0 some).bind kR := by
  simp only [f_cmp_isNaN_k, someB]
theorem f_cmp_isNaN_e (x0 : Int) : runFn E0 f_cmp_isNaN_M H0 f_cmp_isNaN_F (asL (noL)) Try.f123 (f_cmp_isNaN_a x0) (f_cmp_isNaN_i x0) = f_cmp_isNaN_k x0 (fun r => some (f_cmp_isNaN_en r)) := by kernel_rfl
theorem f_cmp_isNaN_ok (x0 : Int) (r : Bool) (h : f_cmp_isNaN x0 = some r) : CS Try.prog 123 (f_cmp_isNaN_a x0) (f_cmp_isNaN_i x0) (f_cmp_isNaN_en r).1 (f_cmp_isNaN_en r).2 :=
  fn_true (Gk := fun k => f_cmp_isNaN_k x0 k) (en := f_cmp_isNaN_en) Try.func123 E0ok f_cmp_isNaN_Mt (noL_true) f_cmp_isNaN_o (f_cmp_isNaN_e x0) (f_cmp_isNaN_p x0) h
def f_cmp_isNaN_c : CRow := fun args inh => match dec2 [.p (.int .i64)] [] args inh with
  | some ([.i x0], []) => some ((f_cmp_isNaN x0).isSome, (f_cmp_isNaN_en ((f_cmp_isNaN x0).getD false)).1, (f_cmp_isNaN_en ((f_cmp_isNaN x0).getD false)).2)
  | _ => none
theorem f_cmp_isNaN_cc : CTrue Try.prog 123 f_cmp_isNaN_c := by
  intro args inh rs out h
  unfold f_cmp_isNaN_c at h
  split at h
  · rename_i hd
    obtain ⟨h1, h2⟩ := dec2_enc hd
    rw [← h1, ← h2]
    exact rowC (f_cmp_isNaN_ok _) h
  · cases h

def f_cmp_Less_F : Fi := { nv := 0, nc := 0, m := 0, vt := [], kl := [], sk := [], mvs := [], fz := [] }
def f_cmp_Less_a (x0 : Int) (y1 : Int) : List AV := enc [.p (.int .i64), .p (.int .i64)] [.i x0, .i y1]
def f_cmp_Less_i (x0 : Int) (y1 : Int) : List AV := enc [] []
def f_cmp_Less_en (r : Bool) : List AV × List AV := (enc [.p .boo] [.b r], enc [] [])
def f_cmp_Less_M : Calling := addC 123 f_cmp_isNaN_c (noC)
theorem f_cmp_Less_Mt : CallOk Try.prog (f_cmp_Less_M) := addC_true f_cmp_isNaN_cc (noC_true)
theorem f_cmp_Less_o : loopsOnce Try.f109 = true := by kernel_rfl
theorem f_cmp_Less_p {R : Type} (x0 : Int) (y1 : Int) (kR : Bool → Option R) : f_cmp_Less_k x0 y1 kR = (f_cmp_Less_k x0 y1 some).bind kR := by
  simp only [f_cmp_Less_k, brB, boB, someB]
theorem f_cmp_Less_e (x0 : Int) (y1 : Int) : runFn E0 f_cmp_Less_M H0 f_cmp_Less_F (asL (noL)) Try.f109 (f_cmp_Less_a x0 y1) (f_cmp_Less_i x0 y1) = f_cmp_Less_k x0 y1 (fun r => some (f_cmp_Less_en r)) := by kernel_rfl
theorem f_cmp_Less_ok (x0 : Int) (y1 : Int) (r : Bool) (h : f_cmp_Less x0 y1 = some r) : CS Try.prog 109 (f_cmp_Less_a x0 y1) (f_cmp_Less_i x0 y1) (f_cmp_Less_en r).1 (f_cmp_Less_en r).2 :=
  fn_true (Gk := fun k => f_cmp_Less_k x0 y1 k) (en := f_cmp_Less_en) Try.func109 E0ok f_cmp_Less_Mt (noL_true) f_cmp_Less_o (f_cmp_Less_e x0 y1) (f_cmp_Less_p x0 y1) h
def f_cmp_Less_c : CRow := fun args inh => match dec2 [.p (.int .i64), .p (.int .i64)] [] args inh with
  | some ([.i x0, .i y1], []) => some ((f_cmp_Less x0 y1).isSome, (f_cmp_Less_en ((f_cmp_Less x0 y1).getD false)).1, (f_cmp_Less_en ((f_cmp_Less x0 y1).getD false)).2)
  | _ => none
theorem f_cmp_Less_cc : CTrue Try.prog 109 f_cmp_Less_c := by
  intro args inh rs out h
  unfold f_cmp_Less_c at h
  split at h
  · rename_i hd
    obtain ⟨h1, h2⟩ := dec2_enc hd
    rw [← h1, ← h2]
    exact rowC (f_cmp_Less_ok _ _) h
  · cases h

def f_slices_IsSorted_F : Fi := { nv := 0, nc := 0, m := 0, vt := [], kl := [(0, ([1, 2, 4, 5, 6, 7, 8, 9, 10, 11, 12, 13, 14, 15, 16, 17, 18, 19, 20], [0, 1, 2, 3, 4, 5, 6, 7, 8, 9, 10, 11, 12, 13, 14, 15, 16, 17, 18, 19, 20], [0, 1, 3, 4, 5, 6, 7, 8, 9, 10, 11, 12, 13, 14, 15, 16, 17, 18, 19, 20]))], sk := [], mvs := [], fz := [] }
def f_slices_IsSorted_a (x0 : List Sc) : List AV := enc [.p .sl] [.l x0]
def f_slices_IsSorted_i (x0 : List Sc) : List AV := enc [] []
def f_slices_IsSorted_en (r : Bool) : List AV × List AV := (enc [.p .boo] [.b r], enc [] [])
def f_slices_IsSorted_M : Calling := addC 109 f_cmp_Less_c (noC)
theorem f_slices_IsSorted_Mt : CallOk Try.prog (f_slices_IsSorted_M) := addC_true f_cmp_Less_cc (noC_true)
theorem f_slices_IsSorted_o : loopsOnce Try.f92 = true := by kernel_rfl
def f_slices_IsSorted_h0 : List Sh := [.p .sl, .u, .u, .p (.int .i64), .u, .u, .u, .u, .u, .u, .u, .u, .u, .u, .u, .u, .u, .u, .u, .u, .u]
def f_slices_IsSorted_fr0 (x0 : List Sc) (s : Int) : List AV := enc f_slices_IsSorted_h0 [.l x0, .i s]
def f_slices_IsSorted_g0_1 : List Sh := [.u, .u, .u, .u, .u, .u, .u, .u, .u, .u, .u, .u, .u, .u, .u, .u, .u, .u, .u, .u, .u]
def f_slices_IsSorted_x0_1 (x0 : List Sc) (e : Unit) : X × List AV := (.out 0, enc f_slices_IsSorted_g0_1 [])
def f_slices_IsSorted_g0_2 : List Sh := [.u, .u, .p .boo, .u, .u, .u, .u, .u, .u, .u, .u, .u, .u, .u, .u, .u, .u, .u, .u, .u, .u]
def f_slices_IsSorted_x0_2 (x0 : List Sc) (e : Unit) : X × List AV := (.ret, enc f_slices_IsSorted_g0_2 [.b false])
theorem f_slices_IsSorted_p0 {R : Type} (x0 : List Sc) (s : Int) (kN : Int → Option R) (kA : Unit → Option R) (kB : Unit → Option R) : f_slices_IsSorted_k0 x0 s kN kA kB = (f_slices_IsSorted_r0 x0 s).bind (Ro.el kN kA kB) := by
  simp only [f_slices_IsSorted_k0, f_slices_IsSorted_r0, brB, boB, someB, noneB, Ro.el]
theorem f_slices_IsSorted_e0 (x0 : List Sc) (s : Int) : EC E0 f_slices_IsSorted_M H0 f_slices_IsSorted_F (asL (noL)) 0 (bodyOf Try.f92 0) (f_slices_IsSorted_fr0 x0 s) (done (klOf f_slices_IsSorted_F 0)) = f_slices_IsSorted_k0 x0 s (fun s => some (.norm, f_slices_IsSorted_fr0 x0 s)) (fun e => some (f_slices_IsSorted_x0_1 x0 e)) (fun e => some (f_slices_IsSorted_x0_2 x0 e)) := by kernel_rfl
theorem f_slices_IsSorted_l0 (x0 : List Sc) : ∀ s r, loopL (f_slices_IsSorted_r0 x0) s = some r → LS Try.prog f_slices_IsSorted_F (bodyOf Try.f92 0) (f_slices_IsSorted_fr0 x0 s) (enX (f_slices_IsSorted_x0_1 x0) (f_slices_IsSorted_x0_2 x0) r) :=
  loop_true E0ok f_slices_IsSorted_Mt (noL_true) f_slices_IsSorted_o (fun _ h => by cases h) (fun _ h => by cases h) (fun s => (f_slices_IsSorted_e0 x0 s).trans (f_slices_IsSorted_p0 x0 s _ _ (fun e => some (f_slices_IsSorted_x0_2 x0 e))))
def f_slices_IsSorted_t0 (σ : List AV) : Option (Bool × Bool × (X × List AV) × (X × List AV)) := match dec f_slices_IsSorted_h0 σ with
  | some [.l x0, .i i3] => some ((loopL (f_slices_IsSorted_r0 x0) i3).isSome, isOne (loopL (f_slices_IsSorted_r0 x0) i3), f_slices_IsSorted_x0_1 x0 (getOne () (loopL (f_slices_IsSorted_r0 x0) i3)), f_slices_IsSorted_x0_2 x0 (getTwo () (loopL (f_slices_IsSorted_r0 x0) i3)))
  | _ => none
theorem f_slices_IsSorted_tt0 : TTrue Try.prog f_slices_IsSorted_F Try.f92 0 (f_slices_IsSorted_t0) := by
  intro σ p r r' h
  unfold f_slices_IsSorted_t0 at h
  split at h
  · rename_i hd
    rw [← dec_enc hd]
    exact row2 (f_slices_IsSorted_l0 _ _) h
  · cases h
theorem f_slices_IsSorted_p {R : Type} (x0 : List Sc) (kR : Bool → Option R) : f_slices_IsSorted_k x0 kR = (f_slices_IsSorted_k x0 some).bind kR := by
  simp only [f_slices_IsSorted_k, blB, someB]
theorem f_slices_IsSorted_e (x0 : List Sc) : runFn E0 f_slices_IsSorted_M H0 f_slices_IsSorted_F (asL (addL 0 (f_slices_IsSorted_t0) (noL))) Try.f92 (f_slices_IsSorted_a x0) (f_slices_IsSorted_i x0) = f_slices_IsSorted_k x0 (fun r => some (f_slices_IsSorted_en r)) := by kernel_rfl
theorem f_slices_IsSorted_ok (x0 : List Sc) (r : Bool) (h : f_slices_IsSorted x0 = some r) : CS Try.prog 92 (f_slices_IsSorted_a x0) (f_slices_IsSorted_i x0) (f_slices_IsSorted_en r).1 (f_slices_IsSorted_en r).2 :=
  fn_true (Gk := fun k => f_slices_IsSorted_k x0 k) (en := f_slices_IsSorted_en) Try.func92 E0ok f_slices_IsSorted_Mt (addL_true (f_slices_IsSorted_tt0) (noL_true)) f_slices_IsSorted_o (f_slices_IsSorted_e x0) (f_slices_IsSorted_p x0) h
def f_slices_IsSorted_c : CRow := fun args inh => match dec2 [.p .sl] [] args inh with
  | some ([.l x0], []) => some ((f_slices_IsSorted x0).isSome, (f_slices_IsSorted_en ((f_slices_IsSorted x0).getD false)).1, (f_slices_IsSorted_en ((f_slices_IsSorted x0).getD false)).2)
  | _ => none
theorem f_slices_IsSorted_cc : CTrue Try.prog 92 f_slices_IsSorted_c := by
  intro args inh rs out h
  unfold f_slices_IsSorted_c at h
  split at h
  · rename_i hd
    obtain ⟨h1, h2⟩ := dec2_enc hd
    rw [← h1, ← h2]
    exact rowC (f_slices_IsSorted_ok _) h
  · cases h

def f_i_IsSequence_F : Fi := { nv := 0, nc := 0, m := 0, vt := [], kl := [(0, ([0, 3, 4, 5, 6, 10, 11, 12, 13, 14, 15, 16, 17, 18, 19, 20, 21, 22, 23, 24, 25, 26, 27, 28], [0, 3, 4, 5, 6, 7, 8, 9, 10, 11, 12, 13, 14, 15, 16, 17, 18, 19, 20, 21, 22, 23, 24, 25, 26, 27, 28], [0, 1, 2, 3, 5, 6, 7, 8, 9, 10, 11, 12, 13, 14, 15, 16, 17, 18, 19, 20, 21, 22, 23, 24, 25, 26, 27, 28]))], sk := [], mvs := [], fz := [] }
def f_i_IsSequence_a (g0 : List Sc) (l1 : List Sc) : List AV := enc [.p .gr, .p .sl] [.l g0, .l l1]
def f_i_IsSequence_i (g0 : List Sc) (l1 : List Sc) : List AV := enc [] []
def f_i_IsSequence_en (r : Bool) : List AV × List AV := (enc [.p .boo] [.b r], enc [] [])
def f_i_IsSequence_M : Calling := addC 90 f_i_Group_has_c (addC 91 f_i_IsGroup_c (addC 92 f_slices_IsSorted_c (noC)))
theorem f_i_IsSequence_Mt : CallOk Try.prog (f_i_IsSequence_M) := addC_true f_i_Group_has_cc (addC_true f_i_IsGroup_cc (addC_true f_slices_IsSorted_cc (noC_true)))
theorem f_i_IsSequence_o : loopsOnce Try.f48 = true := by kernel_rfl
def f_i_IsSequence_h0 : List Sh := [.u, .p .sl, .p .el, .u, .u, .u, .u, .p .sl, .p (.int .i64), .p (.int .i64), .u, .u, .u, .u, .u, .u, .u, .u, .u, .u, .u, .u, .u, .u, .u, .u, .u, .u, .u]
def f_i_IsSequence_fr0 (l1 : List Sc) (g2 : List Sc) (t7 : List Sc) (t8 : Int) (s : Int) : List AV := enc f_i_IsSequence_h0 [.l l1, .l g2, .l t7, .i t8, .i s]
def f_i_IsSequence_g0_1 : List Sh := [.u, .p .sl, .p .el, .u, .u, .u, .u, .u, .u, .u, .u, .u, .u, .u, .u, .u, .u, .u, .u, .u, .u, .u, .u, .u, .u, .u, .u, .u, .u]
def f_i_IsSequence_x0_1 (l1 : List Sc) (g2 : List Sc) (t7 : List Sc) (t8 : Int) (e : Unit) : X × List AV := (.out 0, enc f_i_IsSequence_g0_1 [.l l1, .l g2])
def f_i_IsSequence_g0_2 : List Sh := [.u, .u, .u, .u, .p .boo, .u, .u, .u, .u, .u, .u, .u, .u, .u, .u, .u, .u, .u, .u, .u, .u, .u, .u, .u, .u, .u, .u, .u, .u]
def f_i_IsSequence_x0_2 (l1 : List Sc) (g2 : List Sc) (t7 : List Sc) (t8 : Int) (e : Unit) : X × List AV := (.ret, enc f_i_IsSequence_g0_2 [.b false])
theorem f_i_IsSequence_p0 {R : Type} (l1 : List Sc) (g2 : List Sc) (t7 : List Sc) (t8 : Int) (s : Int) (kN : Int → Option R) (kA : Unit → Option R) (kB : Unit → Option R) : f_i_IsSequence_k0 l1 g2 t7 t8 s kN kA kB = (f_i_IsSequence_r0 l1 g2 t7 t8 s).bind (Ro.el kN kA kB) := by
  simp only [f_i_IsSequence_k0, f_i_IsSequence_r0, brB, boB, someB, noneB, Ro.el]
theorem f_i_IsSequence_e0 (l1 : List Sc) (g2 : List Sc) (t7 : List Sc) (t8 : Int) (s : Int) : EC E0 f_i_IsSequence_M H0 f_i_IsSequence_F (asL (noL)) 0 (bodyOf Try.f48 0) (f_i_IsSequence_fr0 l1 g2 t7 t8 s) (done (klOf f_i_IsSequence_F 0)) = f_i_IsSequence_k0 l1 g2 t7 t8 s (fun s => some (.norm, f_i_IsSequence_fr0 l1 g2 t7 t8 s)) (fun e => some (f_i_IsSequence_x0_1 l1 g2 t7 t8 e)) (fun e => some (f_i_IsSequence_x0_2 l1 g2 t7 t8 e)) := by kernel_rfl
theorem f_i_IsSequence_l0 (l1 : List Sc) (g2 : List Sc) (t7 : List Sc) (t8 : Int) : ∀ s r, loopL (f_i_IsSequence_r0 l1 g2 t7 t8) s = some r → LS Try.prog f_i_IsSequence_F (bodyOf Try.f48 0) (f_i_IsSequence_fr0 l1 g2 t7 t8 s) (enX (f_i_IsSequence_x0_1 l1 g2 t7 t8) (f_i_IsSequence_x0_2 l1 g2 t7 t8) r) :=
  loop_true E0ok f_i_IsSequence_Mt (noL_true) f_i_IsSequence_o (fun _ h => by cases h) (fun _ h => by cases h) (fun s => (f_i_IsSequence_e0 l1 g2 t7 t8 s).trans (f_i_IsSequence_p0 l1 g2 t7 t8 s _ _ (fun e => some (f_i_IsSequence_x0_2 l1 g2 t7 t8 e))))
def f_i_IsSequence_t0 (σ : List AV) : Option (Bool × Bool × (X × List AV) × (X × List AV)) := match dec f_i_IsSequence_h0 σ with
  | some [.l l1, .l g2, .l t7, .i t8, .i t9] => some ((loopL (f_i_IsSequence_r0 l1 g2 t7 t8) t9).isSome, isOne (loopL (f_i_IsSequence_r0 l1 g2 t7 t8) t9), f_i_IsSequence_x0_1 l1 g2 t7 t8 (getOne () (loopL (f_i_IsSequence_r0 l1 g2 t7 t8) t9)), f_i_IsSequence_x0_2 l1 g2 t7 t8 (getTwo () (loopL (f_i_IsSequence_r0 l1 g2 t7 t8) t9)))
  | _ => none
theorem f_i_IsSequence_tt0 : TTrue Try.prog f_i_IsSequence_F Try.f48 0 (f_i_IsSequence_t0) := by
  intro σ p r r' h
  unfold f_i_IsSequence_t0 at h
  split at h
  · rename_i hd
    rw [← dec_enc hd]
    exact row2 (f_i_IsSequence_l0 _ _ _ _ _) h
  · cases h
theorem f_i_IsSequence_p {R : Type} (g0 : List Sc) (l1 : List Sc) (kR : Bool → Option R) : f_i_IsSequence_k g0 l1 kR = (f_i_IsSequence_k g0 l1 some).bind kR := by
  simp only [f_i_IsSequence_k, brB, boB, blB, someB]
theorem f_i_IsSequence_e (g0 : List Sc) (l1 : List Sc) : runFn E0 f_i_IsSequence_M H0 f_i_IsSequence_F (asL (addL 0 (f_i_IsSequence_t0) (noL))) Try.f48 (f_i_IsSequence_a g0 l1) (f_i_IsSequence_i g0 l1) = f_i_IsSequence_k g0 l1 (fun r => some (f_i_IsSequence_en r)) := by kernel_rfl
theorem f_i_IsSequence_ok (g0 : List Sc) (l1 : List Sc) (r : Bool) (h : f_i_IsSequence g0 l1 = some r) : CS Try.prog 48 (f_i_IsSequence_a g0 l1) (f_i_IsSequence_i g0 l1) (f_i_IsSequence_en r).1 (f_i_IsSequence_en r).2 :=
  fn_true (Gk := fun k => f_i_IsSequence_k g0 l1 k) (en := f_i_IsSequence_en) Try.func48 E0ok f_i_IsSequence_Mt (addL_true (f_i_IsSequence_tt0) (noL_true)) f_i_IsSequence_o (f_i_IsSequence_e g0 l1) (f_i_IsSequence_p g0 l1) h
def f_i_IsSequence_c : CRow := fun args inh => match dec2 [.p .gr, .p .sl] [] args inh with
  | some ([.l g0, .l l1], []) => some ((f_i_IsSequence g0 l1).isSome, (f_i_IsSequence_en ((f_i_IsSequence g0 l1).getD false)).1, (f_i_IsSequence_en ((f_i_IsSequence g0 l1).getD false)).2)
  | _ => none
theorem f_i_IsSequence_cc : CTrue Try.prog 48 f_i_IsSequence_c := by
  intro args inh rs out h
  unfold f_i_IsSequence_c at h
  split at h
  · rename_i hd
    obtain ⟨h1, h2⟩ := dec2_enc hd
    rw [← h1, ← h2]
    exact rowC (f_i_IsSequence_ok _ _) h
  · cases h

def f_i_Group_add_F : Fi := { nv := 0, nc := 0, m := 0, vt := [], kl := [(0, ([0, 3, 4, 5, 6, 9, 10, 11, 15, 16, 17, 18, 19, 20, 21, 22, 23, 24, 25, 26, 27, 28, 29, 30, 31, 32, 33, 34, 35, 36, 37, 38, 39, 40, 41], [0, 1, 2, 3, 4, 5, 6, 8, 9, 10, 11, 12, 13, 14, 15, 16, 17, 18, 19, 20, 21, 22, 23, 24, 25, 26, 27, 28, 29, 30, 31, 32, 33, 34, 35, 36, 37, 38, 39, 40, 41], [0, 1, 2, 3, 4, 5, 7, 8, 9, 10, 11, 12, 13, 14, 15, 16, 17, 18, 19, 20, 21, 22, 23, 24, 25, 26, 27, 28, 29, 30, 31, 32, 33, 34, 35, 36, 37, 38, 39, 40, 41]))], sk := [], mvs := [], fz := [] }
def f_i_Group_add_a (g0 : List Sc) (x1 : Int) (y2 : Int) : List AV := enc [.p .gr, .p (.int .i64), .p (.int .i64)] [.l g0, .i x1, .i y2]
def f_i_Group_add_i (g0 : List Sc) (x1 : Int) (y2 : Int) : List AV := enc [] []
def f_i_Group_add_en (r : Int) : List AV × List AV := (enc [.p (.int .i64)] [.i r], enc [] [])
def f_i_Group_add_M : Calling := noC
theorem f_i_Group_add_Mt : CallOk Try.prog (f_i_Group_add_M) := noC_true
theorem f_i_Group_add_o : loopsOnce Try.f95 = true := by kernel_rfl
def f_i_Group_add_h0 : List Sh := [.u, .p (.int .i64), .p (.int .i64), .u, .u, .u, .u, .p (.int .i64), .p (.int .i64), .u, .u, .u, .p .sl, .p (.int .i64), .p (.int .i64), .u, .u, .u, .u, .u, .u, .u, .u, .u, .u, .u, .u, .u, .u, .u, .u, .u, .u, .u, .u, .u, .u, .u, .u, .u, .u, .u]
def f_i_Group_add_fr0 (t12 : List Sc) (t13 : Int) (s : Int × Int × Int × Int × Int) : List AV := enc f_i_Group_add_h0 [.i s.1, .i s.2.1, .i s.2.2.1, .i s.2.2.2.1, .l t12, .i t13, .i s.2.2.2.2]
def f_i_Group_add_g0_1 : List Sh := [.u, .u, .u, .u, .u, .u, .u, .p (.int .i64), .u, .u, .u, .u, .u, .u, .u, .u, .u, .u, .u, .u, .u, .u, .u, .u, .u, .u, .u, .u, .u, .u, .u, .u, .u, .u, .u, .u, .u, .u, .u, .u, .u, .u]
def f_i_Group_add_x0_1 (t12 : List Sc) (t13 : Int) (e : Int) : X × List AV := (.out 0, enc f_i_Group_add_g0_1 [.i e])
def f_i_Group_add_x0_2 (t12 : List Sc) (t13 : Int) (_e : Unit) : X × List AV := (.ret, [])
theorem f_i_Group_add_p0 {R : Type} (t12 : List Sc) (t13 : Int) (s : Int × Int × Int × Int × Int) (kN : Int × Int × Int × Int × Int → Option R) (kA : Int → Option R) (kB : Unit → Option R) : f_i_Group_add_k0 t12 t13 s.1 s.2.1 s.2.2.1 s.2.2.2.1 s.2.2.2.2 kN kA = (f_i_Group_add_r0 t12 t13 s).bind (Ro.el kN kA kB) := by
  simp only [f_i_Group_add_k0, f_i_Group_add_r0, brB, someB, noneB, Ro.el]
theorem f_i_Group_add_e0 (t12 : List Sc) (t13 : Int) (s : Int × Int × Int × Int × Int) : EC E0 f_i_Group_add_M H0 f_i_Group_add_F (asL (noL)) 0 (bodyOf Try.f95 0) (f_i_Group_add_fr0 t12 t13 s) (done (klOf f_i_Group_add_F 0)) = f_i_Group_add_k0 t12 t13 s.1 s.2.1 s.2.2.1 s.2.2.2.1 s.2.2.2.2 (fun s => some (.norm, f_i_Group_add_fr0 t12 t13 s)) (fun e => some (f_i_Group_add_x0_1 t12 t13 e)) := by kernel_rfl
theorem f_i_Group_add_l0 (t12 : List Sc) (t13 : Int) : ∀ s r, loopL (f_i_Group_add_r0 t12 t13) s = some r → LS Try.prog f_i_Group_add_F (bodyOf Try.f95 0) (f_i_Group_add_fr0 t12 t13 s) (enX (f_i_Group_add_x0_1 t12 t13) (f_i_Group_add_x0_2 t12 t13) r) :=
  loop_true E0ok f_i_Group_add_Mt (noL_true) f_i_Group_add_o (fun _ h => by cases h) (fun _ h => by cases h) (fun s => (f_i_Group_add_e0 t12 t13 s).trans (f_i_Group_add_p0 t12 t13 s _ _ (fun e => some (f_i_Group_add_x0_2 t12 t13 e))))
def f_i_Group_add_t0 (σ : List AV) : Option (Bool × Bool × (X × List AV) × (X × List AV)) := match dec f_i_Group_add_h0 σ with
  | some [.i x1, .i y2, .i sum7, .i unit8, .l t12, .i t13, .i t14] => some (isOne (loopL (f_i_Group_add_r0 t12 t13) (x1, y2, sum7, unit8, t14)), true, f_i_Group_add_x0_1 t12 t13 (getOne 0 (loopL (f_i_Group_add_r0 t12 t13) (x1, y2, sum7, unit8, t14))), (.ret, []))
  | _ => none
theorem f_i_Group_add_tt0 : TTrue Try.prog f_i_Group_add_F Try.f95 0 (f_i_Group_add_t0) := by
  intro σ p r r' h
  unfold f_i_Group_add_t0 at h
  split at h
  · rename_i hd
    rw [← dec_enc hd]
    exact row1 (f_i_Group_add_l0 _ _ _) h
  · cases h
theorem f_i_Group_add_p {R : Type} (g0 : List Sc) (x1 : Int) (y2 : Int) (kR : Int → Option R) : f_i_Group_add_k g0 x1 y2 kR = (f_i_Group_add_k g0 x1 y2 some).bind kR := by
  simp only [f_i_Group_add_k, bl1B, someB]
theorem f_i_Group_add_e (g0 : List Sc) (x1 : Int) (y2 : Int) : runFn E0 f_i_Group_add_M H0 f_i_Group_add_F (asL (addL 0 (f_i_Group_add_t0) (noL))) Try.f95 (f_i_Group_add_a g0 x1 y2) (f_i_Group_add_i g0 x1 y2) = f_i_Group_add_k g0 x1 y2 (fun r => some (f_i_Group_add_en r)) := by kernel_rfl
theorem f_i_Group_add_ok (g0 : List Sc) (x1 : Int) (y2 : Int) (r : Int) (h : f_i_Group_add g0 x1 y2 = some r) : CS Try.prog 95 (f_i_Group_add_a g0 x1 y2) (f_i_Group_add_i g0 x1 y2) (f_i_Group_add_en r).1 (f_i_Group_add_en r).2 :=
  fn_true (Gk := fun k => f_i_Group_add_k g0 x1 y2 k) (en := f_i_Group_add_en) Try.func95 E0ok f_i_Group_add_Mt (addL_true (f_i_Group_add_tt0) (noL_true)) f_i_Group_add_o (f_i_Group_add_e g0 x1 y2) (f_i_Group_add_p g0 x1 y2) h
def f_i_Group_add_c : CRow := fun args inh => match dec2 [.p .gr, .p (.int .i64), .p (.int .i64)] [] args inh with
  | some ([.l g0, .i x1, .i y2], []) => some ((f_i_Group_add g0 x1 y2).isSome, (f_i_Group_add_en ((f_i_Group_add g0 x1 y2).getD 0)).1, (f_i_Group_add_en ((f_i_Group_add g0 x1 y2).getD 0)).2)
  | _ => none
theorem f_i_Group_add_cc : CTrue Try.prog 95 f_i_Group_add_c := by
  intro args inh rs out h
  unfold f_i_Group_add_c at h
  split at h
  · rename_i hd
    obtain ⟨h1, h2⟩ := dec2_enc hd
    rw [← h1, ← h2]
    exact rowC (f_i_Group_add_ok _ _ _) h
  · cases h

def f_i_Group_shift_F : Fi := { nv := 0, nc := 0, m := 0, vt := [], kl := [(0, ([0, 4, 5, 6, 9, 10, 11, 12, 13, 14, 15, 16, 17, 18, 19, 20, 21, 22, 23, 24, 25, 26, 27], [0, 1, 2, 3, 4, 5, 6, 8, 9, 10, 11, 12, 13, 14, 15, 16, 17, 18, 19, 20, 21, 22, 23, 24, 25, 26, 27], [0, 1, 2, 3, 4, 5, 7, 8, 9, 10, 11, 12, 13, 14, 15, 16, 17, 18, 19, 20, 21, 22, 23, 24, 25, 26, 27]))], sk := [], mvs := [], fz := [] }
def f_i_Group_shift_a (g0 : List Sc) (a1 : Int) (x2 : Int) : List AV := enc [.p .gr, .p (.int .i64), .p (.int .i64)] [.l g0, .i a1, .i x2]
def f_i_Group_shift_i (g0 : List Sc) (a1 : Int) (x2 : Int) : List AV := enc [] []
def f_i_Group_shift_en (r : Int) : List AV × List AV := (enc [.p (.int .i64)] [.i r], enc [] [])
def f_i_Group_shift_M : Calling := addC 95 f_i_Group_add_c (noC)
theorem f_i_Group_shift_Mt : CallOk Try.prog (f_i_Group_shift_M) := addC_true f_i_Group_add_cc (noC_true)
theorem f_i_Group_shift_o : loopsOnce Try.f82 = true := by kernel_rfl
def f_i_Group_shift_h0 : List Sh := [.u, .p (.int .i64), .p (.int .i64), .p .el, .u, .u, .u, .p (.int .i64), .p (.int .i64), .u, .u, .u, .u, .u, .u, .u, .u, .u, .u, .u, .u, .u, .u, .u, .u, .u, .u, .u]
def f_i_Group_shift_fr0 (a1 : Int) (x2 : Int) (g3 : List Sc) (s : Int × Int) : List AV := enc f_i_Group_shift_h0 [.i a1, .i x2, .l g3, .i s.1, .i s.2]
def f_i_Group_shift_g0_1 : List Sh := [.u, .u, .u, .u, .u, .u, .u, .p (.int .i64), .u, .u, .u, .u, .u, .u, .u, .u, .u, .u, .u, .u, .u, .u, .u, .u, .u, .u, .u, .u]
def f_i_Group_shift_x0_1 (a1 : Int) (x2 : Int) (g3 : List Sc) (e : Int) : X × List AV := (.out 0, enc f_i_Group_shift_g0_1 [.i e])
def f_i_Group_shift_x0_2 (a1 : Int) (x2 : Int) (g3 : List Sc) (_e : Unit) : X × List AV := (.ret, [])
theorem f_i_Group_shift_p0 {R : Type} (a1 : Int) (x2 : Int) (g3 : List Sc) (s : Int × Int) (kN : Int × Int → Option R) (kA : Int → Option R) (kB : Unit → Option R) : f_i_Group_shift_k0 a1 x2 g3 s.1 s.2 kN kA = (f_i_Group_shift_r0 a1 x2 g3 s).bind (Ro.el kN kA kB) := by
  simp only [f_i_Group_shift_k0, f_i_Group_shift_r0, brB, boB, someB, noneB, Ro.el]
theorem f_i_Group_shift_e0 (a1 : Int) (x2 : Int) (g3 : List Sc) (s : Int × Int) : EC E0 f_i_Group_shift_M H0 f_i_Group_shift_F (asL (noL)) 0 (bodyOf Try.f82 0) (f_i_Group_shift_fr0 a1 x2 g3 s) (done (klOf f_i_Group_shift_F 0)) = f_i_Group_shift_k0 a1 x2 g3 s.1 s.2 (fun s => some (.norm, f_i_Group_shift_fr0 a1 x2 g3 s)) (fun e => some (f_i_Group_shift_x0_1 a1 x2 g3 e)) := by kernel_rfl
theorem f_i_Group_shift_l0 (a1 : Int) (x2 : Int) (g3 : List Sc) : ∀ s r, loopL (f_i_Group_shift_r0 a1 x2 g3) s = some r → LS Try.prog f_i_Group_shift_F (bodyOf Try.f82 0) (f_i_Group_shift_fr0 a1 x2 g3 s) (enX (f_i_Group_shift_x0_1 a1 x2 g3) (f_i_Group_shift_x0_2 a1 x2 g3) r) :=
  loop_true E0ok f_i_Group_shift_Mt (noL_true) f_i_Group_shift_o (fun _ h => by cases h) (fun _ h => by cases h) (fun s => (f_i_Group_shift_e0 a1 x2 g3 s).trans (f_i_Group_shift_p0 a1 x2 g3 s _ _ (fun e => some (f_i_Group_shift_x0_2 a1 x2 g3 e))))
def f_i_Group_shift_t0 (σ : List AV) : Option (Bool × Bool × (X × List AV) × (X × List AV)) := match dec f_i_Group_shift_h0 σ with
  | some [.i a1, .i x2, .l g3, .i out7, .i y8] => some (isOne (loopL (f_i_Group_shift_r0 a1 x2 g3) (out7, y8)), true, f_i_Group_shift_x0_1 a1 x2 g3 (getOne 0 (loopL (f_i_Group_shift_r0 a1 x2 g3) (out7, y8))), (.ret, []))
  | _ => none
theorem f_i_Group_shift_tt0 : TTrue Try.prog f_i_Group_shift_F Try.f82 0 (f_i_Group_shift_t0) := by
  intro σ p r r' h
  unfold f_i_Group_shift_t0 at h
  split at h
  · rename_i hd
    rw [← dec_enc hd]
    exact row1 (f_i_Group_shift_l0 _ _ _ _) h
  · cases h
theorem f_i_Group_shift_p {R : Type} (g0 : List Sc) (a1 : Int) (x2 : Int) (kR : Int → Option R) : f_i_Group_shift_k g0 a1 x2 kR = (f_i_Group_shift_k g0 a1 x2 some).bind kR := by
  simp only [f_i_Group_shift_k, bl1B, someB]
theorem f_i_Group_shift_e (g0 : List Sc) (a1 : Int) (x2 : Int) : runFn E0 f_i_Group_shift_M H0 f_i_Group_shift_F (asL (addL 0 (f_i_Group_shift_t0) (noL))) Try.f82 (f_i_Group_shift_a g0 a1 x2) (f_i_Group_shift_i g0 a1 x2) = f_i_Group_shift_k g0 a1 x2 (fun r => some (f_i_Group_shift_en r)) := by kernel_rfl
theorem f_i_Group_shift_ok (g0 : List Sc) (a1 : Int) (x2 : Int) (r : Int) (h : f_i_Group_shift g0 a1 x2 = some r) : CS Try.prog 82 (f_i_Group_shift_a g0 a1 x2) (f_i_Group_shift_i g0 a1 x2) (f_i_Group_shift_en r).1 (f_i_Group_shift_en r).2 :=
  fn_true (Gk := fun k => f_i_Group_shift_k g0 a1 x2 k) (en := f_i_Group_shift_en) Try.func82 E0ok f_i_Group_shift_Mt (addL_true (f_i_Group_shift_tt0) (noL_true)) f_i_Group_shift_o (f_i_Group_shift_e g0 a1 x2) (f_i_Group_shift_p g0 a1 x2) h
def f_i_Group_shift_c : CRow := fun args inh => match dec2 [.p .gr, .p (.int .i64), .p (.int .i64)] [] args inh with
  | some ([.l g0, .i a1, .i x2], []) => some ((f_i_Group_shift g0 a1 x2).isSome, (f_i_Group_shift_en ((f_i_Group_shift g0 a1 x2).getD 0)).1, (f_i_Group_shift_en ((f_i_Group_shift g0 a1 x2).getD 0)).2)
  | _ => none
theorem f_i_Group_shift_cc : CTrue Try.prog 82 f_i_Group_shift_c := by
  intro args inh rs out h
  unfold f_i_Group_shift_c at h
  split at h
  · rename_i hd
    obtain ⟨h1, h2⟩ := dec2_enc hd
    rw [← h1, ← h2]
    exact rowC (f_i_Group_shift_ok _ _ _) h
  · cases h

def f_i_Group_subsums_F : Fi := { nv := 0, nc := 0, m := 0, vt := [], kl := [(0, ([0, 1, 3, 4, 6, 7, 11, 12, 13, 14, 15, 16, 17, 18, 19, 20, 21, 22, 23, 24], [0, 1, 2, 3, 4, 6, 7, 8, 9, 10, 11, 12, 13, 14, 15, 16, 17, 18, 19, 20, 21, 22, 23, 24], [0, 1, 2, 3, 5, 6, 7, 8, 9, 10, 11, 12, 13, 14, 15, 16, 17, 18, 19, 20, 21, 22, 23, 24]))], sk := [], mvs := [], fz := [] }
def f_i_Group_subsums_a (g0 : List Sc) (l1 : List Sc) : List AV := enc [.p .gr, .p .sl] [.l g0, .l l1]
def f_i_Group_subsums_i (g0 : List Sc) (l1 : List Sc) : List AV := enc [] []
def f_i_Group_subsums_en (r : Int) : List AV × List AV := (enc [.p (.int .i64)] [.i r], enc [] [])
def f_i_Group_subsums_M : Calling := addC 82 f_i_Group_shift_c (noC)
theorem f_i_Group_subsums_Mt : CallOk Try.prog (f_i_Group_subsums_M) := addC_true f_i_Group_shift_cc (noC_true)
theorem f_i_Group_subsums_o : loopsOnce Try.f94 = true := by kernel_rfl
def f_i_Group_subsums_h0 : List Sh := [.u, .u, .p .el, .u, .u, .p (.int .i64), .u, .u, .p .sl, .p (.int .i64), .p (.int .i64), .u, .u, .u, .u, .u, .u, .u, .u, .u, .u, .u, .u, .u, .u]
def f_i_Group_subsums_fr0 (g2 : List Sc) (t8 : List Sc) (t9 : Int) (s : Int × Int) : List AV := enc f_i_Group_subsums_h0 [.l g2, .i s.1, .l t8, .i t9, .i s.2]
def f_i_Group_subsums_g0_1 : List Sh := [.u, .u, .u, .u, .u, .p (.int .i64), .u, .u, .u, .u, .u, .u, .u, .u, .u, .u, .u, .u, .u, .u, .u, .u, .u, .u, .u]
def f_i_Group_subsums_x0_1 (g2 : List Sc) (t8 : List Sc) (t9 : Int) (e : Int) : X × List AV := (.out 0, enc f_i_Group_subsums_g0_1 [.i e])
def f_i_Group_subsums_x0_2 (g2 : List Sc) (t8 : List Sc) (t9 : Int) (_e : Unit) : X × List AV := (.ret, [])
theorem f_i_Group_subsums_p0 {R : Type} (g2 : List Sc) (t8 : List Sc) (t9 : Int) (s : Int × Int) (kN : Int × Int → Option R) (kA : Int → Option R) (kB : Unit → Option R) : f_i_Group_subsums_k0 g2 t8 t9 s.1 s.2 kN kA = (f_i_Group_subsums_r0 g2 t8 t9 s).bind (Ro.el kN kA kB) := by
  simp only [f_i_Group_subsums_k0, f_i_Group_subsums_r0, brB, boB, someB, noneB, Ro.el]
theorem f_i_Group_subsums_e0 (g2 : List Sc) (t8 : List Sc) (t9 : Int) (s : Int × Int) : EC E0 f_i_Group_subsums_M H0 f_i_Group_subsums_F (asL (noL)) 0 (bodyOf Try.f94 0) (f_i_Group_subsums_fr0 g2 t8 t9 s) (done (klOf f_i_Group_subsums_F 0)) = f_i_Group_subsums_k0 g2 t8 t9 s.1 s.2 (fun s => some (.norm, f_i_Group_subsums_fr0 g2 t8 t9 s)) (fun e => some (f_i_Group_subsums_x0_1 g2 t8 t9 e)) := by kernel_rfl
theorem f_i_Group_subsums_l0 (g2 : List Sc) (t8 : List Sc) (t9 : Int) : ∀ s r, loopL (f_i_Group_subsums_r0 g2 t8 t9) s = some r → LS Try.prog f_i_Group_subsums_F (bodyOf Try.f94 0) (f_i_Group_subsums_fr0 g2 t8 t9 s) (enX (f_i_Group_subsums_x0_1 g2 t8 t9) (f_i_Group_subsums_x0_2 g2 t8 t9) r) :=
  loop_true E0ok f_i_Group_subsums_Mt (noL_true) f_i_Group_subsums_o (fun _ h => by cases h) (fun _ h => by cases h) (fun s => (f_i_Group_subsums_e0 g2 t8 t9 s).trans (f_i_Group_subsums_p0 g2 t8 t9 s _ _ (fun e => some (f_i_Group_subsums_x0_2 g2 t8 t9 e))))
def f_i_Group_subsums_t0 (σ : List AV) : Option (Bool × Bool × (X × List AV) × (X × List AV)) := match dec f_i_Group_subsums_h0 σ with
  | some [.l g2, .i out5, .l t8, .i t9, .i t10] => some (isOne (loopL (f_i_Group_subsums_r0 g2 t8 t9) (out5, t10)), true, f_i_Group_subsums_x0_1 g2 t8 t9 (getOne 0 (loopL (f_i_Group_subsums_r0 g2 t8 t9) (out5, t10))), (.ret, []))
  | _ => none
theorem f_i_Group_subsums_tt0 : TTrue Try.prog f_i_Group_subsums_F Try.f94 0 (f_i_Group_subsums_t0) := by
  intro σ p r r' h
  unfold f_i_Group_subsums_t0 at h
  split at h
  · rename_i hd
    rw [← dec_enc hd]
    exact row1 (f_i_Group_subsums_l0 _ _ _ _) h
  · cases h
theorem f_i_Group_subsums_p {R : Type} (g0 : List Sc) (l1 : List Sc) (kR : Int → Option R) : f_i_Group_subsums_k g0 l1 kR = (f_i_Group_subsums_k g0 l1 some).bind kR := by
  simp only [f_i_Group_subsums_k, bl1B, someB]
theorem f_i_Group_subsums_e (g0 : List Sc) (l1 : List Sc) : runFn E0 f_i_Group_subsums_M H0 f_i_Group_subsums_F (asL (addL 0 (f_i_Group_subsums_t0) (noL))) Try.f94 (f_i_Group_subsums_a g0 l1) (f_i_Group_subsums_i g0 l1) = f_i_Group_subsums_k g0 l1 (fun r => some (f_i_Group_subsums_en r)) := by kernel_rfl
theorem f_i_Group_subsums_ok (g0 : List Sc) (l1 : List Sc) (r : Int) (h : f_i_Group_subsums g0 l1 = some r) : CS Try.prog 94 (f_i_Group_subsums_a g0 l1) (f_i_Group_subsums_i g0 l1) (f_i_Group_subsums_en r).1 (f_i_Group_subsums_en r).2 :=
  fn_true (Gk := fun k => f_i_Group_subsums_k g0 l1 k) (en := f_i_Group_subsums_en) Try.func94 E0ok f_i_Group_subsums_Mt (addL_true (f_i_Group_subsums_tt0) (noL_true)) f_i_Group_subsums_o (f_i_Group_subsums_e g0 l1) (f_i_Group_subsums_p g0 l1) h
def f_i_Group_subsums_c : CRow := fun args inh => match dec2 [.p .gr, .p .sl] [] args inh with
  | some ([.l g0, .l l1], []) => some ((f_i_Group_subsums g0 l1).isSome, (f_i_Group_subsums_en ((f_i_Group_subsums g0 l1).getD 0)).1, (f_i_Group_subsums_en ((f_i_Group_subsums g0 l1).getD 0)).2)
  | _ => none
theorem f_i_Group_subsums_cc : CTrue Try.prog 94 f_i_Group_subsums_c := by
  intro args inh rs out h
  unfold f_i_Group_subsums_c at h
  split at h
  · rename_i hd
    obtain ⟨h1, h2⟩ := dec2_enc hd
    rw [← h1, ← h2]
    exact rowC (f_i_Group_subsums_ok _ _) h
  · cases h

def f_i_in_F : Fi := { nv := 0, nc := 0, m := 0, vt := [], kl := [], sk := [], mvs := [], fz := [] }
def f_i_in_a (a0 : Int) (x1 : Int) : List AV := enc [.p (.int .i64), .p (.int .i64)] [.i a0, .i x1]
def f_i_in_i (a0 : Int) (x1 : Int) : List AV := enc [] []
def f_i_in_en (r : Bool) : List AV × List AV := (enc [.p .boo] [.b r], enc [] [])
def f_i_in_M : Calling := noC
theorem f_i_in_Mt : CallOk Try.prog (f_i_in_M) := noC_true
theorem f_i_in_o : loopsOnce Try.f93 = true := by kernel_rfl
theorem f_i_in_p {R : Type} (a0 : Int) (x1 : Int) (kR : Bool → Option R) : f_i_in_k a0 x1 kR = (f_i_in_k a0 x1 some).bind kR := by
  simp only [f_i_in_k, brB, someB, noneB]
theorem f_i_in_e (a0 : Int) (x1 : Int) : runFn E0 f_i_in_M H0 f_i_in_F (asL (noL)) Try.f93 (f_i_in_a a0 x1) (f_i_in_i a0 x1) = f_i_in_k a0 x1 (fun r => some (f_i_in_en r)) := by kernel_rfl
theorem f_i_in_ok (a0 : Int) (x1 : Int) (r : Bool) (h : f_i_in a0 x1 = some r) : CS Try.prog 93 (f_i_in_a a0 x1) (f_i_in_i a0 x1) (f_i_in_en r).1 (f_i_in_en r).2 :=
  fn_true (Gk := fun k => f_i_in_k a0 x1 k) (en := f_i_in_en) Try.func93 E0ok f_i_in_Mt (noL_true) f_i_in_o (f_i_in_e a0 x1) (f_i_in_p a0 x1) h
def f_i_in_c : CRow := fun args inh => match dec2 [.p (.int .i64), .p (.int .i64)] [] args inh with
  | some ([.i a0, .i x1], []) => some ((f_i_in a0 x1).isSome, (f_i_in_en ((f_i_in a0 x1).getD false)).1, (f_i_in_en ((f_i_in a0 x1).getD false)).2)
  | _ => none
theorem f_i_in_cc : CTrue Try.prog 93 f_i_in_c := by
  intro args inh rs out h
  unfold f_i_in_c at h
  split at h
  · rename_i hd
    obtain ⟨h1, h2⟩ := dec2_enc hd
    rw [← h1, ← h2]
    exact rowC (f_i_in_ok _ _) h
  · cases h

def f_i_IsZeroFree_F : Fi := { nv := 0, nc := 0, m := 0, vt := [], kl := [], sk := [], mvs := [], fz := [] }
def f_i_IsZeroFree_a (g0 : List Sc) (l1 : List Sc) : List AV := enc [.p .gr, .p .sl] [.l g0, .l l1]
def f_i_IsZeroFree_i (g0 : List Sc) (l1 : List Sc) : List AV := enc [] []
def f_i_IsZeroFree_en (r : Bool) : List AV × List AV := (enc [.p .boo] [.b r], enc [] [])
def f_i_IsZeroFree_M : Calling := addC 48 f_i_IsSequence_c (addC 94 f_i_Group_subsums_c (addC 93 f_i_in_c (noC)))
theorem f_i_IsZeroFree_Mt : CallOk Try.prog (f_i_IsZeroFree_M) := addC_true f_i_IsSequence_cc (addC_true f_i_Group_subsums_cc (addC_true f_i_in_cc (noC_true)))
theorem f_i_IsZeroFree_o : loopsOnce Try.f54 = true := by kernel_rfl
theorem f_i_IsZeroFree_p {R : Type} (g0 : List Sc) (l1 : List Sc) (kR : Bool → Option R) : f_i_IsZeroFree_k g0 l1 kR = (f_i_IsZeroFree_k g0 l1 some).bind kR := by
  simp only [f_i_IsZeroFree_k, brB, boB, someB]
theorem f_i_IsZeroFree_e (g0 : List Sc) (l1 : List Sc) : runFn E0 f_i_IsZeroFree_M H0 f_i_IsZeroFree_F (asL (noL)) Try.f54 (f_i_IsZeroFree_a g0 l1) (f_i_IsZeroFree_i g0 l1) = f_i_IsZeroFree_k g0 l1 (fun r => some (f_i_IsZeroFree_en r)) := by kernel_rfl
theorem f_i_IsZeroFree_ok (g0 : List Sc) (l1 : List Sc) (r : Bool) (h : f_i_IsZeroFree g0 l1 = some r) : CS Try.prog 54 (f_i_IsZeroFree_a g0 l1) (f_i_IsZeroFree_i g0 l1) (f_i_IsZeroFree_en r).1 (f_i_IsZeroFree_en r).2 :=
  fn_true (Gk := fun k => f_i_IsZeroFree_k g0 l1 k) (en := f_i_IsZeroFree_en) Try.func54 E0ok f_i_IsZeroFree_Mt (noL_true) f_i_IsZeroFree_o (f_i_IsZeroFree_e g0 l1) (f_i_IsZeroFree_p g0 l1) h
def f_i_IsZeroFree_c : CRow := fun args inh => match dec2 [.p .gr, .p .sl] [] args inh with
  | some ([.l g0, .l l1], []) => some ((f_i_IsZeroFree g0 l1).isSome, (f_i_IsZeroFree_en ((f_i_IsZeroFree g0 l1).getD false)).1, (f_i_IsZeroFree_en ((f_i_IsZeroFree g0 l1).getD false)).2)
  | _ => none
theorem f_i_IsZeroFree_cc : CTrue Try.prog 54 f_i_IsZeroFree_c := by
  intro args inh rs out h
  unfold f_i_IsZeroFree_c at h
  split at h
  · rename_i hd
    obtain ⟨h1, h2⟩ := dec2_enc hd
    rw [← h1, ← h2]
    exact rowC (f_i_IsZeroFree_ok _ _) h
  · cases h

def f_i_MultiplicityIn_F : Fi := { nv := 0, nc := 0, m := 0, vt := [], kl := [(0, ([0, 2, 3, 4, 6, 7, 11, 12, 13, 14, 15, 16, 17, 18, 19, 20], [0, 1, 2, 3, 4, 6, 7, 8, 9, 10, 11, 12, 13, 14, 15, 16, 17, 18, 19, 20], [0, 1, 2, 3, 5, 6, 7, 8, 9, 10, 11, 12, 13, 14, 15, 16, 17, 18, 19, 20]))], sk := [], mvs := [], fz := [] }
def f_i_MultiplicityIn_a (l0 : List Sc) (x1 : Int) : List AV := enc [.p .sl, .p (.int .i64)] [.l l0, .i x1]
def f_i_MultiplicityIn_i (l0 : List Sc) (x1 : Int) : List AV := enc [] []
def f_i_MultiplicityIn_en (r : Int) : List AV × List AV := (enc [.p (.int .i64)] [.i r], enc [] [])
def f_i_MultiplicityIn_M : Calling := noC
theorem f_i_MultiplicityIn_Mt : CallOk Try.prog (f_i_MultiplicityIn_M) := noC_true
theorem f_i_MultiplicityIn_o : loopsOnce Try.f50 = true := by kernel_rfl
def f_i_MultiplicityIn_h0 : List Sh := [.u, .p (.int .i64), .u, .u, .u, .p (.int .i64), .u, .u, .p .sl, .p (.int .i64), .p (.int .i64), .u, .u, .u, .u, .u, .u, .u, .u, .u, .u]
def f_i_MultiplicityIn_fr0 (x1 : Int) (t8 : List Sc) (t9 : Int) (s : Int × Int) : List AV := enc f_i_MultiplicityIn_h0 [.i x1, .i s.1, .l t8, .i t9, .i s.2]
def f_i_MultiplicityIn_g0_1 : List Sh := [.u, .u, .u, .u, .u, .p (.int .i64), .u, .u, .u, .u, .u, .u, .u, .u, .u, .u, .u, .u, .u, .u, .u]
def f_i_MultiplicityIn_x0_1 (x1 : Int) (t8 : List Sc) (t9 : Int) (e : Int) : X × List AV := (.out 0, enc f_i_MultiplicityIn_g0_1 [.i e])
def f_i_MultiplicityIn_x0_2 (x1 : Int) (t8 : List Sc) (t9 : Int) (_e : Unit) : X × List AV := (.ret, [])
theorem f_i_MultiplicityIn_p0 {R : Type} (x1 : Int) (t8 : List Sc) (t9 : Int) (s : Int × Int) (kN : Int × Int → Option R) (kA : Int → Option R) (kB : Unit → Option R) : f_i_MultiplicityIn_k0 x1 t8 t9 s.1 s.2 kN kA = (f_i_MultiplicityIn_r0 x1 t8 t9 s).bind (Ro.el kN kA kB) := by
  simp only [f_i_MultiplicityIn_k0, f_i_MultiplicityIn_r0, brB, someB, noneB, Ro.el]
theorem f_i_MultiplicityIn_e0 (x1 : Int) (t8 : List Sc) (t9 : Int) (s : Int × Int) : EC E0 f_i_MultiplicityIn_M H0 f_i_MultiplicityIn_F (asL (noL)) 0 (bodyOf Try.f50 0) (f_i_MultiplicityIn_fr0 x1 t8 t9 s) (done (klOf f_i_MultiplicityIn_F 0)) = f_i_MultiplicityIn_k0 x1 t8 t9 s.1 s.2 (fun s => some (.norm, f_i_MultiplicityIn_fr0 x1 t8 t9 s)) (fun e => some (f_i_MultiplicityIn_x0_1 x1 t8 t9 e)) := by kernel_rfl
theorem f_i_MultiplicityIn_l0 (x1 : Int) (t8 : List Sc) (t9 : Int) : ∀ s r, loopL (f_i_MultiplicityIn_r0 x1 t8 t9) s = some r → LS Try.prog f_i_MultiplicityIn_F (bodyOf Try.f50 0) (f_i_MultiplicityIn_fr0 x1 t8 t9 s) (enX (f_i_MultiplicityIn_x0_1 x1 t8 t9) (f_i_MultiplicityIn_x0_2 x1 t8 t9) r) :=
  loop_true E0ok f_i_MultiplicityIn_Mt (noL_true) f_i_MultiplicityIn_o (fun _ h => by cases h) (fun _ h => by cases h) (fun s => (f_i_MultiplicityIn_e0 x1 t8 t9 s).trans (f_i_MultiplicityIn_p0 x1 t8 t9 s _ _ (fun e => some (f_i_MultiplicityIn_x0_2 x1 t8 t9 e))))
def f_i_MultiplicityIn_t0 (σ : List AV) : Option (Bool × Bool × (X × List AV) × (X × List AV)) := match dec f_i_MultiplicityIn_h0 σ with
  | some [.i x1, .i n5, .l t8, .i t9, .i t10] => some (isOne (loopL (f_i_MultiplicityIn_r0 x1 t8 t9) (n5, t10)), true, f_i_MultiplicityIn_x0_1 x1 t8 t9 (getOne 0 (loopL (f_i_MultiplicityIn_r0 x1 t8 t9) (n5, t10))), (.ret, []))
  | _ => none
theorem f_i_MultiplicityIn_tt0 : TTrue Try.prog f_i_MultiplicityIn_F Try.f50 0 (f_i_MultiplicityIn_t0) := by
  intro σ p r r' h
  unfold f_i_MultiplicityIn_t0 at h
  split at h
  · rename_i hd
    rw [← dec_enc hd]
    exact row1 (f_i_MultiplicityIn_l0 _ _ _ _) h
  · cases h
theorem f_i_MultiplicityIn_p {R : Type} (l0 : List Sc) (x1 : Int) (kR : Int → Option R) : f_i_MultiplicityIn_k l0 x1 kR = (f_i_MultiplicityIn_k l0 x1 some).bind kR := by
  simp only [f_i_MultiplicityIn_k, bl1B, someB]
theorem f_i_MultiplicityIn_e (l0 : List Sc) (x1 : Int) : runFn E0 f_i_MultiplicityIn_M H0 f_i_MultiplicityIn_F (asL (addL 0 (f_i_MultiplicityIn_t0) (noL))) Try.f50 (f_i_MultiplicityIn_a l0 x1) (f_i_MultiplicityIn_i l0 x1) = f_i_MultiplicityIn_k l0 x1 (fun r => some (f_i_MultiplicityIn_en r)) := by kernel_rfl
theorem f_i_MultiplicityIn_ok (l0 : List Sc) (x1 : Int) (r : Int) (h : f_i_MultiplicityIn l0 x1 = some r) : CS Try.prog 50 (f_i_MultiplicityIn_a l0 x1) (f_i_MultiplicityIn_i l0 x1) (f_i_MultiplicityIn_en r).1 (f_i_MultiplicityIn_en r).2 :=
  fn_true (Gk := fun k => f_i_MultiplicityIn_k l0 x1 k) (en := f_i_MultiplicityIn_en) Try.func50 E0ok f_i_MultiplicityIn_Mt (addL_true (f_i_MultiplicityIn_tt0) (noL_true)) f_i_MultiplicityIn_o (f_i_MultiplicityIn_e l0 x1) (f_i_MultiplicityIn_p l0 x1) h
def f_i_MultiplicityIn_c : CRow := fun args inh => match dec2 [.p .sl, .p (.int .i64)] [] args inh with
  | some ([.l l0, .i x1], []) => some ((f_i_MultiplicityIn l0 x1).isSome, (f_i_MultiplicityIn_en ((f_i_MultiplicityIn l0 x1).getD 0)).1, (f_i_MultiplicityIn_en ((f_i_MultiplicityIn l0 x1).getD 0)).2)
  | _ => none
theorem f_i_MultiplicityIn_cc : CTrue Try.prog 50 f_i_MultiplicityIn_c := by
  intro args inh rs out h
  unfold f_i_MultiplicityIn_c at h
  split at h
  · rename_i hd
    obtain ⟨h1, h2⟩ := dec2_enc hd
    rw [← h1, ← h2]
    exact rowC (f_i_MultiplicityIn_ok _ _) h
  · cases h

def f_i_CyclicStructure_F : Fi := { nv := 0, nc := 0, m := 0, vt := [], kl := [], sk := [], mvs := [], fz := [] }
def f_i_CyclicStructure_a (g0 : List Sc) (l1 : List Sc) : List AV := enc [.p .gr, .p .sl] [.l g0, .l l1]
def f_i_CyclicStructure_i (g0 : List Sc) (l1 : List Sc) : List AV := enc [] []
def f_i_CyclicStructure_en (r : Int × Bool) : List AV × List AV := (enc [.p (.int .i64), .p .boo] [.i r.1, .b r.2], enc [] [])
def f_i_CyclicStructure_M : Calling := addC 54 f_i_IsZeroFree_c (addC 55 f_i_OrderOf_c (addC 50 f_i_MultiplicityIn_c (noC)))
theorem f_i_CyclicStructure_Mt : CallOk Try.prog (f_i_CyclicStructure_M) := addC_true f_i_IsZeroFree_cc (addC_true f_i_OrderOf_cc (addC_true f_i_MultiplicityIn_cc (noC_true)))
theorem f_i_CyclicStructure_o : loopsOnce Try.f22 = true := by kernel_rfl
theorem f_i_CyclicStructure_p {R : Type} (g0 : List Sc) (l1 : List Sc) (kR : Int × Bool → Option R) : f_i_CyclicStructure_k g0 l1 kR = (f_i_CyclicStructure_k g0 l1 some).bind kR := by
  simp only [f_i_CyclicStructure_k, brB, boB, someB, noneB]
theorem f_i_CyclicStructure_e (g0 : List Sc) (l1 : List Sc) : runFn E0 f_i_CyclicStructure_M H0 f_i_CyclicStructure_F (asL (noL)) Try.f22 (f_i_CyclicStructure_a g0 l1) (f_i_CyclicStructure_i g0 l1) = f_i_CyclicStructure_k g0 l1 (fun r => some (f_i_CyclicStructure_en r)) := by kernel_rfl
theorem f_i_CyclicStructure_ok (g0 : List Sc) (l1 : List Sc) (r : Int × Bool) (h : f_i_CyclicStructure g0 l1 = some r) : CS Try.prog 22 (f_i_CyclicStructure_a g0 l1) (f_i_CyclicStructure_i g0 l1) (f_i_CyclicStructure_en r).1 (f_i_CyclicStructure_en r).2 :=
  fn_true (Gk := fun k => f_i_CyclicStructure_k g0 l1 k) (en := f_i_CyclicStructure_en) Try.func22 E0ok f_i_CyclicStructure_Mt (noL_true) f_i_CyclicStructure_o (f_i_CyclicStructure_e g0 l1) (f_i_CyclicStructure_p g0 l1) h
def f_i_CyclicStructure_c : CRow := fun args inh => match dec2 [.p .gr, .p .sl] [] args inh with
  | some ([.l g0, .l l1], []) => some ((f_i_CyclicStructure g0 l1).isSome, (f_i_CyclicStructure_en ((f_i_CyclicStructure g0 l1).getD (0, false))).1, (f_i_CyclicStructure_en ((f_i_CyclicStructure g0 l1).getD (0, false))).2)
  | _ => none
theorem f_i_CyclicStructure_cc : CTrue Try.prog 22 f_i_CyclicStructure_c := by
  intro args inh rs out h
  unfold f_i_CyclicStructure_c at h
  split at h
  · rename_i hd
    obtain ⟨h1, h2⟩ := dec2_enc hd
    rw [← h1, ← h2]
    exact rowC (f_i_CyclicStructure_ok _ _) h
  · cases h

def f_l_eqIntS_F : Fi := { nv := 0, nc := 0, m := 0, vt := [], kl := [(0, ([2, 3, 4, 6, 7, 8, 9, 10, 11, 12, 13, 14, 15, 16, 17, 18, 19, 20, 21, 22, 23, 24, 25], [0, 1, 2, 3, 4, 5, 6, 7, 8, 9, 10, 11, 12, 13, 14, 15, 16, 17, 18, 19, 20, 21, 22, 23, 24, 25], [0, 1, 2, 3, 5, 6, 7, 8, 9, 10, 11, 12, 13, 14, 15, 16, 17, 18, 19, 20, 21, 22, 23, 24, 25]))], sk := [], mvs := [], fz := [] }
def f_l_eqIntS_a (a0 : List Sc) (b1 : List Sc) : List AV := enc [.p .sl, .p .sl] [.l a0, .l b1]
def f_l_eqIntS_i (a0 : List Sc) (b1 : List Sc) : List AV := enc [] []
def f_l_eqIntS_en (r : Bool) : List AV × List AV := (enc [.p .boo] [.b r], enc [] [])
def f_l_eqIntS_M : Calling := noC
theorem f_l_eqIntS_Mt : CallOk Try.prog (f_l_eqIntS_M) := noC_true
theorem f_l_eqIntS_o : loopsOnce Try.f20 = true := by kernel_rfl
def f_l_eqIntS_h0 : List Sh := [.p .sl, .p .sl, .u, .u, .u, .p (.int .i64), .u, .u, .u, .u, .u, .u, .u, .u, .u, .u, .u, .u, .u, .u, .u, .u, .u, .u, .u, .u]
def f_l_eqIntS_fr0 (a0 : List Sc) (b1 : List Sc) (s : Int) : List AV := enc f_l_eqIntS_h0 [.l a0, .l b1, .i s]
def f_l_eqIntS_g0_1 : List Sh := [.u, .u, .u, .u, .u, .u, .u, .u, .u, .u, .u, .u, .u, .u, .u, .u, .u, .u, .u, .u, .u, .u, .u, .u, .u, .u]
def f_l_eqIntS_x0_1 (a0 : List Sc) (b1 : List Sc) (e : Unit) : X × List AV := (.out 0, enc f_l_eqIntS_g0_1 [])
def f_l_eqIntS_g0_2 : List Sh := [.u, .u, .u, .u, .p .boo, .u, .u, .u, .u, .u, .u, .u, .u, .u, .u, .u, .u, .u, .u, .u, .u, .u, .u, .u, .u, .u]
def f_l_eqIntS_x0_2 (a0 : List Sc) (b1 : List Sc) (e : Unit) : X × List AV := (.ret, enc f_l_eqIntS_g0_2 [.b false])
theorem f_l_eqIntS_p0 {R : Type} (a0 : List Sc) (b1 : List Sc) (s : Int) (kN : Int → Option R) (kA : Unit → Option R) (kB : Unit → Option R) : f_l_eqIntS_k0 a0 b1 s kN kA kB = (f_l_eqIntS_r0 a0 b1 s).bind (Ro.el kN kA kB) := by
  simp only [f_l_eqIntS_k0, f_l_eqIntS_r0, brB, someB, noneB, Ro.el]
theorem f_l_eqIntS_e0 (a0 : List Sc) (b1 : List Sc) (s : Int) : EC E0 f_l_eqIntS_M H0 f_l_eqIntS_F (asL (noL)) 0 (bodyOf Try.f20 0) (f_l_eqIntS_fr0 a0 b1 s) (done (klOf f_l_eqIntS_F 0)) = f_l_eqIntS_k0 a0 b1 s (fun s => some (.norm, f_l_eqIntS_fr0 a0 b1 s)) (fun e => some (f_l_eqIntS_x0_1 a0 b1 e)) (fun e => some (f_l_eqIntS_x0_2 a0 b1 e)) := by kernel_rfl
theorem f_l_eqIntS_l0 (a0 : List Sc) (b1 : List Sc) : ∀ s r, loopL (f_l_eqIntS_r0 a0 b1) s = some r → LS Try.prog f_l_eqIntS_F (bodyOf Try.f20 0) (f_l_eqIntS_fr0 a0 b1 s) (enX (f_l_eqIntS_x0_1 a0 b1) (f_l_eqIntS_x0_2 a0 b1) r) :=
  loop_true E0ok f_l_eqIntS_Mt (noL_true) f_l_eqIntS_o (fun _ h => by cases h) (fun _ h => by cases h) (fun s => (f_l_eqIntS_e0 a0 b1 s).trans (f_l_eqIntS_p0 a0 b1 s _ _ (fun e => some (f_l_eqIntS_x0_2 a0 b1 e))))
def f_l_eqIntS_t0 (σ : List AV) : Option (Bool × Bool × (X × List AV) × (X × List AV)) := match dec f_l_eqIntS_h0 σ with
  | some [.l a0, .l b1, .i i5] => some ((loopL (f_l_eqIntS_r0 a0 b1) i5).isSome, isOne (loopL (f_l_eqIntS_r0 a0 b1) i5), f_l_eqIntS_x0_1 a0 b1 (getOne () (loopL (f_l_eqIntS_r0 a0 b1) i5)), f_l_eqIntS_x0_2 a0 b1 (getTwo () (loopL (f_l_eqIntS_r0 a0 b1) i5)))
  | _ => none
theorem f_l_eqIntS_tt0 : TTrue Try.prog f_l_eqIntS_F Try.f20 0 (f_l_eqIntS_t0) := by
  intro σ p r r' h
  unfold f_l_eqIntS_t0 at h
  split at h
  · rename_i hd
    rw [← dec_enc hd]
    exact row2 (f_l_eqIntS_l0 _ _ _) h
  · cases h
theorem f_l_eqIntS_p {R : Type} (a0 : List Sc) (b1 : List Sc) (kR : Bool → Option R) : f_l_eqIntS_k a0 b1 kR = (f_l_eqIntS_k a0 b1 some).bind kR := by
  simp only [f_l_eqIntS_k, brB, blB, someB]
theorem f_l_eqIntS_e (a0 : List Sc) (b1 : List Sc) : runFn E0 f_l_eqIntS_M H0 f_l_eqIntS_F (asL (addL 0 (f_l_eqIntS_t0) (noL))) Try.f20 (f_l_eqIntS_a a0 b1) (f_l_eqIntS_i a0 b1) = f_l_eqIntS_k a0 b1 (fun r => some (f_l_eqIntS_en r)) := by kernel_rfl
theorem f_l_eqIntS_ok (a0 : List Sc) (b1 : List Sc) (r : Bool) (h : f_l_eqIntS a0 b1 = some r) : CS Try.prog 20 (f_l_eqIntS_a a0 b1) (f_l_eqIntS_i a0 b1) (f_l_eqIntS_en r).1 (f_l_eqIntS_en r).2 :=
  fn_true (Gk := fun k => f_l_eqIntS_k a0 b1 k) (en := f_l_eqIntS_en) Try.func20 E0ok f_l_eqIntS_Mt (addL_true (f_l_eqIntS_tt0) (noL_true)) f_l_eqIntS_o (f_l_eqIntS_e a0 b1) (f_l_eqIntS_p a0 b1) h
def f_l_eqIntS_c : CRow := fun args inh => match dec2 [.p .sl, .p .sl] [] args inh with
  | some ([.l a0, .l b1], []) => some ((f_l_eqIntS a0 b1).isSome, (f_l_eqIntS_en ((f_l_eqIntS a0 b1).getD false)).1, (f_l_eqIntS_en ((f_l_eqIntS a0 b1).getD false)).2)
  | _ => none
theorem f_l_eqIntS_cc : CTrue Try.prog 20 f_l_eqIntS_c := by
  intro args inh rs out h
  unfold f_l_eqIntS_c at h
  split at h
  · rename_i hd
    obtain ⟨h1, h2⟩ := dec2_enc hd
    rw [← h1, ← h2]
    exact rowC (f_l_eqIntS_ok _ _) h
  · cases h

def f_l_eqGroup_F : Fi := { nv := 0, nc := 0, m := 0, vt := [], kl := [], sk := [], mvs := [], fz := [] }
def f_l_eqGroup_a (a0 : List Sc) (b1 : List Sc) : List AV := enc [.p .gr, .p .gr] [.l a0, .l b1]
def f_l_eqGroup_i (a0 : List Sc) (b1 : List Sc) : List AV := enc [] []
def f_l_eqGroup_en (r : Bool) : List AV × List AV := (enc [.p .boo] [.b r], enc [] [])
def f_l_eqGroup_M : Calling := addC 20 f_l_eqIntS_c (noC)
theorem f_l_eqGroup_Mt : CallOk Try.prog (f_l_eqGroup_M) := addC_true f_l_eqIntS_cc (noC_true)
theorem f_l_eqGroup_o : loopsOnce Try.f19 = true := by kernel_rfl
theorem f_l_eqGroup_p {R : Type} (a0 : List Sc) (b1 : List Sc) (kR : Bool → Option R) : f_l_eqGroup_k a0 b1 kR = (f_l_eqGroup_k a0 b1 some).bind kR := by
  simp only [f_l_eqGroup_k, brB, boB, someB]
theorem f_l_eqGroup_e (a0 : List Sc) (b1 : List Sc) : runFn E0 f_l_eqGroup_M H0 f_l_eqGroup_F (asL (noL)) Try.f19 (f_l_eqGroup_a a0 b1) (f_l_eqGroup_i a0 b1) = f_l_eqGroup_k a0 b1 (fun r => some (f_l_eqGroup_en r)) := by kernel_rfl
theorem f_l_eqGroup_ok (a0 : List Sc) (b1 : List Sc) (r : Bool) (h : f_l_eqGroup a0 b1 = some r) : CS Try.prog 19 (f_l_eqGroup_a a0 b1) (f_l_eqGroup_i a0 b1) (f_l_eqGroup_en r).1 (f_l_eqGroup_en r).2 :=
  fn_true (Gk := fun k => f_l_eqGroup_k a0 b1 k) (en := f_l_eqGroup_en) Try.func19 E0ok f_l_eqGroup_Mt (noL_true) f_l_eqGroup_o (f_l_eqGroup_e a0 b1) (f_l_eqGroup_p a0 b1) h
def f_l_eqGroup_c : CRow := fun args inh => match dec2 [.p .gr, .p .gr] [] args inh with
  | some ([.l a0, .l b1], []) => some ((f_l_eqGroup a0 b1).isSome, (f_l_eqGroup_en ((f_l_eqGroup a0 b1).getD false)).1, (f_l_eqGroup_en ((f_l_eqGroup a0 b1).getD false)).2)
  | _ => none
theorem f_l_eqGroup_cc : CTrue Try.prog 19 f_l_eqGroup_c := by
  intro args inh rs out h
  unfold f_l_eqGroup_c at h
  split at h
  · rename_i hd
    obtain ⟨h1, h2⟩ := dec2_enc hd
    rw [← h1, ← h2]
    exact rowC (f_l_eqGroup_ok _ _) h
  · cases h

def f_l_FnExactCyclicStructure_F : Fi := { nv := 3, nc := 1, m := 0, vt := [(8, 0), (22, 1), (29, 2)], kl := [], sk := [], mvs := [1, 2], fz := [] }
def f_l_FnExactCyclicStructure_a (aG0 : List Sc) (aL1 : List Sc) : List AV := enc [.p .gr, .p .sl] [.l aG0, .l aL1]
def f_l_FnExactCyclicStructure_i (aG0 : List Sc) (aL1 : List Sc) : List AV := enc [] []
def f_l_FnExactCyclicStructure_en (r : Bool) : List AV × List AV := (enc [.p .boo] [.b r], enc [] [])
def f_l_FnExactCyclicStructure_M : Calling := addC 14 f_l_szGroup_c (addC 16 f_l_toGroup_c (addC 17 f_l_toIntS_c (addC 21 f_s_CyclicStructure_c (addC 22 f_i_CyclicStructure_c (addC 19 f_l_eqGroup_c (addC 20 f_l_eqIntS_c (noC)))))))
theorem f_l_FnExactCyclicStructure_Mt : CallOk Try.prog (f_l_FnExactCyclicStructure_M) := addC_true f_l_szGroup_cc (addC_true f_l_toGroup_cc (addC_true f_l_toIntS_cc (addC_true f_s_CyclicStructure_cc (addC_true f_i_CyclicStructure_cc (addC_true f_l_eqGroup_cc (addC_true f_l_eqIntS_cc (noC_true)))))))
theorem f_l_FnExactCyclicStructure_o : loopsOnce Try.f4 = true := by kernel_rfl
theorem f_l_FnExactCyclicStructure_p {R : Type} (aG0 : List Sc) (aL1 : List Sc) (kR : Bool → Option R) : f_l_FnExactCyclicStructure_k aG0 aL1 kR = (f_l_FnExactCyclicStructure_k aG0 aL1 some).bind kR := by
  simp only [f_l_FnExactCyclicStructure_k, brB, boB, someB]
theorem f_l_FnExactCyclicStructure_e (aG0 : List Sc) (aL1 : List Sc) : runFn E0 f_l_FnExactCyclicStructure_M H0 f_l_FnExactCyclicStructure_F (asL (noL)) Try.f4 (f_l_FnExactCyclicStructure_a aG0 aL1) (f_l_FnExactCyclicStructure_i aG0 aL1) = f_l_FnExactCyclicStructure_k aG0 aL1 (fun r => some (f_l_FnExactCyclicStructure_en r)) := by kernel_rfl
theorem f_l_FnExactCyclicStructure_ok (aG0 : List Sc) (aL1 : List Sc) (r : Bool) (h : f_l_FnExactCyclicStructure aG0 aL1 = some r) : CS Try.prog 4 (f_l_FnExactCyclicStructure_a aG0 aL1) (f_l_FnExactCyclicStructure_i aG0 aL1) (f_l_FnExactCyclicStructure_en r).1 (f_l_FnExactCyclicStructure_en r).2 :=
  fn_true (Gk := fun k => f_l_FnExactCyclicStructure_k aG0 aL1 k) (en := f_l_FnExactCyclicStructure_en) Try.func4 E0ok f_l_FnExactCyclicStructure_Mt (noL_true) f_l_FnExactCyclicStructure_o (f_l_FnExactCyclicStructure_e aG0 aL1) (f_l_FnExactCyclicStructure_p aG0 aL1) h
def f_l_FnExactCyclicStructure_c : CRow := fun args inh => match dec2 [.p .gr, .p .sl] [] args inh with
  | some ([.l aG0, .l aL1], []) => some ((f_l_FnExactCyclicStructure aG0 aL1).isSome, (f_l_FnExactCyclicStructure_en ((f_l_FnExactCyclicStructure aG0 aL1).getD false)).1, (f_l_FnExactCyclicStructure_en ((f_l_FnExactCyclicStructure aG0 aL1).getD false)).2)
  | _ => none
theorem f_l_FnExactCyclicStructure_cc : CTrue Try.prog 4 f_l_FnExactCyclicStructure_c := by
  intro args inh rs out h
  unfold f_l_FnExactCyclicStructure_c at h
  split at h
  · rename_i hd
    obtain ⟨h1, h2⟩ := dec2_enc hd
    rw [← h1, ← h2]
    exact rowC (f_l_FnExactCyclicStructure_ok _ _) h
  · cases h

def f_s_l16Sum_F : Fi := { nv := 0, nc := 0, m := 0, vt := [], kl := [(0, ([0, 3, 4, 7, 8, 9, 10, 11, 12, 13, 14, 15, 16, 17, 18, 19, 20], [0, 1, 2, 3, 4, 6, 7, 8, 9, 10, 11, 12, 13, 14, 15, 16, 17, 18, 19, 20], [0, 1, 2, 3, 5, 6, 7, 8, 9, 10, 11, 12, 13, 14, 15, 16, 17, 18, 19, 20]))], sk := [], mvs := [], fz := [] }
def f_s_l16Sum_a (g0 : List Sc) (l1 : List Sc) : List AV := enc [.p .gr, .p .sl] [.l g0, .l l1]
def f_s_l16Sum_i (g0 : List Sc) (l1 : List Sc) : List AV := enc [] []
def f_s_l16Sum_en (r : Int) : List AV × List AV := (enc [.p (.int .i64)] [.i r], enc [] [])
def f_s_l16Sum_M : Calling := addC 101 f_s_l2Add_c (noC)
theorem f_s_l16Sum_Mt : CallOk Try.prog (f_s_l16Sum_M) := addC_true f_s_l2Add_cc (noC_true)
theorem f_s_l16Sum_o : loopsOnce Try.f67 = true := by kernel_rfl
def f_s_l16Sum_h0 : List Sh := [.u, .p .sl, .p .el, .u, .u, .p (.int .i64), .p (.int .i64), .u, .u, .u, .u, .u, .u, .u, .u, .u, .u, .u, .u, .u, .u]
def f_s_l16Sum_fr0 (l1 : List Sc) (g2 : List Sc) (s : Int × Int) : List AV := enc f_s_l16Sum_h0 [.l l1, .l g2, .i s.1, .i s.2]
def f_s_l16Sum_g0_1 : List Sh := [.u, .u, .u, .u, .u, .p (.int .i64), .u, .u, .u, .u, .u, .u, .u, .u, .u, .u, .u, .u, .u, .u, .u]
def f_s_l16Sum_x0_1 (l1 : List Sc) (g2 : List Sc) (e : Int) : X × List AV := (.out 0, enc f_s_l16Sum_g0_1 [.i e])
def f_s_l16Sum_x0_2 (l1 : List Sc) (g2 : List Sc) (_e : Unit) : X × List AV := (.ret, [])
theorem f_s_l16Sum_p0 {R : Type} (l1 : List Sc) (g2 : List Sc) (s : Int × Int) (kN : Int × Int → Option R) (kA : Int → Option R) (kB : Unit → Option R) : f_s_l16Sum_k0 l1 g2 s.1 s.2 kN kA = (f_s_l16Sum_r0 l1 g2 s).bind (Ro.el kN kA kB) := by
  simp only [f_s_l16Sum_k0, f_s_l16Sum_r0, brB, boB, someB, noneB, Ro.el]
theorem f_s_l16Sum_e0 (l1 : List Sc) (g2 : List Sc) (s : Int × Int) : EC E0 f_s_l16Sum_M H0 f_s_l16Sum_F (asL (noL)) 0 (bodyOf Try.f67 0) (f_s_l16Sum_fr0 l1 g2 s) (done (klOf f_s_l16Sum_F 0)) = f_s_l16Sum_k0 l1 g2 s.1 s.2 (fun s => some (.norm, f_s_l16Sum_fr0 l1 g2 s)) (fun e => some (f_s_l16Sum_x0_1 l1 g2 e)) := by kernel_rfl
theorem f_s_l16Sum_l0 (l1 : List Sc) (g2 : List Sc) : ∀ s r, loopL (f_s_l16Sum_r0 l1 g2) s = some r → LS Try.prog f_s_l16Sum_F (bodyOf Try.f67 0) (f_s_l16Sum_fr0 l1 g2 s) (enX (f_s_l16Sum_x0_1 l1 g2) (f_s_l16Sum_x0_2 l1 g2) r) :=
  loop_true E0ok f_s_l16Sum_Mt (noL_true) f_s_l16Sum_o (fun _ h => by cases h) (fun _ h => by cases h) (fun s => (f_s_l16Sum_e0 l1 g2 s).trans (f_s_l16Sum_p0 l1 g2 s _ _ (fun e => some (f_s_l16Sum_x0_2 l1 g2 e))))
def f_s_l16Sum_t0 (σ : List AV) : Option (Bool × Bool × (X × List AV) × (X × List AV)) := match dec f_s_l16Sum_h0 σ with
  | some [.l l1, .l g2, .i z5, .i i6] => some (isOne (loopL (f_s_l16Sum_r0 l1 g2) (z5, i6)), true, f_s_l16Sum_x0_1 l1 g2 (getOne 0 (loopL (f_s_l16Sum_r0 l1 g2) (z5, i6))), (.ret, []))
  | _ => none
theorem f_s_l16Sum_tt0 : TTrue Try.prog f_s_l16Sum_F Try.f67 0 (f_s_l16Sum_t0) := by
  intro σ p r r' h
  unfold f_s_l16Sum_t0 at h
  split at h
  · rename_i hd
    rw [← dec_enc hd]
    exact row1 (f_s_l16Sum_l0 _ _ _) h
  · cases h
theorem f_s_l16Sum_p {R : Type} (g0 : List Sc) (l1 : List Sc) (kR : Int → Option R) : f_s_l16Sum_k g0 l1 kR = (f_s_l16Sum_k g0 l1 some).bind kR := by
  simp only [f_s_l16Sum_k, bl1B, someB]
theorem f_s_l16Sum_e (g0 : List Sc) (l1 : List Sc) : runFn E0 f_s_l16Sum_M H0 f_s_l16Sum_F (asL (addL 0 (f_s_l16Sum_t0) (noL))) Try.f67 (f_s_l16Sum_a g0 l1) (f_s_l16Sum_i g0 l1) = f_s_l16Sum_k g0 l1 (fun r => some (f_s_l16Sum_en r)) := by kernel_rfl
theorem f_s_l16Sum_ok (g0 : List Sc) (l1 : List Sc) (r : Int) (h : f_s_l16Sum g0 l1 = some r) : CS Try.prog 67 (f_s_l16Sum_a g0 l1) (f_s_l16Sum_i g0 l1) (f_s_l16Sum_en r).1 (f_s_l16Sum_en r).2 :=
  fn_true (Gk := fun k => f_s_l16Sum_k g0 l1 k) (en := f_s_l16Sum_en) Try.func67 E0ok f_s_l16Sum_Mt (addL_true (f_s_l16Sum_tt0) (noL_true)) f_s_l16Sum_o (f_s_l16Sum_e g0 l1) (f_s_l16Sum_p g0 l1) h
def f_s_l16Sum_c : CRow := fun args inh => match dec2 [.p .gr, .p .sl] [] args inh with
  | some ([.l g0, .l l1], []) => some ((f_s_l16Sum g0 l1).isSome, (f_s_l16Sum_en ((f_s_l16Sum g0 l1).getD 0)).1, (f_s_l16Sum_en ((f_s_l16Sum g0 l1).getD 0)).2)
  | _ => none
theorem f_s_l16Sum_cc : CTrue Try.prog 67 f_s_l16Sum_c := by
  intro args inh rs out h
  unfold f_s_l16Sum_c at h
  split at h
  · rename_i hd
    obtain ⟨h1, h2⟩ := dec2_enc hd
    rw [← h1, ← h2]
    exact rowC (f_s_l16Sum_ok _ _) h
  · cases h

def f_s_IsZeroSum_F : Fi := { nv := 0, nc := 0, m := 0, vt := [], kl := [], sk := [], mvs := [], fz := [] }
def f_s_IsZeroSum_a (g0 : List Sc) (l1 : List Sc) : List AV := enc [.p .gr, .p .sl] [.l g0, .l l1]
def f_s_IsZeroSum_i (g0 : List Sc) (l1 : List Sc) : List AV := enc [] []
def f_s_IsZeroSum_en (r : Bool) : List AV × List AV := (enc [.p .boo] [.b r], enc [] [])
def f_s_IsZeroSum_M : Calling := addC 45 f_s_IsSequence_c (addC 67 f_s_l16Sum_c (noC))
theorem f_s_IsZeroSum_Mt : CallOk Try.prog (f_s_IsZeroSum_M) := addC_true f_s_IsSequence_cc (addC_true f_s_l16Sum_cc (noC_true))
theorem f_s_IsZeroSum_o : loopsOnce Try.f56 = true := by kernel_rfl
theorem f_s_IsZeroSum_p {R : Type} (g0 : List Sc) (l1 : List Sc) (kR : Bool → Option R) : f_s_IsZeroSum_k g0 l1 kR = (f_s_IsZeroSum_k g0 l1 some).bind kR := by
  simp only [f_s_IsZeroSum_k, brB, boB, someB]
theorem f_s_IsZeroSum_e (g0 : List Sc) (l1 : List Sc) : runFn E0 f_s_IsZeroSum_M H0 f_s_IsZeroSum_F (asL (noL)) Try.f56 (f_s_IsZeroSum_a g0 l1) (f_s_IsZeroSum_i g0 l1) = f_s_IsZeroSum_k g0 l1 (fun r => some (f_s_IsZeroSum_en r)) := by kernel_rfl
theorem f_s_IsZeroSum_ok (g0 : List Sc) (l1 : List Sc) (r : Bool) (h : f_s_IsZeroSum g0 l1 = some r) : CS Try.prog 56 (f_s_IsZeroSum_a g0 l1) (f_s_IsZeroSum_i g0 l1) (f_s_IsZeroSum_en r).1 (f_s_IsZeroSum_en r).2 :=
  fn_true (Gk := fun k => f_s_IsZeroSum_k g0 l1 k) (en := f_s_IsZeroSum_en) Try.func56 E0ok f_s_IsZeroSum_Mt (noL_true) f_s_IsZeroSum_o (f_s_IsZeroSum_e g0 l1) (f_s_IsZeroSum_p g0 l1) h
def f_s_IsZeroSum_c : CRow := fun args inh => match dec2 [.p .gr, .p .sl] [] args inh with
  | some ([.l g0, .l l1], []) => some ((f_s_IsZeroSum g0 l1).isSome, (f_s_IsZeroSum_en ((f_s_IsZeroSum g0 l1).getD false)).1, (f_s_IsZeroSum_en ((f_s_IsZeroSum g0 l1).getD false)).2)
  | _ => none
theorem f_s_IsZeroSum_cc : CTrue Try.prog 56 f_s_IsZeroSum_c := by
  intro args inh rs out h
  unfold f_s_IsZeroSum_c at h
  split at h
  · rename_i hd
    obtain ⟨h1, h2⟩ := dec2_enc hd
    rw [← h1, ← h2]
    exact rowC (f_s_IsZeroSum_ok _ _) h
  · cases h

def f_s_l19Minimal_F : Fi := { nv := 0, nc := 0, m := 0, vt := [], kl := [(0, ([0, 3, 4, 6, 7, 8, 9, 10, 11, 12, 13, 14, 15, 16, 17, 18, 19, 20, 21, 22, 23, 24, 25, 26, 27], [0, 1, 2, 3, 4, 5, 6, 7, 8, 9, 10, 11, 12, 13, 14, 15, 16, 17, 18, 19, 20, 21, 22, 23, 24, 25, 26, 27], [0, 1, 2, 3, 5, 6, 7, 8, 9, 10, 11, 12, 13, 14, 15, 16, 17, 18, 19, 20, 21, 22, 23, 24, 25, 26, 27]))], sk := [], mvs := [], fz := [] }
def f_s_l19Minimal_a (g0 : List Sc) (l1 : List Sc) : List AV := enc [.p .gr, .p .sl] [.l g0, .l l1]
def f_s_l19Minimal_i (g0 : List Sc) (l1 : List Sc) : List AV := enc [] []
def f_s_l19Minimal_en (r : Bool) : List AV × List AV := (enc [.p .boo] [.b r], enc [] [])
def f_s_l19Minimal_M : Calling := addC 57 f_s_l16Subsums_c (noC)
theorem f_s_l19Minimal_Mt : CallOk Try.prog (f_s_l19Minimal_M) := addC_true f_s_l16Subsums_cc (noC_true)
theorem f_s_l19Minimal_o : loopsOnce Try.f58 = true := by kernel_rfl
def f_s_l19Minimal_h0 : List Sh := [.u, .p .sl, .p .el, .u, .u, .p (.int .i64), .u, .u, .u, .u, .u, .u, .u, .u, .u, .u, .u, .u, .u, .u, .u, .u, .u, .u, .u, .u, .u, .u]
def f_s_l19Minimal_fr0 (l1 : List Sc) (g2 : List Sc) (s : Int) : List AV := enc f_s_l19Minimal_h0 [.l l1, .l g2, .i s]
def f_s_l19Minimal_g0_1 : List Sh := [.u, .u, .u, .u, .u, .u, .u, .u, .u, .u, .u, .u, .u, .u, .u, .u, .u, .u, .u, .u, .u, .u, .u, .u, .u, .u, .u, .u]
def f_s_l19Minimal_x0_1 (l1 : List Sc) (g2 : List Sc) (e : Unit) : X × List AV := (.out 0, enc f_s_l19Minimal_g0_1 [])
def f_s_l19Minimal_g0_2 : List Sh := [.u, .u, .u, .u, .p .boo, .u, .u, .u, .u, .u, .u, .u, .u, .u, .u, .u, .u, .u, .u, .u, .u, .u, .u, .u, .u, .u, .u, .u]
def f_s_l19Minimal_x0_2 (l1 : List Sc) (g2 : List Sc) (e : Unit) : X × List AV := (.ret, enc f_s_l19Minimal_g0_2 [.b false])
theorem f_s_l19Minimal_p0 {R : Type} (l1 : List Sc) (g2 : List Sc) (s : Int) (kN : Int → Option R) (kA : Unit → Option R) (kB : Unit → Option R) : f_s_l19Minimal_k0 l1 g2 s kN kA kB = (f_s_l19Minimal_r0 l1 g2 s).bind (Ro.el kN kA kB) := by
  simp only [f_s_l19Minimal_k0, f_s_l19Minimal_r0, brB, boB, someB, noneB, Ro.el]
theorem f_s_l19Minimal_e0 (l1 : List Sc) (g2 : List Sc) (s : Int) : EC E0 f_s_l19Minimal_M H0 f_s_l19Minimal_F (asL (noL)) 0 (bodyOf Try.f58 0) (f_s_l19Minimal_fr0 l1 g2 s) (done (klOf f_s_l19Minimal_F 0)) = f_s_l19Minimal_k0 l1 g2 s (fun s => some (.norm, f_s_l19Minimal_fr0 l1 g2 s)) (fun e => some (f_s_l19Minimal_x0_1 l1 g2 e)) (fun e => some (f_s_l19Minimal_x0_2 l1 g2 e)) := by kernel_rfl
theorem f_s_l19Minimal_l0 (l1 : List Sc) (g2 : List Sc) : ∀ s r, loopL (f_s_l19Minimal_r0 l1 g2) s = some r → LS Try.prog f_s_l19Minimal_F (bodyOf Try.f58 0) (f_s_l19Minimal_fr0 l1 g2 s) (enX (f_s_l19Minimal_x0_1 l1 g2) (f_s_l19Minimal_x0_2 l1 g2) r) :=
  loop_true E0ok f_s_l19Minimal_Mt (noL_true) f_s_l19Minimal_o (fun _ h => by cases h) (fun _ h => by cases h) (fun s => (f_s_l19Minimal_e0 l1 g2 s).trans (f_s_l19Minimal_p0 l1 g2 s _ _ (fun e => some (f_s_l19Minimal_x0_2 l1 g2 e))))
def f_s_l19Minimal_t0 (σ : List AV) : Option (Bool × Bool × (X × List AV) × (X × List AV)) := match dec f_s_l19Minimal_h0 σ with
  | some [.l l1, .l g2, .i i5] => some ((loopL (f_s_l19Minimal_r0 l1 g2) i5).isSome, isOne (loopL (f_s_l19Minimal_r0 l1 g2) i5), f_s_l19Minimal_x0_1 l1 g2 (getOne () (loopL (f_s_l19Minimal_r0 l1 g2) i5)), f_s_l19Minimal_x0_2 l1 g2 (getTwo () (loopL (f_s_l19Minimal_r0 l1 g2) i5)))
  | _ => none
theorem f_s_l19Minimal_tt0 : TTrue Try.prog f_s_l19Minimal_F Try.f58 0 (f_s_l19Minimal_t0) := by
  intro σ p r r' h
  unfold f_s_l19Minimal_t0 at h
  split at h
  · rename_i hd
    rw [← dec_enc hd]
    exact row2 (f_s_l19Minimal_l0 _ _ _) h
  · cases h
theorem f_s_l19Minimal_p {R : Type} (g0 : List Sc) (l1 : List Sc) (kR : Bool → Option R) : f_s_l19Minimal_k g0 l1 kR = (f_s_l19Minimal_k g0 l1 some).bind kR := by
  simp only [f_s_l19Minimal_k, blB, someB]
theorem f_s_l19Minimal_e (g0 : List Sc) (l1 : List Sc) : runFn E0 f_s_l19Minimal_M H0 f_s_l19Minimal_F (asL (addL 0 (f_s_l19Minimal_t0) (noL))) Try.f58 (f_s_l19Minimal_a g0 l1) (f_s_l19Minimal_i g0 l1) = f_s_l19Minimal_k g0 l1 (fun r => some (f_s_l19Minimal_en r)) := by kernel_rfl
theorem f_s_l19Minimal_ok (g0 : List Sc) (l1 : List Sc) (r : Bool) (h : f_s_l19Minimal g0 l1 = some r) : CS Try.prog 58 (f_s_l19Minimal_a g0 l1) (f_s_l19Minimal_i g0 l1) (f_s_l19Minimal_en r).1 (f_s_l19Minimal_en r).2 :=
  fn_true (Gk := fun k => f_s_l19Minimal_k g0 l1 k) (en := f_s_l19Minimal_en) Try.func58 E0ok f_s_l19Minimal_Mt (addL_true (f_s_l19Minimal_tt0) (noL_true)) f_s_l19Minimal_o (f_s_l19Minimal_e g0 l1) (f_s_l19Minimal_p g0 l1) h
def f_s_l19Minimal_c : CRow := fun args inh => match dec2 [.p .gr, .p .sl] [] args inh with
  | some ([.l g0, .l l1], []) => some ((f_s_l19Minimal g0 l1).isSome, (f_s_l19Minimal_en ((f_s_l19Minimal g0 l1).getD false)).1, (f_s_l19Minimal_en ((f_s_l19Minimal g0 l1).getD false)).2)
  | _ => none
theorem f_s_l19Minimal_cc : CTrue Try.prog 58 f_s_l19Minimal_c := by
  intro args inh rs out h
  unfold f_s_l19Minimal_c at h
  split at h
  · rename_i hd
    obtain ⟨h1, h2⟩ := dec2_enc hd
    rw [← h1, ← h2]
    exact rowC (f_s_l19Minimal_ok _ _) h
  · cases h

def f_s_IsAtom_F : Fi := { nv := 0, nc := 0, m := 0, vt := [], kl := [], sk := [], mvs := [], fz := [] }
def f_s_IsAtom_a (g0 : List Sc) (l1 : List Sc) : List AV := enc [.p .gr, .p .sl] [.l g0, .l l1]
def f_s_IsAtom_i (g0 : List Sc) (l1 : List Sc) : List AV := enc [] []
def f_s_IsAtom_en (r : Bool) : List AV × List AV := (enc [.p .boo] [.b r], enc [] [])
def f_s_IsAtom_M : Calling := addC 56 f_s_IsZeroSum_c (addC 57 f_s_l16Subsums_c (addC 58 f_s_l19Minimal_c (noC)))
theorem f_s_IsAtom_Mt : CallOk Try.prog (f_s_IsAtom_M) := addC_true f_s_IsZeroSum_cc (addC_true f_s_l16Subsums_cc (addC_true f_s_l19Minimal_cc (noC_true)))
theorem f_s_IsAtom_o : loopsOnce Try.f23 = true := by kernel_rfl
theorem f_s_IsAtom_p {R : Type} (g0 : List Sc) (l1 : List Sc) (kR : Bool → Option R) : f_s_IsAtom_k g0 l1 kR = (f_s_IsAtom_k g0 l1 some).bind kR := by
  simp only [f_s_IsAtom_k, brB, boB, someB, noneB]
theorem f_s_IsAtom_e (g0 : List Sc) (l1 : List Sc) : runFn E0 f_s_IsAtom_M H0 f_s_IsAtom_F (asL (noL)) Try.f23 (f_s_IsAtom_a g0 l1) (f_s_IsAtom_i g0 l1) = f_s_IsAtom_k g0 l1 (fun r => some (f_s_IsAtom_en r)) := by kernel_rfl
theorem f_s_IsAtom_ok (g0 : List Sc) (l1 : List Sc) (r : Bool) (h : f_s_IsAtom g0 l1 = some r) : CS Try.prog 23 (f_s_IsAtom_a g0 l1) (f_s_IsAtom_i g0 l1) (f_s_IsAtom_en r).1 (f_s_IsAtom_en r).2 :=
  fn_true (Gk := fun k => f_s_IsAtom_k g0 l1 k) (en := f_s_IsAtom_en) Try.func23 E0ok f_s_IsAtom_Mt (noL_true) f_s_IsAtom_o (f_s_IsAtom_e g0 l1) (f_s_IsAtom_p g0 l1) h
def f_s_IsAtom_c : CRow := fun args inh => match dec2 [.p .gr, .p .sl] [] args inh with
  | some ([.l g0, .l l1], []) => some ((f_s_IsAtom g0 l1).isSome, (f_s_IsAtom_en ((f_s_IsAtom g0 l1).getD false)).1, (f_s_IsAtom_en ((f_s_IsAtom g0 l1).getD false)).2)
  | _ => none
theorem f_s_IsAtom_cc : CTrue Try.prog 23 f_s_IsAtom_c := by
  intro args inh rs out h
  unfold f_s_IsAtom_c at h
  split at h
  · rename_i hd
    obtain ⟨h1, h2⟩ := dec2_enc hd
    rw [← h1, ← h2]
    exact rowC (f_s_IsAtom_ok _ _) h
  · cases h

def f_i_Group_total_F : Fi := { nv := 0, nc := 0, m := 0, vt := [], kl := [(0, ([0, 1, 3, 4, 6, 7, 11, 12, 13, 14, 15, 16, 17, 18, 19], [0, 1, 2, 3, 4, 6, 7, 8, 9, 10, 11, 12, 13, 14, 15, 16, 17, 18, 19], [0, 1, 2, 3, 5, 6, 7, 8, 9, 10, 11, 12, 13, 14, 15, 16, 17, 18, 19]))], sk := [], mvs := [], fz := [] }
def f_i_Group_total_a (g0 : List Sc) (l1 : List Sc) : List AV := enc [.p .gr, .p .sl] [.l g0, .l l1]
def f_i_Group_total_i (g0 : List Sc) (l1 : List Sc) : List AV := enc [] []
def f_i_Group_total_en (r : Int) : List AV × List AV := (enc [.p (.int .i64)] [.i r], enc [] [])
def f_i_Group_total_M : Calling := addC 95 f_i_Group_add_c (noC)
theorem f_i_Group_total_Mt : CallOk Try.prog (f_i_Group_total_M) := addC_true f_i_Group_add_cc (noC_true)
theorem f_i_Group_total_o : loopsOnce Try.f60 = true := by kernel_rfl
def f_i_Group_total_h0 : List Sh := [.u, .u, .p .el, .u, .u, .p (.int .i64), .u, .u, .p .sl, .p (.int .i64), .p (.int .i64), .u, .u, .u, .u, .u, .u, .u, .u, .u]
def f_i_Group_total_fr0 (g2 : List Sc) (t8 : List Sc) (t9 : Int) (s : Int × Int) : List AV := enc f_i_Group_total_h0 [.l g2, .i s.1, .l t8, .i t9, .i s.2]
def f_i_Group_total_g0_1 : List Sh := [.u, .u, .u, .u, .u, .p (.int .i64), .u, .u, .u, .u, .u, .u, .u, .u, .u, .u, .u, .u, .u, .u]
def f_i_Group_total_x0_1 (g2 : List Sc) (t8 : List Sc) (t9 : Int) (e : Int) : X × List AV := (.out 0, enc f_i_Group_total_g0_1 [.i e])
def f_i_Group_total_x0_2 (g2 : List Sc) (t8 : List Sc) (t9 : Int) (_e : Unit) : X × List AV := (.ret, [])
theorem f_i_Group_total_p0 {R : Type} (g2 : List Sc) (t8 : List Sc) (t9 : Int) (s : Int × Int) (kN : Int × Int → Option R) (kA : Int → Option R) (kB : Unit → Option R) : f_i_Group_total_k0 g2 t8 t9 s.1 s.2 kN kA = (f_i_Group_total_r0 g2 t8 t9 s).bind (Ro.el kN kA kB) := by
  simp only [f_i_Group_total_k0, f_i_Group_total_r0, brB, boB, someB, noneB, Ro.el]
theorem f_i_Group_total_e0 (g2 : List Sc) (t8 : List Sc) (t9 : Int) (s : Int × Int) : EC E0 f_i_Group_total_M H0 f_i_Group_total_F (asL (noL)) 0 (bodyOf Try.f60 0) (f_i_Group_total_fr0 g2 t8 t9 s) (done (klOf f_i_Group_total_F 0)) = f_i_Group_total_k0 g2 t8 t9 s.1 s.2 (fun s => some (.norm, f_i_Group_total_fr0 g2 t8 t9 s)) (fun e => some (f_i_Group_total_x0_1 g2 t8 t9 e)) := by kernel_rfl
theorem f_i_Group_total_l0 (g2 : List Sc) (t8 : List Sc) (t9 : Int) : ∀ s r, loopL (f_i_Group_total_r0 g2 t8 t9) s = some r → LS Try.prog f_i_Group_total_F (bodyOf Try.f60 0) (f_i_Group_total_fr0 g2 t8 t9 s) (enX (f_i_Group_total_x0_1 g2 t8 t9) (f_i_Group_total_x0_2 g2 t8 t9) r) :=
  loop_true E0ok f_i_Group_total_Mt (noL_true) f_i_Group_total_o (fun _ h => by cases h) (fun _ h => by cases h) (fun s => (f_i_Group_total_e0 g2 t8 t9 s).trans (f_i_Group_total_p0 g2 t8 t9 s _ _ (fun e => some (f_i_Group_total_x0_2 g2 t8 t9 e))))
def f_i_Group_total_t0 (σ : List AV) : Option (Bool × Bool × (X × List AV) × (X × List AV)) := match dec f_i_Group_total_h0 σ with
  | some [.l g2, .i s5, .l t8, .i t9, .i t10] => some (isOne (loopL (f_i_Group_total_r0 g2 t8 t9) (s5, t10)), true, f_i_Group_total_x0_1 g2 t8 t9 (getOne 0 (loopL (f_i_Group_total_r0 g2 t8 t9) (s5, t10))), (.ret, []))
  | _ => none
theorem f_i_Group_total_tt0 : TTrue Try.prog f_i_Group_total_F Try.f60 0 (f_i_Group_total_t0) := by
  intro σ p r r' h
  unfold f_i_Group_total_t0 at h
  split at h
  · rename_i hd
    rw [← dec_enc hd]
    exact row1 (f_i_Group_total_l0 _ _ _ _) h
  · cases h
theorem f_i_Group_total_p {R : Type} (g0 : List Sc) (l1 : List Sc) (kR : Int → Option R) : f_i_Group_total_k g0 l1 kR = (f_i_Group_total_k g0 l1 some).bind kR := by
  simp only [f_i_Group_total_k, bl1B, someB]
theorem f_i_Group_total_e (g0 : List Sc) (l1 : List Sc) : runFn E0 f_i_Group_total_M H0 f_i_Group_total_F (asL (addL 0 (f_i_Group_total_t0) (noL))) Try.f60 (f_i_Group_total_a g0 l1) (f_i_Group_total_i g0 l1) = f_i_Group_total_k g0 l1 (fun r => some (f_i_Group_total_en r)) := by kernel_rfl
theorem f_i_Group_total_ok (g0 : List Sc) (l1 : List Sc) (r : Int) (h : f_i_Group_total g0 l1 = some r) : CS Try.prog 60 (f_i_Group_total_a g0 l1) (f_i_Group_total_i g0 l1) (f_i_Group_total_en r).1 (f_i_Group_total_en r).2 :=
  fn_true (Gk := fun k => f_i_Group_total_k g0 l1 k) (en := f_i_Group_total_en) Try.func60 E0ok f_i_Group_total_Mt (addL_true (f_i_Group_total_tt0) (noL_true)) f_i_Group_total_o (f_i_Group_total_e g0 l1) (f_i_Group_total_p g0 l1) h
def f_i_Group_total_c : CRow := fun args inh => match dec2 [.p .gr, .p .sl] [] args inh with
  | some ([.l g0, .l l1], []) => some ((f_i_Group_total g0 l1).isSome, (f_i_Group_total_en ((f_i_Group_total g0 l1).getD 0)).1, (f_i_Group_total_en ((f_i_Group_total g0 l1).getD 0)).2)
  | _ => none
theorem f_i_Group_total_cc : CTrue Try.prog 60 f_i_Group_total_c := by
  intro args inh rs out h
  unfold f_i_Group_total_c at h
  split at h
  · rename_i hd
    obtain ⟨h1, h2⟩ := dec2_enc hd
    rw [← h1, ← h2]
    exact rowC (f_i_Group_total_ok _ _) h
  · cases h

def f_i_IsZeroSum_F : Fi := { nv := 0, nc := 0, m := 0, vt := [], kl := [], sk := [], mvs := [], fz := [] }
def f_i_IsZeroSum_a (g0 : List Sc) (l1 : List Sc) : List AV := enc [.p .gr, .p .sl] [.l g0, .l l1]
def f_i_IsZeroSum_i (g0 : List Sc) (l1 : List Sc) : List AV := enc [] []
def f_i_IsZeroSum_en (r : Bool) : List AV × List AV := (enc [.p .boo] [.b r], enc [] [])
def f_i_IsZeroSum_M : Calling := addC 48 f_i_IsSequence_c (addC 60 f_i_Group_total_c (noC))
theorem f_i_IsZeroSum_Mt : CallOk Try.prog (f_i_IsZeroSum_M) := addC_true f_i_IsSequence_cc (addC_true f_i_Group_total_cc (noC_true))
theorem f_i_IsZeroSum_o : loopsOnce Try.f59 = true := by kernel_rfl
theorem f_i_IsZeroSum_p {R : Type} (g0 : List Sc) (l1 : List Sc) (kR : Bool → Option R) : f_i_IsZeroSum_k g0 l1 kR = (f_i_IsZeroSum_k g0 l1 some).bind kR := by
  simp only [f_i_IsZeroSum_k, brB, boB, someB]
theorem f_i_IsZeroSum_e (g0 : List Sc) (l1 : List Sc) : runFn E0 f_i_IsZeroSum_M H0 f_i_IsZeroSum_F (asL (noL)) Try.f59 (f_i_IsZeroSum_a g0 l1) (f_i_IsZeroSum_i g0 l1) = f_i_IsZeroSum_k g0 l1 (fun r => some (f_i_IsZeroSum_en r)) := by kernel_rfl
theorem f_i_IsZeroSum_ok (g0 : List Sc) (l1 : List Sc) (r : Bool) (h : f_i_IsZeroSum g0 l1 = some r) : CS Try.prog 59 (f_i_IsZeroSum_a g0 l1) (f_i_IsZeroSum_i g0 l1) (f_i_IsZeroSum_en r).1 (f_i_IsZeroSum_en r).2 :=
  fn_true (Gk := fun k => f_i_IsZeroSum_k g0 l1 k) (en := f_i_IsZeroSum_en) Try.func59 E0ok f_i_IsZeroSum_Mt (noL_true) f_i_IsZeroSum_o (f_i_IsZeroSum_e g0 l1) (f_i_IsZeroSum_p g0 l1) h
def f_i_IsZeroSum_c : CRow := fun args inh => match dec2 [.p .gr, .p .sl] [] args inh with
  | some ([.l g0, .l l1], []) => some ((f_i_IsZeroSum g0 l1).isSome, (f_i_IsZeroSum_en ((f_i_IsZeroSum g0 l1).getD false)).1, (f_i_IsZeroSum_en ((f_i_IsZeroSum g0 l1).getD false)).2)
  | _ => none
theorem f_i_IsZeroSum_cc : CTrue Try.prog 59 f_i_IsZeroSum_c := by
  intro args inh rs out h
  unfold f_i_IsZeroSum_c at h
  split at h
  · rename_i hd
    obtain ⟨h1, h2⟩ := dec2_enc hd
    rw [← h1, ← h2]
    exact rowC (f_i_IsZeroSum_ok _ _) h
  · cases h

def f_i_part_F : Fi := { nv := 0, nc := 0, m := 0, vt := [], kl := [(0, ([0, 2, 3, 4, 6, 7, 8, 12, 13, 14, 15, 16, 17, 18, 19, 20, 21, 22, 23, 24], [0, 1, 2, 3, 4, 6, 7, 8, 9, 10, 11, 12, 13, 14, 15, 16, 17, 18, 19, 20, 21, 22, 23, 24], [0, 1, 2, 3, 5, 6, 7, 8, 9, 10, 11, 12, 13, 14, 15, 16, 17, 18, 19, 20, 21, 22, 23, 24]))], sk := [], mvs := [], fz := [] }
def f_i_part_a (l0 : List Sc) (mask1 : Int) : List AV := enc [.p .sl, .p (.int .i64)] [.l l0, .i mask1]
def f_i_part_i (l0 : List Sc) (mask1 : Int) : List AV := enc [] []
def f_i_part_en (r : List Sc) : List AV × List AV := (enc [.p (.al 0)] [], enc [.own 3] [.l r])
def f_i_part_M : Calling := addC 93 f_i_in_c (noC)
theorem f_i_part_Mt : CallOk Try.prog (f_i_part_M) := addC_true f_i_in_cc (noC_true)
theorem f_i_part_o : loopsOnce Try.f61 = true := by kernel_rfl
def f_i_part_h0 : List Sh := [.u, .p (.int .i64), .u, .u, .u, .own 3, .u, .u, .u, .p .sl, .p (.int .i64), .p (.int .i64), .u, .u, .u, .u, .u, .u, .u, .u, .u, .u, .u, .u, .u]
def f_i_part_fr0 (mask1 : Int) (t9 : List Sc) (t10 : Int) (s : List Sc × Int) : List AV := enc f_i_part_h0 [.i mask1, .l s.1, .l t9, .i t10, .i s.2]
def f_i_part_g0_1 : List Sh := [.u, .u, .u, .u, .u, .own 3, .u, .u, .u, .u, .u, .u, .u, .u, .u, .u, .u, .u, .u, .u, .u, .u, .u, .u, .u]
def f_i_part_x0_1 (mask1 : Int) (t9 : List Sc) (t10 : Int) (e : List Sc) : X × List AV := (.out 0, enc f_i_part_g0_1 [.l e])
def f_i_part_x0_2 (mask1 : Int) (t9 : List Sc) (t10 : Int) (_e : Unit) : X × List AV := (.ret, [])
theorem f_i_part_p0 {R : Type} (mask1 : Int) (t9 : List Sc) (t10 : Int) (s : List Sc × Int) (kN : List Sc × Int → Option R) (kA : List Sc → Option R) (kB : Unit → Option R) : f_i_part_k0 mask1 t9 t10 s.1 s.2 kN kA = (f_i_part_r0 mask1 t9 t10 s).bind (Ro.el kN kA kB) := by
  simp only [f_i_part_k0, f_i_part_r0, brB, boB, someB, noneB, Ro.el]
theorem f_i_part_e0 (mask1 : Int) (t9 : List Sc) (t10 : Int) (s : List Sc × Int) : EC E0 f_i_part_M H0 f_i_part_F (asL (noL)) 0 (bodyOf Try.f61 0) (f_i_part_fr0 mask1 t9 t10 s) (done (klOf f_i_part_F 0)) = f_i_part_k0 mask1 t9 t10 s.1 s.2 (fun s => some (.norm, f_i_part_fr0 mask1 t9 t10 s)) (fun e => some (f_i_part_x0_1 mask1 t9 t10 e)) := by kernel_rfl
theorem f_i_part_l0 (mask1 : Int) (t9 : List Sc) (t10 : Int) : ∀ s r, loopL (f_i_part_r0 mask1 t9 t10) s = some r → LS Try.prog f_i_part_F (bodyOf Try.f61 0) (f_i_part_fr0 mask1 t9 t10 s) (enX (f_i_part_x0_1 mask1 t9 t10) (f_i_part_x0_2 mask1 t9 t10) r) :=
  loop_true E0ok f_i_part_Mt (noL_true) f_i_part_o (fun _ h => by cases h) (fun _ h => by cases h) (fun s => (f_i_part_e0 mask1 t9 t10 s).trans (f_i_part_p0 mask1 t9 t10 s _ _ (fun e => some (f_i_part_x0_2 mask1 t9 t10 e))))
def f_i_part_t0 (σ : List AV) : Option (Bool × Bool × (X × List AV) × (X × List AV)) := match dec f_i_part_h0 σ with
  | some [.i mask1, .l out5, .l t9, .i t10, .i t11] => some (isOne (loopL (f_i_part_r0 mask1 t9 t10) (out5, t11)), true, f_i_part_x0_1 mask1 t9 t10 (getOne [] (loopL (f_i_part_r0 mask1 t9 t10) (out5, t11))), (.ret, []))
  | _ => none
theorem f_i_part_tt0 : TTrue Try.prog f_i_part_F Try.f61 0 (f_i_part_t0) := by
  intro σ p r r' h
  unfold f_i_part_t0 at h
  split at h
  · rename_i hd
    rw [← dec_enc hd]
    exact row1 (f_i_part_l0 _ _ _ _) h
  · cases h
theorem f_i_part_p {R : Type} (l0 : List Sc) (mask1 : Int) (kR : List Sc → Option R) : f_i_part_k l0 mask1 kR = (f_i_part_k l0 mask1 some).bind kR := by
  simp only [f_i_part_k, bl1B, someB]
theorem f_i_part_e (l0 : List Sc) (mask1 : Int) : runFn E0 f_i_part_M H0 f_i_part_F (asL (addL 0 (f_i_part_t0) (noL))) Try.f61 (f_i_part_a l0 mask1) (f_i_part_i l0 mask1) = f_i_part_k l0 mask1 (fun r => some (f_i_part_en r)) := by kernel_rfl
theorem f_i_part_ok (l0 : List Sc) (mask1 : Int) (r : List Sc) (h : f_i_part l0 mask1 = some r) : CS Try.prog 61 (f_i_part_a l0 mask1) (f_i_part_i l0 mask1) (f_i_part_en r).1 (f_i_part_en r).2 :=
  fn_true (Gk := fun k => f_i_part_k l0 mask1 k) (en := f_i_part_en) Try.func61 E0ok f_i_part_Mt (addL_true (f_i_part_tt0) (noL_true)) f_i_part_o (f_i_part_e l0 mask1) (f_i_part_p l0 mask1) h
def f_i_part_c : CRow := fun args inh => match dec2 [.p .sl, .p (.int .i64)] [] args inh with
  | some ([.l l0, .i mask1], []) => some ((f_i_part l0 mask1).isSome, (f_i_part_en ((f_i_part l0 mask1).getD [])).1, (f_i_part_en ((f_i_part l0 mask1).getD [])).2)
  | _ => none
theorem f_i_part_cc : CTrue Try.prog 61 f_i_part_c := by
  intro args inh rs out h
  unfold f_i_part_c at h
  split at h
  · rename_i hd
    obtain ⟨h1, h2⟩ := dec2_enc hd
    rw [← h1, ← h2]
    exact rowC (f_i_part_ok _ _) h
  · cases h

def f_i_IsAtom_F : Fi := { nv := 0, nc := 0, m := 0, vt := [], kl := [(0, ([0, 3, 4, 6, 7, 8, 9, 10, 11, 12, 13, 14, 15, 16, 17, 18, 19, 20, 21, 22, 23, 24, 25, 26, 27, 28], [0, 1, 2, 3, 4, 5, 6, 7, 8, 9, 10, 11, 12, 13, 14, 15, 16, 17, 18, 19, 20, 21, 22, 23, 24, 25, 26, 27, 28], [0, 1, 2, 3, 5, 6, 7, 8, 9, 10, 11, 12, 13, 14, 15, 16, 17, 18, 19, 20, 21, 22, 23, 24, 25, 26, 27, 28]))], sk := [], mvs := [], fz := [] }
def f_i_IsAtom_a (g0 : List Sc) (l1 : List Sc) : List AV := enc [.p .gr, .p .sl] [.l g0, .l l1]
def f_i_IsAtom_i (g0 : List Sc) (l1 : List Sc) : List AV := enc [] []
def f_i_IsAtom_en (r : Bool) : List AV × List AV := (enc [.p .boo] [.b r], enc [] [])
def f_i_IsAtom_M : Calling := addC 59 f_i_IsZeroSum_c (addC 61 f_i_part_c (addC 60 f_i_Group_total_c (noC)))
theorem f_i_IsAtom_Mt : CallOk Try.prog (f_i_IsAtom_M) := addC_true f_i_IsZeroSum_cc (addC_true f_i_part_cc (addC_true f_i_Group_total_cc (noC_true)))
theorem f_i_IsAtom_o : loopsOnce Try.f24 = true := by kernel_rfl
def f_i_IsAtom_h0 : List Sh := [.u, .p .sl, .p .el, .u, .u, .p (.int .i64), .u, .u, .u, .u, .u, .u, .u, .u, .u, .u, .u, .u, .u, .u, .u, .u, .u, .u, .u, .u, .u, .u, .u]
def f_i_IsAtom_fr0 (l1 : List Sc) (g2 : List Sc) (s : Int) : List AV := enc f_i_IsAtom_h0 [.l l1, .l g2, .i s]
def f_i_IsAtom_g0_1 : List Sh := [.u, .u, .u, .u, .u, .u, .u, .u, .u, .u, .u, .u, .u, .u, .u, .u, .u, .u, .u, .u, .u, .u, .u, .u, .u, .u, .u, .u, .u]
def f_i_IsAtom_x0_1 (l1 : List Sc) (g2 : List Sc) (e : Unit) : X × List AV := (.out 0, enc f_i_IsAtom_g0_1 [])
def f_i_IsAtom_g0_2 : List Sh := [.u, .u, .u, .u, .p .boo, .u, .u, .u, .u, .u, .u, .u, .u, .u, .u, .u, .u, .u, .u, .u, .u, .u, .u, .u, .u, .u, .u, .u, .u]
def f_i_IsAtom_x0_2 (l1 : List Sc) (g2 : List Sc) (e : Unit) : X × List AV := (.ret, enc f_i_IsAtom_g0_2 [.b false])
theorem f_i_IsAtom_p0 {R : Type} (l1 : List Sc) (g2 : List Sc) (s : Int) (kN : Int → Option R) (kA : Unit → Option R) (kB : Unit → Option R) : f_i_IsAtom_k0 l1 g2 s kN kA kB = (f_i_IsAtom_r0 l1 g2 s).bind (Ro.el kN kA kB) := by
  simp only [f_i_IsAtom_k0, f_i_IsAtom_r0, brB, boB, someB, noneB, Ro.el]
theorem f_i_IsAtom_e0 (l1 : List Sc) (g2 : List Sc) (s : Int) : EC E0 f_i_IsAtom_M H0 f_i_IsAtom_F (asL (noL)) 0 (bodyOf Try.f24 0) (f_i_IsAtom_fr0 l1 g2 s) (done (klOf f_i_IsAtom_F 0)) = f_i_IsAtom_k0 l1 g2 s (fun s => some (.norm, f_i_IsAtom_fr0 l1 g2 s)) (fun e => some (f_i_IsAtom_x0_1 l1 g2 e)) (fun e => some (f_i_IsAtom_x0_2 l1 g2 e)) := by kernel_rfl
theorem f_i_IsAtom_l0 (l1 : List Sc) (g2 : List Sc) : ∀ s r, loopL (f_i_IsAtom_r0 l1 g2) s = some r → LS Try.prog f_i_IsAtom_F (bodyOf Try.f24 0) (f_i_IsAtom_fr0 l1 g2 s) (enX (f_i_IsAtom_x0_1 l1 g2) (f_i_IsAtom_x0_2 l1 g2) r) :=
  loop_true E0ok f_i_IsAtom_Mt (noL_true) f_i_IsAtom_o (fun _ h => by cases h) (fun _ h => by cases h) (fun s => (f_i_IsAtom_e0 l1 g2 s).trans (f_i_IsAtom_p0 l1 g2 s _ _ (fun e => some (f_i_IsAtom_x0_2 l1 g2 e))))
def f_i_IsAtom_t0 (σ : List AV) : Option (Bool × Bool × (X × List AV) × (X × List AV)) := match dec f_i_IsAtom_h0 σ with
  | some [.l l1, .l g2, .i mask5] => some ((loopL (f_i_IsAtom_r0 l1 g2) mask5).isSome, isOne (loopL (f_i_IsAtom_r0 l1 g2) mask5), f_i_IsAtom_x0_1 l1 g2 (getOne () (loopL (f_i_IsAtom_r0 l1 g2) mask5)), f_i_IsAtom_x0_2 l1 g2 (getTwo () (loopL (f_i_IsAtom_r0 l1 g2) mask5)))
  | _ => none
theorem f_i_IsAtom_tt0 : TTrue Try.prog f_i_IsAtom_F Try.f24 0 (f_i_IsAtom_t0) := by
  intro σ p r r' h
  unfold f_i_IsAtom_t0 at h
  split at h
  · rename_i hd
    rw [← dec_enc hd]
    exact row2 (f_i_IsAtom_l0 _ _ _) h
  · cases h
theorem f_i_IsAtom_p {R : Type} (g0 : List Sc) (l1 : List Sc) (kR : Bool → Option R) : f_i_IsAtom_k g0 l1 kR = (f_i_IsAtom_k g0 l1 some).bind kR := by
  simp only [f_i_IsAtom_k, brB, boB, blB, someB]
theorem f_i_IsAtom_e (g0 : List Sc) (l1 : List Sc) : runFn E0 f_i_IsAtom_M H0 f_i_IsAtom_F (asL (addL 0 (f_i_IsAtom_t0) (noL))) Try.f24 (f_i_IsAtom_a g0 l1) (f_i_IsAtom_i g0 l1) = f_i_IsAtom_k g0 l1 (fun r => some (f_i_IsAtom_en r)) := by kernel_rfl
theorem f_i_IsAtom_ok (g0 : List Sc) (l1 : List Sc) (r : Bool) (h : f_i_IsAtom g0 l1 = some r) : CS Try.prog 24 (f_i_IsAtom_a g0 l1) (f_i_IsAtom_i g0 l1) (f_i_IsAtom_en r).1 (f_i_IsAtom_en r).2 :=
  fn_true (Gk := fun k => f_i_IsAtom_k g0 l1 k) (en := f_i_IsAtom_en) Try.func24 E0ok f_i_IsAtom_Mt (addL_true (f_i_IsAtom_tt0) (noL_true)) f_i_IsAtom_o (f_i_IsAtom_e g0 l1) (f_i_IsAtom_p g0 l1) h
def f_i_IsAtom_c : CRow := fun args inh => match dec2 [.p .gr, .p .sl] [] args inh with
  | some ([.l g0, .l l1], []) => some ((f_i_IsAtom g0 l1).isSome, (f_i_IsAtom_en ((f_i_IsAtom g0 l1).getD false)).1, (f_i_IsAtom_en ((f_i_IsAtom g0 l1).getD false)).2)
  | _ => none
theorem f_i_IsAtom_cc : CTrue Try.prog 24 f_i_IsAtom_c := by
  intro args inh rs out h
  unfold f_i_IsAtom_c at h
  split at h
  · rename_i hd
    obtain ⟨h1, h2⟩ := dec2_enc hd
    rw [← h1, ← h2]
    exact rowC (f_i_IsAtom_ok _ _) h
  · cases h

def f_l_FnExactIsAtom_F : Fi := { nv := 3, nc := 1, m := 0, vt := [(7, 0), (19, 1), (24, 2)], kl := [], sk := [], mvs := [1, 2], fz := [] }
def f_l_FnExactIsAtom_a (aG0 : List Sc) (aL1 : List Sc) : List AV := enc [.p .gr, .p .sl] [.l aG0, .l aL1]
def f_l_FnExactIsAtom_i (aG0 : List Sc) (aL1 : List Sc) : List AV := enc [] []
def f_l_FnExactIsAtom_en (r : Bool) : List AV × List AV := (enc [.p .boo] [.b r], enc [] [])
def f_l_FnExactIsAtom_M : Calling := addC 14 f_l_szGroup_c (addC 16 f_l_toGroup_c (addC 17 f_l_toIntS_c (addC 23 f_s_IsAtom_c (addC 24 f_i_IsAtom_c (addC 19 f_l_eqGroup_c (addC 20 f_l_eqIntS_c (noC)))))))
theorem f_l_FnExactIsAtom_Mt : CallOk Try.prog (f_l_FnExactIsAtom_M) := addC_true f_l_szGroup_cc (addC_true f_l_toGroup_cc (addC_true f_l_toIntS_cc (addC_true f_s_IsAtom_cc (addC_true f_i_IsAtom_cc (addC_true f_l_eqGroup_cc (addC_true f_l_eqIntS_cc (noC_true)))))))
theorem f_l_FnExactIsAtom_o : loopsOnce Try.f5 = true := by kernel_rfl
theorem f_l_FnExactIsAtom_p {R : Type} (aG0 : List Sc) (aL1 : List Sc) (kR : Bool → Option R) : f_l_FnExactIsAtom_k aG0 aL1 kR = (f_l_FnExactIsAtom_k aG0 aL1 some).bind kR := by
  simp only [f_l_FnExactIsAtom_k, brB, boB, someB]
theorem f_l_FnExactIsAtom_e (aG0 : List Sc) (aL1 : List Sc) : runFn E0 f_l_FnExactIsAtom_M H0 f_l_FnExactIsAtom_F (asL (noL)) Try.f5 (f_l_FnExactIsAtom_a aG0 aL1) (f_l_FnExactIsAtom_i aG0 aL1) = f_l_FnExactIsAtom_k aG0 aL1 (fun r => some (f_l_FnExactIsAtom_en r)) := by kernel_rfl
theorem f_l_FnExactIsAtom_ok (aG0 : List Sc) (aL1 : List Sc) (r : Bool) (h : f_l_FnExactIsAtom aG0 aL1 = some r) : CS Try.prog 5 (f_l_FnExactIsAtom_a aG0 aL1) (f_l_FnExactIsAtom_i aG0 aL1) (f_l_FnExactIsAtom_en r).1 (f_l_FnExactIsAtom_en r).2 :=
  fn_true (Gk := fun k => f_l_FnExactIsAtom_k aG0 aL1 k) (en := f_l_FnExactIsAtom_en) Try.func5 E0ok f_l_FnExactIsAtom_Mt (noL_true) f_l_FnExactIsAtom_o (f_l_FnExactIsAtom_e aG0 aL1) (f_l_FnExactIsAtom_p aG0 aL1) h
def f_l_FnExactIsAtom_c : CRow := fun args inh => match dec2 [.p .gr, .p .sl] [] args inh with
  | some ([.l aG0, .l aL1], []) => some ((f_l_FnExactIsAtom aG0 aL1).isSome, (f_l_FnExactIsAtom_en ((f_l_FnExactIsAtom aG0 aL1).getD false)).1, (f_l_FnExactIsAtom_en ((f_l_FnExactIsAtom aG0 aL1).getD false)).2)
  | _ => none
theorem f_l_FnExactIsAtom_cc : CTrue Try.prog 5 f_l_FnExactIsAtom_c := by
  intro args inh rs out h
  unfold f_l_FnExactIsAtom_c at h
  split at h
  · rename_i hd
    obtain ⟨h1, h2⟩ := dec2_enc hd
    rw [← h1, ← h2]
    exact rowC (f_l_FnExactIsAtom_ok _ _) h
  · cases h

def f_s_IsSet_F : Fi := { nv := 0, nc := 0, m := 0, vt := [], kl := [], sk := [], mvs := [], fz := [] }
def f_s_IsSet_a (g0 : List Sc) (a1 : Int) : List AV := enc [.p .gr, .p (.int .i64)] [.l g0, .i a1]
def f_s_IsSet_i (g0 : List Sc) (a1 : Int) : List AV := enc [] []
def f_s_IsSet_en (r : Bool) : List AV × List AV := (enc [.p .boo] [.b r], enc [] [])
def f_s_IsSet_M : Calling := addC 89 f_s_IsGroup_c (addC 53 f_s_l2Order_c (addC 68 f_s_l1In_c (noC)))
theorem f_s_IsSet_Mt : CallOk Try.prog (f_s_IsSet_M) := addC_true f_s_IsGroup_cc (addC_true f_s_l2Order_cc (addC_true f_s_l1In_cc (noC_true)))
theorem f_s_IsSet_o : loopsOnce Try.f75 = true := by kernel_rfl
theorem f_s_IsSet_p {R : Type} (g0 : List Sc) (a1 : Int) (kR : Bool → Option R) : f_s_IsSet_k g0 a1 kR = (f_s_IsSet_k g0 a1 some).bind kR := by
  simp only [f_s_IsSet_k, brB, boB, someB, noneB]
theorem f_s_IsSet_e (g0 : List Sc) (a1 : Int) : runFn E0 f_s_IsSet_M H0 f_s_IsSet_F (asL (noL)) Try.f75 (f_s_IsSet_a g0 a1) (f_s_IsSet_i g0 a1) = f_s_IsSet_k g0 a1 (fun r => some (f_s_IsSet_en r)) := by kernel_rfl
theorem f_s_IsSet_ok (g0 : List Sc) (a1 : Int) (r : Bool) (h : f_s_IsSet g0 a1 = some r) : CS Try.prog 75 (f_s_IsSet_a g0 a1) (f_s_IsSet_i g0 a1) (f_s_IsSet_en r).1 (f_s_IsSet_en r).2 :=
  fn_true (Gk := fun k => f_s_IsSet_k g0 a1 k) (en := f_s_IsSet_en) Try.func75 E0ok f_s_IsSet_Mt (noL_true) f_s_IsSet_o (f_s_IsSet_e g0 a1) (f_s_IsSet_p g0 a1) h
def f_s_IsSet_c : CRow := fun args inh => match dec2 [.p .gr, .p (.int .i64)] [] args inh with
  | some ([.l g0, .i a1], []) => some ((f_s_IsSet g0 a1).isSome, (f_s_IsSet_en ((f_s_IsSet g0 a1).getD false)).1, (f_s_IsSet_en ((f_s_IsSet g0 a1).getD false)).2)
  | _ => none
theorem f_s_IsSet_cc : CTrue Try.prog 75 f_s_IsSet_c := by
  intro args inh rs out h
  unfold f_s_IsSet_c at h
  split at h
  · rename_i hd
    obtain ⟨h1, h2⟩ := dec2_enc hd
    rw [← h1, ← h2]
    exact rowC (f_s_IsSet_ok _ _) h
  · cases h

def f_s_l4Sum_F : Fi := { nv := 0, nc := 0, m := 0, vt := [], kl := [(0, ([0, 2, 4, 5, 6, 10, 11, 12, 13, 14, 15, 16, 17, 18, 19, 20, 21, 22, 23, 24, 25, 26, 27], [0, 1, 2, 3, 4, 5, 6, 8, 9, 10, 11, 12, 13, 14, 15, 16, 17, 18, 19, 20, 21, 22, 23, 24, 25, 26, 27], [0, 1, 2, 3, 4, 5, 7, 8, 9, 10, 11, 12, 13, 14, 15, 16, 17, 18, 19, 20, 21, 22, 23, 24, 25, 26, 27]))], sk := [], mvs := [], fz := [] }
def f_s_l4Sum_a (g0 : List Sc) (a1 : Int) (b2 : Int) : List AV := enc [.p .gr, .p (.int .i64), .p (.int .i64)] [.l g0, .i a1, .i b2]
def f_s_l4Sum_i (g0 : List Sc) (a1 : Int) (b2 : Int) : List AV := enc [] []
def f_s_l4Sum_en (r : Int) : List AV × List AV := (enc [.p (.int .i64)] [.i r], enc [] [])
def f_s_l4Sum_M : Calling := addC 102 f_s_l3List_c (addC 78 f_s_l3Shift_c (noC))
theorem f_s_l4Sum_Mt : CallOk Try.prog (f_s_l4Sum_M) := addC_true f_s_l3List_cc (addC_true f_s_l3Shift_cc (noC_true))
theorem f_s_l4Sum_o : loopsOnce Try.f77 = true := by kernel_rfl
def f_s_l4Sum_h0 : List Sh := [.u, .p (.int .i64), .u, .p .el, .u, .u, .u, .p (.int .i64), .own 3, .p (.int .i64), .u, .u, .u, .u, .u, .u, .u, .u, .u, .u, .u, .u, .u, .u, .u, .u, .u, .u]
def f_s_l4Sum_fr0 (a1 : Int) (g3 : List Sc) (s : Int × List Sc × Int) : List AV := enc f_s_l4Sum_h0 [.i a1, .l g3, .i s.1, .l s.2.1, .i s.2.2]
def f_s_l4Sum_g0_1 : List Sh := [.u, .u, .u, .u, .u, .u, .u, .p (.int .i64), .u, .u, .u, .u, .u, .u, .u, .u, .u, .u, .u, .u, .u, .u, .u, .u, .u, .u, .u, .u]
def f_s_l4Sum_x0_1 (a1 : Int) (g3 : List Sc) (e : Int) : X × List AV := (.out 0, enc f_s_l4Sum_g0_1 [.i e])
def f_s_l4Sum_x0_2 (a1 : Int) (g3 : List Sc) (_e : Unit) : X × List AV := (.ret, [])
theorem f_s_l4Sum_p0 {R : Type} (a1 : Int) (g3 : List Sc) (s : Int × List Sc × Int) (kN : Int × List Sc × Int → Option R) (kA : Int → Option R) (kB : Unit → Option R) : f_s_l4Sum_k0 a1 g3 s.1 s.2.1 s.2.2 kN kA = (f_s_l4Sum_r0 a1 g3 s).bind (Ro.el kN kA kB) := by
  simp only [f_s_l4Sum_k0, f_s_l4Sum_r0, brB, boB, someB, noneB, Ro.el]
theorem f_s_l4Sum_e0 (a1 : Int) (g3 : List Sc) (s : Int × List Sc × Int) : EC E0 f_s_l4Sum_M H0 f_s_l4Sum_F (asL (noL)) 0 (bodyOf Try.f77 0) (f_s_l4Sum_fr0 a1 g3 s) (done (klOf f_s_l4Sum_F 0)) = f_s_l4Sum_k0 a1 g3 s.1 s.2.1 s.2.2 (fun s => some (.norm, f_s_l4Sum_fr0 a1 g3 s)) (fun e => some (f_s_l4Sum_x0_1 a1 g3 e)) := by kernel_rfl
theorem f_s_l4Sum_l0 (a1 : Int) (g3 : List Sc) : ∀ s r, loopL (f_s_l4Sum_r0 a1 g3) s = some r → LS Try.prog f_s_l4Sum_F (bodyOf Try.f77 0) (f_s_l4Sum_fr0 a1 g3 s) (enX (f_s_l4Sum_x0_1 a1 g3) (f_s_l4Sum_x0_2 a1 g3) r) :=
  loop_true E0ok f_s_l4Sum_Mt (noL_true) f_s_l4Sum_o (fun _ h => by cases h) (fun _ h => by cases h) (fun s => (f_s_l4Sum_e0 a1 g3 s).trans (f_s_l4Sum_p0 a1 g3 s _ _ (fun e => some (f_s_l4Sum_x0_2 a1 g3 e))))
def f_s_l4Sum_t0 (σ : List AV) : Option (Bool × Bool × (X × List AV) × (X × List AV)) := match dec f_s_l4Sum_h0 σ with
  | some [.i a1, .l g3, .i out7, .l l8, .i i9] => some (isOne (loopL (f_s_l4Sum_r0 a1 g3) (out7, l8, i9)), true, f_s_l4Sum_x0_1 a1 g3 (getOne 0 (loopL (f_s_l4Sum_r0 a1 g3) (out7, l8, i9))), (.ret, []))
  | _ => none
theorem f_s_l4Sum_tt0 : TTrue Try.prog f_s_l4Sum_F Try.f77 0 (f_s_l4Sum_t0) := by
  intro σ p r r' h
  unfold f_s_l4Sum_t0 at h
  split at h
  · rename_i hd
    rw [← dec_enc hd]
    exact row1 (f_s_l4Sum_l0 _ _ _) h
  · cases h
theorem f_s_l4Sum_p {R : Type} (g0 : List Sc) (a1 : Int) (b2 : Int) (kR : Int → Option R) : f_s_l4Sum_k g0 a1 b2 kR = (f_s_l4Sum_k g0 a1 b2 some).bind kR := by
  simp only [f_s_l4Sum_k, boB, bl1B, someB]
theorem f_s_l4Sum_e (g0 : List Sc) (a1 : Int) (b2 : Int) : runFn E0 f_s_l4Sum_M H0 f_s_l4Sum_F (asL (addL 0 (f_s_l4Sum_t0) (noL))) Try.f77 (f_s_l4Sum_a g0 a1 b2) (f_s_l4Sum_i g0 a1 b2) = f_s_l4Sum_k g0 a1 b2 (fun r => some (f_s_l4Sum_en r)) := by kernel_rfl
theorem f_s_l4Sum_ok (g0 : List Sc) (a1 : Int) (b2 : Int) (r : Int) (h : f_s_l4Sum g0 a1 b2 = some r) : CS Try.prog 77 (f_s_l4Sum_a g0 a1 b2) (f_s_l4Sum_i g0 a1 b2) (f_s_l4Sum_en r).1 (f_s_l4Sum_en r).2 :=
  fn_true (Gk := fun k => f_s_l4Sum_k g0 a1 b2 k) (en := f_s_l4Sum_en) Try.func77 E0ok f_s_l4Sum_Mt (addL_true (f_s_l4Sum_tt0) (noL_true)) f_s_l4Sum_o (f_s_l4Sum_e g0 a1 b2) (f_s_l4Sum_p g0 a1 b2) h
def f_s_l4Sum_c : CRow := fun args inh => match dec2 [.p .gr, .p (.int .i64), .p (.int .i64)] [] args inh with
  | some ([.l g0, .i a1, .i b2], []) => some ((f_s_l4Sum g0 a1 b2).isSome, (f_s_l4Sum_en ((f_s_l4Sum g0 a1 b2).getD 0)).1, (f_s_l4Sum_en ((f_s_l4Sum g0 a1 b2).getD 0)).2)
  | _ => none
theorem f_s_l4Sum_cc : CTrue Try.prog 77 f_s_l4Sum_c := by
  intro args inh rs out h
  unfold f_s_l4Sum_c at h
  split at h
  · rename_i hd
    obtain ⟨h1, h2⟩ := dec2_enc hd
    rw [← h1, ← h2]
    exact rowC (f_s_l4Sum_ok _ _ _) h
  · cases h

def f_s_l3Bits_F : Fi := { nv := 0, nc := 0, m := 0, vt := [], kl := [(0, ([0, 1, 2, 5, 6, 7, 8, 9, 10, 11, 12, 13, 14], [0, 1, 2, 4, 5, 6, 7, 8, 9, 10, 11, 12, 13, 14], [0, 1, 3, 4, 5, 6, 7, 8, 9, 10, 11, 12, 13, 14]))], sk := [], mvs := [], fz := [] }
def f_s_l3Bits_a (a0 : Int) : List AV := enc [.p (.int .i64)] [.i a0]
def f_s_l3Bits_i (a0 : Int) : List AV := enc [] []
def f_s_l3Bits_en (r : Int) : List AV × List AV := (enc [.p (.int .i64)] [.i r], enc [] [])
def f_s_l3Bits_M : Calling := noC
theorem f_s_l3Bits_Mt : CallOk Try.prog (f_s_l3Bits_M) := noC_true
theorem f_s_l3Bits_o : loopsOnce Try.f69 = true := by kernel_rfl
def f_s_l3Bits_h0 : List Sh := [.u, .u, .u, .p (.int .i64), .p (.int .i64), .u, .u, .u, .u, .u, .u, .u, .u, .u, .u]
def f_s_l3Bits_fr0 (s : Int × Int) : List AV := enc f_s_l3Bits_h0 [.i s.1, .i s.2]
def f_s_l3Bits_g0_1 : List Sh := [.u, .u, .u, .p (.int .i64), .u, .u, .u, .u, .u, .u, .u, .u, .u, .u, .u]
def f_s_l3Bits_x0_1 (e : Int) : X × List AV := (.out 0, enc f_s_l3Bits_g0_1 [.i e])
def f_s_l3Bits_x0_2 (_e : Unit) : X × List AV := (.ret, [])
theorem f_s_l3Bits_p0 {R : Type} (s : Int × Int) (kN : Int × Int → Option R) (kA : Int → Option R) (kB : Unit → Option R) : f_s_l3Bits_k0 s.1 s.2 kN kA = (f_s_l3Bits_r0 s).bind (Ro.el kN kA kB) := by
  simp only [f_s_l3Bits_k0, f_s_l3Bits_r0, brB, someB, Ro.el]
theorem f_s_l3Bits_e0 (s : Int × Int) : EC E0 f_s_l3Bits_M H0 f_s_l3Bits_F (asL (noL)) 0 (bodyOf Try.f69 0) (f_s_l3Bits_fr0 s) (done (klOf f_s_l3Bits_F 0)) = f_s_l3Bits_k0 s.1 s.2 (fun s => some (.norm, f_s_l3Bits_fr0 s)) (fun e => some (f_s_l3Bits_x0_1 e)) := by kernel_rfl
theorem f_s_l3Bits_l0 : ∀ s r, loopL (f_s_l3Bits_r0) s = some r → LS Try.prog f_s_l3Bits_F (bodyOf Try.f69 0) (f_s_l3Bits_fr0 s) (enX (f_s_l3Bits_x0_1) (f_s_l3Bits_x0_2) r) :=
  loop_true E0ok f_s_l3Bits_Mt (noL_true) f_s_l3Bits_o (fun _ h => by cases h) (fun _ h => by cases h) (fun s => (f_s_l3Bits_e0 s).trans (f_s_l3Bits_p0 s _ _ (fun e => some (f_s_l3Bits_x0_2 e))))
def f_s_l3Bits_t0 (σ : List AV) : Option (Bool × Bool × (X × List AV) × (X × List AV)) := match dec f_s_l3Bits_h0 σ with
  | some [.i n3, .i x4] => some (isOne (loopL (f_s_l3Bits_r0) (n3, x4)), true, f_s_l3Bits_x0_1 (getOne 0 (loopL (f_s_l3Bits_r0) (n3, x4))), (.ret, []))
  | _ => none
theorem f_s_l3Bits_tt0 : TTrue Try.prog f_s_l3Bits_F Try.f69 0 (f_s_l3Bits_t0) := by
  intro σ p r r' h
  unfold f_s_l3Bits_t0 at h
  split at h
  · rename_i hd
    rw [← dec_enc hd]
    exact row1 (f_s_l3Bits_l0 _) h
  · cases h
theorem f_s_l3Bits_p {R : Type} (a0 : Int) (kR : Int → Option R) : f_s_l3Bits_k a0 kR = (f_s_l3Bits_k a0 some).bind kR := by
  simp only [f_s_l3Bits_k, bl1B, someB]
theorem f_s_l3Bits_e (a0 : Int) : runFn E0 f_s_l3Bits_M H0 f_s_l3Bits_F (asL (addL 0 (f_s_l3Bits_t0) (noL))) Try.f69 (f_s_l3Bits_a a0) (f_s_l3Bits_i a0) = f_s_l3Bits_k a0 (fun r => some (f_s_l3Bits_en r)) := by kernel_rfl
theorem f_s_l3Bits_ok (a0 : Int) (r : Int) (h : f_s_l3Bits a0 = some r) : CS Try.prog 69 (f_s_l3Bits_a a0) (f_s_l3Bits_i a0) (f_s_l3Bits_en r).1 (f_s_l3Bits_en r).2 :=
  fn_true (Gk := fun k => f_s_l3Bits_k a0 k) (en := f_s_l3Bits_en) Try.func69 E0ok f_s_l3Bits_Mt (addL_true (f_s_l3Bits_tt0) (noL_true)) f_s_l3Bits_o (f_s_l3Bits_e a0) (f_s_l3Bits_p a0) h
def f_s_l3Bits_c : CRow := fun args inh => match dec2 [.p (.int .i64)] [] args inh with
  | some ([.i a0], []) => some ((f_s_l3Bits a0).isSome, (f_s_l3Bits_en ((f_s_l3Bits a0).getD 0)).1, (f_s_l3Bits_en ((f_s_l3Bits a0).getD 0)).2)
  | _ => none
theorem f_s_l3Bits_cc : CTrue Try.prog 69 f_s_l3Bits_c := by
  intro args inh rs out h
  unfold f_s_l3Bits_c at h
  split at h
  · rename_i hd
    obtain ⟨h1, h2⟩ := dec2_enc hd
    rw [← h1, ← h2]
    exact rowC (f_s_l3Bits_ok _) h
  · cases h

def f_s_IsDirect_F : Fi := { nv := 0, nc := 0, m := 0, vt := [], kl := [], sk := [], mvs := [], fz := [] }
def f_s_IsDirect_a (g0 : List Sc) (a1 : Int) (b2 : Int) : List AV := enc [.p .gr, .p (.int .i64), .p (.int .i64)] [.l g0, .i a1, .i b2]
def f_s_IsDirect_i (g0 : List Sc) (a1 : Int) (b2 : Int) : List AV := enc [] []
def f_s_IsDirect_en (r : Bool) : List AV × List AV := (enc [.p .boo] [.b r], enc [] [])
def f_s_IsDirect_M : Calling := addC 75 f_s_IsSet_c (addC 77 f_s_l4Sum_c (addC 69 f_s_l3Bits_c (noC)))
theorem f_s_IsDirect_Mt : CallOk Try.prog (f_s_IsDirect_M) := addC_true f_s_IsSet_cc (addC_true f_s_l4Sum_cc (addC_true f_s_l3Bits_cc (noC_true)))
theorem f_s_IsDirect_o : loopsOnce Try.f96 = true := by kernel_rfl
theorem f_s_IsDirect_p {R : Type} (g0 : List Sc) (a1 : Int) (b2 : Int) (kR : Bool → Option R) : f_s_IsDirect_k g0 a1 b2 kR = (f_s_IsDirect_k g0 a1 b2 some).bind kR := by
  simp only [f_s_IsDirect_k, brB, boB, someB]
theorem f_s_IsDirect_e (g0 : List Sc) (a1 : Int) (b2 : Int) : runFn E0 f_s_IsDirect_M H0 f_s_IsDirect_F (asL (noL)) Try.f96 (f_s_IsDirect_a g0 a1 b2) (f_s_IsDirect_i g0 a1 b2) = f_s_IsDirect_k g0 a1 b2 (fun r => some (f_s_IsDirect_en r)) := by kernel_rfl
theorem f_s_IsDirect_ok (g0 : List Sc) (a1 : Int) (b2 : Int) (r : Bool) (h : f_s_IsDirect g0 a1 b2 = some r) : CS Try.prog 96 (f_s_IsDirect_a g0 a1 b2) (f_s_IsDirect_i g0 a1 b2) (f_s_IsDirect_en r).1 (f_s_IsDirect_en r).2 :=
  fn_true (Gk := fun k => f_s_IsDirect_k g0 a1 b2 k) (en := f_s_IsDirect_en) Try.func96 E0ok f_s_IsDirect_Mt (noL_true) f_s_IsDirect_o (f_s_IsDirect_e g0 a1 b2) (f_s_IsDirect_p g0 a1 b2) h
def f_s_IsDirect_c : CRow := fun args inh => match dec2 [.p .gr, .p (.int .i64), .p (.int .i64)] [] args inh with
  | some ([.l g0, .i a1, .i b2], []) => some ((f_s_IsDirect g0 a1 b2).isSome, (f_s_IsDirect_en ((f_s_IsDirect g0 a1 b2).getD false)).1, (f_s_IsDirect_en ((f_s_IsDirect g0 a1 b2).getD false)).2)
  | _ => none
theorem f_s_IsDirect_cc : CTrue Try.prog 96 f_s_IsDirect_c := by
  intro args inh rs out h
  unfold f_s_IsDirect_c at h
  split at h
  · rename_i hd
    obtain ⟨h1, h2⟩ := dec2_enc hd
    rw [← h1, ← h2]
    exact rowC (f_s_IsDirect_ok _ _ _) h
  · cases h

def f_s_IsTiling_F : Fi := { nv := 0, nc := 0, m := 0, vt := [], kl := [], sk := [], mvs := [], fz := [] }
def f_s_IsTiling_a (g0 : List Sc) (a1 : Int) (b2 : Int) : List AV := enc [.p .gr, .p (.int .i64), .p (.int .i64)] [.l g0, .i a1, .i b2]
def f_s_IsTiling_i (g0 : List Sc) (a1 : Int) (b2 : Int) : List AV := enc [] []
def f_s_IsTiling_en (r : Bool) : List AV × List AV := (enc [.p .boo] [.b r], enc [] [])
def f_s_IsTiling_M : Calling := addC 96 f_s_IsDirect_c (addC 77 f_s_l4Sum_c (addC 53 f_s_l2Order_c (noC)))
theorem f_s_IsTiling_Mt : CallOk Try.prog (f_s_IsTiling_M) := addC_true f_s_IsDirect_cc (addC_true f_s_l4Sum_cc (addC_true f_s_l2Order_cc (noC_true)))
theorem f_s_IsTiling_o : loopsOnce Try.f62 = true := by kernel_rfl
theorem f_s_IsTiling_p {R : Type} (g0 : List Sc) (a1 : Int) (b2 : Int) (kR : Bool → Option R) : f_s_IsTiling_k g0 a1 b2 kR = (f_s_IsTiling_k g0 a1 b2 some).bind kR := by
  simp only [f_s_IsTiling_k, brB, boB, someB, noneB]
theorem f_s_IsTiling_e (g0 : List Sc) (a1 : Int) (b2 : Int) : runFn E0 f_s_IsTiling_M H0 f_s_IsTiling_F (asL (noL)) Try.f62 (f_s_IsTiling_a g0 a1 b2) (f_s_IsTiling_i g0 a1 b2) = f_s_IsTiling_k g0 a1 b2 (fun r => some (f_s_IsTiling_en r)) := by kernel_rfl
theorem f_s_IsTiling_ok (g0 : List Sc) (a1 : Int) (b2 : Int) (r : Bool) (h : f_s_IsTiling g0 a1 b2 = some r) : CS Try.prog 62 (f_s_IsTiling_a g0 a1 b2) (f_s_IsTiling_i g0 a1 b2) (f_s_IsTiling_en r).1 (f_s_IsTiling_en r).2 :=
  fn_true (Gk := fun k => f_s_IsTiling_k g0 a1 b2 k) (en := f_s_IsTiling_en) Try.func62 E0ok f_s_IsTiling_Mt (noL_true) f_s_IsTiling_o (f_s_IsTiling_e g0 a1 b2) (f_s_IsTiling_p g0 a1 b2) h
def f_s_IsTiling_c : CRow := fun args inh => match dec2 [.p .gr, .p (.int .i64), .p (.int .i64)] [] args inh with
  | some ([.l g0, .i a1, .i b2], []) => some ((f_s_IsTiling g0 a1 b2).isSome, (f_s_IsTiling_en ((f_s_IsTiling g0 a1 b2).getD false)).1, (f_s_IsTiling_en ((f_s_IsTiling g0 a1 b2).getD false)).2)
  | _ => none
theorem f_s_IsTiling_cc : CTrue Try.prog 62 f_s_IsTiling_c := by
  intro args inh rs out h
  unfold f_s_IsTiling_c at h
  split at h
  · rename_i hd
    obtain ⟨h1, h2⟩ := dec2_enc hd
    rw [← h1, ← h2]
    exact rowC (f_s_IsTiling_ok _ _ _) h
  · cases h

def f_s_l6Stabilizer_F : Fi := { nv := 0, nc := 0, m := 0, vt := [], kl := [(0, ([0, 3, 4, 7, 8, 9, 10, 11, 12, 13, 14, 15, 16, 17, 18, 19, 20, 21, 22, 23], [0, 1, 2, 3, 4, 6, 7, 8, 9, 10, 11, 12, 13, 14, 15, 16, 17, 18, 19, 20, 21, 22, 23], [0, 1, 2, 3, 5, 6, 7, 8, 9, 10, 11, 12, 13, 14, 15, 16, 17, 18, 19, 20, 21, 22, 23]))], sk := [], mvs := [], fz := [] }
def f_s_l6Stabilizer_a (g0 : List Sc) (a1 : Int) : List AV := enc [.p .gr, .p (.int .i64)] [.l g0, .i a1]
def f_s_l6Stabilizer_i (g0 : List Sc) (a1 : Int) : List AV := enc [] []
def f_s_l6Stabilizer_en (r : Int) : List AV × List AV := (enc [.p (.int .i64)] [.i r], enc [] [])
def f_s_l6Stabilizer_M : Calling := addC 53 f_s_l2Order_c (addC 78 f_s_l3Shift_c (noC))
theorem f_s_l6Stabilizer_Mt : CallOk Try.prog (f_s_l6Stabilizer_M) := addC_true f_s_l2Order_cc (addC_true f_s_l3Shift_cc (noC_true))
theorem f_s_l6Stabilizer_o : loopsOnce Try.f97 = true := by kernel_rfl
def f_s_l6Stabilizer_h0 : List Sh := [.u, .p (.int .i64), .p .el, .u, .u, .p (.int .i64), .p (.int .i64), .u, .u, .u, .u, .u, .u, .u, .u, .u, .u, .u, .u, .u, .u, .u, .u, .u]
def f_s_l6Stabilizer_fr0 (a1 : Int) (g2 : List Sc) (s : Int × Int) : List AV := enc f_s_l6Stabilizer_h0 [.i a1, .l g2, .i s.1, .i s.2]
def f_s_l6Stabilizer_g0_1 : List Sh := [.u, .u, .u, .u, .u, .p (.int .i64), .u, .u, .u, .u, .u, .u, .u, .u, .u, .u, .u, .u, .u, .u, .u, .u, .u, .u]
def f_s_l6Stabilizer_x0_1 (a1 : Int) (g2 : List Sc) (e : Int) : X × List AV := (.out 0, enc f_s_l6Stabilizer_g0_1 [.i e])
def f_s_l6Stabilizer_x0_2 (a1 : Int) (g2 : List Sc) (_e : Unit) : X × List AV := (.ret, [])
theorem f_s_l6Stabilizer_p0 {R : Type} (a1 : Int) (g2 : List Sc) (s : Int × Int) (kN : Int × Int → Option R) (kA : Int → Option R) (kB : Unit → Option R) : f_s_l6Stabilizer_k0 a1 g2 s.1 s.2 kN kA = (f_s_l6Stabilizer_r0 a1 g2 s).bind (Ro.el kN kA kB) := by
  simp only [f_s_l6Stabilizer_k0, f_s_l6Stabilizer_r0, brB, boB, someB, noneB, Ro.el]
theorem f_s_l6Stabilizer_e0 (a1 : Int) (g2 : List Sc) (s : Int × Int) : EC E0 f_s_l6Stabilizer_M H0 f_s_l6Stabilizer_F (asL (noL)) 0 (bodyOf Try.f97 0) (f_s_l6Stabilizer_fr0 a1 g2 s) (done (klOf f_s_l6Stabilizer_F 0)) = f_s_l6Stabilizer_k0 a1 g2 s.1 s.2 (fun s => some (.norm, f_s_l6Stabilizer_fr0 a1 g2 s)) (fun e => some (f_s_l6Stabilizer_x0_1 a1 g2 e)) := by kernel_rfl
theorem f_s_l6Stabilizer_l0 (a1 : Int) (g2 : List Sc) : ∀ s r, loopL (f_s_l6Stabilizer_r0 a1 g2) s = some r → LS Try.prog f_s_l6Stabilizer_F (bodyOf Try.f97 0) (f_s_l6Stabilizer_fr0 a1 g2 s) (enX (f_s_l6Stabilizer_x0_1 a1 g2) (f_s_l6Stabilizer_x0_2 a1 g2) r) :=
  loop_true E0ok f_s_l6Stabilizer_Mt (noL_true) f_s_l6Stabilizer_o (fun _ h => by cases h) (fun _ h => by cases h) (fun s => (f_s_l6Stabilizer_e0 a1 g2 s).trans (f_s_l6Stabilizer_p0 a1 g2 s _ _ (fun e => some (f_s_l6Stabilizer_x0_2 a1 g2 e))))
def f_s_l6Stabilizer_t0 (σ : List AV) : Option (Bool × Bool × (X × List AV) × (X × List AV)) := match dec f_s_l6Stabilizer_h0 σ with
  | some [.i a1, .l g2, .i out5, .i x6] => some (isOne (loopL (f_s_l6Stabilizer_r0 a1 g2) (out5, x6)), true, f_s_l6Stabilizer_x0_1 a1 g2 (getOne 0 (loopL (f_s_l6Stabilizer_r0 a1 g2) (out5, x6))), (.ret, []))
  | _ => none
theorem f_s_l6Stabilizer_tt0 : TTrue Try.prog f_s_l6Stabilizer_F Try.f97 0 (f_s_l6Stabilizer_t0) := by
  intro σ p r r' h
  unfold f_s_l6Stabilizer_t0 at h
  split at h
  · rename_i hd
    rw [← dec_enc hd]
    exact row1 (f_s_l6Stabilizer_l0 _ _ _) h
  · cases h
theorem f_s_l6Stabilizer_p {R : Type} (g0 : List Sc) (a1 : Int) (kR : Int → Option R) : f_s_l6Stabilizer_k g0 a1 kR = (f_s_l6Stabilizer_k g0 a1 some).bind kR := by
  simp only [f_s_l6Stabilizer_k, bl1B, someB]
theorem f_s_l6Stabilizer_e (g0 : List Sc) (a1 : Int) : runFn E0 f_s_l6Stabilizer_M H0 f_s_l6Stabilizer_F (asL (addL 0 (f_s_l6Stabilizer_t0) (noL))) Try.f97 (f_s_l6Stabilizer_a g0 a1) (f_s_l6Stabilizer_i g0 a1) = f_s_l6Stabilizer_k g0 a1 (fun r => some (f_s_l6Stabilizer_en r)) := by kernel_rfl
theorem f_s_l6Stabilizer_ok (g0 : List Sc) (a1 : Int) (r : Int) (h : f_s_l6Stabilizer g0 a1 = some r) : CS Try.prog 97 (f_s_l6Stabilizer_a g0 a1) (f_s_l6Stabilizer_i g0 a1) (f_s_l6Stabilizer_en r).1 (f_s_l6Stabilizer_en r).2 :=
  fn_true (Gk := fun k => f_s_l6Stabilizer_k g0 a1 k) (en := f_s_l6Stabilizer_en) Try.func97 E0ok f_s_l6Stabilizer_Mt (addL_true (f_s_l6Stabilizer_tt0) (noL_true)) f_s_l6Stabilizer_o (f_s_l6Stabilizer_e g0 a1) (f_s_l6Stabilizer_p g0 a1) h
def f_s_l6Stabilizer_c : CRow := fun args inh => match dec2 [.p .gr, .p (.int .i64)] [] args inh with
  | some ([.l g0, .i a1], []) => some ((f_s_l6Stabilizer g0 a1).isSome, (f_s_l6Stabilizer_en ((f_s_l6Stabilizer g0 a1).getD 0)).1, (f_s_l6Stabilizer_en ((f_s_l6Stabilizer g0 a1).getD 0)).2)
  | _ => none
theorem f_s_l6Stabilizer_cc : CTrue Try.prog 97 f_s_l6Stabilizer_c := by
  intro args inh rs out h
  unfold f_s_l6Stabilizer_c at h
  split at h
  · rename_i hd
    obtain ⟨h1, h2⟩ := dec2_enc hd
    rw [← h1, ← h2]
    exact rowC (f_s_l6Stabilizer_ok _ _) h
  · cases h

def f_s_IsPeriodic_F : Fi := { nv := 0, nc := 0, m := 0, vt := [], kl := [], sk := [], mvs := [], fz := [] }
def f_s_IsPeriodic_a (g0 : List Sc) (a1 : Int) : List AV := enc [.p .gr, .p (.int .i64)] [.l g0, .i a1]
def f_s_IsPeriodic_i (g0 : List Sc) (a1 : Int) : List AV := enc [] []
def f_s_IsPeriodic_en (r : Bool) : List AV × List AV := (enc [.p .boo] [.b r], enc [] [])
def f_s_IsPeriodic_M : Calling := addC 75 f_s_IsSet_c (addC 97 f_s_l6Stabilizer_c (noC))
theorem f_s_IsPeriodic_Mt : CallOk Try.prog (f_s_IsPeriodic_M) := addC_true f_s_IsSet_cc (addC_true f_s_l6Stabilizer_cc (noC_true))
theorem f_s_IsPeriodic_o : loopsOnce Try.f63 = true := by kernel_rfl
theorem f_s_IsPeriodic_p {R : Type} (g0 : List Sc) (a1 : Int) (kR : Bool → Option R) : f_s_IsPeriodic_k g0 a1 kR = (f_s_IsPeriodic_k g0 a1 some).bind kR := by
  simp only [f_s_IsPeriodic_k, brB, boB, someB]
theorem f_s_IsPeriodic_e (g0 : List Sc) (a1 : Int) : runFn E0 f_s_IsPeriodic_M H0 f_s_IsPeriodic_F (asL (noL)) Try.f63 (f_s_IsPeriodic_a g0 a1) (f_s_IsPeriodic_i g0 a1) = f_s_IsPeriodic_k g0 a1 (fun r => some (f_s_IsPeriodic_en r)) := by kernel_rfl
theorem f_s_IsPeriodic_ok (g0 : List Sc) (a1 : Int) (r : Bool) (h : f_s_IsPeriodic g0 a1 = some r) : CS Try.prog 63 (f_s_IsPeriodic_a g0 a1) (f_s_IsPeriodic_i g0 a1) (f_s_IsPeriodic_en r).1 (f_s_IsPeriodic_en r).2 :=
  fn_true (Gk := fun k => f_s_IsPeriodic_k g0 a1 k) (en := f_s_IsPeriodic_en) Try.func63 E0ok f_s_IsPeriodic_Mt (noL_true) f_s_IsPeriodic_o (f_s_IsPeriodic_e g0 a1) (f_s_IsPeriodic_p g0 a1) h
def f_s_IsPeriodic_c : CRow := fun args inh => match dec2 [.p .gr, .p (.int .i64)] [] args inh with
  | some ([.l g0, .i a1], []) => some ((f_s_IsPeriodic g0 a1).isSome, (f_s_IsPeriodic_en ((f_s_IsPeriodic g0 a1).getD false)).1, (f_s_IsPeriodic_en ((f_s_IsPeriodic g0 a1).getD false)).2)
  | _ => none
theorem f_s_IsPeriodic_cc : CTrue Try.prog 63 f_s_IsPeriodic_c := by
  intro args inh rs out h
  unfold f_s_IsPeriodic_c at h
  split at h
  · rename_i hd
    obtain ⟨h1, h2⟩ := dec2_enc hd
    rw [← h1, ← h2]
    exact rowC (f_s_IsPeriodic_ok _ _) h
  · cases h

def f_s_HasPeriodicFactor_F : Fi := { nv := 0, nc := 0, m := 0, vt := [], kl := [], sk := [], mvs := [], fz := [] }
def f_s_HasPeriodicFactor_a (g0 : List Sc) (a1 : Int) (b2 : Int) : List AV := enc [.p .gr, .p (.int .i64), .p (.int .i64)] [.l g0, .i a1, .i b2]
def f_s_HasPeriodicFactor_i (g0 : List Sc) (a1 : Int) (b2 : Int) : List AV := enc [] []
def f_s_HasPeriodicFactor_en (r : Bool) : List AV × List AV := (enc [.p .boo] [.b r], enc [] [])
def f_s_HasPeriodicFactor_M : Calling := addC 62 f_s_IsTiling_c (addC 63 f_s_IsPeriodic_c (noC))
theorem f_s_HasPeriodicFactor_Mt : CallOk Try.prog (f_s_HasPeriodicFactor_M) := addC_true f_s_IsTiling_cc (addC_true f_s_IsPeriodic_cc (noC_true))
theorem f_s_HasPeriodicFactor_o : loopsOnce Try.f25 = true := by kernel_rfl
theorem f_s_HasPeriodicFactor_p {R : Type} (g0 : List Sc) (a1 : Int) (b2 : Int) (kR : Bool → Option R) : f_s_HasPeriodicFactor_k g0 a1 b2 kR = (f_s_HasPeriodicFactor_k g0 a1 b2 some).bind kR := by
  simp only [f_s_HasPeriodicFactor_k, brB, boB, someB]
theorem f_s_HasPeriodicFactor_e (g0 : List Sc) (a1 : Int) (b2 : Int) : runFn E0 f_s_HasPeriodicFactor_M H0 f_s_HasPeriodicFactor_F (asL (noL)) Try.f25 (f_s_HasPeriodicFactor_a g0 a1 b2) (f_s_HasPeriodicFactor_i g0 a1 b2) = f_s_HasPeriodicFactor_k g0 a1 b2 (fun r => some (f_s_HasPeriodicFactor_en r)) := by kernel_rfl
theorem f_s_HasPeriodicFactor_ok (g0 : List Sc) (a1 : Int) (b2 : Int) (r : Bool) (h : f_s_HasPeriodicFactor g0 a1 b2 = some r) : CS Try.prog 25 (f_s_HasPeriodicFactor_a g0 a1 b2) (f_s_HasPeriodicFactor_i g0 a1 b2) (f_s_HasPeriodicFactor_en r).1 (f_s_HasPeriodicFactor_en r).2 :=
  fn_true (Gk := fun k => f_s_HasPeriodicFactor_k g0 a1 b2 k) (en := f_s_HasPeriodicFactor_en) Try.func25 E0ok f_s_HasPeriodicFactor_Mt (noL_true) f_s_HasPeriodicFactor_o (f_s_HasPeriodicFactor_e g0 a1 b2) (f_s_HasPeriodicFactor_p g0 a1 b2) h
def f_s_HasPeriodicFactor_c : CRow := fun args inh => match dec2 [.p .gr, .p (.int .i64), .p (.int .i64)] [] args inh with
  | some ([.l g0, .i a1, .i b2], []) => some ((f_s_HasPeriodicFactor g0 a1 b2).isSome, (f_s_HasPeriodicFactor_en ((f_s_HasPeriodicFactor g0 a1 b2).getD false)).1, (f_s_HasPeriodicFactor_en ((f_s_HasPeriodicFactor g0 a1 b2).getD false)).2)
  | _ => none
theorem f_s_HasPeriodicFactor_cc : CTrue Try.prog 25 f_s_HasPeriodicFactor_c := by
  intro args inh rs out h
  unfold f_s_HasPeriodicFactor_c at h
  split at h
  · rename_i hd
    obtain ⟨h1, h2⟩ := dec2_enc hd
    rw [← h1, ← h2]
    exact rowC (f_s_HasPeriodicFactor_ok _ _ _) h
  · cases h

def f_i_IsSet_F : Fi := { nv := 0, nc := 0, m := 0, vt := [], kl := [], sk := [], mvs := [], fz := [] }
def f_i_IsSet_a (g0 : List Sc) (a1 : Int) : List AV := enc [.p .gr, .p (.int .i64)] [.l g0, .i a1]
def f_i_IsSet_i (g0 : List Sc) (a1 : Int) : List AV := enc [] []
def f_i_IsSet_en (r : Bool) : List AV × List AV := (enc [.p .boo] [.b r], enc [] [])
def f_i_IsSet_M : Calling := addC 91 f_i_IsGroup_c (addC 55 f_i_OrderOf_c (noC))
theorem f_i_IsSet_Mt : CallOk Try.prog (f_i_IsSet_M) := addC_true f_i_IsGroup_cc (addC_true f_i_OrderOf_cc (noC_true))
theorem f_i_IsSet_o : loopsOnce Try.f79 = true := by kernel_rfl
theorem f_i_IsSet_p {R : Type} (g0 : List Sc) (a1 : Int) (kR : Bool → Option R) : f_i_IsSet_k g0 a1 kR = (f_i_IsSet_k g0 a1 some).bind kR := by
  simp only [f_i_IsSet_k, brB, boB, someB, noneB]
theorem f_i_IsSet_e (g0 : List Sc) (a1 : Int) : runFn E0 f_i_IsSet_M H0 f_i_IsSet_F (asL (noL)) Try.f79 (f_i_IsSet_a g0 a1) (f_i_IsSet_i g0 a1) = f_i_IsSet_k g0 a1 (fun r => some (f_i_IsSet_en r)) := by kernel_rfl
theorem f_i_IsSet_ok (g0 : List Sc) (a1 : Int) (r : Bool) (h : f_i_IsSet g0 a1 = some r) : CS Try.prog 79 (f_i_IsSet_a g0 a1) (f_i_IsSet_i g0 a1) (f_i_IsSet_en r).1 (f_i_IsSet_en r).2 :=
  fn_true (Gk := fun k => f_i_IsSet_k g0 a1 k) (en := f_i_IsSet_en) Try.func79 E0ok f_i_IsSet_Mt (noL_true) f_i_IsSet_o (f_i_IsSet_e g0 a1) (f_i_IsSet_p g0 a1) h
def f_i_IsSet_c : CRow := fun args inh => match dec2 [.p .gr, .p (.int .i64)] [] args inh with
  | some ([.l g0, .i a1], []) => some ((f_i_IsSet g0 a1).isSome, (f_i_IsSet_en ((f_i_IsSet g0 a1).getD false)).1, (f_i_IsSet_en ((f_i_IsSet g0 a1).getD false)).2)
  | _ => none
theorem f_i_IsSet_cc : CTrue Try.prog 79 f_i_IsSet_c := by
  intro args inh rs out h
  unfold f_i_IsSet_c at h
  split at h
  · rename_i hd
    obtain ⟨h1, h2⟩ := dec2_enc hd
    rw [← h1, ← h2]
    exact rowC (f_i_IsSet_ok _ _) h
  · cases h

def f_i_areSets_F : Fi := { nv := 0, nc := 0, m := 0, vt := [], kl := [(0, ([0, 1, 3, 4, 5, 6, 10, 11, 12, 13, 14, 15, 16, 17, 18, 19], [0, 1, 3, 4, 5, 6, 7, 8, 9, 10, 11, 12, 13, 14, 15, 16, 17, 18, 19], [0, 1, 2, 3, 5, 6, 7, 8, 9, 10, 11, 12, 13, 14, 15, 16, 17, 18, 19]))], sk := [], mvs := [], fz := [] }
def f_i_areSets_a (g0 : List Sc) (l1 : List Sc) : List AV := enc [.p .gr, .p .sl] [.l g0, .l l1]
def f_i_areSets_i (g0 : List Sc) (l1 : List Sc) : List AV := enc [] []
def f_i_areSets_en (r : Bool) : List AV × List AV := (enc [.p .boo] [.b r], enc [] [])
def f_i_areSets_M : Calling := addC 79 f_i_IsSet_c (addC 91 f_i_IsGroup_c (noC))
theorem f_i_areSets_Mt : CallOk Try.prog (f_i_areSets_M) := addC_true f_i_IsSet_cc (addC_true f_i_IsGroup_cc (noC_true))
theorem f_i_areSets_o : loopsOnce Try.f110 = true := by kernel_rfl
def f_i_areSets_h0 : List Sh := [.u, .u, .p .el, .u, .u, .u, .u, .p .sl, .p (.int .i64), .p (.int .i64), .u, .u, .u, .u, .u, .u, .u, .u, .u, .u]
def f_i_areSets_fr0 (g2 : List Sc) (t7 : List Sc) (t8 : Int) (s : Int) : List AV := enc f_i_areSets_h0 [.l g2, .l t7, .i t8, .i s]
def f_i_areSets_g0_1 : List Sh := [.u, .u, .p .el, .u, .u, .u, .u, .u, .u, .u, .u, .u, .u, .u, .u, .u, .u, .u, .u, .u]
def f_i_areSets_x0_1 (g2 : List Sc) (t7 : List Sc) (t8 : Int) (e : Unit) : X × List AV := (.out 0, enc f_i_areSets_g0_1 [.l g2])
def f_i_areSets_g0_2 : List Sh := [.u, .u, .u, .u, .p .boo, .u, .u, .u, .u, .u, .u, .u, .u, .u, .u, .u, .u, .u, .u, .u]
def f_i_areSets_x0_2 (g2 : List Sc) (t7 : List Sc) (t8 : Int) (e : Unit) : X × List AV := (.ret, enc f_i_areSets_g0_2 [.b false])
theorem f_i_areSets_p0 {R : Type} (g2 : List Sc) (t7 : List Sc) (t8 : Int) (s : Int) (kN : Int → Option R) (kA : Unit → Option R) (kB : Unit → Option R) : f_i_areSets_k0 g2 t7 t8 s kN kA kB = (f_i_areSets_r0 g2 t7 t8 s).bind (Ro.el kN kA kB) := by
  simp only [f_i_areSets_k0, f_i_areSets_r0, brB, boB, someB, noneB, Ro.el]
theorem f_i_areSets_e0 (g2 : List Sc) (t7 : List Sc) (t8 : Int) (s : Int) : EC E0 f_i_areSets_M H0 f_i_areSets_F (asL (noL)) 0 (bodyOf Try.f110 0) (f_i_areSets_fr0 g2 t7 t8 s) (done (klOf f_i_areSets_F 0)) = f_i_areSets_k0 g2 t7 t8 s (fun s => some (.norm, f_i_areSets_fr0 g2 t7 t8 s)) (fun e => some (f_i_areSets_x0_1 g2 t7 t8 e)) (fun e => some (f_i_areSets_x0_2 g2 t7 t8 e)) := by kernel_rfl
theorem f_i_areSets_l0 (g2 : List Sc) (t7 : List Sc) (t8 : Int) : ∀ s r, loopL (f_i_areSets_r0 g2 t7 t8) s = some r → LS Try.prog f_i_areSets_F (bodyOf Try.f110 0) (f_i_areSets_fr0 g2 t7 t8 s) (enX (f_i_areSets_x0_1 g2 t7 t8) (f_i_areSets_x0_2 g2 t7 t8) r) :=
  loop_true E0ok f_i_areSets_Mt (noL_true) f_i_areSets_o (fun _ h => by cases h) (fun _ h => by cases h) (fun s => (f_i_areSets_e0 g2 t7 t8 s).trans (f_i_areSets_p0 g2 t7 t8 s _ _ (fun e => some (f_i_areSets_x0_2 g2 t7 t8 e))))
def f_i_areSets_t0 (σ : List AV) : Option (Bool × Bool × (X × List AV) × (X × List AV)) := match dec f_i_areSets_h0 σ with
  | some [.l g2, .l t7, .i t8, .i t9] => some ((loopL (f_i_areSets_r0 g2 t7 t8) t9).isSome, isOne (loopL (f_i_areSets_r0 g2 t7 t8) t9), f_i_areSets_x0_1 g2 t7 t8 (getOne () (loopL (f_i_areSets_r0 g2 t7 t8) t9)), f_i_areSets_x0_2 g2 t7 t8 (getTwo () (loopL (f_i_areSets_r0 g2 t7 t8) t9)))
  | _ => none
theorem f_i_areSets_tt0 : TTrue Try.prog f_i_areSets_F Try.f110 0 (f_i_areSets_t0) := by
  intro σ p r r' h
  unfold f_i_areSets_t0 at h
  split at h
  · rename_i hd
    rw [← dec_enc hd]
    exact row2 (f_i_areSets_l0 _ _ _ _) h
  · cases h
theorem f_i_areSets_p {R : Type} (g0 : List Sc) (l1 : List Sc) (kR : Bool → Option R) : f_i_areSets_k g0 l1 kR = (f_i_areSets_k g0 l1 some).bind kR := by
  simp only [f_i_areSets_k, boB, blB, someB]
theorem f_i_areSets_e (g0 : List Sc) (l1 : List Sc) : runFn E0 f_i_areSets_M H0 f_i_areSets_F (asL (addL 0 (f_i_areSets_t0) (noL))) Try.f110 (f_i_areSets_a g0 l1) (f_i_areSets_i g0 l1) = f_i_areSets_k g0 l1 (fun r => some (f_i_areSets_en r)) := by kernel_rfl
theorem f_i_areSets_ok (g0 : List Sc) (l1 : List Sc) (r : Bool) (h : f_i_areSets g0 l1 = some r) : CS Try.prog 110 (f_i_areSets_a g0 l1) (f_i_areSets_i g0 l1) (f_i_areSets_en r).1 (f_i_areSets_en r).2 :=
  fn_true (Gk := fun k => f_i_areSets_k g0 l1 k) (en := f_i_areSets_en) Try.func110 E0ok f_i_areSets_Mt (addL_true (f_i_areSets_tt0) (noL_true)) f_i_areSets_o (f_i_areSets_e g0 l1) (f_i_areSets_p g0 l1) h
def f_i_areSets_c : CRow := fun args inh => match dec2 [.p .gr, .p .sl] [] args inh with
  | some ([.l g0, .l l1], []) => some ((f_i_areSets g0 l1).isSome, (f_i_areSets_en ((f_i_areSets g0 l1).getD false)).1, (f_i_areSets_en ((f_i_areSets g0 l1).getD false)).2)
  | _ => none
theorem f_i_areSets_cc : CTrue Try.prog 110 f_i_areSets_c := by
  intro args inh rs out h
  unfold f_i_areSets_c at h
  split at h
  · rename_i hd
    obtain ⟨h1, h2⟩ := dec2_enc hd
    rw [← h1, ← h2]
    exact rowC (f_i_areSets_ok _ _) h
  · cases h

def f_i_members_F : Fi := { nv := 0, nc := 0, m := 0, vt := [], kl := [(0, ([1, 2, 5, 6, 7, 8, 9, 10, 11, 12, 13, 14, 15, 16, 17, 18, 19, 20, 21], [0, 1, 2, 4, 5, 6, 7, 8, 9, 10, 11, 12, 13, 14, 15, 16, 17, 18, 19, 20, 21], [0, 1, 3, 4, 5, 6, 7, 8, 9, 10, 11, 12, 13, 14, 15, 16, 17, 18, 19, 20, 21]))], sk := [], mvs := [], fz := [] }
def f_i_members_a (a0 : Int) : List AV := enc [.p (.int .i64)] [.i a0]
def f_i_members_i (a0 : Int) : List AV := enc [] []
def f_i_members_en (r : List Sc) : List AV × List AV := (enc [.p (.al 0)] [], enc [.own 3] [.l r])
def f_i_members_M : Calling := noC
theorem f_i_members_Mt : CallOk Try.prog (f_i_members_M) := noC_true
theorem f_i_members_o : loopsOnce Try.f103 = true := by kernel_rfl
def f_i_members_h0 : List Sh := [.p (.int .i64), .u, .u, .own 3, .p (.int .i64), .u, .u, .u, .u, .u, .u, .u, .u, .u, .u, .u, .u, .u, .u, .u, .u, .u]
def f_i_members_fr0 (a0 : Int) (s : List Sc × Int) : List AV := enc f_i_members_h0 [.i a0, .l s.1, .i s.2]
def f_i_members_g0_1 : List Sh := [.u, .u, .u, .own 3, .u, .u, .u, .u, .u, .u, .u, .u, .u, .u, .u, .u, .u, .u, .u, .u, .u, .u]
def f_i_members_x0_1 (a0 : Int) (e : List Sc) : X × List AV := (.out 0, enc f_i_members_g0_1 [.l e])
def f_i_members_x0_2 (a0 : Int) (_e : Unit) : X × List AV := (.ret, [])
theorem f_i_members_p0 {R : Type} (a0 : Int) (s : List Sc × Int) (kN : List Sc × Int → Option R) (kA : List Sc → Option R) (kB : Unit → Option R) : f_i_members_k0 a0 s.1 s.2 kN kA = (f_i_members_r0 a0 s).bind (Ro.el kN kA kB) := by
  simp only [f_i_members_k0, f_i_members_r0, brB, someB, noneB, Ro.el]
theorem f_i_members_e0 (a0 : Int) (s : List Sc × Int) : EC E0 f_i_members_M H0 f_i_members_F (asL (noL)) 0 (bodyOf Try.f103 0) (f_i_members_fr0 a0 s) (done (klOf f_i_members_F 0)) = f_i_members_k0 a0 s.1 s.2 (fun s => some (.norm, f_i_members_fr0 a0 s)) (fun e => some (f_i_members_x0_1 a0 e)) := by kernel_rfl
theorem f_i_members_l0 (a0 : Int) : ∀ s r, loopL (f_i_members_r0 a0) s = some r → LS Try.prog f_i_members_F (bodyOf Try.f103 0) (f_i_members_fr0 a0 s) (enX (f_i_members_x0_1 a0) (f_i_members_x0_2 a0) r) :=
  loop_true E0ok f_i_members_Mt (noL_true) f_i_members_o (fun _ h => by cases h) (fun _ h => by cases h) (fun s => (f_i_members_e0 a0 s).trans (f_i_members_p0 a0 s _ _ (fun e => some (f_i_members_x0_2 a0 e))))
def f_i_members_t0 (σ : List AV) : Option (Bool × Bool × (X × List AV) × (X × List AV)) := match dec f_i_members_h0 σ with
  | some [.i a0, .l out3, .i x4] => some (isOne (loopL (f_i_members_r0 a0) (out3, x4)), true, f_i_members_x0_1 a0 (getOne [] (loopL (f_i_members_r0 a0) (out3, x4))), (.ret, []))
  | _ => none
theorem f_i_members_tt0 : TTrue Try.prog f_i_members_F Try.f103 0 (f_i_members_t0) := by
  intro σ p r r' h
  unfold f_i_members_t0 at h
  split at h
  · rename_i hd
    rw [← dec_enc hd]
    exact row1 (f_i_members_l0 _ _) h
  · cases h
theorem f_i_members_p {R : Type} (a0 : Int) (kR : List Sc → Option R) : f_i_members_k a0 kR = (f_i_members_k a0 some).bind kR := by
  simp only [f_i_members_k, bl1B, someB]
theorem f_i_members_e (a0 : Int) : runFn E0 f_i_members_M H0 f_i_members_F (asL (addL 0 (f_i_members_t0) (noL))) Try.f103 (f_i_members_a a0) (f_i_members_i a0) = f_i_members_k a0 (fun r => some (f_i_members_en r)) := by kernel_rfl
theorem f_i_members_ok (a0 : Int) (r : List Sc) (h : f_i_members a0 = some r) : CS Try.prog 103 (f_i_members_a a0) (f_i_members_i a0) (f_i_members_en r).1 (f_i_members_en r).2 :=
  fn_true (Gk := fun k => f_i_members_k a0 k) (en := f_i_members_en) Try.func103 E0ok f_i_members_Mt (addL_true (f_i_members_tt0) (noL_true)) f_i_members_o (f_i_members_e a0) (f_i_members_p a0) h
def f_i_members_c : CRow := fun args inh => match dec2 [.p (.int .i64)] [] args inh with
  | some ([.i a0], []) => some ((f_i_members a0).isSome, (f_i_members_en ((f_i_members a0).getD [])).1, (f_i_members_en ((f_i_members a0).getD [])).2)
  | _ => none
theorem f_i_members_cc : CTrue Try.prog 103 f_i_members_c := by
  intro args inh rs out h
  unfold f_i_members_c at h
  split at h
  · rename_i hd
    obtain ⟨h1, h2⟩ := dec2_enc hd
    rw [← h1, ← h2]
    exact rowC (f_i_members_ok _) h
  · cases h

def f_i_Group_sum_F : Fi := { nv := 0, nc := 0, m := 0, vt := [], kl := [(0, ([0, 1, 4, 5, 6, 8, 9, 10, 14, 15, 16, 17, 18, 19, 20, 21, 22, 23, 24], [0, 1, 2, 3, 4, 5, 6, 8, 9, 10, 11, 12, 13, 14, 15, 16, 17, 18, 19, 20, 21, 22, 23, 24], [0, 1, 2, 3, 4, 5, 7, 8, 9, 10, 11, 12, 13, 14, 15, 16, 17, 18, 19, 20, 21, 22, 23, 24]))], sk := [], mvs := [], fz := [] }
def f_i_Group_sum_a (g0 : List Sc) (a1 : Int) (b2 : Int) : List AV := enc [.p .gr, .p (.int .i64), .p (.int .i64)] [.l g0, .i a1, .i b2]
def f_i_Group_sum_i (g0 : List Sc) (a1 : Int) (b2 : Int) : List AV := enc [] []
def f_i_Group_sum_en (r : Int) : List AV × List AV := (enc [.p (.int .i64)] [.i r], enc [] [])
def f_i_Group_sum_M : Calling := addC 103 f_i_members_c (addC 82 f_i_Group_shift_c (noC))
theorem f_i_Group_sum_Mt : CallOk Try.prog (f_i_Group_sum_M) := addC_true f_i_members_cc (addC_true f_i_Group_shift_cc (noC_true))
theorem f_i_Group_sum_o : loopsOnce Try.f80 = true := by kernel_rfl
def f_i_Group_sum_h0 : List Sh := [.u, .u, .p (.int .i64), .p .el, .u, .u, .u, .p (.int .i64), .u, .u, .u, .own 3, .p (.int .i64), .p (.int .i64), .u, .u, .u, .u, .u, .u, .u, .u, .u, .u, .u]
def f_i_Group_sum_fr0 (b2 : Int) (g3 : List Sc) (t12 : Int) (s : Int × List Sc × Int) : List AV := enc f_i_Group_sum_h0 [.i b2, .l g3, .i s.1, .l s.2.1, .i t12, .i s.2.2]
def f_i_Group_sum_g0_1 : List Sh := [.u, .u, .u, .u, .u, .u, .u, .p (.int .i64), .u, .u, .u, .u, .u, .u, .u, .u, .u, .u, .u, .u, .u, .u, .u, .u, .u]
def f_i_Group_sum_x0_1 (b2 : Int) (g3 : List Sc) (t12 : Int) (e : Int) : X × List AV := (.out 0, enc f_i_Group_sum_g0_1 [.i e])
def f_i_Group_sum_x0_2 (b2 : Int) (g3 : List Sc) (t12 : Int) (_e : Unit) : X × List AV := (.ret, [])
theorem f_i_Group_sum_p0 {R : Type} (b2 : Int) (g3 : List Sc) (t12 : Int) (s : Int × List Sc × Int) (kN : Int × List Sc × Int → Option R) (kA : Int → Option R) (kB : Unit → Option R) : f_i_Group_sum_k0 b2 g3 t12 s.1 s.2.1 s.2.2 kN kA = (f_i_Group_sum_r0 b2 g3 t12 s).bind (Ro.el kN kA kB) := by
  simp only [f_i_Group_sum_k0, f_i_Group_sum_r0, brB, boB, someB, noneB, Ro.el]
theorem f_i_Group_sum_e0 (b2 : Int) (g3 : List Sc) (t12 : Int) (s : Int × List Sc × Int) : EC E0 f_i_Group_sum_M H0 f_i_Group_sum_F (asL (noL)) 0 (bodyOf Try.f80 0) (f_i_Group_sum_fr0 b2 g3 t12 s) (done (klOf f_i_Group_sum_F 0)) = f_i_Group_sum_k0 b2 g3 t12 s.1 s.2.1 s.2.2 (fun s => some (.norm, f_i_Group_sum_fr0 b2 g3 t12 s)) (fun e => some (f_i_Group_sum_x0_1 b2 g3 t12 e)) := by kernel_rfl
theorem f_i_Group_sum_l0 (b2 : Int) (g3 : List Sc) (t12 : Int) : ∀ s r, loopL (f_i_Group_sum_r0 b2 g3 t12) s = some r → LS Try.prog f_i_Group_sum_F (bodyOf Try.f80 0) (f_i_Group_sum_fr0 b2 g3 t12 s) (enX (f_i_Group_sum_x0_1 b2 g3 t12) (f_i_Group_sum_x0_2 b2 g3 t12) r) :=
  loop_true E0ok f_i_Group_sum_Mt (noL_true) f_i_Group_sum_o (fun _ h => by cases h) (fun _ h => by cases h) (fun s => (f_i_Group_sum_e0 b2 g3 t12 s).trans (f_i_Group_sum_p0 b2 g3 t12 s _ _ (fun e => some (f_i_Group_sum_x0_2 b2 g3 t12 e))))
def f_i_Group_sum_t0 (σ : List AV) : Option (Bool × Bool × (X × List AV) × (X × List AV)) := match dec f_i_Group_sum_h0 σ with
  | some [.i b2, .l g3, .i out7, .l t11, .i t12, .i t13] => some (isOne (loopL (f_i_Group_sum_r0 b2 g3 t12) (out7, t11, t13)), true, f_i_Group_sum_x0_1 b2 g3 t12 (getOne 0 (loopL (f_i_Group_sum_r0 b2 g3 t12) (out7, t11, t13))), (.ret, []))
  | _ => none
theorem f_i_Group_sum_tt0 : TTrue Try.prog f_i_Group_sum_F Try.f80 0 (f_i_Group_sum_t0) := by
  intro σ p r r' h
  unfold f_i_Group_sum_t0 at h
  split at h
  · rename_i hd
    rw [← dec_enc hd]
    exact row1 (f_i_Group_sum_l0 _ _ _ _) h
  · cases h
theorem f_i_Group_sum_p {R : Type} (g0 : List Sc) (a1 : Int) (b2 : Int) (kR : Int → Option R) : f_i_Group_sum_k g0 a1 b2 kR = (f_i_Group_sum_k g0 a1 b2 some).bind kR := by
  simp only [f_i_Group_sum_k, boB, bl1B, someB]
theorem f_i_Group_sum_e (g0 : List Sc) (a1 : Int) (b2 : Int) : runFn E0 f_i_Group_sum_M H0 f_i_Group_sum_F (asL (addL 0 (f_i_Group_sum_t0) (noL))) Try.f80 (f_i_Group_sum_a g0 a1 b2) (f_i_Group_sum_i g0 a1 b2) = f_i_Group_sum_k g0 a1 b2 (fun r => some (f_i_Group_sum_en r)) := by kernel_rfl
theorem f_i_Group_sum_ok (g0 : List Sc) (a1 : Int) (b2 : Int) (r : Int) (h : f_i_Group_sum g0 a1 b2 = some r) : CS Try.prog 80 (f_i_Group_sum_a g0 a1 b2) (f_i_Group_sum_i g0 a1 b2) (f_i_Group_sum_en r).1 (f_i_Group_sum_en r).2 :=
  fn_true (Gk := fun k => f_i_Group_sum_k g0 a1 b2 k) (en := f_i_Group_sum_en) Try.func80 E0ok f_i_Group_sum_Mt (addL_true (f_i_Group_sum_tt0) (noL_true)) f_i_Group_sum_o (f_i_Group_sum_e g0 a1 b2) (f_i_Group_sum_p g0 a1 b2) h
def f_i_Group_sum_c : CRow := fun args inh => match dec2 [.p .gr, .p (.int .i64), .p (.int .i64)] [] args inh with
  | some ([.l g0, .i a1, .i b2], []) => some ((f_i_Group_sum g0 a1 b2).isSome, (f_i_Group_sum_en ((f_i_Group_sum g0 a1 b2).getD 0)).1, (f_i_Group_sum_en ((f_i_Group_sum g0 a1 b2).getD 0)).2)
  | _ => none
theorem f_i_Group_sum_cc : CTrue Try.prog 80 f_i_Group_sum_c := by
  intro args inh rs out h
  unfold f_i_Group_sum_c at h
  split at h
  · rename_i hd
    obtain ⟨h1, h2⟩ := dec2_enc hd
    rw [← h1, ← h2]
    exact rowC (f_i_Group_sum_ok _ _ _) h
  · cases h
end
end Go.Proofs.Ytgbjnchipnbohaa
