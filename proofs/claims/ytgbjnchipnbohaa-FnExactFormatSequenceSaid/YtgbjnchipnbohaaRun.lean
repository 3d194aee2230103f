/-
  That the program computes just that (printed by gen2.py).
-/
import Derived.Test.YtgbjnchipnbohaaShal
import Derived.Test.YtgbjnchipnbohaaRows
import Derived.WalkKit
import Derived.Test.YtgbjnchipnbohaaShelf
set_option linter.unusedVariables false
namespace Go.Proofs.Ytgbjnchipnbohaa
open Go Ev
noncomputable section
def E0 : Env := { sl := [(22, 3, .n .i64 0), (53, 9, .s ByteArray.empty), (69, 5, .n .u8 0)], gr := [(24, 22), (27, 22)], sc := [3, 4, 5, 9, 21, 86, 88], bl := [4], ik := [(3, .i64), (5, .u8), (21, .i32), (86, .u32), (88, .u64)], st := [9], one := [3, 4, 5, 9, 21, 86, 88, 22, 53, 69, 1, 25, 26, 28, 29, 30, 31, 32, 34, 35, 36, 37, 39, 40, 41, 42, 43, 44, 45, 46, 47, 49, 50, 51, 52, 54, 55, 56, 57, 58, 59, 60, 61, 62, 63, 64, 65, 66, 67, 68, 70, 71, 72, 74, 75, 76, 77, 78, 81, 82, 83, 84, 85, 87, 90, 91, 92, 94, 97, 98, 104, 107], al := [(3, [.sc (.n .i64 0)]), (4, [.sc (.b false)]), (5, [.sc (.n .u8 0)]), (9, [.sc (.s ByteArray.empty)]), (21, [.sc (.n .i32 0)]), (86, [.sc (.n .u32 0)]), (88, [.sc (.n .u64 0)]), (22, [.sl]), (53, [.sl]), (69, [.sl]), (1, [.fn]), (24, [.sl]), (25, [.fn]), (26, [.fn]), (27, [.sl]), (28, [.fn]), (29, [.fn]), (30, [.fn]), (31, [.fn]), (32, [.fn]), (34, [.fn]), (35, [.fn]), (36, [.fn]), (37, [.fn]), (39, [.fn]), (40, [.fn]), (41, [.fn]), (42, [.fn]), (43, [.fn]), (44, [.fn]), (45, [.fn]), (46, [.fn]), (47, [.fn]), (49, [.fn]), (50, [.fn]), (51, [.fn]), (52, [.fn]), (54, [.fn]), (55, [.fn]), (56, [.fn]), (57, [.fn]), (58, [.fn]), (59, [.fn]), (60, [.fn]), (61, [.fn]), (62, [.fn]), (63, [.fn]), (64, [.fn]), (65, [.fn]), (66, [.fn]), (67, [.fn]), (68, [.fn]), (70, [.fn]), (71, [.fn]), (72, [.fn]), (74, [.fn]), (75, [.fn]), (76, [.fn]), (77, [.fn]), (78, [.fn]), (81, [.fn]), (82, [.fn]), (83, [.fn]), (84, [.fn]), (85, [.fn]), (87, [.fn]), (90, [.fn]), (91, [.fn]), (92, [.fn]), (94, [.fn]), (97, [.fn]), (98, [.fn]), (104, [.fn]), (107, [.fn])], fd := [(24, 1), (27, 1)] }
def H0 : Hints := { md := [(29, [.io]), (30, [.io]), (87, [.io])], soft := [] }
theorem E0ok : EnvOk Try.prog E0 := okEnv_spec (by kernel_rfl)

def f_l_szIntS_F : Fi := { nv := 0, nc := 0, m := 0, vt := [], kl := [], sk := [], mvs := [], fz := [] }
def f_l_szIntS_a (a0 : List Sc) (left1 : Int) : List AV := enc [.p .sl, .p (.int .i64)] [.l a0, .i left1]
def f_l_szIntS_i (a0 : List Sc) (left1 : Int) : List AV := enc [] []
def f_l_szIntS_en (r : Int) : List AV × List AV := (enc [.p (.int .i64)] [.i r], enc [] [])
def f_l_szIntS_M : Calling := noC
theorem f_l_szIntS_Mt : CallOk Try.prog (f_l_szIntS_M) := noC_true
theorem f_l_szIntS_o : loopsOnce Try.f44 = true := by kernel_rfl
theorem f_l_szIntS_p {R : Type} (a0 : List Sc) (left1 : Int) (kR : Int → Option R) : f_l_szIntS_k a0 left1 kR = (f_l_szIntS_k a0 left1 some).bind kR := by
  simp only [f_l_szIntS_k, brB, someB]
theorem f_l_szIntS_e (a0 : List Sc) (left1 : Int) : runFn E0 f_l_szIntS_M H0 f_l_szIntS_F (asL (noL)) Try.f44 (f_l_szIntS_a a0 left1) (f_l_szIntS_i a0 left1) = f_l_szIntS_k a0 left1 (fun r => some (f_l_szIntS_en r)) := by kernel_rfl
theorem f_l_szIntS_ok (a0 : List Sc) (left1 : Int) (r : Int) (h : f_l_szIntS a0 left1 = some r) : CS Try.prog 44 (f_l_szIntS_a a0 left1) (f_l_szIntS_i a0 left1) (f_l_szIntS_en r).1 (f_l_szIntS_en r).2 :=
  fn_true (Gk := fun k => f_l_szIntS_k a0 left1 k) (en := f_l_szIntS_en) Try.func44 E0ok f_l_szIntS_Mt (noL_true) f_l_szIntS_o (f_l_szIntS_e a0 left1) (f_l_szIntS_p a0 left1) h
def f_l_szIntS_c : CRow := fun args inh => match dec2 [.p .sl, .p (.int .i64)] [] args inh with
  | some ([.l a0, .i left1], []) => some ((f_l_szIntS a0 left1).isSome, (f_l_szIntS_en ((f_l_szIntS a0 left1).getD 0)).1, (f_l_szIntS_en ((f_l_szIntS a0 left1).getD 0)).2)
  | _ => none
theorem f_l_szIntS_cc : CTrue Try.prog 44 f_l_szIntS_c := by
  intro args inh rs out h
  unfold f_l_szIntS_c at h
  split at h
  · rename_i hd
    obtain ⟨h1, h2⟩ := dec2_enc hd
    rw [← h1, ← h2]
    exact rowC (f_l_szIntS_ok _ _) h
  · cases h

def f_l_szGroup_F : Fi := { nv := 0, nc := 0, m := 0, vt := [], kl := [], sk := [], mvs := [], fz := [] }
def f_l_szGroup_a (a0 : List Sc) (left1 : Int) : List AV := enc [.p .gr, .p (.int .i64)] [.l a0, .i left1]
def f_l_szGroup_i (a0 : List Sc) (left1 : Int) : List AV := enc [] []
def f_l_szGroup_en (r : Int) : List AV × List AV := (enc [.p (.int .i64)] [.i r], enc [] [])
def f_l_szGroup_M : Calling := addC 44 f_l_szIntS_c (noC)
theorem f_l_szGroup_Mt : CallOk Try.prog (f_l_szGroup_M) := addC_true f_l_szIntS_cc (noC_true)
theorem f_l_szGroup_o : loopsOnce Try.f14 = true := by kernel_rfl
theorem f_l_szGroup_p {R : Type} (a0 : List Sc) (left1 : Int) (kR : Int → Option R) : f_l_szGroup_k a0 left1 kR = (f_l_szGroup_k a0 left1 some).bind kR := by
  simp only [f_l_szGroup_k, brB, boB, someB]
theorem f_l_szGroup_e (a0 : List Sc) (left1 : Int) : runFn E0 f_l_szGroup_M H0 f_l_szGroup_F (asL (noL)) Try.f14 (f_l_szGroup_a a0 left1) (f_l_szGroup_i a0 left1) = f_l_szGroup_k a0 left1 (fun r => some (f_l_szGroup_en r)) := by kernel_rfl
theorem f_l_szGroup_ok (a0 : List Sc) (left1 : Int) (r : Int) (h : f_l_szGroup a0 left1 = some r) : CS Try.prog 14 (f_l_szGroup_a a0 left1) (f_l_szGroup_i a0 left1) (f_l_szGroup_en r).1 (f_l_szGroup_en r).2 :=
  fn_true (Gk := fun k => f_l_szGroup_k a0 left1 k) (en := f_l_szGroup_en) Try.func14 E0ok f_l_szGroup_Mt (noL_true) f_l_szGroup_o (f_l_szGroup_e a0 left1) (f_l_szGroup_p a0 left1) h
def f_l_szGroup_c : CRow := fun args inh => match dec2 [.p .gr, .p (.int .i64)] [] args inh with
  | some ([.l a0, .i left1], []) => some ((f_l_szGroup a0 left1).isSome, (f_l_szGroup_en ((f_l_szGroup a0 left1).getD 0)).1, (f_l_szGroup_en ((f_l_szGroup a0 left1).getD 0)).2)
  | _ => none
theorem f_l_szGroup_cc : CTrue Try.prog 14 f_l_szGroup_c := by
  intro args inh rs out h
  unfold f_l_szGroup_c at h
  split at h
  · rename_i hd
    obtain ⟨h1, h2⟩ := dec2_enc hd
    rw [← h1, ← h2]
    exact rowC (f_l_szGroup_ok _ _) h
  · cases h

def f_l_toIntS_F : Fi := { nv := 0, nc := 0, m := 0, vt := [], kl := [(0, ([1, 2, 5, 6, 7, 8, 9, 10, 11, 12, 13, 14, 15, 16, 17, 18, 19, 20, 21], [0, 1, 2, 4, 5, 6, 7, 8, 9, 10, 11, 12, 13, 14, 15, 16, 17, 18, 19, 20, 21], [0, 1, 3, 4, 5, 6, 7, 8, 9, 10, 11, 12, 13, 14, 15, 16, 17, 18, 19, 20, 21]))], sk := [], mvs := [], fz := [] }
def f_l_toIntS_a (a0 : List Sc) : List AV := enc [.p .sl] [.l a0]
def f_l_toIntS_i (a0 : List Sc) : List AV := enc [] []
def f_l_toIntS_en (r : List Sc) : List AV × List AV := (enc [.p (.al 0)] [], enc [.own 3] [.l r])
def f_l_toIntS_M : Calling := noC
theorem f_l_toIntS_Mt : CallOk Try.prog (f_l_toIntS_M) := noC_true
theorem f_l_toIntS_o : loopsOnce Try.f17 = true := by kernel_rfl
def f_l_toIntS_h0 : List Sh := [.p .sl, .u, .u, .own 3, .p (.int .i64), .u, .u, .u, .u, .u, .u, .u, .u, .u, .u, .u, .u, .u, .u, .u, .u, .u]
def f_l_toIntS_fr0 (a0 : List Sc) (s : List Sc × Int) : List AV := enc f_l_toIntS_h0 [.l a0, .l s.1, .i s.2]
def f_l_toIntS_g0_1 : List Sh := [.u, .u, .u, .own 3, .u, .u, .u, .u, .u, .u, .u, .u, .u, .u, .u, .u, .u, .u, .u, .u, .u, .u]
def f_l_toIntS_x0_1 (a0 : List Sc) (e : List Sc) : X × List AV := (.out 0, enc f_l_toIntS_g0_1 [.l e])
def f_l_toIntS_x0_2 (a0 : List Sc) (_e : Unit) : X × List AV := (.ret, [])
theorem f_l_toIntS_p0 {R : Type} (a0 : List Sc) (s : List Sc × Int) (kN : List Sc × Int → Option R) (kA : List Sc → Option R) (kB : Unit → Option R) : f_l_toIntS_k0 a0 s.1 s.2 kN kA = (f_l_toIntS_r0 a0 s).bind (Ro.el kN kA kB) := by
  simp only [f_l_toIntS_k0, f_l_toIntS_r0, brB, someB, noneB, Ro.el]
theorem f_l_toIntS_e0 (a0 : List Sc) (s : List Sc × Int) : EC E0 f_l_toIntS_M H0 f_l_toIntS_F (asL (noL)) 0 (bodyOf Try.f17 0) (f_l_toIntS_fr0 a0 s) (done (klOf f_l_toIntS_F 0)) = f_l_toIntS_k0 a0 s.1 s.2 (fun s => some (.norm, f_l_toIntS_fr0 a0 s)) (fun e => some (f_l_toIntS_x0_1 a0 e)) := by kernel_rfl
theorem f_l_toIntS_l0 (a0 : List Sc) : ∀ s r, loopL (f_l_toIntS_r0 a0) s = some r → LS Try.prog f_l_toIntS_F (bodyOf Try.f17 0) (f_l_toIntS_fr0 a0 s) (enX (f_l_toIntS_x0_1 a0) (f_l_toIntS_x0_2 a0) r) :=
  loop_true E0ok f_l_toIntS_Mt (noL_true) f_l_toIntS_o (fun _ h => by cases h) (fun _ h => by cases h) (fun s => (f_l_toIntS_e0 a0 s).trans (f_l_toIntS_p0 a0 s _ _ (fun e => some (f_l_toIntS_x0_2 a0 e))))
def f_l_toIntS_t0 (σ : List AV) : Option (Bool × Bool × (X × List AV) × (X × List AV)) := match dec f_l_toIntS_h0 σ with
  | some [.l a0, .l out3, .i i4] => some (isOne (loopL (f_l_toIntS_r0 a0) (out3, i4)), true, f_l_toIntS_x0_1 a0 (getOne [] (loopL (f_l_toIntS_r0 a0) (out3, i4))), (.ret, []))
  | _ => none
theorem f_l_toIntS_tt0 : TTrue Try.prog f_l_toIntS_F Try.f17 0 (f_l_toIntS_t0) := by
  intro σ p r r' h
  unfold f_l_toIntS_t0 at h
  split at h
  · rename_i hd
    rw [← dec_enc hd]
    exact row1 (f_l_toIntS_l0 _ _) h
  · cases h
theorem f_l_toIntS_p {R : Type} (a0 : List Sc) (kR : List Sc → Option R) : f_l_toIntS_k a0 kR = (f_l_toIntS_k a0 some).bind kR := by
  simp only [f_l_toIntS_k, brB, bl1B, someB, noneB]
theorem f_l_toIntS_e (a0 : List Sc) : runFn E0 f_l_toIntS_M H0 f_l_toIntS_F (asL (addL 0 (f_l_toIntS_t0) (noL))) Try.f17 (f_l_toIntS_a a0) (f_l_toIntS_i a0) = f_l_toIntS_k a0 (fun r => some (f_l_toIntS_en r)) := by kernel_rfl
theorem f_l_toIntS_ok (a0 : List Sc) (r : List Sc) (h : f_l_toIntS a0 = some r) : CS Try.prog 17 (f_l_toIntS_a a0) (f_l_toIntS_i a0) (f_l_toIntS_en r).1 (f_l_toIntS_en r).2 :=
  fn_true (Gk := fun k => f_l_toIntS_k a0 k) (en := f_l_toIntS_en) Try.func17 E0ok f_l_toIntS_Mt (addL_true (f_l_toIntS_tt0) (noL_true)) f_l_toIntS_o (f_l_toIntS_e a0) (f_l_toIntS_p a0) h
def f_l_toIntS_c : CRow := fun args inh => match dec2 [.p .sl] [] args inh with
  | some ([.l a0], []) => some ((f_l_toIntS a0).isSome, (f_l_toIntS_en ((f_l_toIntS a0).getD [])).1, (f_l_toIntS_en ((f_l_toIntS a0).getD [])).2)
  | _ => none
theorem f_l_toIntS_cc : CTrue Try.prog 17 f_l_toIntS_c := by
  intro args inh rs out h
  unfold f_l_toIntS_c at h
  split at h
  · rename_i hd
    obtain ⟨h1, h2⟩ := dec2_enc hd
    rw [← h1, ← h2]
    exact rowC (f_l_toIntS_ok _) h
  · cases h

def f_l_toGroup_F : Fi := { nv := 2, nc := 2, m := 0, vt := [(2, 0), (3, 1)], kl := [], sk := [], mvs := [], fz := [] }
def f_l_toGroup_a (a0 : List Sc) : List AV := enc [.p .gr] [.l a0]
def f_l_toGroup_i (a0 : List Sc) : List AV := enc [] []
def f_l_toGroup_en (r : List Sc) : List AV × List AV := (enc [.p (.go 0)] [], enc [.own 3] [.l r])
def f_l_toGroup_M : Calling := addC 17 f_l_toIntS_c (noC)
theorem f_l_toGroup_Mt : CallOk Try.prog (f_l_toGroup_M) := addC_true f_l_toIntS_cc (noC_true)
theorem f_l_toGroup_o : loopsOnce Try.f16 = true := by kernel_rfl
theorem f_l_toGroup_p {R : Type} (a0 : List Sc) (kR : List Sc → Option R) : f_l_toGroup_k a0 kR = (f_l_toGroup_k a0 some).bind kR := by
  simp only [f_l_toGroup_k, boB, someB]
theorem f_l_toGroup_e (a0 : List Sc) : runFn E0 f_l_toGroup_M H0 f_l_toGroup_F (asL (noL)) Try.f16 (f_l_toGroup_a a0) (f_l_toGroup_i a0) = f_l_toGroup_k a0 (fun r => some (f_l_toGroup_en r)) := by kernel_rfl
theorem f_l_toGroup_ok (a0 : List Sc) (r : List Sc) (h : f_l_toGroup a0 = some r) : CS Try.prog 16 (f_l_toGroup_a a0) (f_l_toGroup_i a0) (f_l_toGroup_en r).1 (f_l_toGroup_en r).2 :=
  fn_true (Gk := fun k => f_l_toGroup_k a0 k) (en := f_l_toGroup_en) Try.func16 E0ok f_l_toGroup_Mt (noL_true) f_l_toGroup_o (f_l_toGroup_e a0) (f_l_toGroup_p a0) h
def f_l_toGroup_c : CRow := fun args inh => match dec2 [.p .gr] [] args inh with
  | some ([.l a0], []) => some ((f_l_toGroup a0).isSome, (f_l_toGroup_en ((f_l_toGroup a0).getD [])).1, (f_l_toGroup_en ((f_l_toGroup a0).getD [])).2)
  | _ => none
theorem f_l_toGroup_cc : CTrue Try.prog 16 f_l_toGroup_c := by
  intro args inh rs out h
  unfold f_l_toGroup_c at h
  split at h
  · rename_i hd
    obtain ⟨h1, h2⟩ := dec2_enc hd
    rw [← h1, ← h2]
    exact rowC (f_l_toGroup_ok _) h
  · cases h

def f_s_l1In_F : Fi := { nv := 0, nc := 0, m := 0, vt := [], kl := [], sk := [], mvs := [], fz := [] }
def f_s_l1In_a (x0 : Int) (low1 : Int) (high2 : Int) : List AV := enc [.p (.int .i64), .p (.int .i64), .p (.int .i64)] [.i x0, .i low1, .i high2]
def f_s_l1In_i (x0 : Int) (low1 : Int) (high2 : Int) : List AV := enc [] []
def f_s_l1In_en (r : Bool) : List AV × List AV := (enc [.p .boo] [.b r], enc [] [])
def f_s_l1In_M : Calling := noC
theorem f_s_l1In_Mt : CallOk Try.prog (f_s_l1In_M) := noC_true
theorem f_s_l1In_o : loopsOnce Try.f68 = true := by kernel_rfl
theorem f_s_l1In_p {R : Type} (x0 : Int) (low1 : Int) (high2 : Int) (kR : Bool → Option R) : f_s_l1In_k x0 low1 high2 kR = (f_s_l1In_k x0 low1 high2 some).bind kR := by
  simp only [f_s_l1In_k, brB, someB]
theorem f_s_l1In_e (x0 : Int) (low1 : Int) (high2 : Int) : runFn E0 f_s_l1In_M H0 f_s_l1In_F (asL (noL)) Try.f68 (f_s_l1In_a x0 low1 high2) (f_s_l1In_i x0 low1 high2) = f_s_l1In_k x0 low1 high2 (fun r => some (f_s_l1In_en r)) := by kernel_rfl
theorem f_s_l1In_ok (x0 : Int) (low1 : Int) (high2 : Int) (r : Bool) (h : f_s_l1In x0 low1 high2 = some r) : CS Try.prog 68 (f_s_l1In_a x0 low1 high2) (f_s_l1In_i x0 low1 high2) (f_s_l1In_en r).1 (f_s_l1In_en r).2 :=
  fn_true (Gk := fun k => f_s_l1In_k x0 low1 high2 k) (en := f_s_l1In_en) Try.func68 E0ok f_s_l1In_Mt (noL_true) f_s_l1In_o (f_s_l1In_e x0 low1 high2) (f_s_l1In_p x0 low1 high2) h
def f_s_l1In_c : CRow := fun args inh => match dec2 [.p (.int .i64), .p (.int .i64), .p (.int .i64)] [] args inh with
  | some ([.i x0, .i low1, .i high2], []) => some ((f_s_l1In x0 low1 high2).isSome, (f_s_l1In_en ((f_s_l1In x0 low1 high2).getD false)).1, (f_s_l1In_en ((f_s_l1In x0 low1 high2).getD false)).2)
  | _ => none
theorem f_s_l1In_cc : CTrue Try.prog 68 f_s_l1In_c := by
  intro args inh rs out h
  unfold f_s_l1In_c at h
  split at h
  · rename_i hd
    obtain ⟨h1, h2⟩ := dec2_enc hd
    rw [← h1, ← h2]
    exact rowC (f_s_l1In_ok _ _ _) h
  · cases h

def f_s_IsGroup_F : Fi := { nv := 0, nc := 0, m := 0, vt := [], kl := [(0, ([0, 2, 5, 6, 7, 8, 9, 10, 11, 12, 13, 14, 15, 16, 17, 18, 19, 20, 21, 22, 23, 24, 25, 26, 27, 28, 29, 30, 31], [0, 1, 2, 4, 5, 6, 7, 8, 9, 10, 11, 12, 13, 14, 15, 16, 17, 18, 19, 20, 21, 22, 23, 24, 25, 26, 27, 28, 29, 30, 31], [0, 1, 3, 4, 5, 6, 7, 8, 9, 10, 11, 12, 13, 14, 15, 16, 17, 18, 19, 20, 21, 22, 23, 24, 25, 26, 27, 28, 29, 30, 31]))], sk := [], mvs := [], fz := [] }
def f_s_IsGroup_a (g0 : List Sc) : List AV := enc [.p .gr] [.l g0]
def f_s_IsGroup_i (g0 : List Sc) : List AV := enc [] []
def f_s_IsGroup_en (r : Bool) : List AV × List AV := (enc [.p .boo] [.b r], enc [] [])
def f_s_IsGroup_M : Calling := addC 68 f_s_l1In_c (noC)
theorem f_s_IsGroup_Mt : CallOk Try.prog (f_s_IsGroup_M) := addC_true f_s_l1In_cc (noC_true)
theorem f_s_IsGroup_o : loopsOnce Try.f89 = true := by kernel_rfl
def f_s_IsGroup_h0 : List Sh := [.u, .p .el, .u, .p (.int .i64), .p (.int .i64), .u, .u, .u, .u, .u, .u, .u, .u, .u, .u, .u, .u, .u, .u, .u, .u, .u, .u, .u, .u, .u, .u, .u, .u, .u, .u, .u]
def f_s_IsGroup_fr0 (g1 : List Sc) (s : Int × Int) : List AV := enc f_s_IsGroup_h0 [.l g1, .i s.1, .i s.2]
def f_s_IsGroup_g0_1 : List Sh := [.u, .u, .u, .p (.int .i64), .u, .u, .u, .u, .u, .u, .u, .u, .u, .u, .u, .u, .u, .u, .u, .u, .u, .u, .u, .u, .u, .u, .u, .u, .u, .u, .u, .u]
def f_s_IsGroup_x0_1 (g1 : List Sc) (e : Int) : X × List AV := (.out 0, enc f_s_IsGroup_g0_1 [.i e])
def f_s_IsGroup_g0_2 : List Sh := [.u, .u, .p .boo, .u, .u, .u, .u, .u, .u, .u, .u, .u, .u, .u, .u, .u, .u, .u, .u, .u, .u, .u, .u, .u, .u, .u, .u, .u, .u, .u, .u, .u]
def f_s_IsGroup_x0_2 (g1 : List Sc) (e : Unit) : X × List AV := (.ret, enc f_s_IsGroup_g0_2 [.b false])
theorem f_s_IsGroup_p0 {R : Type} (g1 : List Sc) (s : Int × Int) (kN : Int × Int → Option R) (kA : Int → Option R) (kB : Unit → Option R) : f_s_IsGroup_k0 g1 s.1 s.2 kN kA kB = (f_s_IsGroup_r0 g1 s).bind (Ro.el kN kA kB) := by
  simp only [f_s_IsGroup_k0, f_s_IsGroup_r0, brB, boB, someB, noneB, Ro.el]
theorem f_s_IsGroup_e0 (g1 : List Sc) (s : Int × Int) : EC E0 f_s_IsGroup_M H0 f_s_IsGroup_F (asL (noL)) 0 (bodyOf Try.f89 0) (f_s_IsGroup_fr0 g1 s) (done (klOf f_s_IsGroup_F 0)) = f_s_IsGroup_k0 g1 s.1 s.2 (fun s => some (.norm, f_s_IsGroup_fr0 g1 s)) (fun e => some (f_s_IsGroup_x0_1 g1 e)) (fun e => some (f_s_IsGroup_x0_2 g1 e)) := by kernel_rfl
theorem f_s_IsGroup_l0 (g1 : List Sc) : ∀ s r, loopL (f_s_IsGroup_r0 g1) s = some r → LS Try.prog f_s_IsGroup_F (bodyOf Try.f89 0) (f_s_IsGroup_fr0 g1 s) (enX (f_s_IsGroup_x0_1 g1) (f_s_IsGroup_x0_2 g1) r) :=
  loop_true E0ok f_s_IsGroup_Mt (noL_true) f_s_IsGroup_o (fun _ h => by cases h) (fun _ h => by cases h) (fun s => (f_s_IsGroup_e0 g1 s).trans (f_s_IsGroup_p0 g1 s _ _ (fun e => some (f_s_IsGroup_x0_2 g1 e))))
def f_s_IsGroup_t0 (σ : List AV) : Option (Bool × Bool × (X × List AV) × (X × List AV)) := match dec f_s_IsGroup_h0 σ with
  | some [.l g1, .i n3, .i i4] => some ((loopL (f_s_IsGroup_r0 g1) (n3, i4)).isSome, isOne (loopL (f_s_IsGroup_r0 g1) (n3, i4)), f_s_IsGroup_x0_1 g1 (getOne 0 (loopL (f_s_IsGroup_r0 g1) (n3, i4))), f_s_IsGroup_x0_2 g1 (getTwo () (loopL (f_s_IsGroup_r0 g1) (n3, i4))))
  | _ => none
theorem f_s_IsGroup_tt0 : TTrue Try.prog f_s_IsGroup_F Try.f89 0 (f_s_IsGroup_t0) := by
  intro σ p r r' h
  unfold f_s_IsGroup_t0 at h
  split at h
  · rename_i hd
    rw [← dec_enc hd]
    exact row2 (f_s_IsGroup_l0 _ _) h
  · cases h
theorem f_s_IsGroup_p {R : Type} (g0 : List Sc) (kR : Bool → Option R) : f_s_IsGroup_k g0 kR = (f_s_IsGroup_k g0 some).bind kR := by
  simp only [f_s_IsGroup_k, blB, someB]
theorem f_s_IsGroup_e (g0 : List Sc) : runFn E0 f_s_IsGroup_M H0 f_s_IsGroup_F (asL (addL 0 (f_s_IsGroup_t0) (noL))) Try.f89 (f_s_IsGroup_a g0) (f_s_IsGroup_i g0) = f_s_IsGroup_k g0 (fun r => some (f_s_IsGroup_en r)) := by kernel_rfl
theorem f_s_IsGroup_ok (g0 : List Sc) (r : Bool) (h : f_s_IsGroup g0 = some r) : CS Try.prog 89 (f_s_IsGroup_a g0) (f_s_IsGroup_i g0) (f_s_IsGroup_en r).1 (f_s_IsGroup_en r).2 :=
  fn_true (Gk := fun k => f_s_IsGroup_k g0 k) (en := f_s_IsGroup_en) Try.func89 E0ok f_s_IsGroup_Mt (addL_true (f_s_IsGroup_tt0) (noL_true)) f_s_IsGroup_o (f_s_IsGroup_e g0) (f_s_IsGroup_p g0) h
def f_s_IsGroup_c : CRow := fun args inh => match dec2 [.p .gr] [] args inh with
  | some ([.l g0], []) => some ((f_s_IsGroup g0).isSome, (f_s_IsGroup_en ((f_s_IsGroup g0).getD false)).1, (f_s_IsGroup_en ((f_s_IsGroup g0).getD false)).2)
  | _ => none
theorem f_s_IsGroup_cc : CTrue Try.prog 89 f_s_IsGroup_c := by
  intro args inh rs out h
  unfold f_s_IsGroup_c at h
  split at h
  · rename_i hd
    obtain ⟨h1, h2⟩ := dec2_enc hd
    rw [← h1, ← h2]
    exact rowC (f_s_IsGroup_ok _) h
  · cases h

def f_s_l2Order_F : Fi := { nv := 0, nc := 0, m := 0, vt := [], kl := [(0, ([0, 2, 5, 6, 7, 8, 9, 10, 11, 12, 13, 14, 15, 16, 17, 18, 19], [0, 1, 2, 4, 5, 6, 7, 8, 9, 10, 11, 12, 13, 14, 15, 16, 17, 18, 19], [0, 1, 3, 4, 5, 6, 7, 8, 9, 10, 11, 12, 13, 14, 15, 16, 17, 18, 19]))], sk := [], mvs := [], fz := [] }
def f_s_l2Order_a (g0 : List Sc) : List AV := enc [.p .gr] [.l g0]
def f_s_l2Order_i (g0 : List Sc) : List AV := enc [] []
def f_s_l2Order_en (r : Int) : List AV × List AV := (enc [.p (.int .i64)] [.i r], enc [] [])
def f_s_l2Order_M : Calling := noC
theorem f_s_l2Order_Mt : CallOk Try.prog (f_s_l2Order_M) := noC_true
theorem f_s_l2Order_o : loopsOnce Try.f53 = true := by kernel_rfl
def f_s_l2Order_h0 : List Sh := [.u, .p .el, .u, .p (.int .i64), .p (.int .i64), .u, .u, .u, .u, .u, .u, .u, .u, .u, .u, .u, .u, .u, .u, .u]
def f_s_l2Order_fr0 (g1 : List Sc) (s : Int × Int) : List AV := enc f_s_l2Order_h0 [.l g1, .i s.1, .i s.2]
def f_s_l2Order_g0_1 : List Sh := [.u, .u, .u, .p (.int .i64), .u, .u, .u, .u, .u, .u, .u, .u, .u, .u, .u, .u, .u, .u, .u, .u]
def f_s_l2Order_x0_1 (g1 : List Sc) (e : Int) : X × List AV := (.out 0, enc f_s_l2Order_g0_1 [.i e])
def f_s_l2Order_x0_2 (g1 : List Sc) (_e : Unit) : X × List AV := (.ret, [])
theorem f_s_l2Order_p0 {R : Type} (g1 : List Sc) (s : Int × Int) (kN : Int × Int → Option R) (kA : Int → Option R) (kB : Unit → Option R) : f_s_l2Order_k0 g1 s.1 s.2 kN kA = (f_s_l2Order_r0 g1 s).bind (Ro.el kN kA kB) := by
  simp only [f_s_l2Order_k0, f_s_l2Order_r0, brB, someB, noneB, Ro.el]
theorem f_s_l2Order_e0 (g1 : List Sc) (s : Int × Int) : EC E0 f_s_l2Order_M H0 f_s_l2Order_F (asL (noL)) 0 (bodyOf Try.f53 0) (f_s_l2Order_fr0 g1 s) (done (klOf f_s_l2Order_F 0)) = f_s_l2Order_k0 g1 s.1 s.2 (fun s => some (.norm, f_s_l2Order_fr0 g1 s)) (fun e => some (f_s_l2Order_x0_1 g1 e)) := by kernel_rfl
theorem f_s_l2Order_l0 (g1 : List Sc) : ∀ s r, loopL (f_s_l2Order_r0 g1) s = some r → LS Try.prog f_s_l2Order_F (bodyOf Try.f53 0) (f_s_l2Order_fr0 g1 s) (enX (f_s_l2Order_x0_1 g1) (f_s_l2Order_x0_2 g1) r) :=
  loop_true E0ok f_s_l2Order_Mt (noL_true) f_s_l2Order_o (fun _ h => by cases h) (fun _ h => by cases h) (fun s => (f_s_l2Order_e0 g1 s).trans (f_s_l2Order_p0 g1 s _ _ (fun e => some (f_s_l2Order_x0_2 g1 e))))
def f_s_l2Order_t0 (σ : List AV) : Option (Bool × Bool × (X × List AV) × (X × List AV)) := match dec f_s_l2Order_h0 σ with
  | some [.l g1, .i n3, .i i4] => some (isOne (loopL (f_s_l2Order_r0 g1) (n3, i4)), true, f_s_l2Order_x0_1 g1 (getOne 0 (loopL (f_s_l2Order_r0 g1) (n3, i4))), (.ret, []))
  | _ => none
theorem f_s_l2Order_tt0 : TTrue Try.prog f_s_l2Order_F Try.f53 0 (f_s_l2Order_t0) := by
  intro σ p r r' h
  unfold f_s_l2Order_t0 at h
  split at h
  · rename_i hd
    rw [← dec_enc hd]
    exact row1 (f_s_l2Order_l0 _ _) h
  · cases h
theorem f_s_l2Order_p {R : Type} (g0 : List Sc) (kR : Int → Option R) : f_s_l2Order_k g0 kR = (f_s_l2Order_k g0 some).bind kR := by
  simp only [f_s_l2Order_k, bl1B, someB]
theorem f_s_l2Order_e (g0 : List Sc) : runFn E0 f_s_l2Order_M H0 f_s_l2Order_F (asL (addL 0 (f_s_l2Order_t0) (noL))) Try.f53 (f_s_l2Order_a g0) (f_s_l2Order_i g0) = f_s_l2Order_k g0 (fun r => some (f_s_l2Order_en r)) := by kernel_rfl
theorem f_s_l2Order_ok (g0 : List Sc) (r : Int) (h : f_s_l2Order g0 = some r) : CS Try.prog 53 (f_s_l2Order_a g0) (f_s_l2Order_i g0) (f_s_l2Order_en r).1 (f_s_l2Order_en r).2 :=
  fn_true (Gk := fun k => f_s_l2Order_k g0 k) (en := f_s_l2Order_en) Try.func53 E0ok f_s_l2Order_Mt (addL_true (f_s_l2Order_tt0) (noL_true)) f_s_l2Order_o (f_s_l2Order_e g0) (f_s_l2Order_p g0) h
def f_s_l2Order_c : CRow := fun args inh => match dec2 [.p .gr] [] args inh with
  | some ([.l g0], []) => some ((f_s_l2Order g0).isSome, (f_s_l2Order_en ((f_s_l2Order g0).getD 0)).1, (f_s_l2Order_en ((f_s_l2Order g0).getD 0)).2)
  | _ => none
theorem f_s_l2Order_cc : CTrue Try.prog 53 f_s_l2Order_c := by
  intro args inh rs out h
  unfold f_s_l2Order_c at h
  split at h
  · rename_i hd
    obtain ⟨h1, h2⟩ := dec2_enc hd
    rw [← h1, ← h2]
    exact rowC (f_s_l2Order_ok _) h
  · cases h

def f_s_OrderOf_F : Fi := { nv := 0, nc := 0, m := 0, vt := [], kl := [], sk := [], mvs := [], fz := [] }
def f_s_OrderOf_a (g0 : List Sc) : List AV := enc [.p .gr] [.l g0]
def f_s_OrderOf_i (g0 : List Sc) : List AV := enc [] []
def f_s_OrderOf_en (r : Int) : List AV × List AV := (enc [.p (.int .i64)] [.i r], enc [] [])
def f_s_OrderOf_M : Calling := addC 89 f_s_IsGroup_c (addC 53 f_s_l2Order_c (noC))
theorem f_s_OrderOf_Mt : CallOk Try.prog (f_s_OrderOf_M) := addC_true f_s_IsGroup_cc (addC_true f_s_l2Order_cc (noC_true))
theorem f_s_OrderOf_o : loopsOnce Try.f108 = true := by kernel_rfl
theorem f_s_OrderOf_p {R : Type} (g0 : List Sc) (kR : Int → Option R) : f_s_OrderOf_k g0 kR = (f_s_OrderOf_k g0 some).bind kR := by
  simp only [f_s_OrderOf_k, brB, boB, someB]
theorem f_s_OrderOf_e (g0 : List Sc) : runFn E0 f_s_OrderOf_M H0 f_s_OrderOf_F (asL (noL)) Try.f108 (f_s_OrderOf_a g0) (f_s_OrderOf_i g0) = f_s_OrderOf_k g0 (fun r => some (f_s_OrderOf_en r)) := by kernel_rfl
theorem f_s_OrderOf_ok (g0 : List Sc) (r : Int) (h : f_s_OrderOf g0 = some r) : CS Try.prog 108 (f_s_OrderOf_a g0) (f_s_OrderOf_i g0) (f_s_OrderOf_en r).1 (f_s_OrderOf_en r).2 :=
  fn_true (Gk := fun k => f_s_OrderOf_k g0 k) (en := f_s_OrderOf_en) Try.func108 E0ok f_s_OrderOf_Mt (noL_true) f_s_OrderOf_o (f_s_OrderOf_e g0) (f_s_OrderOf_p g0) h
def f_s_OrderOf_c : CRow := fun args inh => match dec2 [.p .gr] [] args inh with
  | some ([.l g0], []) => some ((f_s_OrderOf g0).isSome, (f_s_OrderOf_en ((f_s_OrderOf g0).getD 0)).1, (f_s_OrderOf_en ((f_s_OrderOf g0).getD 0)).2)
  | _ => none
theorem f_s_OrderOf_cc : CTrue Try.prog 108 f_s_OrderOf_c := by
  intro args inh rs out h
  unfold f_s_OrderOf_c at h
  split at h
  · rename_i hd
    obtain ⟨h1, h2⟩ := dec2_enc hd
    rw [← h1, ← h2]
    exact rowC (f_s_OrderOf_ok _) h
  · cases h

def f_s_l2Is_F : Fi := { nv := 0, nc := 0, m := 0, vt := [], kl := [], sk := [], mvs := [], fz := [] }
def f_s_l2Is_a (g0 : List Sc) (x1 : Int) : List AV := enc [.p .gr, .p (.int .i64)] [.l g0, .i x1]
def f_s_l2Is_i (g0 : List Sc) (x1 : Int) : List AV := enc [] []
def f_s_l2Is_en (r : Bool) : List AV × List AV := (enc [.p .boo] [.b r], enc [] [])
def f_s_l2Is_M : Calling := addC 108 f_s_OrderOf_c (noC)
theorem f_s_l2Is_Mt : CallOk Try.prog (f_s_l2Is_M) := addC_true f_s_OrderOf_cc (noC_true)
theorem f_s_l2Is_o : loopsOnce Try.f88 = true := by kernel_rfl
theorem f_s_l2Is_p {R : Type} (g0 : List Sc) (x1 : Int) (kR : Bool → Option R) : f_s_l2Is_k g0 x1 kR = (f_s_l2Is_k g0 x1 some).bind kR := by
  simp only [f_s_l2Is_k, brB, boB, someB]
theorem f_s_l2Is_e (g0 : List Sc) (x1 : Int) : runFn E0 f_s_l2Is_M H0 f_s_l2Is_F (asL (noL)) Try.f88 (f_s_l2Is_a g0 x1) (f_s_l2Is_i g0 x1) = f_s_l2Is_k g0 x1 (fun r => some (f_s_l2Is_en r)) := by kernel_rfl
theorem f_s_l2Is_ok (g0 : List Sc) (x1 : Int) (r : Bool) (h : f_s_l2Is g0 x1 = some r) : CS Try.prog 88 (f_s_l2Is_a g0 x1) (f_s_l2Is_i g0 x1) (f_s_l2Is_en r).1 (f_s_l2Is_en r).2 :=
  fn_true (Gk := fun k => f_s_l2Is_k g0 x1 k) (en := f_s_l2Is_en) Try.func88 E0ok f_s_l2Is_Mt (noL_true) f_s_l2Is_o (f_s_l2Is_e g0 x1) (f_s_l2Is_p g0 x1) h
def f_s_l2Is_c : CRow := fun args inh => match dec2 [.p .gr, .p (.int .i64)] [] args inh with
  | some ([.l g0, .i x1], []) => some ((f_s_l2Is g0 x1).isSome, (f_s_l2Is_en ((f_s_l2Is g0 x1).getD false)).1, (f_s_l2Is_en ((f_s_l2Is g0 x1).getD false)).2)
  | _ => none
theorem f_s_l2Is_cc : CTrue Try.prog 88 f_s_l2Is_c := by
  intro args inh rs out h
  unfold f_s_l2Is_c at h
  split at h
  · rename_i hd
    obtain ⟨h1, h2⟩ := dec2_enc hd
    rw [← h1, ← h2]
    exact rowC (f_s_l2Is_ok _ _) h
  · cases h

def f_s_IsSequence_F : Fi := { nv := 0, nc := 0, m := 0, vt := [], kl := [(0, ([0, 3, 4, 6, 7, 8, 9, 10, 11, 12, 13, 14, 15, 16, 17, 18, 19, 20, 21, 22, 23, 24, 25, 26, 27, 28, 29, 30, 31, 32, 33, 34, 35, 36, 37, 38, 39, 40, 41], [0, 3, 4, 5, 6, 7, 8, 9, 10, 11, 12, 13, 14, 15, 16, 17, 18, 19, 20, 21, 22, 23, 24, 25, 26, 27, 28, 29, 30, 31, 32, 33, 34, 35, 36, 37, 38, 39, 40, 41], [0, 1, 2, 3, 5, 6, 7, 8, 9, 10, 11, 12, 13, 14, 15, 16, 17, 18, 19, 20, 21, 22, 23, 24, 25, 26, 27, 28, 29, 30, 31, 32, 33, 34, 35, 36, 37, 38, 39, 40, 41]))], sk := [], mvs := [], fz := [] }
def f_s_IsSequence_a (g0 : List Sc) (l1 : List Sc) : List AV := enc [.p .gr, .p .sl] [.l g0, .l l1]
def f_s_IsSequence_i (g0 : List Sc) (l1 : List Sc) : List AV := enc [] []
def f_s_IsSequence_en (r : Bool) : List AV × List AV := (enc [.p .boo] [.b r], enc [] [])
def f_s_IsSequence_M : Calling := addC 88 f_s_l2Is_c (addC 89 f_s_IsGroup_c (noC))
theorem f_s_IsSequence_Mt : CallOk Try.prog (f_s_IsSequence_M) := addC_true f_s_l2Is_cc (addC_true f_s_IsGroup_cc (noC_true))
theorem f_s_IsSequence_o : loopsOnce Try.f45 = true := by kernel_rfl
def f_s_IsSequence_h0 : List Sh := [.u, .p .sl, .p .el, .u, .u, .p (.int .i64), .u, .u, .u, .u, .u, .u, .u, .u, .u, .u, .u, .u, .u, .u, .u, .u, .u, .u, .u, .u, .u, .u, .u, .u, .u, .u, .u, .u, .u, .u, .u, .u, .u, .u, .u, .u]
def f_s_IsSequence_fr0 (l1 : List Sc) (g2 : List Sc) (s : Int) : List AV := enc f_s_IsSequence_h0 [.l l1, .l g2, .i s]
def f_s_IsSequence_g0_1 : List Sh := [.u, .p .sl, .p .el, .u, .u, .u, .u, .u, .u, .u, .u, .u, .u, .u, .u, .u, .u, .u, .u, .u, .u, .u, .u, .u, .u, .u, .u, .u, .u, .u, .u, .u, .u, .u, .u, .u, .u, .u, .u, .u, .u, .u]
def f_s_IsSequence_x0_1 (l1 : List Sc) (g2 : List Sc) (e : Unit) : X × List AV := (.out 0, enc f_s_IsSequence_g0_1 [.l l1, .l g2])
def f_s_IsSequence_g0_2 : List Sh := [.u, .u, .u, .u, .p .boo, .u, .u, .u, .u, .u, .u, .u, .u, .u, .u, .u, .u, .u, .u, .u, .u, .u, .u, .u, .u, .u, .u, .u, .u, .u, .u, .u, .u, .u, .u, .u, .u, .u, .u, .u, .u, .u]
def f_s_IsSequence_x0_2 (l1 : List Sc) (g2 : List Sc) (e : Unit) : X × List AV := (.ret, enc f_s_IsSequence_g0_2 [.b false])
theorem f_s_IsSequence_p0 {R : Type} (l1 : List Sc) (g2 : List Sc) (s : Int) (kN : Int → Option R) (kA : Unit → Option R) (kB : Unit → Option R) : f_s_IsSequence_k0 l1 g2 s kN kA kB = (f_s_IsSequence_r0 l1 g2 s).bind (Ro.el kN kA kB) := by
  simp only [f_s_IsSequence_k0, f_s_IsSequence_r0, brB, boB, someB, noneB, Ro.el]
theorem f_s_IsSequence_e0 (l1 : List Sc) (g2 : List Sc) (s : Int) : EC E0 f_s_IsSequence_M H0 f_s_IsSequence_F (asL (noL)) 0 (bodyOf Try.f45 0) (f_s_IsSequence_fr0 l1 g2 s) (done (klOf f_s_IsSequence_F 0)) = f_s_IsSequence_k0 l1 g2 s (fun s => some (.norm, f_s_IsSequence_fr0 l1 g2 s)) (fun e => some (f_s_IsSequence_x0_1 l1 g2 e)) (fun e => some (f_s_IsSequence_x0_2 l1 g2 e)) := by kernel_rfl
theorem f_s_IsSequence_l0 (l1 : List Sc) (g2 : List Sc) : ∀ s r, loopL (f_s_IsSequence_r0 l1 g2) s = some r → LS Try.prog f_s_IsSequence_F (bodyOf Try.f45 0) (f_s_IsSequence_fr0 l1 g2 s) (enX (f_s_IsSequence_x0_1 l1 g2) (f_s_IsSequence_x0_2 l1 g2) r) :=
  loop_true E0ok f_s_IsSequence_Mt (noL_true) f_s_IsSequence_o (fun _ h => by cases h) (fun _ h => by cases h) (fun s => (f_s_IsSequence_e0 l1 g2 s).trans (f_s_IsSequence_p0 l1 g2 s _ _ (fun e => some (f_s_IsSequence_x0_2 l1 g2 e))))
def f_s_IsSequence_t0 (σ : List AV) : Option (Bool × Bool × (X × List AV) × (X × List AV)) := match dec f_s_IsSequence_h0 σ with
  | some [.l l1, .l g2, .i i5] => some ((loopL (f_s_IsSequence_r0 l1 g2) i5).isSome, isOne (loopL (f_s_IsSequence_r0 l1 g2) i5), f_s_IsSequence_x0_1 l1 g2 (getOne () (loopL (f_s_IsSequence_r0 l1 g2) i5)), f_s_IsSequence_x0_2 l1 g2 (getTwo () (loopL (f_s_IsSequence_r0 l1 g2) i5)))
  | _ => none
theorem f_s_IsSequence_tt0 : TTrue Try.prog f_s_IsSequence_F Try.f45 0 (f_s_IsSequence_t0) := by
  intro σ p r r' h
  unfold f_s_IsSequence_t0 at h
  split at h
  · rename_i hd
    rw [← dec_enc hd]
    exact row2 (f_s_IsSequence_l0 _ _ _) h
  · cases h
theorem f_s_IsSequence_p {R : Type} (g0 : List Sc) (l1 : List Sc) (kR : Bool → Option R) : f_s_IsSequence_k g0 l1 kR = (f_s_IsSequence_k g0 l1 some).bind kR := by
  simp only [f_s_IsSequence_k, brB, boB, blB, someB]
theorem f_s_IsSequence_e (g0 : List Sc) (l1 : List Sc) : runFn E0 f_s_IsSequence_M H0 f_s_IsSequence_F (asL (addL 0 (f_s_IsSequence_t0) (noL))) Try.f45 (f_s_IsSequence_a g0 l1) (f_s_IsSequence_i g0 l1) = f_s_IsSequence_k g0 l1 (fun r => some (f_s_IsSequence_en r)) := by kernel_rfl
theorem f_s_IsSequence_ok (g0 : List Sc) (l1 : List Sc) (r : Bool) (h : f_s_IsSequence g0 l1 = some r) : CS Try.prog 45 (f_s_IsSequence_a g0 l1) (f_s_IsSequence_i g0 l1) (f_s_IsSequence_en r).1 (f_s_IsSequence_en r).2 :=
  fn_true (Gk := fun k => f_s_IsSequence_k g0 l1 k) (en := f_s_IsSequence_en) Try.func45 E0ok f_s_IsSequence_Mt (addL_true (f_s_IsSequence_tt0) (noL_true)) f_s_IsSequence_o (f_s_IsSequence_e g0 l1) (f_s_IsSequence_p g0 l1) h
def f_s_IsSequence_c : CRow := fun args inh => match dec2 [.p .gr, .p .sl] [] args inh with
  | some ([.l g0, .l l1], []) => some ((f_s_IsSequence g0 l1).isSome, (f_s_IsSequence_en ((f_s_IsSequence g0 l1).getD false)).1, (f_s_IsSequence_en ((f_s_IsSequence g0 l1).getD false)).2)
  | _ => none
theorem f_s_IsSequence_cc : CTrue Try.prog 45 f_s_IsSequence_c := by
  intro args inh rs out h
  unfold f_s_IsSequence_c at h
  split at h
  · rename_i hd
    obtain ⟨h1, h2⟩ := dec2_enc hd
    rw [← h1, ← h2]
    exact rowC (f_s_IsSequence_ok _ _) h
  · cases h

def f_s_FormatInt_F : Fi := { nv := 0, nc := 0, m := 0, vt := [], kl := [(0, ([1, 2, 5, 6, 7, 8, 9, 10, 11, 12, 13, 14, 15, 16, 17, 18, 19, 20, 21, 22, 23, 24, 25, 26, 27, 28, 29, 30], [0, 1, 2, 5, 6, 7, 8, 9, 10, 11, 12, 13, 14, 15, 16, 17, 18, 19, 20, 21, 22, 23, 24, 25, 26, 27, 28, 29, 30], [0, 1, 3, 4, 5, 6, 7, 8, 9, 10, 11, 12, 13, 14, 15, 16, 17, 18, 19, 20, 21, 22, 23, 24, 25, 26, 27, 28, 29, 30]))], sk := [], mvs := [], fz := [] }
def f_s_FormatInt_a (n0 : Int) : List AV := enc [.p (.int .i64)] [.i n0]
def f_s_FormatInt_i (n0 : Int) : List AV := enc [] []
def f_s_FormatInt_en (r : ByteArray) : List AV × List AV := (enc [.p .str] [.s r], enc [] [])
def f_s_FormatInt_M : Calling := noC
theorem f_s_FormatInt_Mt : CallOk Try.prog (f_s_FormatInt_M) := noC_true
theorem f_s_FormatInt_o : loopsOnce Try.f46 = true := by kernel_rfl
def f_s_FormatInt_h0 : List Sh := [.p (.int .i64), .u, .u, .p .str, .p .boo, .u, .u, .u, .u, .u, .u, .u, .u, .u, .u, .u, .u, .u, .u, .u, .u, .u, .u, .u, .u, .u, .u, .u, .u, .u, .u]
def f_s_FormatInt_fr0 (neg4 : Bool) (s : Int × ByteArray) : List AV := enc f_s_FormatInt_h0 [.i s.1, .s s.2, .b neg4]
def f_s_FormatInt_g0_1 : List Sh := [.u, .u, .u, .p .str, .p .boo, .u, .u, .u, .u, .u, .u, .u, .u, .u, .u, .u, .u, .u, .u, .u, .u, .u, .u, .u, .u, .u, .u, .u, .u, .u, .u]
def f_s_FormatInt_x0_1 (neg4 : Bool) (e : ByteArray) : X × List AV := (.out 0, enc f_s_FormatInt_g0_1 [.s e, .b neg4])
def f_s_FormatInt_x0_2 (neg4 : Bool) (_e : Unit) : X × List AV := (.ret, [])
theorem f_s_FormatInt_p0 {R : Type} (neg4 : Bool) (s : Int × ByteArray) (kN : Int × ByteArray → Option R) (kA : ByteArray → Option R) (kB : Unit → Option R) : f_s_FormatInt_k0 neg4 s.1 s.2 kN kA = (f_s_FormatInt_r0 neg4 s).bind (Ro.el kN kA kB) := by
  simp only [f_s_FormatInt_k0, f_s_FormatInt_r0, brB, someB, noneB, Ro.el]
theorem f_s_FormatInt_e0 (neg4 : Bool) (s : Int × ByteArray) : EC E0 f_s_FormatInt_M H0 f_s_FormatInt_F (asL (noL)) 0 (bodyOf Try.f46 0) (f_s_FormatInt_fr0 neg4 s) (done (klOf f_s_FormatInt_F 0)) = f_s_FormatInt_k0 neg4 s.1 s.2 (fun s => some (.norm, f_s_FormatInt_fr0 neg4 s)) (fun e => some (f_s_FormatInt_x0_1 neg4 e)) := by kernel_rfl
theorem f_s_FormatInt_l0 (neg4 : Bool) : ∀ s r, loopL (f_s_FormatInt_r0 neg4) s = some r → LS Try.prog f_s_FormatInt_F (bodyOf Try.f46 0) (f_s_FormatInt_fr0 neg4 s) (enX (f_s_FormatInt_x0_1 neg4) (f_s_FormatInt_x0_2 neg4) r) :=
  loop_true E0ok f_s_FormatInt_Mt (noL_true) f_s_FormatInt_o (fun _ h => by cases h) (fun _ h => by cases h) (fun s => (f_s_FormatInt_e0 neg4 s).trans (f_s_FormatInt_p0 neg4 s _ _ (fun e => some (f_s_FormatInt_x0_2 neg4 e))))
def f_s_FormatInt_t0 (σ : List AV) : Option (Bool × Bool × (X × List AV) × (X × List AV)) := match dec f_s_FormatInt_h0 σ with
  | some [.i n0, .s out3, .b neg4] => some (isOne (loopL (f_s_FormatInt_r0 neg4) (n0, out3)), true, f_s_FormatInt_x0_1 neg4 (getOne ByteArray.empty (loopL (f_s_FormatInt_r0 neg4) (n0, out3))), (.ret, []))
  | _ => none
theorem f_s_FormatInt_tt0 : TTrue Try.prog f_s_FormatInt_F Try.f46 0 (f_s_FormatInt_t0) := by
  intro σ p r r' h
  unfold f_s_FormatInt_t0 at h
  split at h
  · rename_i hd
    rw [← dec_enc hd]
    exact row1 (f_s_FormatInt_l0 _ _) h
  · cases h
theorem f_s_FormatInt_p {R : Type} (n0 : Int) (kR : ByteArray → Option R) : f_s_FormatInt_k n0 kR = (f_s_FormatInt_k n0 some).bind kR := by
  simp only [f_s_FormatInt_k, brB, bl1B, someB, noneB]
theorem f_s_FormatInt_e (n0 : Int) : runFn E0 f_s_FormatInt_M H0 f_s_FormatInt_F (asL (addL 0 (f_s_FormatInt_t0) (noL))) Try.f46 (f_s_FormatInt_a n0) (f_s_FormatInt_i n0) = f_s_FormatInt_k n0 (fun r => some (f_s_FormatInt_en r)) := by kernel_rfl
theorem f_s_FormatInt_ok (n0 : Int) (r : ByteArray) (h : f_s_FormatInt n0 = some r) : CS Try.prog 46 (f_s_FormatInt_a n0) (f_s_FormatInt_i n0) (f_s_FormatInt_en r).1 (f_s_FormatInt_en r).2 :=
  fn_true (Gk := fun k => f_s_FormatInt_k n0 k) (en := f_s_FormatInt_en) Try.func46 E0ok f_s_FormatInt_Mt (addL_true (f_s_FormatInt_tt0) (noL_true)) f_s_FormatInt_o (f_s_FormatInt_e n0) (f_s_FormatInt_p n0) h
def f_s_FormatInt_c : CRow := fun args inh => match dec2 [.p (.int .i64)] [] args inh with
  | some ([.i n0], []) => some ((f_s_FormatInt n0).isSome, (f_s_FormatInt_en ((f_s_FormatInt n0).getD ByteArray.empty)).1, (f_s_FormatInt_en ((f_s_FormatInt n0).getD ByteArray.empty)).2)
  | _ => none
theorem f_s_FormatInt_cc : CTrue Try.prog 46 f_s_FormatInt_c := by
  intro args inh rs out h
  unfold f_s_FormatInt_c at h
  split at h
  · rename_i hd
    obtain ⟨h1, h2⟩ := dec2_enc hd
    rw [← h1, ← h2]
    exact rowC (f_s_FormatInt_ok _) h
  · cases h

def f_s_MultiplicityIn_F : Fi := { nv := 0, nc := 0, m := 0, vt := [], kl := [(0, ([2, 3, 4, 7, 8, 9, 10, 11, 12, 13, 14, 15, 16, 17, 18, 19, 20, 21], [0, 1, 2, 3, 4, 6, 7, 8, 9, 10, 11, 12, 13, 14, 15, 16, 17, 18, 19, 20, 21], [0, 1, 2, 3, 5, 6, 7, 8, 9, 10, 11, 12, 13, 14, 15, 16, 17, 18, 19, 20, 21]))], sk := [], mvs := [], fz := [] }
def f_s_MultiplicityIn_a (l0 : List Sc) (x1 : Int) : List AV := enc [.p .sl, .p (.int .i64)] [.l l0, .i x1]
def f_s_MultiplicityIn_i (l0 : List Sc) (x1 : Int) : List AV := enc [] []
def f_s_MultiplicityIn_en (r : Int) : List AV × List AV := (enc [.p (.int .i64)] [.i r], enc [] [])
def f_s_MultiplicityIn_M : Calling := noC
theorem f_s_MultiplicityIn_Mt : CallOk Try.prog (f_s_MultiplicityIn_M) := noC_true
theorem f_s_MultiplicityIn_o : loopsOnce Try.f47 = true := by kernel_rfl
def f_s_MultiplicityIn_h0 : List Sh := [.p .sl, .p (.int .i64), .u, .u, .u, .p (.int .i64), .p (.int .i64), .u, .u, .u, .u, .u, .u, .u, .u, .u, .u, .u, .u, .u, .u, .u]
def f_s_MultiplicityIn_fr0 (l0 : List Sc) (x1 : Int) (s : Int × Int) : List AV := enc f_s_MultiplicityIn_h0 [.l l0, .i x1, .i s.1, .i s.2]
def f_s_MultiplicityIn_g0_1 : List Sh := [.u, .u, .u, .u, .u, .p (.int .i64), .u, .u, .u, .u, .u, .u, .u, .u, .u, .u, .u, .u, .u, .u, .u, .u]
def f_s_MultiplicityIn_x0_1 (l0 : List Sc) (x1 : Int) (e : Int) : X × List AV := (.out 0, enc f_s_MultiplicityIn_g0_1 [.i e])
def f_s_MultiplicityIn_x0_2 (l0 : List Sc) (x1 : Int) (_e : Unit) : X × List AV := (.ret, [])
theorem f_s_MultiplicityIn_p0 {R : Type} (l0 : List Sc) (x1 : Int) (s : Int × Int) (kN : Int × Int → Option R) (kA : Int → Option R) (kB : Unit → Option R) : f_s_MultiplicityIn_k0 l0 x1 s.1 s.2 kN kA = (f_s_MultiplicityIn_r0 l0 x1 s).bind (Ro.el kN kA kB) := by
  simp only [f_s_MultiplicityIn_k0, f_s_MultiplicityIn_r0, brB, someB, noneB, Ro.el]
theorem f_s_MultiplicityIn_e0 (l0 : List Sc) (x1 : Int) (s : Int × Int) : EC E0 f_s_MultiplicityIn_M H0 f_s_MultiplicityIn_F (asL (noL)) 0 (bodyOf Try.f47 0) (f_s_MultiplicityIn_fr0 l0 x1 s) (done (klOf f_s_MultiplicityIn_F 0)) = f_s_MultiplicityIn_k0 l0 x1 s.1 s.2 (fun s => some (.norm, f_s_MultiplicityIn_fr0 l0 x1 s)) (fun e => some (f_s_MultiplicityIn_x0_1 l0 x1 e)) := by kernel_rfl
theorem f_s_MultiplicityIn_l0 (l0 : List Sc) (x1 : Int) : ∀ s r, loopL (f_s_MultiplicityIn_r0 l0 x1) s = some r → LS Try.prog f_s_MultiplicityIn_F (bodyOf Try.f47 0) (f_s_MultiplicityIn_fr0 l0 x1 s) (enX (f_s_MultiplicityIn_x0_1 l0 x1) (f_s_MultiplicityIn_x0_2 l0 x1) r) :=
  loop_true E0ok f_s_MultiplicityIn_Mt (noL_true) f_s_MultiplicityIn_o (fun _ h => by cases h) (fun _ h => by cases h) (fun s => (f_s_MultiplicityIn_e0 l0 x1 s).trans (f_s_MultiplicityIn_p0 l0 x1 s _ _ (fun e => some (f_s_MultiplicityIn_x0_2 l0 x1 e))))
def f_s_MultiplicityIn_t0 (σ : List AV) : Option (Bool × Bool × (X × List AV) × (X × List AV)) := match dec f_s_MultiplicityIn_h0 σ with
  | some [.l l0, .i x1, .i n5, .i i6] => some (isOne (loopL (f_s_MultiplicityIn_r0 l0 x1) (n5, i6)), true, f_s_MultiplicityIn_x0_1 l0 x1 (getOne 0 (loopL (f_s_MultiplicityIn_r0 l0 x1) (n5, i6))), (.ret, []))
  | _ => none
theorem f_s_MultiplicityIn_tt0 : TTrue Try.prog f_s_MultiplicityIn_F Try.f47 0 (f_s_MultiplicityIn_t0) := by
  intro σ p r r' h
  unfold f_s_MultiplicityIn_t0 at h
  split at h
  · rename_i hd
    rw [← dec_enc hd]
    exact row1 (f_s_MultiplicityIn_l0 _ _ _) h
  · cases h
theorem f_s_MultiplicityIn_p {R : Type} (l0 : List Sc) (x1 : Int) (kR : Int → Option R) : f_s_MultiplicityIn_k l0 x1 kR = (f_s_MultiplicityIn_k l0 x1 some).bind kR := by
  simp only [f_s_MultiplicityIn_k, bl1B, someB]
theorem f_s_MultiplicityIn_e (l0 : List Sc) (x1 : Int) : runFn E0 f_s_MultiplicityIn_M H0 f_s_MultiplicityIn_F (asL (addL 0 (f_s_MultiplicityIn_t0) (noL))) Try.f47 (f_s_MultiplicityIn_a l0 x1) (f_s_MultiplicityIn_i l0 x1) = f_s_MultiplicityIn_k l0 x1 (fun r => some (f_s_MultiplicityIn_en r)) := by kernel_rfl
theorem f_s_MultiplicityIn_ok (l0 : List Sc) (x1 : Int) (r : Int) (h : f_s_MultiplicityIn l0 x1 = some r) : CS Try.prog 47 (f_s_MultiplicityIn_a l0 x1) (f_s_MultiplicityIn_i l0 x1) (f_s_MultiplicityIn_en r).1 (f_s_MultiplicityIn_en r).2 :=
  fn_true (Gk := fun k => f_s_MultiplicityIn_k l0 x1 k) (en := f_s_MultiplicityIn_en) Try.func47 E0ok f_s_MultiplicityIn_Mt (addL_true (f_s_MultiplicityIn_tt0) (noL_true)) f_s_MultiplicityIn_o (f_s_MultiplicityIn_e l0 x1) (f_s_MultiplicityIn_p l0 x1) h
def f_s_MultiplicityIn_c : CRow := fun args inh => match dec2 [.p .sl, .p (.int .i64)] [] args inh with
  | some ([.l l0, .i x1], []) => some ((f_s_MultiplicityIn l0 x1).isSome, (f_s_MultiplicityIn_en ((f_s_MultiplicityIn l0 x1).getD 0)).1, (f_s_MultiplicityIn_en ((f_s_MultiplicityIn l0 x1).getD 0)).2)
  | _ => none
theorem f_s_MultiplicityIn_cc : CTrue Try.prog 47 f_s_MultiplicityIn_c := by
  intro args inh rs out h
  unfold f_s_MultiplicityIn_c at h
  split at h
  · rename_i hd
    obtain ⟨h1, h2⟩ := dec2_enc hd
    rw [← h1, ← h2]
    exact rowC (f_s_MultiplicityIn_ok _ _) h
  · cases h

def f_s_FormatSequence_F : Fi := { nv := 0, nc := 0, m := 0, vt := [], kl := [(0, ([0, 3, 4, 7, 8, 9, 10, 11, 12, 13, 14, 15, 16, 17, 18, 19, 20, 21, 22, 23, 24, 25, 26, 27, 28, 29, 30, 31, 32, 33, 34, 35, 36, 37, 38, 39, 40, 41, 42, 43, 44, 45, 46, 47, 48, 49, 50, 51, 52, 53, 54, 55, 56, 57, 58, 59, 60, 61, 62, 63, 64], [0, 3, 4, 7, 8, 9, 10, 11, 12, 13, 14, 15, 16, 17, 18, 19, 20, 21, 22, 23, 24, 25, 26, 27, 28, 29, 30, 31, 32, 33, 34, 35, 36, 37, 38, 39, 40, 41, 42, 43, 44, 45, 46, 47, 48, 49, 50, 51, 52, 53, 54, 55, 56, 57, 58, 59, 60, 61, 62, 63, 64], [0, 1, 2, 3, 5, 6, 7, 8, 9, 10, 11, 12, 13, 14, 15, 16, 17, 18, 19, 20, 21, 22, 23, 24, 25, 26, 27, 28, 29, 30, 31, 32, 33, 34, 35, 36, 37, 38, 39, 40, 41, 42, 43, 44, 45, 46, 47, 48, 49, 50, 51, 52, 53, 54, 55, 56, 57, 58, 59, 60, 61, 62, 63, 64]))], sk := [], mvs := [], fz := [] }
def f_s_FormatSequence_a (L0 : List Sc) (p1 : List Sc) : List AV := enc [.p .gr, .p .sl] [.l L0, .l p1]
def f_s_FormatSequence_i (L0 : List Sc) (p1 : List Sc) : List AV := enc [] []
def f_s_FormatSequence_en (r : ByteArray) : List AV × List AV := (enc [.p .str] [.s r], enc [] [])
def f_s_FormatSequence_M : Calling := addC 45 f_s_IsSequence_c (addC 46 f_s_FormatInt_c (addC 47 f_s_MultiplicityIn_c (noC)))
theorem f_s_FormatSequence_Mt : CallOk Try.prog (f_s_FormatSequence_M) := addC_true f_s_IsSequence_cc (addC_true f_s_FormatInt_cc (addC_true f_s_MultiplicityIn_cc (noC_true)))
theorem f_s_FormatSequence_o : loopsOnce Try.f15 = true := by kernel_rfl
def f_s_FormatSequence_h0 : List Sh := [.u, .p .sl, .p .el, .u, .u, .p .str, .p (.int .i64), .u, .u, .u, .u, .u, .u, .u, .u, .u, .u, .u, .u, .u, .u, .u, .u, .u, .u, .u, .u, .u, .u, .u, .u, .u, .u, .u, .u, .u, .u, .u, .u, .u, .u, .u, .u, .u, .u, .u, .u, .u, .u, .u, .u, .u, .u, .u, .u, .u, .u, .u, .u, .u, .u, .u, .u, .u, .u]
def f_s_FormatSequence_fr0 (t1 : List Sc) (t2 : List Sc) (s : ByteArray × Int) : List AV := enc f_s_FormatSequence_h0 [.l t1, .l t2, .s s.1, .i s.2]
def f_s_FormatSequence_g0_1 : List Sh := [.u, .p .sl, .p .el, .u, .u, .p .str, .p (.int .i64), .u, .u, .u, .u, .u, .u, .u, .u, .u, .u, .u, .u, .u, .u, .u, .u, .u, .u, .u, .u, .u, .u, .u, .u, .u, .u, .u, .u, .u, .u, .u, .u, .u, .u, .u, .u, .u, .u, .u, .u, .u, .u, .u, .u, .u, .u, .u, .u, .u, .u, .u, .u, .u, .u, .u, .u, .u, .u]
def f_s_FormatSequence_x0_1 (t1 : List Sc) (t2 : List Sc) (e : ByteArray × Int) : X × List AV := (.out 0, enc f_s_FormatSequence_g0_1 [.l t1, .l t2, .s e.1, .i e.2])
def f_s_FormatSequence_x0_2 (t1 : List Sc) (t2 : List Sc) (_e : Unit) : X × List AV := (.ret, [])
theorem f_s_FormatSequence_p0 {R : Type} (t1 : List Sc) (t2 : List Sc) (s : ByteArray × Int) (kN : ByteArray × Int → Option R) (kA : ByteArray × Int → Option R) (kB : Unit → Option R) : f_s_FormatSequence_k0 t1 t2 s.1 s.2 kN kA = (f_s_FormatSequence_r0 t1 t2 s).bind (Ro.el kN kA kB) := by
  simp only [f_s_FormatSequence_k0, f_s_FormatSequence_r0, brB, boB, someB, noneB, Ro.el]
theorem f_s_FormatSequence_e0 (t1 : List Sc) (t2 : List Sc) (s : ByteArray × Int) : EC E0 f_s_FormatSequence_M H0 f_s_FormatSequence_F (asL (noL)) 0 (bodyOf Try.f15 0) (f_s_FormatSequence_fr0 t1 t2 s) (done (klOf f_s_FormatSequence_F 0)) = f_s_FormatSequence_k0 t1 t2 s.1 s.2 (fun s => some (.norm, f_s_FormatSequence_fr0 t1 t2 s)) (fun e => some (f_s_FormatSequence_x0_1 t1 t2 e)) := by kernel_rfl
theorem f_s_FormatSequence_l0 (t1 : List Sc) (t2 : List Sc) : ∀ s r, loopL (f_s_FormatSequence_r0 t1 t2) s = some r → LS Try.prog f_s_FormatSequence_F (bodyOf Try.f15 0) (f_s_FormatSequence_fr0 t1 t2 s) (enX (f_s_FormatSequence_x0_1 t1 t2) (f_s_FormatSequence_x0_2 t1 t2) r) :=
  loop_true E0ok f_s_FormatSequence_Mt (noL_true) f_s_FormatSequence_o (fun _ h => by cases h) (fun _ h => by cases h) (fun s => (f_s_FormatSequence_e0 t1 t2 s).trans (f_s_FormatSequence_p0 t1 t2 s _ _ (fun e => some (f_s_FormatSequence_x0_2 t1 t2 e))))
def f_s_FormatSequence_t0 (σ : List AV) : Option (Bool × Bool × (X × List AV) × (X × List AV)) := match dec f_s_FormatSequence_h0 σ with
  | some [.l t1, .l t2, .s t5, .i t6] => some (isOne (loopL (f_s_FormatSequence_r0 t1 t2) (t5, t6)), true, f_s_FormatSequence_x0_1 t1 t2 (getOne (ByteArray.empty, 0) (loopL (f_s_FormatSequence_r0 t1 t2) (t5, t6))), (.ret, []))
  | _ => none
theorem f_s_FormatSequence_tt0 : TTrue Try.prog f_s_FormatSequence_F Try.f15 0 (f_s_FormatSequence_t0) := by
  intro σ p r r' h
  unfold f_s_FormatSequence_t0 at h
  split at h
  · rename_i hd
    rw [← dec_enc hd]
    exact row1 (f_s_FormatSequence_l0 _ _ _) h
  · cases h
theorem f_s_FormatSequence_p {R : Type} (L0 : List Sc) (p1 : List Sc) (kR : ByteArray → Option R) : f_s_FormatSequence_k L0 p1 kR = (f_s_FormatSequence_k L0 p1 some).bind kR := by
  simp only [f_s_FormatSequence_k, brB, boB, bl1B, someB]
theorem f_s_FormatSequence_e (L0 : List Sc) (p1 : List Sc) : runFn E0 f_s_FormatSequence_M H0 f_s_FormatSequence_F (asL (addL 0 (f_s_FormatSequence_t0) (noL))) Try.f15 (f_s_FormatSequence_a L0 p1) (f_s_FormatSequence_i L0 p1) = f_s_FormatSequence_k L0 p1 (fun r => some (f_s_FormatSequence_en r)) := by kernel_rfl
theorem f_s_FormatSequence_ok (L0 : List Sc) (p1 : List Sc) (r : ByteArray) (h : f_s_FormatSequence L0 p1 = some r) : CS Try.prog 15 (f_s_FormatSequence_a L0 p1) (f_s_FormatSequence_i L0 p1) (f_s_FormatSequence_en r).1 (f_s_FormatSequence_en r).2 :=
  fn_true (Gk := fun k => f_s_FormatSequence_k L0 p1 k) (en := f_s_FormatSequence_en) Try.func15 E0ok f_s_FormatSequence_Mt (addL_true (f_s_FormatSequence_tt0) (noL_true)) f_s_FormatSequence_o (f_s_FormatSequence_e L0 p1) (f_s_FormatSequence_p L0 p1) h
def f_s_FormatSequence_c : CRow := fun args inh => match dec2 [.p .gr, .p .sl] [] args inh with
  | some ([.l L0, .l p1], []) => some ((f_s_FormatSequence L0 p1).isSome, (f_s_FormatSequence_en ((f_s_FormatSequence L0 p1).getD ByteArray.empty)).1, (f_s_FormatSequence_en ((f_s_FormatSequence L0 p1).getD ByteArray.empty)).2)
  | _ => none
theorem f_s_FormatSequence_cc : CTrue Try.prog 15 f_s_FormatSequence_c := by
  intro args inh rs out h
  unfold f_s_FormatSequence_c at h
  split at h
  · rename_i hd
    obtain ⟨h1, h2⟩ := dec2_enc hd
    rw [← h1, ← h2]
    exact rowC (f_s_FormatSequence_ok _ _) h
  · cases h

def f_i_within_F : Fi := { nv := 0, nc := 0, m := 0, vt := [], kl := [], sk := [], mvs := [], fz := [] }
def f_i_within_a (x0 : Int) (lo1 : Int) (hi2 : Int) : List AV := enc [.p (.int .i64), .p (.int .i64), .p (.int .i64)] [.i x0, .i lo1, .i hi2]
def f_i_within_i (x0 : Int) (lo1 : Int) (hi2 : Int) : List AV := enc [] []
def f_i_within_en (r : Bool) : List AV × List AV := (enc [.p .boo] [.b r], enc [] [])
def f_i_within_M : Calling := noC
theorem f_i_within_Mt : CallOk Try.prog (f_i_within_M) := noC_true
theorem f_i_within_o : loopsOnce Try.f70 = true := by kernel_rfl
theorem f_i_within_p {R : Type} (x0 : Int) (lo1 : Int) (hi2 : Int) (kR : Bool → Option R) : f_i_within_k x0 lo1 hi2 kR = (f_i_within_k x0 lo1 hi2 some).bind kR := by
  simp only [f_i_within_k, brB, someB]
theorem f_i_within_e (x0 : Int) (lo1 : Int) (hi2 : Int) : runFn E0 f_i_within_M H0 f_i_within_F (asL (noL)) Try.f70 (f_i_within_a x0 lo1 hi2) (f_i_within_i x0 lo1 hi2) = f_i_within_k x0 lo1 hi2 (fun r => some (f_i_within_en r)) := by kernel_rfl
theorem f_i_within_ok (x0 : Int) (lo1 : Int) (hi2 : Int) (r : Bool) (h : f_i_within x0 lo1 hi2 = some r) : CS Try.prog 70 (f_i_within_a x0 lo1 hi2) (f_i_within_i x0 lo1 hi2) (f_i_within_en r).1 (f_i_within_en r).2 :=
  fn_true (Gk := fun k => f_i_within_k x0 lo1 hi2 k) (en := f_i_within_en) Try.func70 E0ok f_i_within_Mt (noL_true) f_i_within_o (f_i_within_e x0 lo1 hi2) (f_i_within_p x0 lo1 hi2) h
def f_i_within_c : CRow := fun args inh => match dec2 [.p (.int .i64), .p (.int .i64), .p (.int .i64)] [] args inh with
  | some ([.i x0, .i lo1, .i hi2], []) => some ((f_i_within x0 lo1 hi2).isSome, (f_i_within_en ((f_i_within x0 lo1 hi2).getD false)).1, (f_i_within_en ((f_i_within x0 lo1 hi2).getD false)).2)
  | _ => none
theorem f_i_within_cc : CTrue Try.prog 70 f_i_within_c := by
  intro args inh rs out h
  unfold f_i_within_c at h
  split at h
  · rename_i hd
    obtain ⟨h1, h2⟩ := dec2_enc hd
    rw [← h1, ← h2]
    exact rowC (f_i_within_ok _ _ _) h
  · cases h

def f_i_IsGroup_F : Fi := { nv := 0, nc := 0, m := 0, vt := [], kl := [(0, ([0, 1, 2, 4, 5, 6, 7, 8, 9, 10, 14, 15, 16, 17, 18, 19, 20, 21, 22, 23, 24, 25], [0, 1, 2, 4, 5, 6, 7, 8, 9, 10, 11, 12, 13, 14, 15, 16, 17, 18, 19, 20, 21, 22, 23, 24, 25], [0, 1, 3, 4, 5, 6, 7, 8, 9, 10, 11, 12, 13, 14, 15, 16, 17, 18, 19, 20, 21, 22, 23, 24, 25]))], sk := [], mvs := [], fz := [] }
def f_i_IsGroup_a (g0 : List Sc) : List AV := enc [.p .gr] [.l g0]
def f_i_IsGroup_i (g0 : List Sc) : List AV := enc [] []
def f_i_IsGroup_en (r : Bool) : List AV × List AV := (enc [.p .boo] [.b r], enc [] [])
def f_i_IsGroup_M : Calling := addC 70 f_i_within_c (noC)
theorem f_i_IsGroup_Mt : CallOk Try.prog (f_i_IsGroup_M) := addC_true f_i_within_cc (noC_true)
theorem f_i_IsGroup_o : loopsOnce Try.f91 = true := by kernel_rfl
def f_i_IsGroup_h0 : List Sh := [.u, .u, .u, .p (.int .i64), .u, .u, .u, .u, .u, .u, .u, .p .sl, .p (.int .i64), .p (.int .i64), .u, .u, .u, .u, .u, .u, .u, .u, .u, .u, .u, .u]
def f_i_IsGroup_fr0 (t11 : List Sc) (t12 : Int) (s : Int × Int) : List AV := enc f_i_IsGroup_h0 [.i s.1, .l t11, .i t12, .i s.2]
def f_i_IsGroup_g0_1 : List Sh := [.u, .u, .u, .p (.int .i64), .u, .u, .u, .u, .u, .u, .u, .u, .u, .u, .u, .u, .u, .u, .u, .u, .u, .u, .u, .u, .u, .u]
def f_i_IsGroup_x0_1 (t11 : List Sc) (t12 : Int) (e : Int) : X × List AV := (.out 0, enc f_i_IsGroup_g0_1 [.i e])
def f_i_IsGroup_g0_2 : List Sh := [.u, .u, .p .boo, .u, .u, .u, .u, .u, .u, .u, .u, .u, .u, .u, .u, .u, .u, .u, .u, .u, .u, .u, .u, .u, .u, .u]
def f_i_IsGroup_x0_2 (t11 : List Sc) (t12 : Int) (e : Unit) : X × List AV := (.ret, enc f_i_IsGroup_g0_2 [.b false])
theorem f_i_IsGroup_p0 {R : Type} (t11 : List Sc) (t12 : Int) (s : Int × Int) (kN : Int × Int → Option R) (kA : Int → Option R) (kB : Unit → Option R) : f_i_IsGroup_k0 t11 t12 s.1 s.2 kN kA kB = (f_i_IsGroup_r0 t11 t12 s).bind (Ro.el kN kA kB) := by
  simp only [f_i_IsGroup_k0, f_i_IsGroup_r0, brB, boB, someB, noneB, Ro.el]
theorem f_i_IsGroup_e0 (t11 : List Sc) (t12 : Int) (s : Int × Int) : EC E0 f_i_IsGroup_M H0 f_i_IsGroup_F (asL (noL)) 0 (bodyOf Try.f91 0) (f_i_IsGroup_fr0 t11 t12 s) (done (klOf f_i_IsGroup_F 0)) = f_i_IsGroup_k0 t11 t12 s.1 s.2 (fun s => some (.norm, f_i_IsGroup_fr0 t11 t12 s)) (fun e => some (f_i_IsGroup_x0_1 t11 t12 e)) (fun e => some (f_i_IsGroup_x0_2 t11 t12 e)) := by kernel_rfl
theorem f_i_IsGroup_l0 (t11 : List Sc) (t12 : Int) : ∀ s r, loopL (f_i_IsGroup_r0 t11 t12) s = some r → LS Try.prog f_i_IsGroup_F (bodyOf Try.f91 0) (f_i_IsGroup_fr0 t11 t12 s) (enX (f_i_IsGroup_x0_1 t11 t12) (f_i_IsGroup_x0_2 t11 t12) r) :=
  loop_true E0ok f_i_IsGroup_Mt (noL_true) f_i_IsGroup_o (fun _ h => by cases h) (fun _ h => by cases h) (fun s => (f_i_IsGroup_e0 t11 t12 s).trans (f_i_IsGroup_p0 t11 t12 s _ _ (fun e => some (f_i_IsGroup_x0_2 t11 t12 e))))
def f_i_IsGroup_t0 (σ : List AV) : Option (Bool × Bool × (X × List AV) × (X × List AV)) := match dec f_i_IsGroup_h0 σ with
  | some [.i n3, .l t11, .i t12, .i t13] => some ((loopL (f_i_IsGroup_r0 t11 t12) (n3, t13)).isSome, isOne (loopL (f_i_IsGroup_r0 t11 t12) (n3, t13)), f_i_IsGroup_x0_1 t11 t12 (getOne 0 (loopL (f_i_IsGroup_r0 t11 t12) (n3, t13))), f_i_IsGroup_x0_2 t11 t12 (getTwo () (loopL (f_i_IsGroup_r0 t11 t12) (n3, t13))))
  | _ => none
theorem f_i_IsGroup_tt0 : TTrue Try.prog f_i_IsGroup_F Try.f91 0 (f_i_IsGroup_t0) := by
  intro σ p r r' h
  unfold f_i_IsGroup_t0 at h
  split at h
  · rename_i hd
    rw [← dec_enc hd]
    exact row2 (f_i_IsGroup_l0 _ _ _) h
  · cases h
theorem f_i_IsGroup_p {R : Type} (g0 : List Sc) (kR : Bool → Option R) : f_i_IsGroup_k g0 kR = (f_i_IsGroup_k g0 some).bind kR := by
  simp only [f_i_IsGroup_k, brB, blB, someB]
theorem f_i_IsGroup_e (g0 : List Sc) : runFn E0 f_i_IsGroup_M H0 f_i_IsGroup_F (asL (addL 0 (f_i_IsGroup_t0) (noL))) Try.f91 (f_i_IsGroup_a g0) (f_i_IsGroup_i g0) = f_i_IsGroup_k g0 (fun r => some (f_i_IsGroup_en r)) := by kernel_rfl
theorem f_i_IsGroup_ok (g0 : List Sc) (r : Bool) (h : f_i_IsGroup g0 = some r) : CS Try.prog 91 (f_i_IsGroup_a g0) (f_i_IsGroup_i g0) (f_i_IsGroup_en r).1 (f_i_IsGroup_en r).2 :=
  fn_true (Gk := fun k => f_i_IsGroup_k g0 k) (en := f_i_IsGroup_en) Try.func91 E0ok f_i_IsGroup_Mt (addL_true (f_i_IsGroup_tt0) (noL_true)) f_i_IsGroup_o (f_i_IsGroup_e g0) (f_i_IsGroup_p g0) h
def f_i_IsGroup_c : CRow := fun args inh => match dec2 [.p .gr] [] args inh with
  | some ([.l g0], []) => some ((f_i_IsGroup g0).isSome, (f_i_IsGroup_en ((f_i_IsGroup g0).getD false)).1, (f_i_IsGroup_en ((f_i_IsGroup g0).getD false)).2)
  | _ => none
theorem f_i_IsGroup_cc : CTrue Try.prog 91 f_i_IsGroup_c := by
  intro args inh rs out h
  unfold f_i_IsGroup_c at h
  split at h
  · rename_i hd
    obtain ⟨h1, h2⟩ := dec2_enc hd
    rw [← h1, ← h2]
    exact rowC (f_i_IsGroup_ok _) h
  · cases h

def f_i_OrderOf_F : Fi := { nv := 0, nc := 0, m := 0, vt := [], kl := [(0, ([0, 1, 2, 4, 5, 6, 7, 8, 9, 13, 14, 15, 16, 17, 18, 19, 20], [0, 1, 2, 4, 5, 6, 7, 8, 9, 10, 11, 12, 13, 14, 15, 16, 17, 18, 19, 20], [0, 1, 3, 4, 5, 6, 7, 8, 9, 10, 11, 12, 13, 14, 15, 16, 17, 18, 19, 20]))], sk := [], mvs := [], fz := [] }
def f_i_OrderOf_a (g0 : List Sc) : List AV := enc [.p .gr] [.l g0]
def f_i_OrderOf_i (g0 : List Sc) : List AV := enc [] []
def f_i_OrderOf_en (r : Int) : List AV × List AV := (enc [.p (.int .i64)] [.i r], enc [] [])
def f_i_OrderOf_M : Calling := addC 91 f_i_IsGroup_c (noC)
theorem f_i_OrderOf_Mt : CallOk Try.prog (f_i_OrderOf_M) := addC_true f_i_IsGroup_cc (noC_true)
theorem f_i_OrderOf_o : loopsOnce Try.f55 = true := by kernel_rfl
def f_i_OrderOf_h0 : List Sh := [.u, .u, .u, .p (.int .i64), .u, .u, .u, .u, .u, .u, .p .sl, .p (.int .i64), .p (.int .i64), .u, .u, .u, .u, .u, .u, .u, .u]
def f_i_OrderOf_fr0 (t10 : List Sc) (t11 : Int) (s : Int × Int) : List AV := enc f_i_OrderOf_h0 [.i s.1, .l t10, .i t11, .i s.2]
def f_i_OrderOf_g0_1 : List Sh := [.u, .u, .u, .p (.int .i64), .u, .u, .u, .u, .u, .u, .u, .u, .u, .u, .u, .u, .u, .u, .u, .u, .u]
def f_i_OrderOf_x0_1 (t10 : List Sc) (t11 : Int) (e : Int) : X × List AV := (.out 0, enc f_i_OrderOf_g0_1 [.i e])
def f_i_OrderOf_x0_2 (t10 : List Sc) (t11 : Int) (_e : Unit) : X × List AV := (.ret, [])
theorem f_i_OrderOf_p0 {R : Type} (t10 : List Sc) (t11 : Int) (s : Int × Int) (kN : Int × Int → Option R) (kA : Int → Option R) (kB : Unit → Option R) : f_i_OrderOf_k0 t10 t11 s.1 s.2 kN kA = (f_i_OrderOf_r0 t10 t11 s).bind (Ro.el kN kA kB) := by
  simp only [f_i_OrderOf_k0, f_i_OrderOf_r0, brB, someB, noneB, Ro.el]
theorem f_i_OrderOf_e0 (t10 : List Sc) (t11 : Int) (s : Int × Int) : EC E0 f_i_OrderOf_M H0 f_i_OrderOf_F (asL (noL)) 0 (bodyOf Try.f55 0) (f_i_OrderOf_fr0 t10 t11 s) (done (klOf f_i_OrderOf_F 0)) = f_i_OrderOf_k0 t10 t11 s.1 s.2 (fun s => some (.norm, f_i_OrderOf_fr0 t10 t11 s)) (fun e => some (f_i_OrderOf_x0_1 t10 t11 e)) := by kernel_rfl
theorem f_i_OrderOf_l0 (t10 : List Sc) (t11 : Int) : ∀ s r, loopL (f_i_OrderOf_r0 t10 t11) s = some r → LS Try.prog f_i_OrderOf_F (bodyOf Try.f55 0) (f_i_OrderOf_fr0 t10 t11 s) (enX (f_i_OrderOf_x0_1 t10 t11) (f_i_OrderOf_x0_2 t10 t11) r) :=
  loop_true E0ok f_i_OrderOf_Mt (noL_true) f_i_OrderOf_o (fun _ h => by cases h) (fun _ h => by cases h) (fun s => (f_i_OrderOf_e0 t10 t11 s).trans (f_i_OrderOf_p0 t10 t11 s _ _ (fun e => some (f_i_OrderOf_x0_2 t10 t11 e))))
def f_i_OrderOf_t0 (σ : List AV) : Option (Bool × Bool × (X × List AV) × (X × List AV)) := match dec f_i_OrderOf_h0 σ with
  | some [.i n3, .l t10, .i t11, .i t12] => some (isOne (loopL (f_i_OrderOf_r0 t10 t11) (n3, t12)), true, f_i_OrderOf_x0_1 t10 t11 (getOne 0 (loopL (f_i_OrderOf_r0 t10 t11) (n3, t12))), (.ret, []))
  | _ => none
theorem f_i_OrderOf_tt0 : TTrue Try.prog f_i_OrderOf_F Try.f55 0 (f_i_OrderOf_t0) := by
  intro σ p r r' h
  unfold f_i_OrderOf_t0 at h
  split at h
  · rename_i hd
    rw [← dec_enc hd]
    exact row1 (f_i_OrderOf_l0 _ _ _) h
  · cases h
theorem f_i_OrderOf_p {R : Type} (g0 : List Sc) (kR : Int → Option R) : f_i_OrderOf_k g0 kR = (f_i_OrderOf_k g0 some).bind kR := by
  simp only [f_i_OrderOf_k, brB, boB, bl1B, someB]
theorem f_i_OrderOf_e (g0 : List Sc) : runFn E0 f_i_OrderOf_M H0 f_i_OrderOf_F (asL (addL 0 (f_i_OrderOf_t0) (noL))) Try.f55 (f_i_OrderOf_a g0) (f_i_OrderOf_i g0) = f_i_OrderOf_k g0 (fun r => some (f_i_OrderOf_en r)) := by kernel_rfl
theorem f_i_OrderOf_ok (g0 : List Sc) (r : Int) (h : f_i_OrderOf g0 = some r) : CS Try.prog 55 (f_i_OrderOf_a g0) (f_i_OrderOf_i g0) (f_i_OrderOf_en r).1 (f_i_OrderOf_en r).2 :=
  fn_true (Gk := fun k => f_i_OrderOf_k g0 k) (en := f_i_OrderOf_en) Try.func55 E0ok f_i_OrderOf_Mt (addL_true (f_i_OrderOf_tt0) (noL_true)) f_i_OrderOf_o (f_i_OrderOf_e g0) (f_i_OrderOf_p g0) h
def f_i_OrderOf_c : CRow := fun args inh => match dec2 [.p .gr] [] args inh with
  | some ([.l g0], []) => some ((f_i_OrderOf g0).isSome, (f_i_OrderOf_en ((f_i_OrderOf g0).getD 0)).1, (f_i_OrderOf_en ((f_i_OrderOf g0).getD 0)).2)
  | _ => none
theorem f_i_OrderOf_cc : CTrue Try.prog 55 f_i_OrderOf_c := by
  intro args inh rs out h
  unfold f_i_OrderOf_c at h
  split at h
  · rename_i hd
    obtain ⟨h1, h2⟩ := dec2_enc hd
    rw [← h1, ← h2]
    exact rowC (f_i_OrderOf_ok _) h
  · cases h

def f_i_Group_has_F : Fi := { nv := 0, nc := 0, m := 0, vt := [], kl := [], sk := [], mvs := [], fz := [] }
def f_i_Group_has_a (g0 : List Sc) (x1 : Int) : List AV := enc [.p .gr, .p (.int .i64)] [.l g0, .i x1]
def f_i_Group_has_i (g0 : List Sc) (x1 : Int) : List AV := enc [] []
def f_i_Group_has_en (r : Bool) : List AV × List AV := (enc [.p .boo] [.b r], enc [] [])
def f_i_Group_has_M : Calling := addC 55 f_i_OrderOf_c (addC 70 f_i_within_c (noC))
theorem f_i_Group_has_Mt : CallOk Try.prog (f_i_Group_has_M) := addC_true f_i_OrderOf_cc (addC_true f_i_within_cc (noC_true))
theorem f_i_Group_has_o : loopsOnce Try.f90 = true := by kernel_rfl
theorem f_i_Group_has_p {R : Type} (g0 : List Sc) (x1 : Int) (kR : Bool → Option R) : f_i_Group_has_k g0 x1 kR = (f_i_Group_has_k g0 x1 some).bind kR := by
  simp only [f_i_Group_has_k, boB, someB]
theorem f_i_Group_has_e (g0 : List Sc) (x1 : Int) : runFn E0 f_i_Group_has_M H0 f_i_Group_has_F (asL (noL)) Try.f90 (f_i_Group_has_a g0 x1) (f_i_Group_has_i g0 x1) = f_i_Group_has_k g0 x1 (fun r => some (f_i_Group_has_en r)) := by kernel_rfl
theorem f_i_Group_has_ok (g0 : List Sc) (x1 : Int) (r : Bool) (h : f_i_Group_has g0 x1 = some r) : CS Try.prog 90 (f_i_Group_has_a g0 x1) (f_i_Group_has_i g0 x1) (f_i_Group_has_en r).1 (f_i_Group_has_en r).2 :=
  fn_true (Gk := fun k => f_i_Group_has_k g0 x1 k) (en := f_i_Group_has_en) Try.func90 E0ok f_i_Group_has_Mt (noL_true) f_i_Group_has_o (f_i_Group_has_e g0 x1) (f_i_Group_has_p g0 x1) h
def f_i_Group_has_c : CRow := fun args inh => match dec2 [.p .gr, .p (.int .i64)] [] args inh with
  | some ([.l g0, .i x1], []) => some ((f_i_Group_has g0 x1).isSome, (f_i_Group_has_en ((f_i_Group_has g0 x1).getD false)).1, (f_i_Group_has_en ((f_i_Group_has g0 x1).getD false)).2)
  | _ => none
theorem f_i_Group_has_cc : CTrue Try.prog 90 f_i_Group_has_c := by
  intro args inh rs out h
  unfold f_i_Group_has_c at h
  split at h
  · rename_i hd
    obtain ⟨h1, h2⟩ := dec2_enc hd
    rw [← h1, ← h2]
    exact rowC (f_i_Group_has_ok _ _) h
  · cases h

def f_cmp_isNaN_F : Fi := { nv := 0, nc := 0, m := 0, vt := [], kl := [], sk := [], mvs := [], fz := [] }
def f_cmp_isNaN_a (x0 : Int) : List AV := enc [.p (.int .i64)] [.i x0]
def f_cmp_isNaN_i (x0 : Int) : List AV := enc [] []
def f_cmp_isNaN_en (r : Bool) : List AV × List AV := (enc [.p .boo] [.b r], enc [] [])
def f_cmp_isNaN_M : Calling := noC
theorem f_cmp_isNaN_Mt : CallOk Try.prog (f_cmp_isNaN_M) := noC_true
theorem f_cmp_isNaN_o : loopsOnce Try.f123 = true := by kernel_rfl
theorem f_cmp_isNaN_p {R : Type} (x0 : Int) (kR : Bool → Option R) : f_cmp_isNaN_k x0 kR = (f_cmp_isNaN_k x0 some).bind kR := by
  simp only [f_cmp_isNaN_k, someB]
theorem f_cmp_isNaN_e (x0 : Int) : runFn E0 f_cmp_isNaN_M H0 f_cmp_isNaN_F (asL (noL)) Try.f123 (f_cmp_isNaN_a x0) (f_cmp_isNaN_i x0) = f_cmp_isNaN_k x0 (fun r => some (f_cmp_isNaN_en r)) := by kernel_rfl
theorem f_cmp_isNaN_ok (x0 : Int) (r : Bool) (h : f_cmp_isNaN x0 = some r) : CS Try.prog 123 (f_cmp_isNaN_a x0) (f_cmp_isNaN_i x0) (f_cmp_isNaN_en r).1 (f_cmp_isNaN_en r).2 :=
  fn_true (Gk := fun k => f_cmp_isNaN_k x0 k) (en := f_cmp_isNaN_en) Try.func123 E0ok f_cmp_isNaN_Mt (noL_true) f_cmp_isNaN_o (f_cmp_isNaN_e x0) (f_cmp_isNaN_p x0) h
def f_cmp_isNaN_c : CRow := fun args inh => match dec2 [.p (.int .i64)] [] args inh with
  | some ([.i x0], []) => some ((f_cmp_isNaN x0).isSome, (f_cmp_isNaN_en ((f_cmp_isNaN x0).getD false)).1, (f_cmp_isNaN_en ((f_cmp_isNaN x0).getD false)).2)
  | _ => none
theorem f_cmp_isNaN_cc : CTrue Try.prog 123 f_cmp_isNaN_c := by
  intro args inh rs out h
  unfold f_cmp_isNaN_c at h
  split at h
  · rename_i hd
    obtain ⟨h1, h2⟩ := dec2_enc hd
    rw [← h1, ← h2]
    exact rowC (f_cmp_isNaN_ok _) h
  · cases h

def f_cmp_Less_F : Fi := { nv := 0, nc := 0, m := 0, vt := [], kl := [], sk := [], mvs := [], fz := [] }
def f_cmp_Less_a (x0 : Int) (y1 : Int) : List AV := enc [.p (.int .i64), .p (.int .i64)] [.i x0, .i y1]
def f_cmp_Less_i (x0 : Int) (y1 : Int) : List AV := enc [] []
def f_cmp_Less_en (r : Bool) : List AV × List AV := (enc [.p .boo] [.b r], enc [] [])
def f_cmp_Less_M : Calling := addC 123 f_cmp_isNaN_c (noC)
theorem f_cmp_Less_Mt : CallOk Try.prog (f_cmp_Less_M) := addC_true f_cmp_isNaN_cc (noC_true)
theorem f_cmp_Less_o : loopsOnce Try.f109 = true := by kernel_rfl
theorem f_cmp_Less_p {R : Type} (x0 : Int) (y1 : Int) (kR : Bool → Option R) : f_cmp_Less_k x0 y1 kR = (f_cmp_Less_k x0 y1 some).bind kR := by
  simp only [f_cmp_Less_k, brB, boB, someB]
theorem f_cmp_Less_e (x0 : Int) (y1 : Int) : runFn E0 f_cmp_Less_M H0 f_cmp_Less_F (asL (noL)) Try.f109 (f_cmp_Less_a x0 y1) (f_cmp_Less_i x0 y1) = f_cmp_Less_k x0 y1 (fun r => some (f_cmp_Less_en r)) := by kernel_rfl
theorem f_cmp_Less_ok (x0 : Int) (y1 : Int) (r : Bool) (h : f_cmp_Less x0 y1 = some r) : CS Try.prog 109 (f_cmp_Less_a x0 y1) (f_cmp_Less_i x0 y1) (f_cmp_Less_en r).1 (f_cmp_Less_en r).2 :=
  fn_true (Gk := fun k => f_cmp_Less_k x0 y1 k) (en := f_cmp_Less_en) Try.func109 E0ok f_cmp_Less_Mt (noL_true) f_cmp_Less_o (f_cmp_Less_e x0 y1) (f_cmp_Less_p x0 y1) h
def f_cmp_Less_c : CRow := fun args inh => match dec2 [.p (.int .i64), .p (.int .i64)] [] args inh with
  | some ([.i x0, .i y1], []) => some ((f_cmp_Less x0 y1).isSome, (f_cmp_Less_en ((f_cmp_Less x0 y1).getD false)).1, (f_cmp_Less_en ((f_cmp_Less x0 y1).getD false)).2)
  | _ => none
theorem f_cmp_Less_cc : CTrue Try.prog 109 f_cmp_Less_c := by
  intro args inh rs out h
  unfold f_cmp_Less_c at h
  split at h
  · rename_i hd
    obtain ⟨h1, h2⟩ := dec2_enc hd
    rw [← h1, ← h2]
    exact rowC (f_cmp_Less_ok _ _) h
  · cases h

def f_slices_IsSorted_F : Fi := { nv := 0, nc := 0, m := 0, vt := [], kl := [(0, ([1, 2, 4, 5, 6, 7, 8, 9, 10, 11, 12, 13, 14, 15, 16, 17, 18, 19, 20], [0, 1, 2, 3, 4, 5, 6, 7, 8, 9, 10, 11, 12, 13, 14, 15, 16, 17, 18, 19, 20], [0, 1, 3, 4, 5, 6, 7, 8, 9, 10, 11, 12, 13, 14, 15, 16, 17, 18, 19, 20]))], sk := [], mvs := [], fz := [] }
def f_slices_IsSorted_a (x0 : List Sc) : List AV := enc [.p .sl] [.l x0]
def f_slices_IsSorted_i (x0 : List Sc) : List AV := enc [] []
def f_slices_IsSorted_en (r : Bool) : List AV × List AV := (enc [.p .boo] [.b r], enc [] [])
def f_slices_IsSorted_M : Calling := addC 109 f_cmp_Less_c (noC)
theorem f_slices_IsSorted_Mt : CallOk Try.prog (f_slices_IsSorted_M) := addC_true f_cmp_Less_cc (noC_true)
theorem f_slices_IsSorted_o : loopsOnce Try.f92 = true := by kernel_rfl
def f_slices_IsSorted_h0 : List Sh := [.p .sl, .u, .u, .p (.int .i64), .u, .u, .u, .u, .u, .u, .u, .u, .u, .u, .u, .u, .u, .u, .u, .u, .u]
def f_slices_IsSorted_fr0 (x0 : List Sc) (s : Int) : List AV := enc f_slices_IsSorted_h0 [.l x0, .i s]
def f_slices_IsSorted_g0_1 : List Sh := [.u, .u, .u, .u, .u, .u, .u, .u, .u, .u, .u, .u, .u, .u, .u, .u, .u, .u, .u, .u, .u]
def f_slices_IsSorted_x0_1 (x0 : List Sc) (e : Unit) : X × List AV := (.out 0, enc f_slices_IsSorted_g0_1 [])
def f_slices_IsSorted_g0_2 : List Sh := [.u, .u, .p .boo, .u, .u, .u, .u, .u, .u, .u, .u, .u, .u, .u, .u, .u, .u, .u, .u, .u, .u]
def f_slices_IsSorted_x0_2 (x0 : List Sc) (e : Unit) : X × List AV := (.ret, enc f_slices_IsSorted_g0_2 [.b false])
theorem f_slices_IsSorted_p0 {R : Type} (x0 : List Sc) (s : Int) (kN : Int → Option R) (kA : Unit → Option R) (kB : Unit → Option R) : f_slices_IsSorted_k0 x0 s kN kA kB = (f_slices_IsSorted_r0 x0 s).bind (Ro.el kN kA kB) := by
  simp only [f_slices_IsSorted_k0, f_slices_IsSorted_r0, brB, boB, someB, noneB, Ro.el]
theorem f_slices_IsSorted_e0 (x0 : List Sc) (s : Int) : EC E0 f_slices_IsSorted_M H0 f_slices_IsSorted_F (asL (noL)) 0 (bodyOf Try.f92 0) (f_slices_IsSorted_fr0 x0 s) (done (klOf f_slices_IsSorted_F 0)) = f_slices_IsSorted_k0 x0 s (fun s => some (.norm, f_slices_IsSorted_fr0 x0 s)) (fun e => some (f_slices_IsSorted_x0_1 x0 e)) (fun e => some (f_slices_IsSorted_x0_2 x0 e)) := by kernel_rfl
theorem f_slices_IsSorted_l0 (x0 : List Sc) : ∀ s r, loopL (f_slices_IsSorted_r0 x0) s = some r → LS Try.prog f_slices_IsSorted_F (bodyOf Try.f92 0) (f_slices_IsSorted_fr0 x0 s) (enX (f_slices_IsSorted_x0_1 x0) (f_slices_IsSorted_x0_2 x0) r) :=
  loop_true E0ok f_slices_IsSorted_Mt (noL_true) f_slices_IsSorted_o (fun _ h => by cases h) (fun _ h => by cases h) (fun s => (f_slices_IsSorted_e0 x0 s).trans (f_slices_IsSorted_p0 x0 s _ _ (fun e => some (f_slices_IsSorted_x0_2 x0 e))))
def f_slices_IsSorted_t0 (σ : List AV) : Option (Bool × Bool × (X × List AV) × (X × List AV)) := match dec f_slices_IsSorted_h0 σ with
  | some [.l x0, .i i3] => some ((loopL (f_slices_IsSorted_r0 x0) i3).isSome, isOne (loopL (f_slices_IsSorted_r0 x0) i3), f_slices_IsSorted_x0_1 x0 (getOne () (loopL (f_slices_IsSorted_r0 x0) i3)), f_slices_IsSorted_x0_2 x0 (getTwo () (loopL (f_slices_IsSorted_r0 x0) i3)))
  | _ => none
theorem f_slices_IsSorted_tt0 : TTrue Try.prog f_slices_IsSorted_F Try.f92 0 (f_slices_IsSorted_t0) := by
  intro σ p r r' h
  unfold f_slices_IsSorted_t0 at h
  split at h
  · rename_i hd
    rw [← dec_enc hd]
    exact row2 (f_slices_IsSorted_l0 _ _) h
  · cases h
theorem f_slices_IsSorted_p {R : Type} (x0 : List Sc) (kR : Bool → Option R) : f_slices_IsSorted_k x0 kR = (f_slices_IsSorted_k x0 some).bind kR := by
  simp only [f_slices_IsSorted_k, blB, someB]
theorem f_slices_IsSorted_e (x0 : List Sc) : runFn E0 f_slices_IsSorted_M H0 f_slices_IsSorted_F (asL (addL 0 (f_slices_IsSorted_t0) (noL))) Try.f92 (f_slices_IsSorted_a x0) (f_slices_IsSorted_i x0) = f_slices_IsSorted_k x0 (fun r => some (f_slices_IsSorted_en r)) := by kernel_rfl
theorem f_slices_IsSorted_ok (x0 : List Sc) (r : Bool) (h : f_slices_IsSorted x0 = some r) : CS Try.prog 92 (f_slices_IsSorted_a x0) (f_slices_IsSorted_i x0) (f_slices_IsSorted_en r).1 (f_slices_IsSorted_en r).2 :=
  fn_true (Gk := fun k => f_slices_IsSorted_k x0 k) (en := f_slices_IsSorted_en) Try.func92 E0ok f_slices_IsSorted_Mt (addL_true (f_slices_IsSorted_tt0) (noL_true)) f_slices_IsSorted_o (f_slices_IsSorted_e x0) (f_slices_IsSorted_p x0) h
def f_slices_IsSorted_c : CRow := fun args inh => match dec2 [.p .sl] [] args inh with
  | some ([.l x0], []) => some ((f_slices_IsSorted x0).isSome, (f_slices_IsSorted_en ((f_slices_IsSorted x0).getD false)).1, (f_slices_IsSorted_en ((f_slices_IsSorted x0).getD false)).2)
  | _ => none
theorem f_slices_IsSorted_cc : CTrue Try.prog 92 f_slices_IsSorted_c := by
  intro args inh rs out h
  unfold f_slices_IsSorted_c at h
  split at h
  · rename_i hd
    obtain ⟨h1, h2⟩ := dec2_enc hd
    rw [← h1, ← h2]
    exact rowC (f_slices_IsSorted_ok _) h
  · cases h

def f_i_IsSequence_F : Fi := { nv := 0, nc := 0, m := 0, vt := [], kl := [(0, ([0, 3, 4, 5, 6, 10, 11, 12, 13, 14, 15, 16, 17, 18, 19, 20, 21, 22, 23, 24, 25, 26, 27, 28], [0, 3, 4, 5, 6, 7, 8, 9, 10, 11, 12, 13, 14, 15, 16, 17, 18, 19, 20, 21, 22, 23, 24, 25, 26, 27, 28], [0, 1, 2, 3, 5, 6, 7, 8, 9, 10, 11, 12, 13, 14, 15, 16, 17, 18, 19, 20, 21, 22, 23, 24, 25, 26, 27, 28]))], sk := [], mvs := [], fz := [] }
def f_i_IsSequence_a (g0 : List Sc) (l1 : List Sc) : List AV := enc [.p .gr, .p .sl] [.l g0, .l l1]
def f_i_IsSequence_i (g0 : List Sc) (l1 : List Sc) : List AV := enc [] []
def f_i_IsSequence_en (r : Bool) : List AV × List AV := (enc [.p .boo] [.b r], enc [] [])
def f_i_IsSequence_M : Calling := addC 90 f_i_Group_has_c (addC 91 f_i_IsGroup_c (addC 92 f_slices_IsSorted_c (noC)))
theorem f_i_IsSequence_Mt : CallOk Try.prog (f_i_IsSequence_M) := addC_true f_i_Group_has_cc (addC_true f_i_IsGroup_cc (addC_true f_slices_IsSorted_cc (noC_true)))
theorem f_i_IsSequence_o : loopsOnce Try.f48 = true := by kernel_rfl
def f_i_IsSequence_h0 : List Sh := [.u, .p .sl, .p .el, .u, .u, .u, .u, .p .sl, .p (.int .i64), .p (.int .i64), .u, .u, .u, .u, .u, .u, .u, .u, .u, .u, .u, .u, .u, .u, .u, .u, .u, .u, .u]
def f_i_IsSequence_fr0 (l1 : List Sc) (g2 : List Sc) (t7 : List Sc) (t8 : Int) (s : Int) : List AV := enc f_i_IsSequence_h0 [.l l1, .l g2, .l t7, .i t8, .i s]
def f_i_IsSequence_g0_1 : List Sh := [.u, .p .sl, .p .el, .u, .u, .u, .u, .u, .u, .u, .u, .u, .u, .u, .u, .u, .u, .u, .u, .u, .u, .u, .u, .u, .u, .u, .u, .u, .u]
def f_i_IsSequence_x0_1 (l1 : List Sc) (g2 : List Sc) (t7 : List Sc) (t8 : Int) (e : Unit) : X × List AV := (.out 0, enc f_i_IsSequence_g0_1 [.l l1, .l g2])
def f_i_IsSequence_g0_2 : List Sh := [.u, .u, .u, .u, .p .boo, .u, .u, .u, .u, .u, .u, .u, .u, .u, .u, .u, .u, .u, .u, .u, .u, .u, .u, .u, .u, .u, .u, .u, .u]
def f_i_IsSequence_x0_2 (l1 : List Sc) (g2 : List Sc) (t7 : List Sc) (t8 : Int) (e : Unit) : X × List AV := (.ret, enc f_i_IsSequence_g0_2 [.b false])
theorem f_i_IsSequence_p0 {R : Type} (l1 : List Sc) (g2 : List Sc) (t7 : List Sc) (t8 : Int) (s : Int) (kN : Int → Option R) (kA : Unit → Option R) (kB : Unit → Option R) : f_i_IsSequence_k0 l1 g2 t7 t8 s kN kA kB = (f_i_IsSequence_r0 l1 g2 t7 t8 s).bind (Ro.el kN kA kB) := by
  simp only [f_i_IsSequence_k0, f_i_IsSequence_r0, brB, boB, someB, noneB, Ro.el]
theorem f_i_IsSequence_e0 (l1 : List Sc) (g2 : List Sc) (t7 : List Sc) (t8 : Int) (s : Int) : EC E0 f_i_IsSequence_M H0 f_i_IsSequence_F (asL (noL)) 0 (bodyOf Try.f48 0) (f_i_IsSequence_fr0 l1 g2 t7 t8 s) (done (klOf f_i_IsSequence_F 0)) = f_i_IsSequence_k0 l1 g2 t7 t8 s (fun s => some (.norm, f_i_IsSequence_fr0 l1 g2 t7 t8 s)) (fun e => some (f_i_IsSequence_x0_1 l1 g2 t7 t8 e)) (fun e => some (f_i_IsSequence_x0_2 l1 g2 t7 t8 e)) := by kernel_rfl
theorem f_i_IsSequence_l0 (l1 : List Sc) (g2 : List Sc) (t7 : List Sc) (t8 : Int) : ∀ s r, loopL (f_i_IsSequence_r0 l1 g2 t7 t8) s = some r → LS Try.prog f_i_IsSequence_F (bodyOf Try.f48 0) (f_i_IsSequence_fr0 l1 g2 t7 t8 s) (enX (f_i_IsSequence_x0_1 l1 g2 t7 t8) (f_i_IsSequence_x0_2 l1 g2 t7 t8) r) :=
  loop_true E0ok f_i_IsSequence_Mt (noL_true) f_i_IsSequence_o (fun _ h => by cases h) (fun _ h => by cases h) (fun s => (f_i_IsSequence_e0 l1 g2 t7 t8 s).trans (f_i_IsSequence_p0 l1 g2 t7 t8 s _ _ (fun e => some (f_i_IsSequence_x0_2 l1 g2 t7 t8 e))))
def f_i_IsSequence_t0 (σ : List AV) : Option (Bool × Bool × (X × List AV) × (X × List AV)) := match dec f_i_IsSequence_h0 σ with
  | some [.l l1, .l g2, .l t7, .i t8, .i t9] => some ((loopL (f_i_IsSequence_r0 l1 g2 t7 t8) t9).isSome, isOne (loopL (f_i_IsSequence_r0 l1 g2 t7 t8) t9), f_i_IsSequence_x0_1 l1 g2 t7 t8 (getOne () (loopL (f_i_IsSequence_r0 l1 g2 t7 t8) t9)), f_i_IsSequence_x0_2 l1 g2 t7 t8 (getTwo () (loopL (f_i_IsSequence_r0 l1 g2 t7 t8) t9)))
  | _ => none
theorem f_i_IsSequence_tt0 : TTrue Try.prog f_i_IsSequence_F Try.f48 0 (f_i_IsSequence_t0) := by
  intro σ p r r' h
  unfold f_i_IsSequence_t0 at h
  split at h
  · rename_i hd
    rw [← dec_enc hd]
    exact row2 (f_i_IsSequence_l0 _ _ _ _ _) h
  · cases h
theorem f_i_IsSequence_p {R : Type} (g0 : List Sc) (l1 : List Sc) (kR : Bool → Option R) : f_i_IsSequence_k g0 l1 kR = (f_i_IsSequence_k g0 l1 some).bind kR := by
  simp only [f_i_IsSequence_k, brB, boB, blB, someB]
theorem f_i_IsSequence_e (g0 : List Sc) (l1 : List Sc) : runFn E0 f_i_IsSequence_M H0 f_i_IsSequence_F (asL (addL 0 (f_i_IsSequence_t0) (noL))) Try.f48 (f_i_IsSequence_a g0 l1) (f_i_IsSequence_i g0 l1) = f_i_IsSequence_k g0 l1 (fun r => some (f_i_IsSequence_en r)) := by kernel_rfl
theorem f_i_IsSequence_ok (g0 : List Sc) (l1 : List Sc) (r : Bool) (h : f_i_IsSequence g0 l1 = some r) : CS Try.prog 48 (f_i_IsSequence_a g0 l1) (f_i_IsSequence_i g0 l1) (f_i_IsSequence_en r).1 (f_i_IsSequence_en r).2 :=
  fn_true (Gk := fun k => f_i_IsSequence_k g0 l1 k) (en := f_i_IsSequence_en) Try.func48 E0ok f_i_IsSequence_Mt (addL_true (f_i_IsSequence_tt0) (noL_true)) f_i_IsSequence_o (f_i_IsSequence_e g0 l1) (f_i_IsSequence_p g0 l1) h
def f_i_IsSequence_c : CRow := fun args inh => match dec2 [.p .gr, .p .sl] [] args inh with
  | some ([.l g0, .l l1], []) => some ((f_i_IsSequence g0 l1).isSome, (f_i_IsSequence_en ((f_i_IsSequence g0 l1).getD false)).1, (f_i_IsSequence_en ((f_i_IsSequence g0 l1).getD false)).2)
  | _ => none
theorem f_i_IsSequence_cc : CTrue Try.prog 48 f_i_IsSequence_c := by
  intro args inh rs out h
  unfold f_i_IsSequence_c at h
  split at h
  · rename_i hd
    obtain ⟨h1, h2⟩ := dec2_enc hd
    rw [← h1, ← h2]
    exact rowC (f_i_IsSequence_ok _ _) h
  · cases h

def f_i_FormatInt_F : Fi := { nv := 0, nc := 0, m := 0, vt := [], kl := [(2, ([0, 1, 2, 4, 5, 8, 9, 10, 11, 12, 13, 14, 15, 16, 17, 18, 19, 20, 21, 22, 23, 24, 25, 26, 27, 28, 29, 30, 31, 32, 33, 34, 35, 36, 37, 38, 39, 40, 41, 42, 43, 44, 45, 46, 47, 48, 49, 50, 51, 52, 53, 54, 55, 56, 57, 58], [0, 1, 2, 4, 5, 6, 7, 8, 9, 10, 11, 12, 13, 14, 15, 16, 17, 18, 19, 20, 21, 22, 23, 24, 25, 26, 27, 28, 29, 30, 31, 32, 33, 34, 35, 36, 37, 38, 39, 40, 41, 42, 43, 44, 45, 46, 47, 48, 49, 50, 51, 52, 53, 54, 55, 56, 57, 58], [0, 1, 3, 4, 5, 6, 7, 8, 9, 10, 11, 12, 13, 14, 15, 16, 17, 18, 19, 20, 21, 22, 23, 24, 25, 26, 27, 28, 29, 30, 31, 32, 33, 34, 35, 36, 37, 38, 39, 40, 41, 42, 43, 44, 45, 46, 47, 48, 49, 50, 51, 52, 53, 54, 55, 56, 57, 58])), (0, ([1, 2, 5, 6, 7, 8, 9, 10, 11, 12, 13, 14, 15, 16, 17, 18, 19, 20, 21, 22, 23, 24, 25, 26, 27, 28, 29, 30, 31, 32, 33, 34, 35, 36, 37, 38, 39, 40, 41, 42, 43, 44, 45, 46, 47, 48, 49, 50, 51, 52, 53, 54, 55, 56, 57, 58], [1, 2, 4, 5, 6, 7, 8, 9, 10, 11, 12, 13, 14, 15, 16, 17, 18, 19, 20, 21, 22, 23, 24, 25, 26, 27, 28, 29, 30, 31, 32, 33, 34, 35, 36, 37, 38, 39, 40, 41, 42, 43, 44, 45, 46, 47, 48, 49, 50, 51, 52, 53, 54, 55, 56, 57, 58], [0, 1, 3, 4, 5, 6, 7, 8, 9, 10, 11, 12, 13, 14, 15, 16, 17, 18, 19, 20, 21, 22, 23, 24, 25, 26, 27, 28, 29, 30, 31, 32, 33, 34, 35, 36, 37, 38, 39, 40, 41, 42, 43, 44, 45, 46, 47, 48, 49, 50, 51, 52, 53, 54, 55, 56, 57, 58]))], sk := [], mvs := [], fz := [] }
def f_i_FormatInt_a (n0 : Int) : List AV := enc [.p (.int .i64)] [.i n0]
def f_i_FormatInt_i (n0 : Int) : List AV := enc [] []
def f_i_FormatInt_en (r : ByteArray) : List AV × List AV := (enc [.p .str] [.s r], enc [] [])
def f_i_FormatInt_M : Calling := noC
theorem f_i_FormatInt_Mt : CallOk Try.prog (f_i_FormatInt_M) := noC_true
theorem f_i_FormatInt_o : loopsOnce Try.f49 = true := by kernel_rfl
def f_i_FormatInt_h0 : List Sh := [.p (.int .i64), .u, .u, .own 5, .p (.int .i64), .u, .u, .u, .u, .u, .u, .u, .u, .u, .u, .u, .u, .u, .u, .u, .u, .u, .u, .u, .u, .u, .u, .u, .u, .u, .u, .u, .u, .u, .u, .u, .u, .u, .u, .u, .u, .u, .u, .u, .u, .u, .u, .u, .u, .u, .u, .u, .u, .u, .u, .u, .u, .u, .u]
def f_i_FormatInt_fr0 (n0 : Int) (s : List Sc × Int) : List AV := enc f_i_FormatInt_h0 [.i n0, .l s.1, .i s.2]
def f_i_FormatInt_g0_1 : List Sh := [.p (.int .i64), .u, .u, .own 5, .u, .u, .u, .u, .u, .u, .u, .u, .u, .u, .u, .u, .u, .u, .u, .u, .u, .u, .u, .u, .u, .u, .u, .u, .u, .u, .u, .u, .u, .u, .u, .u, .u, .u, .u, .u, .u, .u, .u, .u, .u, .u, .u, .u, .u, .u, .u, .u, .u, .u, .u, .u, .u, .u, .u]
def f_i_FormatInt_x0_1 (n0 : Int) (e : List Sc) : X × List AV := (.out 0, enc f_i_FormatInt_g0_1 [.i n0, .l e])
def f_i_FormatInt_x0_2 (n0 : Int) (_e : Unit) : X × List AV := (.ret, [])
theorem f_i_FormatInt_p0 {R : Type} (n0 : Int) (s : List Sc × Int) (kN : List Sc × Int → Option R) (kA : List Sc → Option R) (kB : Unit → Option R) : f_i_FormatInt_k0 n0 s.1 s.2 kN kA = (f_i_FormatInt_r0 n0 s).bind (Ro.el kN kA kB) := by
  simp only [f_i_FormatInt_k0, f_i_FormatInt_r0, brB, someB, noneB, Ro.el]
theorem f_i_FormatInt_e0 (n0 : Int) (s : List Sc × Int) : EC E0 f_i_FormatInt_M H0 f_i_FormatInt_F (asL (noL)) 0 (bodyOf Try.f49 0) (f_i_FormatInt_fr0 n0 s) (done (klOf f_i_FormatInt_F 0)) = f_i_FormatInt_k0 n0 s.1 s.2 (fun s => some (.norm, f_i_FormatInt_fr0 n0 s)) (fun e => some (f_i_FormatInt_x0_1 n0 e)) := by kernel_rfl
theorem f_i_FormatInt_l0 (n0 : Int) : ∀ s r, loopL (f_i_FormatInt_r0 n0) s = some r → LS Try.prog f_i_FormatInt_F (bodyOf Try.f49 0) (f_i_FormatInt_fr0 n0 s) (enX (f_i_FormatInt_x0_1 n0) (f_i_FormatInt_x0_2 n0) r) :=
  loop_true E0ok f_i_FormatInt_Mt (noL_true) f_i_FormatInt_o (fun _ h => by cases h) (fun _ h => by cases h) (fun s => (f_i_FormatInt_e0 n0 s).trans (f_i_FormatInt_p0 n0 s _ _ (fun e => some (f_i_FormatInt_x0_2 n0 e))))
def f_i_FormatInt_t0 (σ : List AV) : Option (Bool × Bool × (X × List AV) × (X × List AV)) := match dec f_i_FormatInt_h0 σ with
  | some [.i n0, .l out3, .i m4] => some (isOne (loopL (f_i_FormatInt_r0 n0) (out3, m4)), true, f_i_FormatInt_x0_1 n0 (getOne [] (loopL (f_i_FormatInt_r0 n0) (out3, m4))), (.ret, []))
  | _ => none
theorem f_i_FormatInt_tt0 : TTrue Try.prog f_i_FormatInt_F Try.f49 0 (f_i_FormatInt_t0) := by
  intro σ p r r' h
  unfold f_i_FormatInt_t0 at h
  split at h
  · rename_i hd
    rw [← dec_enc hd]
    exact row1 (f_i_FormatInt_l0 _ _) h
  · cases h
def f_i_FormatInt_h2 : List Sh := [.u, .u, .u, .own 5, .u, .u, .p (.int .i64), .p (.int .i64), .u, .u, .u, .u, .u, .u, .u, .u, .u, .u, .u, .u, .u, .u, .u, .u, .u, .u, .u, .u, .u, .u, .u, .u, .u, .u, .u, .u, .u, .u, .u, .u, .u, .u, .u, .u, .u, .u, .u, .u, .u, .u, .u, .u, .u, .u, .u, .u, .u, .u, .u]
def f_i_FormatInt_fr2 (s : List Sc × Int × Int) : List AV := enc f_i_FormatInt_h2 [.l s.1, .i s.2.1, .i s.2.2]
def f_i_FormatInt_g2_1 : List Sh := [.u, .u, .u, .own 5, .u, .u, .u, .u, .u, .u, .u, .u, .u, .u, .u, .u, .u, .u, .u, .u, .u, .u, .u, .u, .u, .u, .u, .u, .u, .u, .u, .u, .u, .u, .u, .u, .u, .u, .u, .u, .u, .u, .u, .u, .u, .u, .u, .u, .u, .u, .u, .u, .u, .u, .u, .u, .u, .u, .u]
def f_i_FormatInt_x2_1 (e : List Sc) : X × List AV := (.out 2, enc f_i_FormatInt_g2_1 [.l e])
def f_i_FormatInt_x2_2 (_e : Unit) : X × List AV := (.ret, [])
theorem f_i_FormatInt_p2 {R : Type} (s : List Sc × Int × Int) (kN : List Sc × Int × Int → Option R) (kA : List Sc → Option R) (kB : Unit → Option R) : f_i_FormatInt_k2 s.1 s.2.1 s.2.2 kN kA = (f_i_FormatInt_r2 s).bind (Ro.el kN kA kB) := by
  simp only [f_i_FormatInt_k2, f_i_FormatInt_r2, brB, someB, noneB, Ro.el]
theorem f_i_FormatInt_e2 (s : List Sc × Int × Int) : EC E0 f_i_FormatInt_M H0 f_i_FormatInt_F (asL (addL 0 (f_i_FormatInt_t0) (noL))) 2 (bodyOf Try.f49 2) (f_i_FormatInt_fr2 s) (done (klOf f_i_FormatInt_F 2)) = f_i_FormatInt_k2 s.1 s.2.1 s.2.2 (fun s => some (.norm, f_i_FormatInt_fr2 s)) (fun e => some (f_i_FormatInt_x2_1 e)) := by kernel_rfl
theorem f_i_FormatInt_l2 : ∀ s r, loopL (f_i_FormatInt_r2) s = some r → LS Try.prog f_i_FormatInt_F (bodyOf Try.f49 2) (f_i_FormatInt_fr2 s) (enX (f_i_FormatInt_x2_1) (f_i_FormatInt_x2_2) r) :=
  loop_true E0ok f_i_FormatInt_Mt (addL_true (f_i_FormatInt_tt0) (noL_true)) f_i_FormatInt_o (fun _ h => by cases h) (fun _ h => by cases h) (fun s => (f_i_FormatInt_e2 s).trans (f_i_FormatInt_p2 s _ _ (fun e => some (f_i_FormatInt_x2_2 e))))
def f_i_FormatInt_t2 (σ : List AV) : Option (Bool × Bool × (X × List AV) × (X × List AV)) := match dec f_i_FormatInt_h2 σ with
  | some [.l out3, .i i6, .i j7] => some (isOne (loopL (f_i_FormatInt_r2) (out3, i6, j7)), true, f_i_FormatInt_x2_1 (getOne [] (loopL (f_i_FormatInt_r2) (out3, i6, j7))), (.ret, []))
  | _ => none
theorem f_i_FormatInt_tt2 : TTrue Try.prog f_i_FormatInt_F Try.f49 2 (f_i_FormatInt_t2) := by
  intro σ p r r' h
  unfold f_i_FormatInt_t2 at h
  split at h
  · rename_i hd
    rw [← dec_enc hd]
    exact row1 (f_i_FormatInt_l2 _) h
  · cases h
theorem f_i_FormatInt_p {R : Type} (n0 : Int) (kR : ByteArray → Option R) : f_i_FormatInt_k n0 kR = (f_i_FormatInt_k n0 some).bind kR := by
  simp only [f_i_FormatInt_k, brB, bl1B, someB, noneB]
theorem f_i_FormatInt_e (n0 : Int) : runFn E0 f_i_FormatInt_M H0 f_i_FormatInt_F (asL (addL 2 (f_i_FormatInt_t2) (addL 0 (f_i_FormatInt_t0) (noL)))) Try.f49 (f_i_FormatInt_a n0) (f_i_FormatInt_i n0) = f_i_FormatInt_k n0 (fun r => some (f_i_FormatInt_en r)) := by kernel_rfl
theorem f_i_FormatInt_ok (n0 : Int) (r : ByteArray) (h : f_i_FormatInt n0 = some r) : CS Try.prog 49 (f_i_FormatInt_a n0) (f_i_FormatInt_i n0) (f_i_FormatInt_en r).1 (f_i_FormatInt_en r).2 :=
  fn_true (Gk := fun k => f_i_FormatInt_k n0 k) (en := f_i_FormatInt_en) Try.func49 E0ok f_i_FormatInt_Mt (addL_true (f_i_FormatInt_tt2) (addL_true (f_i_FormatInt_tt0) (noL_true))) f_i_FormatInt_o (f_i_FormatInt_e n0) (f_i_FormatInt_p n0) h
def f_i_FormatInt_c : CRow := fun args inh => match dec2 [.p (.int .i64)] [] args inh with
  | some ([.i n0], []) => some ((f_i_FormatInt n0).isSome, (f_i_FormatInt_en ((f_i_FormatInt n0).getD ByteArray.empty)).1, (f_i_FormatInt_en ((f_i_FormatInt n0).getD ByteArray.empty)).2)
  | _ => none
theorem f_i_FormatInt_cc : CTrue Try.prog 49 f_i_FormatInt_c := by
  intro args inh rs out h
  unfold f_i_FormatInt_c at h
  split at h
  · rename_i hd
    obtain ⟨h1, h2⟩ := dec2_enc hd
    rw [← h1, ← h2]
    exact rowC (f_i_FormatInt_ok _) h
  · cases h

def f_i_MultiplicityIn_F : Fi := { nv := 0, nc := 0, m := 0, vt := [], kl := [(0, ([0, 2, 3, 4, 6, 7, 11, 12, 13, 14, 15, 16, 17, 18, 19, 20], [0, 1, 2, 3, 4, 6, 7, 8, 9, 10, 11, 12, 13, 14, 15, 16, 17, 18, 19, 20], [0, 1, 2, 3, 5, 6, 7, 8, 9, 10, 11, 12, 13, 14, 15, 16, 17, 18, 19, 20]))], sk := [], mvs := [], fz := [] }
def f_i_MultiplicityIn_a (l0 : List Sc) (x1 : Int) : List AV := enc [.p .sl, .p (.int .i64)] [.l l0, .i x1]
def f_i_MultiplicityIn_i (l0 : List Sc) (x1 : Int) : List AV := enc [] []
def f_i_MultiplicityIn_en (r : Int) : List AV × List AV := (enc [.p (.int .i64)] [.i r], enc [] [])
def f_i_MultiplicityIn_M : Calling := noC
theorem f_i_MultiplicityIn_Mt : CallOk Try.prog (f_i_MultiplicityIn_M) := noC_true
theorem f_i_MultiplicityIn_o : loopsOnce Try.f50 = true := by kernel_rfl
def f_i_MultiplicityIn_h0 : List Sh := [.u, .p (.int .i64), .u, .u, .u, .p (.int .i64), .u, .u, .p .sl, .p (.int .i64), .p (.int .i64), .u, .u, .u, .u, .u, .u, .u, .u, .u, .u]
def f_i_MultiplicityIn_fr0 (x1 : Int) (t8 : List Sc) (t9 : Int) (s : Int × Int) : List AV := enc f_i_MultiplicityIn_h0 [.i x1, .i s.1, .l t8, .i t9, .i s.2]
def f_i_MultiplicityIn_g0_1 : List Sh := [.u, .u, .u, .u, .u, .p (.int .i64), .u, .u, .u, .u, .u, .u, .u, .u, .u, .u, .u, .u, .u, .u, .u]
def f_i_MultiplicityIn_x0_1 (x1 : Int) (t8 : List Sc) (t9 : Int) (e : Int) : X × List AV := (.out 0, enc f_i_MultiplicityIn_g0_1 [.i e])
def f_i_MultiplicityIn_x0_2 (x1 : Int) (t8 : List Sc) (t9 : Int) (_e : Unit) : X × List AV := (.ret, [])
theorem f_i_MultiplicityIn_p0 {R : Type} (x1 : Int) (t8 : List Sc) (t9 : Int) (s : Int × Int) (kN : Int × Int → Option R) (kA : Int → Option R) (kB : Unit → Option R) : f_i_MultiplicityIn_k0 x1 t8 t9 s.1 s.2 kN kA = (f_i_MultiplicityIn_r0 x1 t8 t9 s).bind (Ro.el kN kA kB) := by
  simp only [f_i_MultiplicityIn_k0, f_i_MultiplicityIn_r0, brB, someB, noneB, Ro.el]
theorem f_i_MultiplicityIn_e0 (x1 : Int) (t8 : List Sc) (t9 : Int) (s : Int × Int) : EC E0 f_i_MultiplicityIn_M H0 f_i_MultiplicityIn_F (asL (noL)) 0 (bodyOf Try.f50 0) (f_i_MultiplicityIn_fr0 x1 t8 t9 s) (done (klOf f_i_MultiplicityIn_F 0)) = f_i_MultiplicityIn_k0 x1 t8 t9 s.1 s.2 (fun s => some (.norm, f_i_MultiplicityIn_fr0 x1 t8 t9 s)) (fun e => some (f_i_MultiplicityIn_x0_1 x1 t8 t9 e)) := by kernel_rfl
theorem f_i_MultiplicityIn_l0 (x1 : Int) (t8 : List Sc) (t9 : Int) : ∀ s r, loopL (f_i_MultiplicityIn_r0 x1 t8 t9) s = some r → LS Try.prog f_i_MultiplicityIn_F (bodyOf Try.f50 0) (f_i_MultiplicityIn_fr0 x1 t8 t9 s) (enX (f_i_MultiplicityIn_x0_1 x1 t8 t9) (f_i_MultiplicityIn_x0_2 x1 t8 t9) r) :=
  loop_true E0ok f_i_MultiplicityIn_Mt (noL_true) f_i_MultiplicityIn_o (fun _ h => by cases h) (fun _ h => by cases h) (fun s => (f_i_MultiplicityIn_e0 x1 t8 t9 s).trans (f_i_MultiplicityIn_p0 x1 t8 t9 s _ _ (fun e => some (f_i_MultiplicityIn_x0_2 x1 t8 t9 e))))
def f_i_MultiplicityIn_t0 (σ : List AV) : Option (Bool × Bool × (X × List AV) × (X × List AV)) := match dec f_i_MultiplicityIn_h0 σ with
  | some [.i x1, .i n5, .l t8, .i t9, .i t10] => some (isOne (loopL (f_i_MultiplicityIn_r0 x1 t8 t9) (n5, t10)), true, f_i_MultiplicityIn_x0_1 x1 t8 t9 (getOne 0 (loopL (f_i_MultiplicityIn_r0 x1 t8 t9) (n5, t10))), (.ret, []))
  | _ => none
theorem f_i_MultiplicityIn_tt0 : TTrue Try.prog f_i_MultiplicityIn_F Try.f50 0 (f_i_MultiplicityIn_t0) := by
  intro σ p r r' h
  unfold f_i_MultiplicityIn_t0 at h
  split at h
  · rename_i hd
    rw [← dec_enc hd]
    exact row1 (f_i_MultiplicityIn_l0 _ _ _ _) h
  · cases h
theorem f_i_MultiplicityIn_p {R : Type} (l0 : List Sc) (x1 : Int) (kR : Int → Option R) : f_i_MultiplicityIn_k l0 x1 kR = (f_i_MultiplicityIn_k l0 x1 some).bind kR := by
  simp only [f_i_MultiplicityIn_k, bl1B, someB]
theorem f_i_MultiplicityIn_e (l0 : List Sc) (x1 : Int) : runFn E0 f_i_MultiplicityIn_M H0 f_i_MultiplicityIn_F (asL (addL 0 (f_i_MultiplicityIn_t0) (noL))) Try.f50 (f_i_MultiplicityIn_a l0 x1) (f_i_MultiplicityIn_i l0 x1) = f_i_MultiplicityIn_k l0 x1 (fun r => some (f_i_MultiplicityIn_en r)) := by kernel_rfl
theorem f_i_MultiplicityIn_ok (l0 : List Sc) (x1 : Int) (r : Int) (h : f_i_MultiplicityIn l0 x1 = some r) : CS Try.prog 50 (f_i_MultiplicityIn_a l0 x1) (f_i_MultiplicityIn_i l0 x1) (f_i_MultiplicityIn_en r).1 (f_i_MultiplicityIn_en r).2 :=
  fn_true (Gk := fun k => f_i_MultiplicityIn_k l0 x1 k) (en := f_i_MultiplicityIn_en) Try.func50 E0ok f_i_MultiplicityIn_Mt (addL_true (f_i_MultiplicityIn_tt0) (noL_true)) f_i_MultiplicityIn_o (f_i_MultiplicityIn_e l0 x1) (f_i_MultiplicityIn_p l0 x1) h
def f_i_MultiplicityIn_c : CRow := fun args inh => match dec2 [.p .sl, .p (.int .i64)] [] args inh with
  | some ([.l l0, .i x1], []) => some ((f_i_MultiplicityIn l0 x1).isSome, (f_i_MultiplicityIn_en ((f_i_MultiplicityIn l0 x1).getD 0)).1, (f_i_MultiplicityIn_en ((f_i_MultiplicityIn l0 x1).getD 0)).2)
  | _ => none
theorem f_i_MultiplicityIn_cc : CTrue Try.prog 50 f_i_MultiplicityIn_c := by
  intro args inh rs out h
  unfold f_i_MultiplicityIn_c at h
  split at h
  · rename_i hd
    obtain ⟨h1, h2⟩ := dec2_enc hd
    rw [← h1, ← h2]
    exact rowC (f_i_MultiplicityIn_ok _ _) h
  · cases h

def f_i_glued_F : Fi := { nv := 0, nc := 0, m := 0, vt := [], kl := [(0, ([0, 2, 3, 4, 6, 7, 11, 12, 13, 14, 15, 16, 17, 18, 19, 20, 21, 22, 23, 24], [0, 1, 2, 3, 4, 6, 7, 8, 9, 10, 11, 12, 13, 14, 15, 16, 17, 18, 19, 20, 21, 22, 23, 24], [0, 1, 2, 3, 5, 6, 7, 8, 9, 10, 11, 12, 13, 14, 15, 16, 17, 18, 19, 20, 21, 22, 23, 24]))], sk := [], mvs := [], fz := [] }
def f_i_glued_a (l0 : List Sc) (by1 : ByteArray) : List AV := enc [.p .sl, .p .str] [.l l0, .s by1]
def f_i_glued_i (l0 : List Sc) (by1 : ByteArray) : List AV := enc [] []
def f_i_glued_en (r : ByteArray) : List AV × List AV := (enc [.p .str] [.s r], enc [] [])
def f_i_glued_M : Calling := noC
theorem f_i_glued_Mt : CallOk Try.prog (f_i_glued_M) := noC_true
theorem f_i_glued_o : loopsOnce Try.f51 = true := by kernel_rfl
def f_i_glued_h0 : List Sh := [.u, .p .str, .u, .u, .u, .p .str, .u, .u, .p .sl, .p (.int .i64), .p (.int .i64), .u, .u, .u, .u, .u, .u, .u, .u, .u, .u, .u, .u, .u, .u]
def f_i_glued_fr0 (by1 : ByteArray) (t8 : List Sc) (t9 : Int) (s : ByteArray × Int) : List AV := enc f_i_glued_h0 [.s by1, .s s.1, .l t8, .i t9, .i s.2]
def f_i_glued_g0_1 : List Sh := [.u, .u, .u, .u, .u, .p .str, .u, .u, .u, .u, .u, .u, .u, .u, .u, .u, .u, .u, .u, .u, .u, .u, .u, .u, .u]
def f_i_glued_x0_1 (by1 : ByteArray) (t8 : List Sc) (t9 : Int) (e : ByteArray) : X × List AV := (.out 0, enc f_i_glued_g0_1 [.s e])
def f_i_glued_x0_2 (by1 : ByteArray) (t8 : List Sc) (t9 : Int) (_e : Unit) : X × List AV := (.ret, [])
theorem f_i_glued_p0 {R : Type} (by1 : ByteArray) (t8 : List Sc) (t9 : Int) (s : ByteArray × Int) (kN : ByteArray × Int → Option R) (kA : ByteArray → Option R) (kB : Unit → Option R) : f_i_glued_k0 by1 t8 t9 s.1 s.2 kN kA = (f_i_glued_r0 by1 t8 t9 s).bind (Ro.el kN kA kB) := by
  simp only [f_i_glued_k0, f_i_glued_r0, brB, someB, noneB, Ro.el]
theorem f_i_glued_e0 (by1 : ByteArray) (t8 : List Sc) (t9 : Int) (s : ByteArray × Int) : EC E0 f_i_glued_M H0 f_i_glued_F (asL (noL)) 0 (bodyOf Try.f51 0) (f_i_glued_fr0 by1 t8 t9 s) (done (klOf f_i_glued_F 0)) = f_i_glued_k0 by1 t8 t9 s.1 s.2 (fun s => some (.norm, f_i_glued_fr0 by1 t8 t9 s)) (fun e => some (f_i_glued_x0_1 by1 t8 t9 e)) := by kernel_rfl
theorem f_i_glued_l0 (by1 : ByteArray) (t8 : List Sc) (t9 : Int) : ∀ s r, loopL (f_i_glued_r0 by1 t8 t9) s = some r → LS Try.prog f_i_glued_F (bodyOf Try.f51 0) (f_i_glued_fr0 by1 t8 t9 s) (enX (f_i_glued_x0_1 by1 t8 t9) (f_i_glued_x0_2 by1 t8 t9) r) :=
  loop_true E0ok f_i_glued_Mt (noL_true) f_i_glued_o (fun _ h => by cases h) (fun _ h => by cases h) (fun s => (f_i_glued_e0 by1 t8 t9 s).trans (f_i_glued_p0 by1 t8 t9 s _ _ (fun e => some (f_i_glued_x0_2 by1 t8 t9 e))))
def f_i_glued_t0 (σ : List AV) : Option (Bool × Bool × (X × List AV) × (X × List AV)) := match dec f_i_glued_h0 σ with
  | some [.s by1, .s s5, .l t8, .i t9, .i t10] => some (isOne (loopL (f_i_glued_r0 by1 t8 t9) (s5, t10)), true, f_i_glued_x0_1 by1 t8 t9 (getOne ByteArray.empty (loopL (f_i_glued_r0 by1 t8 t9) (s5, t10))), (.ret, []))
  | _ => none
theorem f_i_glued_tt0 : TTrue Try.prog f_i_glued_F Try.f51 0 (f_i_glued_t0) := by
  intro σ p r r' h
  unfold f_i_glued_t0 at h
  split at h
  · rename_i hd
    rw [← dec_enc hd]
    exact row1 (f_i_glued_l0 _ _ _ _) h
  · cases h
theorem f_i_glued_p {R : Type} (l0 : List Sc) (by1 : ByteArray) (kR : ByteArray → Option R) : f_i_glued_k l0 by1 kR = (f_i_glued_k l0 by1 some).bind kR := by
  simp only [f_i_glued_k, bl1B, someB]
theorem f_i_glued_e (l0 : List Sc) (by1 : ByteArray) : runFn E0 f_i_glued_M H0 f_i_glued_F (asL (addL 0 (f_i_glued_t0) (noL))) Try.f51 (f_i_glued_a l0 by1) (f_i_glued_i l0 by1) = f_i_glued_k l0 by1 (fun r => some (f_i_glued_en r)) := by kernel_rfl
theorem f_i_glued_ok (l0 : List Sc) (by1 : ByteArray) (r : ByteArray) (h : f_i_glued l0 by1 = some r) : CS Try.prog 51 (f_i_glued_a l0 by1) (f_i_glued_i l0 by1) (f_i_glued_en r).1 (f_i_glued_en r).2 :=
  fn_true (Gk := fun k => f_i_glued_k l0 by1 k) (en := f_i_glued_en) Try.func51 E0ok f_i_glued_Mt (addL_true (f_i_glued_tt0) (noL_true)) f_i_glued_o (f_i_glued_e l0 by1) (f_i_glued_p l0 by1) h
def f_i_glued_c : CRow := fun args inh => match dec2 [.p .sl, .p .str] [] args inh with
  | some ([.l l0, .s by1], []) => some ((f_i_glued l0 by1).isSome, (f_i_glued_en ((f_i_glued l0 by1).getD ByteArray.empty)).1, (f_i_glued_en ((f_i_glued l0 by1).getD ByteArray.empty)).2)
  | _ => none
theorem f_i_glued_cc : CTrue Try.prog 51 f_i_glued_c := by
  intro args inh rs out h
  unfold f_i_glued_c at h
  split at h
  · rename_i hd
    obtain ⟨h1, h2⟩ := dec2_enc hd
    rw [← h1, ← h2]
    exact rowC (f_i_glued_ok _ _) h
  · cases h

def f_i_FormatSequence_F : Fi := { nv := 0, nc := 0, m := 0, vt := [], kl := [(0, ([0, 2, 3, 4, 6, 7, 8, 9, 10, 11, 12, 13, 14, 15, 16, 17, 21, 22, 23, 24, 25, 26, 27, 28, 29, 30, 31, 32, 33, 34, 35, 36, 37, 38, 39, 40, 41, 42, 43, 44, 45, 46, 47, 48, 49, 50, 51, 52, 53, 54], [0, 2, 3, 4, 6, 7, 8, 9, 10, 11, 12, 13, 14, 15, 16, 17, 21, 22, 23, 24, 25, 26, 27, 28, 29, 30, 31, 32, 33, 34, 35, 36, 37, 38, 39, 40, 41, 42, 43, 44, 45, 46, 47, 48, 49, 50, 51, 52, 53, 54], [0, 1, 2, 3, 5, 6, 7, 8, 9, 10, 11, 12, 13, 14, 15, 16, 17, 18, 19, 20, 21, 22, 23, 24, 25, 26, 27, 28, 29, 30, 31, 32, 33, 34, 35, 36, 37, 38, 39, 40, 41, 42, 43, 44, 45, 46, 47, 48, 49, 50, 51, 52, 53, 54]))], sk := [], mvs := [], fz := [] }
def f_i_FormatSequence_a (g0 : List Sc) (l1 : List Sc) : List AV := enc [.p .gr, .p .sl] [.l g0, .l l1]
def f_i_FormatSequence_i (g0 : List Sc) (l1 : List Sc) : List AV := enc [] []
def f_i_FormatSequence_en (r : ByteArray) : List AV × List AV := (enc [.p .str] [.s r], enc [] [])
def f_i_FormatSequence_M : Calling := addC 48 f_i_IsSequence_c (addC 49 f_i_FormatInt_c (addC 50 f_i_MultiplicityIn_c (addC 51 f_i_glued_c (noC))))
theorem f_i_FormatSequence_Mt : CallOk Try.prog (f_i_FormatSequence_M) := addC_true f_i_IsSequence_cc (addC_true f_i_FormatInt_cc (addC_true f_i_MultiplicityIn_cc (addC_true f_i_glued_cc (noC_true))))
theorem f_i_FormatSequence_o : loopsOnce Try.f18 = true := by kernel_rfl
def f_i_FormatSequence_h0 : List Sh := [.u, .p .sl, .u, .u, .u, .own 9, .u, .u, .u, .u, .u, .u, .u, .u, .u, .u, .u, .u, .p .sl, .p (.int .i64), .p (.int .i64), .u, .u, .u, .u, .u, .u, .u, .u, .u, .u, .u, .u, .u, .u, .u, .u, .u, .u, .u, .u, .u, .u, .u, .u, .u, .u, .u, .u, .u, .u, .u, .u, .u, .u]
def f_i_FormatSequence_fr0 (l1 : List Sc) (t18 : List Sc) (t19 : Int) (s : List Sc × Int) : List AV := enc f_i_FormatSequence_h0 [.l l1, .l s.1, .l t18, .i t19, .i s.2]
def f_i_FormatSequence_g0_1 : List Sh := [.u, .p .sl, .u, .u, .u, .own 9, .u, .u, .u, .u, .u, .u, .u, .u, .u, .u, .u, .u, .p .sl, .p (.int .i64), .p (.int .i64), .u, .u, .u, .u, .u, .u, .u, .u, .u, .u, .u, .u, .u, .u, .u, .u, .u, .u, .u, .u, .u, .u, .u, .u, .u, .u, .u, .u, .u, .u, .u, .u, .u, .u]
def f_i_FormatSequence_x0_1 (l1 : List Sc) (t18 : List Sc) (t19 : Int) (e : List Sc × Int) : X × List AV := (.out 0, enc f_i_FormatSequence_g0_1 [.l l1, .l e.1, .l t18, .i t19, .i e.2])
def f_i_FormatSequence_x0_2 (l1 : List Sc) (t18 : List Sc) (t19 : Int) (_e : Unit) : X × List AV := (.ret, [])
theorem f_i_FormatSequence_p0 {R : Type} (l1 : List Sc) (t18 : List Sc) (t19 : Int) (s : List Sc × Int) (kN : List Sc × Int → Option R) (kA : List Sc × Int → Option R) (kB : Unit → Option R) : f_i_FormatSequence_k0 l1 t18 t19 s.1 s.2 kN kA = (f_i_FormatSequence_r0 l1 t18 t19 s).bind (Ro.el kN kA kB) := by
  simp only [f_i_FormatSequence_k0, f_i_FormatSequence_r0, brB, boB, someB, noneB, Ro.el]
theorem f_i_FormatSequence_e0 (l1 : List Sc) (t18 : List Sc) (t19 : Int) (s : List Sc × Int) : EC E0 f_i_FormatSequence_M H0 f_i_FormatSequence_F (asL (noL)) 0 (bodyOf Try.f18 0) (f_i_FormatSequence_fr0 l1 t18 t19 s) (done (klOf f_i_FormatSequence_F 0)) = f_i_FormatSequence_k0 l1 t18 t19 s.1 s.2 (fun s => some (.norm, f_i_FormatSequence_fr0 l1 t18 t19 s)) (fun e => some (f_i_FormatSequence_x0_1 l1 t18 t19 e)) := by kernel_rfl
theorem f_i_FormatSequence_l0 (l1 : List Sc) (t18 : List Sc) (t19 : Int) : ∀ s r, loopL (f_i_FormatSequence_r0 l1 t18 t19) s = some r → LS Try.prog f_i_FormatSequence_F (bodyOf Try.f18 0) (f_i_FormatSequence_fr0 l1 t18 t19 s) (enX (f_i_FormatSequence_x0_1 l1 t18 t19) (f_i_FormatSequence_x0_2 l1 t18 t19) r) :=
  loop_true E0ok f_i_FormatSequence_Mt (noL_true) f_i_FormatSequence_o (fun _ h => by cases h) (fun _ h => by cases h) (fun s => (f_i_FormatSequence_e0 l1 t18 t19 s).trans (f_i_FormatSequence_p0 l1 t18 t19 s _ _ (fun e => some (f_i_FormatSequence_x0_2 l1 t18 t19 e))))
def f_i_FormatSequence_t0 (σ : List AV) : Option (Bool × Bool × (X × List AV) × (X × List AV)) := match dec f_i_FormatSequence_h0 σ with
  | some [.l l1, .l out5, .l t18, .i t19, .i t20] => some (isOne (loopL (f_i_FormatSequence_r0 l1 t18 t19) (out5, t20)), true, f_i_FormatSequence_x0_1 l1 t18 t19 (getOne ([], 0) (loopL (f_i_FormatSequence_r0 l1 t18 t19) (out5, t20))), (.ret, []))
  | _ => none
theorem f_i_FormatSequence_tt0 : TTrue Try.prog f_i_FormatSequence_F Try.f18 0 (f_i_FormatSequence_t0) := by
  intro σ p r r' h
  unfold f_i_FormatSequence_t0 at h
  split at h
  · rename_i hd
    rw [← dec_enc hd]
    exact row1 (f_i_FormatSequence_l0 _ _ _ _) h
  · cases h
theorem f_i_FormatSequence_p {R : Type} (g0 : List Sc) (l1 : List Sc) (kR : ByteArray → Option R) : f_i_FormatSequence_k g0 l1 kR = (f_i_FormatSequence_k g0 l1 some).bind kR := by
  simp only [f_i_FormatSequence_k, brB, boB, bl1B, someB]
theorem f_i_FormatSequence_e (g0 : List Sc) (l1 : List Sc) : runFn E0 f_i_FormatSequence_M H0 f_i_FormatSequence_F (asL (addL 0 (f_i_FormatSequence_t0) (noL))) Try.f18 (f_i_FormatSequence_a g0 l1) (f_i_FormatSequence_i g0 l1) = f_i_FormatSequence_k g0 l1 (fun r => some (f_i_FormatSequence_en r)) := by kernel_rfl
theorem f_i_FormatSequence_ok (g0 : List Sc) (l1 : List Sc) (r : ByteArray) (h : f_i_FormatSequence g0 l1 = some r) : CS Try.prog 18 (f_i_FormatSequence_a g0 l1) (f_i_FormatSequence_i g0 l1) (f_i_FormatSequence_en r).1 (f_i_FormatSequence_en r).2 :=
  fn_true (Gk := fun k => f_i_FormatSequence_k g0 l1 k) (en := f_i_FormatSequence_en) Try.func18 E0ok f_i_FormatSequence_Mt (addL_true (f_i_FormatSequence_tt0) (noL_true)) f_i_FormatSequence_o (f_i_FormatSequence_e g0 l1) (f_i_FormatSequence_p g0 l1) h
def f_i_FormatSequence_c : CRow := fun args inh => match dec2 [.p .gr, .p .sl] [] args inh with
  | some ([.l g0, .l l1], []) => some ((f_i_FormatSequence g0 l1).isSome, (f_i_FormatSequence_en ((f_i_FormatSequence g0 l1).getD ByteArray.empty)).1, (f_i_FormatSequence_en ((f_i_FormatSequence g0 l1).getD ByteArray.empty)).2)
  | _ => none
theorem f_i_FormatSequence_cc : CTrue Try.prog 18 f_i_FormatSequence_c := by
  intro args inh rs out h
  unfold f_i_FormatSequence_c at h
  split at h
  · rename_i hd
    obtain ⟨h1, h2⟩ := dec2_enc hd
    rw [← h1, ← h2]
    exact rowC (f_i_FormatSequence_ok _ _) h
  · cases h

def f_l_eqIntS_F : Fi := { nv := 0, nc := 0, m := 0, vt := [], kl := [(0, ([2, 3, 4, 6, 7, 8, 9, 10, 11, 12, 13, 14, 15, 16, 17, 18, 19, 20, 21, 22, 23, 24, 25], [0, 1, 2, 3, 4, 5, 6, 7, 8, 9, 10, 11, 12, 13, 14, 15, 16, 17, 18, 19, 20, 21, 22, 23, 24, 25], [0, 1, 2, 3, 5, 6, 7, 8, 9, 10, 11, 12, 13, 14, 15, 16, 17, 18, 19, 20, 21, 22, 23, 24, 25]))], sk := [], mvs := [], fz := [] }
def f_l_eqIntS_a (a0 : List Sc) (b1 : List Sc) : List AV := enc [.p .sl, .p .sl] [.l a0, .l b1]
def f_l_eqIntS_i (a0 : List Sc) (b1 : List Sc) : List AV := enc [] []
def f_l_eqIntS_en (r : Bool) : List AV × List AV := (enc [.p .boo] [.b r], enc [] [])
def f_l_eqIntS_M : Calling := noC
theorem f_l_eqIntS_Mt : CallOk Try.prog (f_l_eqIntS_M) := noC_true
theorem f_l_eqIntS_o : loopsOnce Try.f20 = true := by kernel_rfl
def f_l_eqIntS_h0 : List Sh := [.p .sl, .p .sl, .u, .u, .u, .p (.int .i64), .u, .u, .u, .u, .u, .u, .u, .u, .u, .u, .u, .u, .u, .u, .u, .u, .u, .u, .u, .u]
def f_l_eqIntS_fr0 (a0 : List Sc) (b1 : List Sc) (s : Int) : List AV := enc f_l_eqIntS_h0 [.l a0, .l b1, .i s]
def f_l_eqIntS_g0_1 : List Sh := [.u, .u, .u, .u, .u, .u, .u, .u, .u, .u, .u, .u, .u, .u, .u, .u, .u, .u, .u, .u, .u, .u, .u, .u, .u, .u]
def f_l_eqIntS_x0_1 (a0 : List Sc) (b1 : List Sc) (e : Unit) : X × List AV := (.out 0, enc f_l_eqIntS_g0_1 [])
def f_l_eqIntS_g0_2 : List Sh := [.u, .u, .u, .u, .p .boo, .u, .u, .u, .u, .u, .u, .u, .u, .u, .u, .u, .u, .u, .u, .u, .u, .u, .u, .u, .u, .u]
def f_l_eqIntS_x0_2 (a0 : List Sc) (b1 : List Sc) (e : Unit) : X × List AV := (.ret, enc f_l_eqIntS_g0_2 [.b false])
theorem f_l_eqIntS_p0 {R : Type} (a0 : List Sc) (b1 : List Sc) (s : Int) (kN : Int → Option R) (kA : Unit → Option R) (kB : Unit → Option R) : f_l_eqIntS_k0 a0 b1 s kN kA kB = (f_l_eqIntS_r0 a0 b1 s).bind (Ro.el kN kA kB) := by
  simp only [f_l_eqIntS_k0, f_l_eqIntS_r0, brB, someB, noneB, Ro.el]
theorem f_l_eqIntS_e0 (a0 : List Sc) (b1 : List Sc) (s : Int) : EC E0 f_l_eqIntS_M H0 f_l_eqIntS_F (asL (noL)) 0 (bodyOf Try.f20 0) (f_l_eqIntS_fr0 a0 b1 s) (done (klOf f_l_eqIntS_F 0)) = f_l_eqIntS_k0 a0 b1 s (fun s => some (.norm, f_l_eqIntS_fr0 a0 b1 s)) (fun e => some (f_l_eqIntS_x0_1 a0 b1 e)) (fun e => some (f_l_eqIntS_x0_2 a0 b1 e)) := by kernel_rfl
theorem f_l_eqIntS_l0 (a0 : List Sc) (b1 : List Sc) : ∀ s r, loopL (f_l_eqIntS_r0 a0 b1) s = some r → LS Try.prog f_l_eqIntS_F (bodyOf Try.f20 0) (f_l_eqIntS_fr0 a0 b1 s) (enX (f_l_eqIntS_x0_1 a0 b1) (f_l_eqIntS_x0_2 a0 b1) r) :=
  loop_true E0ok f_l_eqIntS_Mt (noL_true) f_l_eqIntS_o (fun _ h => by cases h) (fun _ h => by cases h) (fun s => (f_l_eqIntS_e0 a0 b1 s).trans (f_l_eqIntS_p0 a0 b1 s _ _ (fun e => some (f_l_eqIntS_x0_2 a0 b1 e))))
def f_l_eqIntS_t0 (σ : List AV) : Option (Bool × Bool × (X × List AV) × (X × List AV)) := match dec f_l_eqIntS_h0 σ with
  | some [.l a0, .l b1, .i i5] => some ((loopL (f_l_eqIntS_r0 a0 b1) i5).isSome, isOne (loopL (f_l_eqIntS_r0 a0 b1) i5), f_l_eqIntS_x0_1 a0 b1 (getOne () (loopL (f_l_eqIntS_r0 a0 b1) i5)), f_l_eqIntS_x0_2 a0 b1 (getTwo () (loopL (f_l_eqIntS_r0 a0 b1) i5)))
  | _ => none
theorem f_l_eqIntS_tt0 : TTrue Try.prog f_l_eqIntS_F Try.f20 0 (f_l_eqIntS_t0) := by
  intro σ p r r' h
  unfold f_l_eqIntS_t0 at h
  split at h
  · rename_i hd
    rw [← dec_enc hd]
    exact row2 (f_l_eqIntS_l0 _ _ _) h
  · cases h
theorem f_l_eqIntS_p {R : Type} (a0 : List Sc) (b1 : List Sc) (kR : Bool → Option R) : f_l_eqIntS_k a0 b1 kR = (f_l_eqIntS_k a0 b1 some).bind kR := by
  simp only [f_l_eqIntS_k, brB, blB, someB]
theorem f_l_eqIntS_e (a0 : List Sc) (b1 : List Sc) : runFn E0 f_l_eqIntS_M H0 f_l_eqIntS_F (asL (addL 0 (f_l_eqIntS_t0) (noL))) Try.f20 (f_l_eqIntS_a a0 b1) (f_l_eqIntS_i a0 b1) = f_l_eqIntS_k a0 b1 (fun r => some (f_l_eqIntS_en r)) := by kernel_rfl
theorem f_l_eqIntS_ok (a0 : List Sc) (b1 : List Sc) (r : Bool) (h : f_l_eqIntS a0 b1 = some r) : CS Try.prog 20 (f_l_eqIntS_a a0 b1) (f_l_eqIntS_i a0 b1) (f_l_eqIntS_en r).1 (f_l_eqIntS_en r).2 :=
  fn_true (Gk := fun k => f_l_eqIntS_k a0 b1 k) (en := f_l_eqIntS_en) Try.func20 E0ok f_l_eqIntS_Mt (addL_true (f_l_eqIntS_tt0) (noL_true)) f_l_eqIntS_o (f_l_eqIntS_e a0 b1) (f_l_eqIntS_p a0 b1) h
def f_l_eqIntS_c : CRow := fun args inh => match dec2 [.p .sl, .p .sl] [] args inh with
  | some ([.l a0, .l b1], []) => some ((f_l_eqIntS a0 b1).isSome, (f_l_eqIntS_en ((f_l_eqIntS a0 b1).getD false)).1, (f_l_eqIntS_en ((f_l_eqIntS a0 b1).getD false)).2)
  | _ => none
theorem f_l_eqIntS_cc : CTrue Try.prog 20 f_l_eqIntS_c := by
  intro args inh rs out h
  unfold f_l_eqIntS_c at h
  split at h
  · rename_i hd
    obtain ⟨h1, h2⟩ := dec2_enc hd
    rw [← h1, ← h2]
    exact rowC (f_l_eqIntS_ok _ _) h
  · cases h

def f_l_eqGroup_F : Fi := { nv := 0, nc := 0, m := 0, vt := [], kl := [], sk := [], mvs := [], fz := [] }
def f_l_eqGroup_a (a0 : List Sc) (b1 : List Sc) : List AV := enc [.p .gr, .p .gr] [.l a0, .l b1]
def f_l_eqGroup_i (a0 : List Sc) (b1 : List Sc) : List AV := enc [] []
def f_l_eqGroup_en (r : Bool) : List AV × List AV := (enc [.p .boo] [.b r], enc [] [])
def f_l_eqGroup_M : Calling := addC 20 f_l_eqIntS_c (noC)
theorem f_l_eqGroup_Mt : CallOk Try.prog (f_l_eqGroup_M) := addC_true f_l_eqIntS_cc (noC_true)
theorem f_l_eqGroup_o : loopsOnce Try.f19 = true := by kernel_rfl
theorem f_l_eqGroup_p {R : Type} (a0 : List Sc) (b1 : List Sc) (kR : Bool → Option R) : f_l_eqGroup_k a0 b1 kR = (f_l_eqGroup_k a0 b1 some).bind kR := by
  simp only [f_l_eqGroup_k, brB, boB, someB]
theorem f_l_eqGroup_e (a0 : List Sc) (b1 : List Sc) : runFn E0 f_l_eqGroup_M H0 f_l_eqGroup_F (asL (noL)) Try.f19 (f_l_eqGroup_a a0 b1) (f_l_eqGroup_i a0 b1) = f_l_eqGroup_k a0 b1 (fun r => some (f_l_eqGroup_en r)) := by kernel_rfl
theorem f_l_eqGroup_ok (a0 : List Sc) (b1 : List Sc) (r : Bool) (h : f_l_eqGroup a0 b1 = some r) : CS Try.prog 19 (f_l_eqGroup_a a0 b1) (f_l_eqGroup_i a0 b1) (f_l_eqGroup_en r).1 (f_l_eqGroup_en r).2 :=
  fn_true (Gk := fun k => f_l_eqGroup_k a0 b1 k) (en := f_l_eqGroup_en) Try.func19 E0ok f_l_eqGroup_Mt (noL_true) f_l_eqGroup_o (f_l_eqGroup_e a0 b1) (f_l_eqGroup_p a0 b1) h
def f_l_eqGroup_c : CRow := fun args inh => match dec2 [.p .gr, .p .gr] [] args inh with
  | some ([.l a0, .l b1], []) => some ((f_l_eqGroup a0 b1).isSome, (f_l_eqGroup_en ((f_l_eqGroup a0 b1).getD false)).1, (f_l_eqGroup_en ((f_l_eqGroup a0 b1).getD false)).2)
  | _ => none
theorem f_l_eqGroup_cc : CTrue Try.prog 19 f_l_eqGroup_c := by
  intro args inh rs out h
  unfold f_l_eqGroup_c at h
  split at h
  · rename_i hd
    obtain ⟨h1, h2⟩ := dec2_enc hd
    rw [← h1, ← h2]
    exact rowC (f_l_eqGroup_ok _ _) h
  · cases h

def f_l_FnExactFormatSequence_F : Fi := { nv := 3, nc := 1, m := 0, vt := [(7, 0), (19, 1), (24, 2)], kl := [], sk := [], mvs := [1, 2], fz := [] }
def f_l_FnExactFormatSequence_a (aG0 : List Sc) (aL1 : List Sc) : List AV := enc [.p .gr, .p .sl] [.l aG0, .l aL1]
def f_l_FnExactFormatSequence_i (aG0 : List Sc) (aL1 : List Sc) : List AV := enc [] []
def f_l_FnExactFormatSequence_en (r : Bool) : List AV × List AV := (enc [.p .boo] [.b r], enc [] [])
def f_l_FnExactFormatSequence_M : Calling := addC 14 f_l_szGroup_c (addC 16 f_l_toGroup_c (addC 17 f_l_toIntS_c (addC 15 f_s_FormatSequence_c (addC 18 f_i_FormatSequence_c (addC 19 f_l_eqGroup_c (addC 20 f_l_eqIntS_c (noC)))))))
theorem f_l_FnExactFormatSequence_Mt : CallOk Try.prog (f_l_FnExactFormatSequence_M) := addC_true f_l_szGroup_cc (addC_true f_l_toGroup_cc (addC_true f_l_toIntS_cc (addC_true f_s_FormatSequence_cc (addC_true f_i_FormatSequence_cc (addC_true f_l_eqGroup_cc (addC_true f_l_eqIntS_cc (noC_true)))))))
theorem f_l_FnExactFormatSequence_o : loopsOnce Try.f3 = true := by kernel_rfl
theorem f_l_FnExactFormatSequence_p {R : Type} (aG0 : List Sc) (aL1 : List Sc) (kR : Bool → Option R) : f_l_FnExactFormatSequence_k aG0 aL1 kR = (f_l_FnExactFormatSequence_k aG0 aL1 some).bind kR := by
  simp only [f_l_FnExactFormatSequence_k, brB, boB, someB]
theorem f_l_FnExactFormatSequence_e (aG0 : List Sc) (aL1 : List Sc) : runFn E0 f_l_FnExactFormatSequence_M H0 f_l_FnExactFormatSequence_F (asL (noL)) Try.f3 (f_l_FnExactFormatSequence_a aG0 aL1) (f_l_FnExactFormatSequence_i aG0 aL1) = f_l_FnExactFormatSequence_k aG0 aL1 (fun r => some (f_l_FnExactFormatSequence_en r)) := by kernel_rfl
theorem f_l_FnExactFormatSequence_ok (aG0 : List Sc) (aL1 : List Sc) (r : Bool) (h : f_l_FnExactFormatSequence aG0 aL1 = some r) : CS Try.prog 3 (f_l_FnExactFormatSequence_a aG0 aL1) (f_l_FnExactFormatSequence_i aG0 aL1) (f_l_FnExactFormatSequence_en r).1 (f_l_FnExactFormatSequence_en r).2 :=
  fn_true (Gk := fun k => f_l_FnExactFormatSequence_k aG0 aL1 k) (en := f_l_FnExactFormatSequence_en) Try.func3 E0ok f_l_FnExactFormatSequence_Mt (noL_true) f_l_FnExactFormatSequence_o (f_l_FnExactFormatSequence_e aG0 aL1) (f_l_FnExactFormatSequence_p aG0 aL1) h
def f_l_FnExactFormatSequence_c : CRow := fun args inh => match dec2 [.p .gr, .p .sl] [] args inh with
  | some ([.l aG0, .l aL1], []) => some ((f_l_FnExactFormatSequence aG0 aL1).isSome, (f_l_FnExactFormatSequence_en ((f_l_FnExactFormatSequence aG0 aL1).getD false)).1, (f_l_FnExactFormatSequence_en ((f_l_FnExactFormatSequence aG0 aL1).getD false)).2)
  | _ => none
theorem f_l_FnExactFormatSequence_cc : CTrue Try.prog 3 f_l_FnExactFormatSequence_c := by
  intro args inh rs out h
  unfold f_l_FnExactFormatSequence_c at h
  split at h
  · rename_i hd
    obtain ⟨h1, h2⟩ := dec2_enc hd
    rw [← h1, ← h2]
    exact rowC (f_l_FnExactFormatSequence_ok _ _) h
  · cases h

def f_s_l16Sort_F : Fi := { nv := 0, nc := 0, m := 0, vt := [], kl := [(2, ([1, 2, 6, 7, 8, 9, 10, 11, 12, 13, 14, 15, 16, 17, 18, 19, 20, 21, 22, 23, 24, 25, 26, 27, 28, 29, 30, 31, 32, 33, 34, 35, 36, 37, 38, 39, 40, 41, 42, 43, 44, 45, 46], [1, 2, 6, 7, 8, 9, 10, 11, 12, 13, 14, 15, 16, 17, 18, 19, 20, 21, 22, 23, 24, 25, 26, 27, 28, 29, 30, 31, 32, 33, 34, 35, 36, 37, 38, 39, 40, 41, 42, 43, 44, 45, 46], [0, 1, 3, 4, 5, 6, 7, 8, 9, 10, 11, 12, 13, 14, 15, 16, 17, 18, 19, 20, 21, 22, 23, 24, 25, 26, 27, 28, 29, 30, 31, 32, 33, 34, 35, 36, 37, 38, 39, 40, 41, 42, 43, 44, 45, 46])), (0, ([1, 2, 5, 6, 7, 8, 9, 10, 11, 12, 13, 14, 15, 16, 17, 18, 19, 20, 21, 22, 23, 24, 25, 26, 27, 28, 29, 30, 31, 32, 33, 34, 35, 36, 37, 38, 39, 40, 41, 42, 43, 44, 45, 46], [1, 2, 6, 7, 8, 9, 10, 11, 12, 13, 14, 15, 16, 17, 18, 19, 20, 21, 22, 23, 24, 25, 26, 27, 28, 29, 30, 31, 32, 33, 34, 35, 36, 37, 38, 39, 40, 41, 42, 43, 44, 45, 46], [0, 1, 3, 4, 5, 6, 7, 8, 9, 10, 11, 12, 13, 14, 15, 16, 17, 18, 19, 20, 21, 22, 23, 24, 25, 26, 27, 28, 29, 30, 31, 32, 33, 34, 35, 36, 37, 38, 39, 40, 41, 42, 43, 44, 45, 46]))], sk := [], mvs := [], fz := [], fa := [3] }
def f_s_l16Sort_a (l0 : List Sc) : List AV := enc [.p .sl] [.l l0]
def f_s_l16Sort_i (l0 : List Sc) : List AV := enc [] []
def f_s_l16Sort_en (r : List Sc) : List AV × List AV := (enc [.p (.al 0)] [], enc [.own 3] [.l r])
def f_s_l16Sort_M : Calling := noC
theorem f_s_l16Sort_Mt : CallOk Try.prog (f_s_l16Sort_M) := noC_true
theorem f_s_l16Sort_o : loopsOnce Try.f85 = true := by kernel_rfl
def f_s_l16Sort_h2 : List Sh := [.p .sl, .u, .u, .fr 3, .p (.int .i64), .p (.int .i64), .u, .u, .u, .u, .u, .u, .u, .u, .u, .u, .u, .u, .u, .u, .u, .u, .u, .u, .u, .u, .u, .u, .u, .u, .u, .u, .u, .u, .u, .u, .u, .u, .u, .u, .u, .u, .u, .u, .u, .u, .u]
def f_s_l16Sort_fr2 (l0 : List Sc) (out3 : List Sc) (i4 : Int) (s : Int) : List AV := enc f_s_l16Sort_h2 [.l l0, .l out3, .i i4, .i s]
def f_s_l16Sort_g2_1 : List Sh := [.p .sl, .u, .u, .fr 3, .p (.int .i64), .p (.int .i64), .u, .u, .u, .u, .u, .u, .u, .u, .u, .u, .u, .u, .u, .u, .u, .u, .u, .u, .u, .u, .u, .u, .u, .u, .u, .u, .u, .u, .u, .u, .u, .u, .u, .u, .u, .u, .u, .u, .u, .u, .u]
def f_s_l16Sort_x2_1 (l0 : List Sc) (out3 : List Sc) (i4 : Int) (e : Int) : X × List AV := (.out 2, enc f_s_l16Sort_g2_1 [.l l0, .l out3, .i i4, .i e])
def f_s_l16Sort_x2_2 (l0 : List Sc) (out3 : List Sc) (i4 : Int) (_e : Unit) : X × List AV := (.ret, [])
theorem f_s_l16Sort_p2 {R : Type} (l0 : List Sc) (out3 : List Sc) (i4 : Int) (s : Int) (kN : Int → Option R) (kA : Int → Option R) (kB : Unit → Option R) : f_s_l16Sort_k2 l0 out3 i4 s kN kA = (f_s_l16Sort_r2 l0 out3 i4 s).bind (Ro.el kN kA kB) := by
  simp only [f_s_l16Sort_k2, f_s_l16Sort_r2, brB, someB, noneB, Ro.el]
theorem f_s_l16Sort_e2 (l0 : List Sc) (out3 : List Sc) (i4 : Int) (s : Int) : EC E0 f_s_l16Sort_M H0 f_s_l16Sort_F (asL (noL)) 2 (bodyOf Try.f85 2) (f_s_l16Sort_fr2 l0 out3 i4 s) (done (klOf f_s_l16Sort_F 2)) = f_s_l16Sort_k2 l0 out3 i4 s (fun s => some (.norm, f_s_l16Sort_fr2 l0 out3 i4 s)) (fun e => some (f_s_l16Sort_x2_1 l0 out3 i4 e)) := by kernel_rfl
theorem f_s_l16Sort_l2 (l0 : List Sc) (out3 : List Sc) (i4 : Int) : ∀ s r, loopL (f_s_l16Sort_r2 l0 out3 i4) s = some r → LS Try.prog f_s_l16Sort_F (bodyOf Try.f85 2) (f_s_l16Sort_fr2 l0 out3 i4 s) (enX (f_s_l16Sort_x2_1 l0 out3 i4) (f_s_l16Sort_x2_2 l0 out3 i4) r) :=
  loop_true E0ok f_s_l16Sort_Mt (noL_true) f_s_l16Sort_o (fun _ h => by cases h) (fun _ h => by cases h) (fun s => (f_s_l16Sort_e2 l0 out3 i4 s).trans (f_s_l16Sort_p2 l0 out3 i4 s _ _ (fun e => some (f_s_l16Sort_x2_2 l0 out3 i4 e))))
def f_s_l16Sort_t2 (σ : List AV) : Option (Bool × Bool × (X × List AV) × (X × List AV)) := match dec f_s_l16Sort_h2 σ with
  | some [.l l0, .l out3, .i i4, .i k5] => some (isOne (loopL (f_s_l16Sort_r2 l0 out3 i4) k5), true, f_s_l16Sort_x2_1 l0 out3 i4 (getOne 0 (loopL (f_s_l16Sort_r2 l0 out3 i4) k5)), (.ret, []))
  | _ => none
theorem f_s_l16Sort_tt2 : TTrue Try.prog f_s_l16Sort_F Try.f85 2 (f_s_l16Sort_t2) := by
  intro σ p r r' h
  unfold f_s_l16Sort_t2 at h
  split at h
  · rename_i hd
    rw [← dec_enc hd]
    exact row1 (f_s_l16Sort_l2 _ _ _ _) h
  · cases h
def f_s_l16Sort_h0 : List Sh := [.p .sl, .u, .u, .fr 3, .p (.int .i64), .u, .u, .u, .u, .u, .u, .u, .u, .u, .u, .u, .u, .u, .u, .u, .u, .u, .u, .u, .u, .u, .u, .u, .u, .u, .u, .u, .u, .u, .u, .u, .u, .u, .u, .u, .u, .u, .u, .u, .u, .u, .u]
def f_s_l16Sort_fr0 (l0 : List Sc) (s : List Sc × Int) : List AV := enc f_s_l16Sort_h0 [.l l0, .l s.1, .i s.2]
def f_s_l16Sort_g0_1 : List Sh := [.p .sl, .u, .u, .fr 3, .p (.int .i64), .u, .u, .u, .u, .u, .u, .u, .u, .u, .u, .u, .u, .u, .u, .u, .u, .u, .u, .u, .u, .u, .u, .u, .u, .u, .u, .u, .u, .u, .u, .u, .u, .u, .u, .u, .u, .u, .u, .u, .u, .u, .u]
def f_s_l16Sort_x0_1 (l0 : List Sc) (e : List Sc × Int) : X × List AV := (.out 0, enc f_s_l16Sort_g0_1 [.l l0, .l e.1, .i e.2])
def f_s_l16Sort_x0_2 (l0 : List Sc) (_e : Unit) : X × List AV := (.ret, [])
theorem f_s_l16Sort_p0 {R : Type} (l0 : List Sc) (s : List Sc × Int) (kN : List Sc × Int → Option R) (kA : List Sc × Int → Option R) (kB : Unit → Option R) : f_s_l16Sort_k0 l0 s.1 s.2 kN kA = (f_s_l16Sort_r0 l0 s).bind (Ro.el kN kA kB) := by
  simp only [f_s_l16Sort_k0, f_s_l16Sort_r0, brB, bl1B, someB, noneB, Ro.el]
theorem f_s_l16Sort_e0 (l0 : List Sc) (s : List Sc × Int) : EC E0 f_s_l16Sort_M H0 f_s_l16Sort_F (asL (addL 2 (f_s_l16Sort_t2) (noL))) 0 (bodyOf Try.f85 0) (f_s_l16Sort_fr0 l0 s) (done (klOf f_s_l16Sort_F 0)) = f_s_l16Sort_k0 l0 s.1 s.2 (fun s => some (.norm, f_s_l16Sort_fr0 l0 s)) (fun e => some (f_s_l16Sort_x0_1 l0 e)) := by kernel_rfl
theorem f_s_l16Sort_l0 (l0 : List Sc) : ∀ s r, loopL (f_s_l16Sort_r0 l0) s = some r → LS Try.prog f_s_l16Sort_F (bodyOf Try.f85 0) (f_s_l16Sort_fr0 l0 s) (enX (f_s_l16Sort_x0_1 l0) (f_s_l16Sort_x0_2 l0) r) :=
  loop_true E0ok f_s_l16Sort_Mt (addL_true (f_s_l16Sort_tt2) (noL_true)) f_s_l16Sort_o (fun _ h => by cases h) (fun _ h => by cases h) (fun s => (f_s_l16Sort_e0 l0 s).trans (f_s_l16Sort_p0 l0 s _ _ (fun e => some (f_s_l16Sort_x0_2 l0 e))))
def f_s_l16Sort_t0 (σ : List AV) : Option (Bool × Bool × (X × List AV) × (X × List AV)) := match dec f_s_l16Sort_h0 σ with
  | some [.l l0, .l out3, .i i4] => some (isOne (loopL (f_s_l16Sort_r0 l0) (out3, i4)), true, f_s_l16Sort_x0_1 l0 (getOne ([], 0) (loopL (f_s_l16Sort_r0 l0) (out3, i4))), (.ret, []))
  | _ => none
theorem f_s_l16Sort_tt0 : TTrue Try.prog f_s_l16Sort_F Try.f85 0 (f_s_l16Sort_t0) := by
  intro σ p r r' h
  unfold f_s_l16Sort_t0 at h
  split at h
  · rename_i hd
    rw [← dec_enc hd]
    exact row1 (f_s_l16Sort_l0 _ _) h
  · cases h
theorem f_s_l16Sort_p {R : Type} (l0 : List Sc) (kR : List Sc → Option R) : f_s_l16Sort_k l0 kR = (f_s_l16Sort_k l0 some).bind kR := by
  simp only [f_s_l16Sort_k, bl1B, someB]
theorem f_s_l16Sort_e (l0 : List Sc) : runFn E0 f_s_l16Sort_M H0 f_s_l16Sort_F (asL (addL 0 (f_s_l16Sort_t0) (addL 2 (f_s_l16Sort_t2) (noL)))) Try.f85 (f_s_l16Sort_a l0) (f_s_l16Sort_i l0) = f_s_l16Sort_k l0 (fun r => some (f_s_l16Sort_en r)) := by kernel_rfl
theorem f_s_l16Sort_ok (l0 : List Sc) (r : List Sc) (h : f_s_l16Sort l0 = some r) : CS Try.prog 85 (f_s_l16Sort_a l0) (f_s_l16Sort_i l0) (f_s_l16Sort_en r).1 (f_s_l16Sort_en r).2 :=
  fn_true (Gk := fun k => f_s_l16Sort_k l0 k) (en := f_s_l16Sort_en) Try.func85 E0ok f_s_l16Sort_Mt (addL_true (f_s_l16Sort_tt0) (addL_true (f_s_l16Sort_tt2) (noL_true))) f_s_l16Sort_o (f_s_l16Sort_e l0) (f_s_l16Sort_p l0) h
def f_s_l16Sort_c : CRow := fun args inh => match dec2 [.p .sl] [] args inh with
  | some ([.l l0], []) => some ((f_s_l16Sort l0).isSome, (f_s_l16Sort_en ((f_s_l16Sort l0).getD [])).1, (f_s_l16Sort_en ((f_s_l16Sort l0).getD [])).2)
  | _ => none
theorem f_s_l16Sort_cc : CTrue Try.prog 85 f_s_l16Sort_c := by
  intro args inh rs out h
  unfold f_s_l16Sort_c at h
  split at h
  · rename_i hd
    obtain ⟨h1, h2⟩ := dec2_enc hd
    rw [← h1, ← h2]
    exact rowC (f_s_l16Sort_ok _) h
  · cases h

def f_s_SortSequence_F : Fi := { nv := 0, nc := 0, m := 0, vt := [], kl := [], sk := [], mvs := [], fz := [] }
def f_s_SortSequence_a (g0 : List Sc) (l1 : List Sc) : List AV := enc [.p .gr, .p .sl] [.l g0, .l l1]
def f_s_SortSequence_i (g0 : List Sc) (l1 : List Sc) : List AV := enc [] []
def f_s_SortSequence_en (r : List Sc × Bool) : List AV × List AV := (enc [.p (.al 0), .p .boo] [.b r.2], enc [.own 3] [.l r.1])
def f_s_SortSequence_M : Calling := addC 85 f_s_l16Sort_c (addC 45 f_s_IsSequence_c (noC))
theorem f_s_SortSequence_Mt : CallOk Try.prog (f_s_SortSequence_M) := addC_true f_s_l16Sort_cc (addC_true f_s_IsSequence_cc (noC_true))
theorem f_s_SortSequence_o : loopsOnce Try.f42 = true := by kernel_rfl
theorem f_s_SortSequence_p {R : Type} (g0 : List Sc) (l1 : List Sc) (kR : List Sc × Bool → Option R) : f_s_SortSequence_k g0 l1 kR = (f_s_SortSequence_k g0 l1 some).bind kR := by
  simp only [f_s_SortSequence_k, brB, boB, someB]
theorem f_s_SortSequence_e (g0 : List Sc) (l1 : List Sc) : runFn E0 f_s_SortSequence_M H0 f_s_SortSequence_F (asL (noL)) Try.f42 (f_s_SortSequence_a g0 l1) (f_s_SortSequence_i g0 l1) = f_s_SortSequence_k g0 l1 (fun r => some (f_s_SortSequence_en r)) := by kernel_rfl
theorem f_s_SortSequence_ok (g0 : List Sc) (l1 : List Sc) (r : List Sc × Bool) (h : f_s_SortSequence g0 l1 = some r) : CS Try.prog 42 (f_s_SortSequence_a g0 l1) (f_s_SortSequence_i g0 l1) (f_s_SortSequence_en r).1 (f_s_SortSequence_en r).2 :=
  fn_true (Gk := fun k => f_s_SortSequence_k g0 l1 k) (en := f_s_SortSequence_en) Try.func42 E0ok f_s_SortSequence_Mt (noL_true) f_s_SortSequence_o (f_s_SortSequence_e g0 l1) (f_s_SortSequence_p g0 l1) h
def f_s_SortSequence_c : CRow := fun args inh => match dec2 [.p .gr, .p .sl] [] args inh with
  | some ([.l g0, .l l1], []) => some ((f_s_SortSequence g0 l1).isSome, (f_s_SortSequence_en ((f_s_SortSequence g0 l1).getD ([], false))).1, (f_s_SortSequence_en ((f_s_SortSequence g0 l1).getD ([], false))).2)
  | _ => none
theorem f_s_SortSequence_cc : CTrue Try.prog 42 f_s_SortSequence_c := by
  intro args inh rs out h
  unfold f_s_SortSequence_c at h
  split at h
  · rename_i hd
    obtain ⟨h1, h2⟩ := dec2_enc hd
    rw [← h1, ← h2]
    exact rowC (f_s_SortSequence_ok _ _) h
  · cases h

def f_i_copyInts_F : Fi := { nv := 0, nc := 0, m := 0, vt := [], kl := [], sk := [], mvs := [], fz := [] }
def f_i_copyInts_a (l0 : List Sc) : List AV := enc [.p .sl] [.l l0]
def f_i_copyInts_i (l0 : List Sc) : List AV := enc [] []
def f_i_copyInts_en (r : List Sc) : List AV × List AV := (enc [.p (.al 0)] [], enc [.own 3] [.l r])
def f_i_copyInts_M : Calling := noC
theorem f_i_copyInts_Mt : CallOk Try.prog (f_i_copyInts_M) := noC_true
theorem f_i_copyInts_o : loopsOnce Try.f86 = true := by kernel_rfl
theorem f_i_copyInts_p {R : Type} (l0 : List Sc) (kR : List Sc → Option R) : f_i_copyInts_k l0 kR = (f_i_copyInts_k l0 some).bind kR := by
  simp only [f_i_copyInts_k, brB, someB, noneB]
theorem f_i_copyInts_e (l0 : List Sc) : runFn E0 f_i_copyInts_M H0 f_i_copyInts_F (asL (noL)) Try.f86 (f_i_copyInts_a l0) (f_i_copyInts_i l0) = f_i_copyInts_k l0 (fun r => some (f_i_copyInts_en r)) := by kernel_rfl
theorem f_i_copyInts_ok (l0 : List Sc) (r : List Sc) (h : f_i_copyInts l0 = some r) : CS Try.prog 86 (f_i_copyInts_a l0) (f_i_copyInts_i l0) (f_i_copyInts_en r).1 (f_i_copyInts_en r).2 :=
  fn_true (Gk := fun k => f_i_copyInts_k l0 k) (en := f_i_copyInts_en) Try.func86 E0ok f_i_copyInts_Mt (noL_true) f_i_copyInts_o (f_i_copyInts_e l0) (f_i_copyInts_p l0) h
def f_i_copyInts_c : CRow := fun args inh => match dec2 [.p .sl] [] args inh with
  | some ([.l l0], []) => some ((f_i_copyInts l0).isSome, (f_i_copyInts_en ((f_i_copyInts l0).getD [])).1, (f_i_copyInts_en ((f_i_copyInts l0).getD [])).2)
  | _ => none
theorem f_i_copyInts_cc : CTrue Try.prog 86 f_i_copyInts_c := by
  intro args inh rs out h
  unfold f_i_copyInts_c at h
  split at h
  · rename_i hd
    obtain ⟨h1, h2⟩ := dec2_enc hd
    rw [← h1, ← h2]
    exact rowC (f_i_copyInts_ok _) h
  · cases h

def f_slices_Sort_a (h0 : List Sc) : List AV := enc [.p (.al 0)] []
def f_slices_Sort_i (h0 : List Sc) : List AV := enc [.own 3] [.l h0]
def f_slices_Sort_en (r : List Sc) : List AV × List AV := (enc [] [], enc [.own 3] [.l r])
theorem f_slices_Sort_ok (h0 : List Sc) (r : List Sc) (h : f_slices_Sort h0 = some r) : CS Try.prog 87 (f_slices_Sort_a h0) (f_slices_Sort_i h0) (f_slices_Sort_en r).1 (f_slices_Sort_en r).2 :=
  sort_CS (e := 3) ⟨_, Try.func87, by kernel_rfl⟩ Try.slices_Sort_int Try.slices_Sort_int_none h
def f_slices_Sort_c : CRow := fun args inh => match dec2 [.p (.al 0)] [.own 3] args inh with
  | some ([], [.l h0]) => some ((f_slices_Sort h0).isSome, (f_slices_Sort_en ((f_slices_Sort h0).getD [])).1, (f_slices_Sort_en ((f_slices_Sort h0).getD [])).2)
  | _ => none
theorem f_slices_Sort_cc : CTrue Try.prog 87 f_slices_Sort_c := by
  intro args inh rs out h
  unfold f_slices_Sort_c at h
  split at h
  · rename_i hd
    obtain ⟨h1, h2⟩ := dec2_enc hd
    rw [← h1, ← h2]
    exact rowC (f_slices_Sort_ok _) h
  · cases h

def f_i_SortSequence_F : Fi := { nv := 0, nc := 0, m := 0, vt := [], kl := [], sk := [], mvs := [], fz := [] }
def f_i_SortSequence_a (g0 : List Sc) (l1 : List Sc) : List AV := enc [.p .gr, .p .sl] [.l g0, .l l1]
def f_i_SortSequence_i (g0 : List Sc) (l1 : List Sc) : List AV := enc [] []
def f_i_SortSequence_en (r : List Sc × Bool) : List AV × List AV := (enc [.p (.al 0), .p .boo] [.b r.2], enc [.own 3] [.l r.1])
def f_i_SortSequence_M : Calling := addC 86 f_i_copyInts_c (addC 87 f_slices_Sort_c (addC 48 f_i_IsSequence_c (noC)))
theorem f_i_SortSequence_Mt : CallOk Try.prog (f_i_SortSequence_M) := addC_true f_i_copyInts_cc (addC_true f_slices_Sort_cc (addC_true f_i_IsSequence_cc (noC_true)))
theorem f_i_SortSequence_o : loopsOnce Try.f43 = true := by kernel_rfl
theorem f_i_SortSequence_p {R : Type} (g0 : List Sc) (l1 : List Sc) (kR : List Sc × Bool → Option R) : f_i_SortSequence_k g0 l1 kR = (f_i_SortSequence_k g0 l1 some).bind kR := by
  simp only [f_i_SortSequence_k, brB, boB, someB]
theorem f_i_SortSequence_e (g0 : List Sc) (l1 : List Sc) : runFn E0 f_i_SortSequence_M H0 f_i_SortSequence_F (asL (noL)) Try.f43 (f_i_SortSequence_a g0 l1) (f_i_SortSequence_i g0 l1) = f_i_SortSequence_k g0 l1 (fun r => some (f_i_SortSequence_en r)) := by kernel_rfl
theorem f_i_SortSequence_ok (g0 : List Sc) (l1 : List Sc) (r : List Sc × Bool) (h : f_i_SortSequence g0 l1 = some r) : CS Try.prog 43 (f_i_SortSequence_a g0 l1) (f_i_SortSequence_i g0 l1) (f_i_SortSequence_en r).1 (f_i_SortSequence_en r).2 :=
  fn_true (Gk := fun k => f_i_SortSequence_k g0 l1 k) (en := f_i_SortSequence_en) Try.func43 E0ok f_i_SortSequence_Mt (noL_true) f_i_SortSequence_o (f_i_SortSequence_e g0 l1) (f_i_SortSequence_p g0 l1) h
def f_i_SortSequence_c : CRow := fun args inh => match dec2 [.p .gr, .p .sl] [] args inh with
  | some ([.l g0, .l l1], []) => some ((f_i_SortSequence g0 l1).isSome, (f_i_SortSequence_en ((f_i_SortSequence g0 l1).getD ([], false))).1, (f_i_SortSequence_en ((f_i_SortSequence g0 l1).getD ([], false))).2)
  | _ => none
theorem f_i_SortSequence_cc : CTrue Try.prog 43 f_i_SortSequence_c := by
  intro args inh rs out h
  unfold f_i_SortSequence_c at h
  split at h
  · rename_i hd
    obtain ⟨h1, h2⟩ := dec2_enc hd
    rw [← h1, ← h2]
    exact rowC (f_i_SortSequence_ok _ _) h
  · cases h

def f_l_markIntS_io_F : Fi := { nv := 1, nc := 1, m := 1, vt := [], kl := [(0, ([3, 4, 5, 7, 8, 9, 10, 11, 12, 13, 14, 15, 16, 17, 18, 19], [1, 3, 4, 5, 6, 7, 8, 9, 10, 11, 12, 13, 14, 15, 16, 17, 18, 19], [1, 2, 3, 4, 6, 7, 8, 9, 10, 11, 12, 13, 14, 15, 16, 17, 18, 19]))], sk := [], mvs := [], fz := [] }
def f_l_markIntS_io_a (k1 : Int) (h0 : List Sc) : List AV := enc [.p (.al 0), .p (.int .i64)] [.i k1]
def f_l_markIntS_io_i (k1 : Int) (h0 : List Sc) : List AV := enc [.own 3] [.l h0]
def f_l_markIntS_io_en (r : Int × List Sc) : List AV × List AV := (enc [.p (.int .i64)] [.i r.1], enc [.own 3] [.l r.2])
def f_l_markIntS_io_M : Calling := noC
theorem f_l_markIntS_io_Mt : CallOk Try.prog (f_l_markIntS_io_M) := noC_true
theorem f_l_markIntS_io_o : loopsOnce Try.f30 = true := by kernel_rfl
def f_l_markIntS_io_h0 : List Sh := [.own 3, .p (.al 0), .p (.int .i64), .u, .u, .u, .p (.int .i64), .u, .u, .u, .u, .u, .u, .u, .u, .u, .u, .u, .u, .u]
def f_l_markIntS_io_fr0 (s : List Sc × Int × Int) : List AV := enc f_l_markIntS_io_h0 [.l s.1, .i s.2.1, .i s.2.2]
def f_l_markIntS_io_g0_1 : List Sh := [.own 3, .u, .p (.int .i64), .u, .u, .u, .u, .u, .u, .u, .u, .u, .u, .u, .u, .u, .u, .u, .u, .u]
def f_l_markIntS_io_x0_1 (e : List Sc × Int) : X × List AV := (.out 0, enc f_l_markIntS_io_g0_1 [.l e.1, .i e.2])
def f_l_markIntS_io_x0_2 (_e : Unit) : X × List AV := (.ret, [])
theorem f_l_markIntS_io_p0 {R : Type} (s : List Sc × Int × Int) (kN : List Sc × Int × Int → Option R) (kA : List Sc × Int → Option R) (kB : Unit → Option R) : f_l_markIntS_io_k0 s.1 s.2.1 s.2.2 kN kA = (f_l_markIntS_io_r0 s).bind (Ro.el kN kA kB) := by
  simp only [f_l_markIntS_io_k0, f_l_markIntS_io_r0, brB, someB, noneB, Ro.el]
theorem f_l_markIntS_io_e0 (s : List Sc × Int × Int) : EC E0 f_l_markIntS_io_M H0 f_l_markIntS_io_F (asL (noL)) 0 (bodyOf Try.f30 0) (f_l_markIntS_io_fr0 s) (done (klOf f_l_markIntS_io_F 0)) = f_l_markIntS_io_k0 s.1 s.2.1 s.2.2 (fun s => some (.norm, f_l_markIntS_io_fr0 s)) (fun e => some (f_l_markIntS_io_x0_1 e)) := by kernel_rfl
theorem f_l_markIntS_io_l0 : ∀ s r, loopL (f_l_markIntS_io_r0) s = some r → LS Try.prog f_l_markIntS_io_F (bodyOf Try.f30 0) (f_l_markIntS_io_fr0 s) (enX (f_l_markIntS_io_x0_1) (f_l_markIntS_io_x0_2) r) :=
  loop_true E0ok f_l_markIntS_io_Mt (noL_true) f_l_markIntS_io_o (fun _ h => by cases h) (fun _ h => by cases h) (fun s => (f_l_markIntS_io_e0 s).trans (f_l_markIntS_io_p0 s _ _ (fun e => some (f_l_markIntS_io_x0_2 e))))
def f_l_markIntS_io_t0 (σ : List AV) : Option (Bool × Bool × (X × List AV) × (X × List AV)) := match dec f_l_markIntS_io_h0 σ with
  | some [.l v0, .i k1, .i i5] => some (isOne (loopL (f_l_markIntS_io_r0) (v0, k1, i5)), true, f_l_markIntS_io_x0_1 (getOne ([], 0) (loopL (f_l_markIntS_io_r0) (v0, k1, i5))), (.ret, []))
  | _ => none
theorem f_l_markIntS_io_tt0 : TTrue Try.prog f_l_markIntS_io_F Try.f30 0 (f_l_markIntS_io_t0) := by
  intro σ p r r' h
  unfold f_l_markIntS_io_t0 at h
  split at h
  · rename_i hd
    rw [← dec_enc hd]
    exact row1 (f_l_markIntS_io_l0 _) h
  · cases h
theorem f_l_markIntS_io_p {R : Type} (k1 : Int) (h0 : List Sc) (kR : Int × List Sc → Option R) : f_l_markIntS_io_k k1 h0 kR = (f_l_markIntS_io_k k1 h0 some).bind kR := by
  simp only [f_l_markIntS_io_k, bl1B, someB]
theorem f_l_markIntS_io_e (k1 : Int) (h0 : List Sc) : runFn E0 f_l_markIntS_io_M H0 f_l_markIntS_io_F (asL (addL 0 (f_l_markIntS_io_t0) (noL))) Try.f30 (f_l_markIntS_io_a k1 h0) (f_l_markIntS_io_i k1 h0) = f_l_markIntS_io_k k1 h0 (fun r => some (f_l_markIntS_io_en r)) := by kernel_rfl
theorem f_l_markIntS_io_ok (k1 : Int) (h0 : List Sc) (r : Int × List Sc) (h : f_l_markIntS_io k1 h0 = some r) : CS Try.prog 30 (f_l_markIntS_io_a k1 h0) (f_l_markIntS_io_i k1 h0) (f_l_markIntS_io_en r).1 (f_l_markIntS_io_en r).2 :=
  fn_true (Gk := fun k => f_l_markIntS_io_k k1 h0 k) (en := f_l_markIntS_io_en) Try.func30 E0ok f_l_markIntS_io_Mt (addL_true (f_l_markIntS_io_tt0) (noL_true)) f_l_markIntS_io_o (f_l_markIntS_io_e k1 h0) (f_l_markIntS_io_p k1 h0) h
def f_l_markIntS_io_c : CRow := fun args inh => match dec2 [.p (.al 0), .p (.int .i64)] [.own 3] args inh with
  | some ([.i k1], [.l h0]) => some ((f_l_markIntS_io k1 h0).isSome, (f_l_markIntS_io_en ((f_l_markIntS_io k1 h0).getD (0, []))).1, (f_l_markIntS_io_en ((f_l_markIntS_io k1 h0).getD (0, []))).2)
  | _ => none
theorem f_l_markIntS_io_cc : CTrue Try.prog 30 f_l_markIntS_io_c := by
  intro args inh rs out h
  unfold f_l_markIntS_io_c at h
  split at h
  · rename_i hd
    obtain ⟨h1, h2⟩ := dec2_enc hd
    rw [← h1, ← h2]
    exact rowC (f_l_markIntS_io_ok _ _) h
  · cases h

def f_l_markGroup_io_F : Fi := { nv := 2, nc := 2, m := 1, vt := [(2, 1)], kl := [], sk := [], mvs := [], fz := [] }
def f_l_markGroup_io_a (k1 : Int) (h0 : List Sc) : List AV := enc [.p (.go 0), .p (.int .i64)] [.i k1]
def f_l_markGroup_io_i (k1 : Int) (h0 : List Sc) : List AV := enc [.own 3] [.l h0]
def f_l_markGroup_io_en (r : Int × List Sc) : List AV × List AV := (enc [.p (.int .i64)] [.i r.1], enc [.own 3] [.l r.2])
def f_l_markGroup_io_M : Calling := addC 30 f_l_markIntS_io_c (noC)
theorem f_l_markGroup_io_Mt : CallOk Try.prog (f_l_markGroup_io_M) := addC_true f_l_markIntS_io_cc (noC_true)
theorem f_l_markGroup_io_o : loopsOnce Try.f29 = true := by kernel_rfl
theorem f_l_markGroup_io_p {R : Type} (k1 : Int) (h0 : List Sc) (kR : Int × List Sc → Option R) : f_l_markGroup_io_k k1 h0 kR = (f_l_markGroup_io_k k1 h0 some).bind kR := by
  simp only [f_l_markGroup_io_k, boB, someB]
theorem f_l_markGroup_io_e (k1 : Int) (h0 : List Sc) : runFn E0 f_l_markGroup_io_M H0 f_l_markGroup_io_F (asL (noL)) Try.f29 (f_l_markGroup_io_a k1 h0) (f_l_markGroup_io_i k1 h0) = f_l_markGroup_io_k k1 h0 (fun r => some (f_l_markGroup_io_en r)) := by kernel_rfl
theorem f_l_markGroup_io_ok (k1 : Int) (h0 : List Sc) (r : Int × List Sc) (h : f_l_markGroup_io k1 h0 = some r) : CS Try.prog 29 (f_l_markGroup_io_a k1 h0) (f_l_markGroup_io_i k1 h0) (f_l_markGroup_io_en r).1 (f_l_markGroup_io_en r).2 :=
  fn_true (Gk := fun k => f_l_markGroup_io_k k1 h0 k) (en := f_l_markGroup_io_en) Try.func29 E0ok f_l_markGroup_io_Mt (noL_true) f_l_markGroup_io_o (f_l_markGroup_io_e k1 h0) (f_l_markGroup_io_p k1 h0) h
def f_l_markGroup_io_c : CRow := fun args inh => match dec2 [.p (.go 0), .p (.int .i64)] [.own 3] args inh with
  | some ([.i k1], [.l h0]) => some ((f_l_markGroup_io k1 h0).isSome, (f_l_markGroup_io_en ((f_l_markGroup_io k1 h0).getD (0, []))).1, (f_l_markGroup_io_en ((f_l_markGroup_io k1 h0).getD (0, []))).2)
  | _ => none
theorem f_l_markGroup_io_cc : CTrue Try.prog 29 f_l_markGroup_io_c := by
  intro args inh rs out h
  unfold f_l_markGroup_io_c at h
  split at h
  · rename_i hd
    obtain ⟨h1, h2⟩ := dec2_enc hd
    rw [← h1, ← h2]
    exact rowC (f_l_markGroup_io_ok _ _) h
  · cases h

def f_l_heldIntS_F : Fi := { nv := 0, nc := 0, m := 0, vt := [], kl := [(0, ([2, 3, 4, 6, 7, 8, 9, 10, 11, 12, 13, 14, 15, 16, 17, 18, 19, 20], [0, 2, 3, 4, 5, 6, 7, 8, 9, 10, 11, 12, 13, 14, 15, 16, 17, 18, 19, 20], [0, 1, 2, 3, 5, 6, 7, 8, 9, 10, 11, 12, 13, 14, 15, 16, 17, 18, 19, 20]))], sk := [], mvs := [], fz := [] }
def f_l_heldIntS_a (a0 : List Sc) (k1 : Int) : List AV := enc [.p .sl, .p (.int .i64)] [.l a0, .i k1]
def f_l_heldIntS_i (a0 : List Sc) (k1 : Int) : List AV := enc [] []
def f_l_heldIntS_en (r : Int) : List AV × List AV := (enc [.p (.int .i64)] [.i r], enc [] [])
def f_l_heldIntS_M : Calling := noC
theorem f_l_heldIntS_Mt : CallOk Try.prog (f_l_heldIntS_M) := noC_true
theorem f_l_heldIntS_o : loopsOnce Try.f31 = true := by kernel_rfl
def f_l_heldIntS_h0 : List Sh := [.p .sl, .p (.int .i64), .u, .u, .u, .p (.int .i64), .u, .u, .u, .u, .u, .u, .u, .u, .u, .u, .u, .u, .u, .u, .u]
def f_l_heldIntS_fr0 (a0 : List Sc) (s : Int × Int) : List AV := enc f_l_heldIntS_h0 [.l a0, .i s.1, .i s.2]
def f_l_heldIntS_g0_1 : List Sh := [.u, .p (.int .i64), .u, .u, .u, .u, .u, .u, .u, .u, .u, .u, .u, .u, .u, .u, .u, .u, .u, .u, .u]
def f_l_heldIntS_x0_1 (a0 : List Sc) (e : Int) : X × List AV := (.out 0, enc f_l_heldIntS_g0_1 [.i e])
def f_l_heldIntS_g0_2 : List Sh := [.u, .u, .u, .u, .p (.int .i64), .u, .u, .u, .u, .u, .u, .u, .u, .u, .u, .u, .u, .u, .u, .u, .u]
def f_l_heldIntS_x0_2 (a0 : List Sc) (e : Unit) : X × List AV := (.ret, enc f_l_heldIntS_g0_2 [.i (-1)])
theorem f_l_heldIntS_p0 {R : Type} (a0 : List Sc) (s : Int × Int) (kN : Int × Int → Option R) (kA : Int → Option R) (kB : Unit → Option R) : f_l_heldIntS_k0 a0 s.1 s.2 kN kA kB = (f_l_heldIntS_r0 a0 s).bind (Ro.el kN kA kB) := by
  simp only [f_l_heldIntS_k0, f_l_heldIntS_r0, brB, someB, noneB, Ro.el]
theorem f_l_heldIntS_e0 (a0 : List Sc) (s : Int × Int) : EC E0 f_l_heldIntS_M H0 f_l_heldIntS_F (asL (noL)) 0 (bodyOf Try.f31 0) (f_l_heldIntS_fr0 a0 s) (done (klOf f_l_heldIntS_F 0)) = f_l_heldIntS_k0 a0 s.1 s.2 (fun s => some (.norm, f_l_heldIntS_fr0 a0 s)) (fun e => some (f_l_heldIntS_x0_1 a0 e)) (fun e => some (f_l_heldIntS_x0_2 a0 e)) := by kernel_rfl
theorem f_l_heldIntS_l0 (a0 : List Sc) : ∀ s r, loopL (f_l_heldIntS_r0 a0) s = some r → LS Try.prog f_l_heldIntS_F (bodyOf Try.f31 0) (f_l_heldIntS_fr0 a0 s) (enX (f_l_heldIntS_x0_1 a0) (f_l_heldIntS_x0_2 a0) r) :=
  loop_true E0ok f_l_heldIntS_Mt (noL_true) f_l_heldIntS_o (fun _ h => by cases h) (fun _ h => by cases h) (fun s => (f_l_heldIntS_e0 a0 s).trans (f_l_heldIntS_p0 a0 s _ _ (fun e => some (f_l_heldIntS_x0_2 a0 e))))
def f_l_heldIntS_t0 (σ : List AV) : Option (Bool × Bool × (X × List AV) × (X × List AV)) := match dec f_l_heldIntS_h0 σ with
  | some [.l a0, .i k1, .i i5] => some ((loopL (f_l_heldIntS_r0 a0) (k1, i5)).isSome, isOne (loopL (f_l_heldIntS_r0 a0) (k1, i5)), f_l_heldIntS_x0_1 a0 (getOne 0 (loopL (f_l_heldIntS_r0 a0) (k1, i5))), f_l_heldIntS_x0_2 a0 (getTwo () (loopL (f_l_heldIntS_r0 a0) (k1, i5))))
  | _ => none
theorem f_l_heldIntS_tt0 : TTrue Try.prog f_l_heldIntS_F Try.f31 0 (f_l_heldIntS_t0) := by
  intro σ p r r' h
  unfold f_l_heldIntS_t0 at h
  split at h
  · rename_i hd
    rw [← dec_enc hd]
    exact row2 (f_l_heldIntS_l0 _ _) h
  · cases h
theorem f_l_heldIntS_p {R : Type} (a0 : List Sc) (k1 : Int) (kR : Int → Option R) : f_l_heldIntS_k a0 k1 kR = (f_l_heldIntS_k a0 k1 some).bind kR := by
  simp only [f_l_heldIntS_k, blB, someB]
theorem f_l_heldIntS_e (a0 : List Sc) (k1 : Int) : runFn E0 f_l_heldIntS_M H0 f_l_heldIntS_F (asL (addL 0 (f_l_heldIntS_t0) (noL))) Try.f31 (f_l_heldIntS_a a0 k1) (f_l_heldIntS_i a0 k1) = f_l_heldIntS_k a0 k1 (fun r => some (f_l_heldIntS_en r)) := by kernel_rfl
theorem f_l_heldIntS_ok (a0 : List Sc) (k1 : Int) (r : Int) (h : f_l_heldIntS a0 k1 = some r) : CS Try.prog 31 (f_l_heldIntS_a a0 k1) (f_l_heldIntS_i a0 k1) (f_l_heldIntS_en r).1 (f_l_heldIntS_en r).2 :=
  fn_true (Gk := fun k => f_l_heldIntS_k a0 k1 k) (en := f_l_heldIntS_en) Try.func31 E0ok f_l_heldIntS_Mt (addL_true (f_l_heldIntS_tt0) (noL_true)) f_l_heldIntS_o (f_l_heldIntS_e a0 k1) (f_l_heldIntS_p a0 k1) h
def f_l_heldIntS_c : CRow := fun args inh => match dec2 [.p .sl, .p (.int .i64)] [] args inh with
  | some ([.l a0, .i k1], []) => some ((f_l_heldIntS a0 k1).isSome, (f_l_heldIntS_en ((f_l_heldIntS a0 k1).getD 0)).1, (f_l_heldIntS_en ((f_l_heldIntS a0 k1).getD 0)).2)
  | _ => none
theorem f_l_heldIntS_cc : CTrue Try.prog 31 f_l_heldIntS_c := by
  intro args inh rs out h
  unfold f_l_heldIntS_c at h
  split at h
  · rename_i hd
    obtain ⟨h1, h2⟩ := dec2_enc hd
    rw [← h1, ← h2]
    exact rowC (f_l_heldIntS_ok _ _) h
  · cases h

def f_l_FnExactSortSequence_F : Fi := { nv := 7, nc := 1, m := 0, vt := [(8, 0), (27, 1), (30, 2), (34, 3), (40, 4), (94, 5), (97, 6)], kl := [], sk := [], mvs := [1, 2, 3, 4, 5, 6], fz := [] }
def f_l_FnExactSortSequence_a (L0 : List Sc) (p1 : List Sc) : List AV := enc [.p .gr, .p .sl] [.l L0, .l p1]
def f_l_FnExactSortSequence_i (L0 : List Sc) (p1 : List Sc) : List AV := enc [] []
def f_l_FnExactSortSequence_en (r : Bool) : List AV × List AV := (enc [.p .boo] [.b r], enc [] [])
def f_l_FnExactSortSequence_M : Calling := addC 14 f_l_szGroup_c (addC 16 f_l_toGroup_c (addC 17 f_l_toIntS_c (addC 42 f_s_SortSequence_c (addC 43 f_i_SortSequence_c (addC 20 f_l_eqIntS_c (addC 19 f_l_eqGroup_c (addC 29 f_l_markGroup_io_c (addC 30 f_l_markIntS_io_c (addC 31 f_l_heldIntS_c (noC))))))))))
theorem f_l_FnExactSortSequence_Mt : CallOk Try.prog (f_l_FnExactSortSequence_M) := addC_true f_l_szGroup_cc (addC_true f_l_toGroup_cc (addC_true f_l_toIntS_cc (addC_true f_s_SortSequence_cc (addC_true f_i_SortSequence_cc (addC_true f_l_eqIntS_cc (addC_true f_l_eqGroup_cc (addC_true f_l_markGroup_io_cc (addC_true f_l_markIntS_io_cc (addC_true f_l_heldIntS_cc (noC_true))))))))))
theorem f_l_FnExactSortSequence_o : loopsOnce Try.f13 = true := by kernel_rfl
theorem f_l_FnExactSortSequence_p {R : Type} (L0 : List Sc) (p1 : List Sc) (kR : Bool → Option R) : f_l_FnExactSortSequence_k L0 p1 kR = (f_l_FnExactSortSequence_k L0 p1 some).bind kR := by
  simp only [f_l_FnExactSortSequence_k, brB, boB, someB]
theorem f_l_FnExactSortSequence_e (L0 : List Sc) (p1 : List Sc) : runFn E0 f_l_FnExactSortSequence_M H0 f_l_FnExactSortSequence_F (asL (noL)) Try.f13 (f_l_FnExactSortSequence_a L0 p1) (f_l_FnExactSortSequence_i L0 p1) = f_l_FnExactSortSequence_k L0 p1 (fun r => some (f_l_FnExactSortSequence_en r)) := by kernel_rfl
theorem f_l_FnExactSortSequence_ok (L0 : List Sc) (p1 : List Sc) (r : Bool) (h : f_l_FnExactSortSequence L0 p1 = some r) : CS Try.prog 13 (f_l_FnExactSortSequence_a L0 p1) (f_l_FnExactSortSequence_i L0 p1) (f_l_FnExactSortSequence_en r).1 (f_l_FnExactSortSequence_en r).2 :=
  fn_true (Gk := fun k => f_l_FnExactSortSequence_k L0 p1 k) (en := f_l_FnExactSortSequence_en) Try.func13 E0ok f_l_FnExactSortSequence_Mt (noL_true) f_l_FnExactSortSequence_o (f_l_FnExactSortSequence_e L0 p1) (f_l_FnExactSortSequence_p L0 p1) h
def f_l_FnExactSortSequence_c : CRow := fun args inh => match dec2 [.p .gr, .p .sl] [] args inh with
  | some ([.l L0, .l p1], []) => some ((f_l_FnExactSortSequence L0 p1).isSome, (f_l_FnExactSortSequence_en ((f_l_FnExactSortSequence L0 p1).getD false)).1, (f_l_FnExactSortSequence_en ((f_l_FnExactSortSequence L0 p1).getD false)).2)
  | _ => none
theorem f_l_FnExactSortSequence_cc : CTrue Try.prog 13 f_l_FnExactSortSequence_c := by
  intro args inh rs out h
  unfold f_l_FnExactSortSequence_c at h
  split at h
  · rename_i hd
    obtain ⟨h1, h2⟩ := dec2_enc hd
    rw [← h1, ← h2]
    exact rowC (f_l_FnExactSortSequence_ok _ _) h
  · cases h
end
end Go.Proofs.Ytgbjnchipnbohaa
