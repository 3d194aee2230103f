/-
  That the program computes just that (printed by gen2.py).
-/
import Derived.Test.YtppgjmdncffecaaShal
import Derived.Test.YtppgjmdncffecaaRows
import Derived.WalkKit
set_option linter.unusedVariables false
namespace Go.Proofs.Ytppgjmdncffecaa
open Go Ev
noncomputable section
def E0 : Env := { sl := [(22, 3, .n .i64 0)], gr := [(28, 22), (31, 22)], sc := [3, 4, 5, 9, 21, 57], bl := [4], ik := [(3, .i64), (5, .u8), (21, .i32), (57, .u32)], st := [9], one := [3, 4, 5, 9, 21, 57, 22, 1, 23, 24, 25, 26, 29, 30, 32, 33, 34, 36, 38, 39, 40, 41, 42, 43, 44, 45, 46, 47, 48, 49, 50, 56, 60], al := [(3, [.sc (.n .i64 0)]), (4, [.sc (.b false)]), (5, [.sc (.n .u8 0)]), (9, [.sc (.s ByteArray.empty)]), (21, [.sc (.n .i32 0)]), (57, [.sc (.n .u32 0)]), (22, [.sl]), (1, [.fn]), (23, [.fn]), (24, [.fn]), (25, [.fn]), (26, [.fn]), (28, [.sl]), (29, [.fn]), (30, [.fn]), (31, [.sl]), (32, [.fn]), (33, [.fn]), (34, [.fn]), (36, [.fn]), (38, [.fn]), (39, [.fn]), (40, [.fn]), (41, [.fn]), (42, [.fn]), (43, [.fn]), (44, [.fn]), (45, [.fn]), (46, [.fn]), (47, [.fn]), (48, [.fn]), (49, [.fn]), (50, [.fn]), (56, [.fn]), (60, [.fn])], fd := [(28, 1), (31, 1)] }
def H0 : Hints := { md := [(20, [.io])], soft := [] }
theorem E0ok : EnvOk Try.prog E0 := okEnv_spec (by kernel_rfl)
def f_l_toIntS_F : Fi := { nv := 0, nc := 0, m := 0, vt := [], kl := [(0, ([1, 2, 5, 6, 7, 8, 9, 10, 11, 12, 13, 14, 15, 16, 17, 18, 19, 20, 21], [0, 1, 2, 4, 5, 6, 7, 8, 9, 10, 11, 12, 13, 14, 15, 16, 17, 18, 19, 20, 21], [0, 1, 3, 4, 5, 6, 7, 8, 9, 10, 11, 12, 13, 14, 15, 16, 17, 18, 19, 20, 21]))], sk := [], mvs := [], fz := [] }
def f_l_toIntS_a (a0 : List Sc) : List AV := enc [.p .sl] [.l a0]
def f_l_toIntS_i (a0 : List Sc) : List AV := enc [] []
def f_l_toIntS_en (r : List Sc) : List AV × List AV := (enc [.p (.al 0)] [], enc [.own 3] [.l r])
def f_l_toIntS_M : Calling := noC
theorem f_l_toIntS_Mt : CallOk Try.prog (f_l_toIntS_M) := noC_true
theorem f_l_toIntS_o : loopsOnce Try.f10 = true := by kernel_rfl
def f_l_toIntS_h0 : List Sh := [.p .sl, .u, .u, .own 3, .p (.int .i64), .u, .u, .u, .u, .u, .u, .u, .u, .u, .u, .u, .u, .u, .u, .u, .u, .u]
def f_l_toIntS_fr0 (a0 : List Sc) (s : List Sc × Int) : List AV := enc f_l_toIntS_h0 [.l a0, .l s.1, .i s.2]
def f_l_toIntS_g0_1 : List Sh := [.u, .u, .u, .own 3, .u, .u, .u, .u, .u, .u, .u, .u, .u, .u, .u, .u, .u, .u, .u, .u, .u, .u]
def f_l_toIntS_x0_1 (a0 : List Sc) (e : List Sc) : X × List AV := (.out 0, enc f_l_toIntS_g0_1 [.l e])
def f_l_toIntS_x0_2 (a0 : List Sc) (_e : Unit) : X × List AV := (.ret, [])
theorem f_l_toIntS_p0 {R : Type} (a0 : List Sc) (s : List Sc × Int) (kN : List Sc × Int → Option R) (kA : List Sc → Option R) (kB : Unit → Option R) : f_l_toIntS_k0 a0 s.1 s.2 kN kA = (f_l_toIntS_r0 a0 s).bind (Ro.el kN kA kB) := by
  simp only [f_l_toIntS_k0, f_l_toIntS_r0, brB, someB, noneB, Ro.el]
theorem f_l_toIntS_e0 (a0 : List Sc) (s : List Sc × Int) : EC E0 f_l_toIntS_M H0 f_l_toIntS_F (asL (noL)) 0 (bodyOf Try.f10 0) (f_l_toIntS_fr0 a0 s) (done (klOf f_l_toIntS_F 0)) = f_l_toIntS_k0 a0 s.1 s.2 (fun s => some (.norm, f_l_toIntS_fr0 a0 s)) (fun e => some (f_l_toIntS_x0_1 a0 e)) := by kernel_rfl
theorem f_l_toIntS_l0 (a0 : List Sc) : ∀ s r, loopL (f_l_toIntS_r0 a0) s = some r → LS Try.prog f_l_toIntS_F (bodyOf Try.f10 0) (f_l_toIntS_fr0 a0 s) (enX (f_l_toIntS_x0_1 a0) (f_l_toIntS_x0_2 a0) r) :=
  loop_true E0ok f_l_toIntS_Mt (noL_true) f_l_toIntS_o (fun _ h => by cases h) (fun _ h => by cases h) (fun s => (f_l_toIntS_e0 a0 s).trans (f_l_toIntS_p0 a0 s _ _ (fun e => some (f_l_toIntS_x0_2 a0 e))))
def f_l_toIntS_t0 (σ : List AV) : Option (Bool × Bool × (X × List AV) × (X × List AV)) := match dec f_l_toIntS_h0 σ with
  | some [.l a0, .l out3, .i i4] => some (isOne (loopL (f_l_toIntS_r0 a0) (out3, i4)), true, f_l_toIntS_x0_1 a0 (getOne [] (loopL (f_l_toIntS_r0 a0) (out3, i4))), (.ret, []))
  | _ => none
theorem f_l_toIntS_tt0 : TTrue Try.prog f_l_toIntS_F Try.f10 0 (f_l_toIntS_t0) := by
  intro σ p r r' h
  unfold f_l_toIntS_t0 at h
  split at h
  · rename_i hd
    rw [← dec_enc hd]
    exact row1 (f_l_toIntS_l0 _ _) h
  · cases h
theorem f_l_toIntS_p {R : Type} (a0 : List Sc) (kR : List Sc → Option R) : f_l_toIntS_k a0 kR = (f_l_toIntS_k a0 some).bind kR := by
  simp only [f_l_toIntS_k, brB, bl1B, someB, noneB]
theorem f_l_toIntS_e (a0 : List Sc) : runFn E0 f_l_toIntS_M H0 f_l_toIntS_F (asL (addL 0 (f_l_toIntS_t0) (noL))) Try.f10 (f_l_toIntS_a a0) (f_l_toIntS_i a0) = f_l_toIntS_k a0 (fun r => some (f_l_toIntS_en r)) := by kernel_rfl
theorem f_l_toIntS_ok (a0 : List Sc) (r : List Sc) (h : f_l_toIntS a0 = some r) : CS Try.prog 10 (f_l_toIntS_a a0) (f_l_toIntS_i a0) (f_l_toIntS_en r).1 (f_l_toIntS_en r).2 :=
  fn_true (Gk := fun k => f_l_toIntS_k a0 k) (en := f_l_toIntS_en) Try.func10 E0ok f_l_toIntS_Mt (addL_true (f_l_toIntS_tt0) (noL_true)) f_l_toIntS_o (f_l_toIntS_e a0) (f_l_toIntS_p a0) h
def f_l_toIntS_c : CRow := fun args inh => match dec2 [.p .sl] [] args inh with
  | some ([.l a0], []) => some ((f_l_toIntS a0).isSome, (f_l_toIntS_en ((f_l_toIntS a0).getD [])).1, (f_l_toIntS_en ((f_l_toIntS a0).getD [])).2)
  | _ => none
theorem f_l_toIntS_cc : CTrue Try.prog 10 f_l_toIntS_c := by
  intro args inh rs out h
  unfold f_l_toIntS_c at h
  split at h
  · rename_i hd
    obtain ⟨h1, h2⟩ := dec2_enc hd
    rw [← h1, ← h2]
    exact rowC (f_l_toIntS_ok _) h
  · cases h

def f_s_MultiplicityIn_F : Fi := { nv := 0, nc := 0, m := 0, vt := [], kl := [(0, ([2, 3, 4, 7, 8, 9, 10, 11, 12, 13, 14, 15, 16, 17, 18, 19, 20, 21], [0, 1, 2, 3, 4, 6, 7, 8, 9, 10, 11, 12, 13, 14, 15, 16, 17, 18, 19, 20, 21], [0, 1, 2, 3, 5, 6, 7, 8, 9, 10, 11, 12, 13, 14, 15, 16, 17, 18, 19, 20, 21]))], sk := [], mvs := [], fz := [] }
def f_s_MultiplicityIn_a (l0 : List Sc) (x1 : Int) : List AV := enc [.p .sl, .p (.int .i64)] [.l l0, .i x1]
def f_s_MultiplicityIn_i (l0 : List Sc) (x1 : Int) : List AV := enc [] []
def f_s_MultiplicityIn_en (r : Int) : List AV × List AV := (enc [.p (.int .i64)] [.i r], enc [] [])
def f_s_MultiplicityIn_M : Calling := noC
theorem f_s_MultiplicityIn_Mt : CallOk Try.prog (f_s_MultiplicityIn_M) := noC_true
theorem f_s_MultiplicityIn_o : loopsOnce Try.f9 = true := by kernel_rfl
def f_s_MultiplicityIn_h0 : List Sh := [.p .sl, .p (.int .i64), .u, .u, .u, .p (.int .i64), .p (.int .i64), .u, .u, .u, .u, .u, .u, .u, .u, .u, .u, .u, .u, .u, .u, .u]
def f_s_MultiplicityIn_fr0 (l0 : List Sc) (x1 : Int) (s : Int × Int) : List AV := enc f_s_MultiplicityIn_h0 [.l l0, .i x1, .i s.1, .i s.2]
def f_s_MultiplicityIn_g0_1 : List Sh := [.u, .u, .u, .u, .u, .p (.int .i64), .u, .u, .u, .u, .u, .u, .u, .u, .u, .u, .u, .u, .u, .u, .u, .u]
def f_s_MultiplicityIn_x0_1 (l0 : List Sc) (x1 : Int) (e : Int) : X × List AV := (.out 0, enc f_s_MultiplicityIn_g0_1 [.i e])
def f_s_MultiplicityIn_x0_2 (l0 : List Sc) (x1 : Int) (_e : Unit) : X × List AV := (.ret, [])
theorem f_s_MultiplicityIn_p0 {R : Type} (l0 : List Sc) (x1 : Int) (s : Int × Int) (kN : Int × Int → Option R) (kA : Int → Option R) (kB : Unit → Option R) : f_s_MultiplicityIn_k0 l0 x1 s.1 s.2 kN kA = (f_s_MultiplicityIn_r0 l0 x1 s).bind (Ro.el kN kA kB) := by
  simp only [f_s_MultiplicityIn_k0, f_s_MultiplicityIn_r0, brB, someB, noneB, Ro.el]
theorem f_s_MultiplicityIn_e0 (l0 : List Sc) (x1 : Int) (s : Int × Int) : EC E0 f_s_MultiplicityIn_M H0 f_s_MultiplicityIn_F (asL (noL)) 0 (bodyOf Try.f9 0) (f_s_MultiplicityIn_fr0 l0 x1 s) (done (klOf f_s_MultiplicityIn_F 0)) = f_s_MultiplicityIn_k0 l0 x1 s.1 s.2 (fun s => some (.norm, f_s_MultiplicityIn_fr0 l0 x1 s)) (fun e => some (f_s_MultiplicityIn_x0_1 l0 x1 e)) := by kernel_rfl
theorem f_s_MultiplicityIn_l0 (l0 : List Sc) (x1 : Int) : ∀ s r, loopL (f_s_MultiplicityIn_r0 l0 x1) s = some r → LS Try.prog f_s_MultiplicityIn_F (bodyOf Try.f9 0) (f_s_MultiplicityIn_fr0 l0 x1 s) (enX (f_s_MultiplicityIn_x0_1 l0 x1) (f_s_MultiplicityIn_x0_2 l0 x1) r) :=
  loop_true E0ok f_s_MultiplicityIn_Mt (noL_true) f_s_MultiplicityIn_o (fun _ h => by cases h) (fun _ h => by cases h) (fun s => (f_s_MultiplicityIn_e0 l0 x1 s).trans (f_s_MultiplicityIn_p0 l0 x1 s _ _ (fun e => some (f_s_MultiplicityIn_x0_2 l0 x1 e))))
def f_s_MultiplicityIn_t0 (σ : List AV) : Option (Bool × Bool × (X × List AV) × (X × List AV)) := match dec f_s_MultiplicityIn_h0 σ with
  | some [.l l0, .i x1, .i n5, .i i6] => some (isOne (loopL (f_s_MultiplicityIn_r0 l0 x1) (n5, i6)), true, f_s_MultiplicityIn_x0_1 l0 x1 (getOne 0 (loopL (f_s_MultiplicityIn_r0 l0 x1) (n5, i6))), (.ret, []))
  | _ => none
theorem f_s_MultiplicityIn_tt0 : TTrue Try.prog f_s_MultiplicityIn_F Try.f9 0 (f_s_MultiplicityIn_t0) := by
  intro σ p r r' h
  unfold f_s_MultiplicityIn_t0 at h
  split at h
  · rename_i hd
    rw [← dec_enc hd]
    exact row1 (f_s_MultiplicityIn_l0 _ _ _) h
  · cases h
theorem f_s_MultiplicityIn_p {R : Type} (l0 : List Sc) (x1 : Int) (kR : Int → Option R) : f_s_MultiplicityIn_k l0 x1 kR = (f_s_MultiplicityIn_k l0 x1 some).bind kR := by
  simp only [f_s_MultiplicityIn_k, bl1B, someB]
theorem f_s_MultiplicityIn_e (l0 : List Sc) (x1 : Int) : runFn E0 f_s_MultiplicityIn_M H0 f_s_MultiplicityIn_F (asL (addL 0 (f_s_MultiplicityIn_t0) (noL))) Try.f9 (f_s_MultiplicityIn_a l0 x1) (f_s_MultiplicityIn_i l0 x1) = f_s_MultiplicityIn_k l0 x1 (fun r => some (f_s_MultiplicityIn_en r)) := by kernel_rfl
theorem f_s_MultiplicityIn_ok (l0 : List Sc) (x1 : Int) (r : Int) (h : f_s_MultiplicityIn l0 x1 = some r) : CS Try.prog 9 (f_s_MultiplicityIn_a l0 x1) (f_s_MultiplicityIn_i l0 x1) (f_s_MultiplicityIn_en r).1 (f_s_MultiplicityIn_en r).2 :=
  fn_true (Gk := fun k => f_s_MultiplicityIn_k l0 x1 k) (en := f_s_MultiplicityIn_en) Try.func9 E0ok f_s_MultiplicityIn_Mt (addL_true (f_s_MultiplicityIn_tt0) (noL_true)) f_s_MultiplicityIn_o (f_s_MultiplicityIn_e l0 x1) (f_s_MultiplicityIn_p l0 x1) h
def f_s_MultiplicityIn_c : CRow := fun args inh => match dec2 [.p .sl, .p (.int .i64)] [] args inh with
  | some ([.l l0, .i x1], []) => some ((f_s_MultiplicityIn l0 x1).isSome, (f_s_MultiplicityIn_en ((f_s_MultiplicityIn l0 x1).getD 0)).1, (f_s_MultiplicityIn_en ((f_s_MultiplicityIn l0 x1).getD 0)).2)
  | _ => none
theorem f_s_MultiplicityIn_cc : CTrue Try.prog 9 f_s_MultiplicityIn_c := by
  intro args inh rs out h
  unfold f_s_MultiplicityIn_c at h
  split at h
  · rename_i hd
    obtain ⟨h1, h2⟩ := dec2_enc hd
    rw [← h1, ← h2]
    exact rowC (f_s_MultiplicityIn_ok _ _) h
  · cases h

def f_i_MultiplicityIn_F : Fi := { nv := 0, nc := 0, m := 0, vt := [], kl := [(0, ([0, 2, 3, 4, 6, 7, 11, 12, 13, 14, 15, 16, 17, 18, 19, 20], [0, 1, 2, 3, 4, 6, 7, 8, 9, 10, 11, 12, 13, 14, 15, 16, 17, 18, 19, 20], [0, 1, 2, 3, 5, 6, 7, 8, 9, 10, 11, 12, 13, 14, 15, 16, 17, 18, 19, 20]))], sk := [], mvs := [], fz := [] }
def f_i_MultiplicityIn_a (l0 : List Sc) (x1 : Int) : List AV := enc [.p .sl, .p (.int .i64)] [.l l0, .i x1]
def f_i_MultiplicityIn_i (l0 : List Sc) (x1 : Int) : List AV := enc [] []
def f_i_MultiplicityIn_en (r : Int) : List AV × List AV := (enc [.p (.int .i64)] [.i r], enc [] [])
def f_i_MultiplicityIn_M : Calling := noC
theorem f_i_MultiplicityIn_Mt : CallOk Try.prog (f_i_MultiplicityIn_M) := noC_true
theorem f_i_MultiplicityIn_o : loopsOnce Try.f11 = true := by kernel_rfl
def f_i_MultiplicityIn_h0 : List Sh := [.u, .p (.int .i64), .u, .u, .u, .p (.int .i64), .u, .u, .p .sl, .p (.int .i64), .p (.int .i64), .u, .u, .u, .u, .u, .u, .u, .u, .u, .u]
def f_i_MultiplicityIn_fr0 (x1 : Int) (t8 : List Sc) (t9 : Int) (s : Int × Int) : List AV := enc f_i_MultiplicityIn_h0 [.i x1, .i s.1, .l t8, .i t9, .i s.2]
def f_i_MultiplicityIn_g0_1 : List Sh := [.u, .u, .u, .u, .u, .p (.int .i64), .u, .u, .u, .u, .u, .u, .u, .u, .u, .u, .u, .u, .u, .u, .u]
def f_i_MultiplicityIn_x0_1 (x1 : Int) (t8 : List Sc) (t9 : Int) (e : Int) : X × List AV := (.out 0, enc f_i_MultiplicityIn_g0_1 [.i e])
def f_i_MultiplicityIn_x0_2 (x1 : Int) (t8 : List Sc) (t9 : Int) (_e : Unit) : X × List AV := (.ret, [])
theorem f_i_MultiplicityIn_p0 {R : Type} (x1 : Int) (t8 : List Sc) (t9 : Int) (s : Int × Int) (kN : Int × Int → Option R) (kA : Int → Option R) (kB : Unit → Option R) : f_i_MultiplicityIn_k0 x1 t8 t9 s.1 s.2 kN kA = (f_i_MultiplicityIn_r0 x1 t8 t9 s).bind (Ro.el kN kA kB) := by
  simp only [f_i_MultiplicityIn_k0, f_i_MultiplicityIn_r0, brB, someB, noneB, Ro.el]
theorem f_i_MultiplicityIn_e0 (x1 : Int) (t8 : List Sc) (t9 : Int) (s : Int × Int) : EC E0 f_i_MultiplicityIn_M H0 f_i_MultiplicityIn_F (asL (noL)) 0 (bodyOf Try.f11 0) (f_i_MultiplicityIn_fr0 x1 t8 t9 s) (done (klOf f_i_MultiplicityIn_F 0)) = f_i_MultiplicityIn_k0 x1 t8 t9 s.1 s.2 (fun s => some (.norm, f_i_MultiplicityIn_fr0 x1 t8 t9 s)) (fun e => some (f_i_MultiplicityIn_x0_1 x1 t8 t9 e)) := by kernel_rfl
theorem f_i_MultiplicityIn_l0 (x1 : Int) (t8 : List Sc) (t9 : Int) : ∀ s r, loopL (f_i_MultiplicityIn_r0 x1 t8 t9) s = some r → LS Try.prog f_i_MultiplicityIn_F (bodyOf Try.f11 0) (f_i_MultiplicityIn_fr0 x1 t8 t9 s) (enX (f_i_MultiplicityIn_x0_1 x1 t8 t9) (f_i_MultiplicityIn_x0_2 x1 t8 t9) r) :=
  loop_true E0ok f_i_MultiplicityIn_Mt (noL_true) f_i_MultiplicityIn_o (fun _ h => by cases h) (fun _ h => by cases h) (fun s => (f_i_MultiplicityIn_e0 x1 t8 t9 s).trans (f_i_MultiplicityIn_p0 x1 t8 t9 s _ _ (fun e => some (f_i_MultiplicityIn_x0_2 x1 t8 t9 e))))
def f_i_MultiplicityIn_t0 (σ : List AV) : Option (Bool × Bool × (X × List AV) × (X × List AV)) := match dec f_i_MultiplicityIn_h0 σ with
  | some [.i x1, .i n5, .l t8, .i t9, .i t10] => some (isOne (loopL (f_i_MultiplicityIn_r0 x1 t8 t9) (n5, t10)), true, f_i_MultiplicityIn_x0_1 x1 t8 t9 (getOne 0 (loopL (f_i_MultiplicityIn_r0 x1 t8 t9) (n5, t10))), (.ret, []))
  | _ => none
theorem f_i_MultiplicityIn_tt0 : TTrue Try.prog f_i_MultiplicityIn_F Try.f11 0 (f_i_MultiplicityIn_t0) := by
  intro σ p r r' h
  unfold f_i_MultiplicityIn_t0 at h
  split at h
  · rename_i hd
    rw [← dec_enc hd]
    exact row1 (f_i_MultiplicityIn_l0 _ _ _ _) h
  · cases h
theorem f_i_MultiplicityIn_p {R : Type} (l0 : List Sc) (x1 : Int) (kR : Int → Option R) : f_i_MultiplicityIn_k l0 x1 kR = (f_i_MultiplicityIn_k l0 x1 some).bind kR := by
  simp only [f_i_MultiplicityIn_k, bl1B, someB]
theorem f_i_MultiplicityIn_e (l0 : List Sc) (x1 : Int) : runFn E0 f_i_MultiplicityIn_M H0 f_i_MultiplicityIn_F (asL (addL 0 (f_i_MultiplicityIn_t0) (noL))) Try.f11 (f_i_MultiplicityIn_a l0 x1) (f_i_MultiplicityIn_i l0 x1) = f_i_MultiplicityIn_k l0 x1 (fun r => some (f_i_MultiplicityIn_en r)) := by kernel_rfl
theorem f_i_MultiplicityIn_ok (l0 : List Sc) (x1 : Int) (r : Int) (h : f_i_MultiplicityIn l0 x1 = some r) : CS Try.prog 11 (f_i_MultiplicityIn_a l0 x1) (f_i_MultiplicityIn_i l0 x1) (f_i_MultiplicityIn_en r).1 (f_i_MultiplicityIn_en r).2 :=
  fn_true (Gk := fun k => f_i_MultiplicityIn_k l0 x1 k) (en := f_i_MultiplicityIn_en) Try.func11 E0ok f_i_MultiplicityIn_Mt (addL_true (f_i_MultiplicityIn_tt0) (noL_true)) f_i_MultiplicityIn_o (f_i_MultiplicityIn_e l0 x1) (f_i_MultiplicityIn_p l0 x1) h
def f_i_MultiplicityIn_c : CRow := fun args inh => match dec2 [.p .sl, .p (.int .i64)] [] args inh with
  | some ([.l l0, .i x1], []) => some ((f_i_MultiplicityIn l0 x1).isSome, (f_i_MultiplicityIn_en ((f_i_MultiplicityIn l0 x1).getD 0)).1, (f_i_MultiplicityIn_en ((f_i_MultiplicityIn l0 x1).getD 0)).2)
  | _ => none
theorem f_i_MultiplicityIn_cc : CTrue Try.prog 11 f_i_MultiplicityIn_c := by
  intro args inh rs out h
  unfold f_i_MultiplicityIn_c at h
  split at h
  · rename_i hd
    obtain ⟨h1, h2⟩ := dec2_enc hd
    rw [← h1, ← h2]
    exact rowC (f_i_MultiplicityIn_ok _ _) h
  · cases h

def f_l_eqIntS_F : Fi := { nv := 0, nc := 0, m := 0, vt := [], kl := [(0, ([2, 3, 4, 6, 7, 8, 9, 10, 11, 12, 13, 14, 15, 16, 17, 18, 19, 20, 21, 22, 23, 24, 25], [0, 1, 2, 3, 4, 5, 6, 7, 8, 9, 10, 11, 12, 13, 14, 15, 16, 17, 18, 19, 20, 21, 22, 23, 24, 25], [0, 1, 2, 3, 5, 6, 7, 8, 9, 10, 11, 12, 13, 14, 15, 16, 17, 18, 19, 20, 21, 22, 23, 24, 25]))], sk := [], mvs := [], fz := [] }
def f_l_eqIntS_a (a0 : List Sc) (b1 : List Sc) : List AV := enc [.p .sl, .p .sl] [.l a0, .l b1]
def f_l_eqIntS_i (a0 : List Sc) (b1 : List Sc) : List AV := enc [] []
def f_l_eqIntS_en (r : Bool) : List AV × List AV := (enc [.p .boo] [.b r], enc [] [])
def f_l_eqIntS_M : Calling := noC
theorem f_l_eqIntS_Mt : CallOk Try.prog (f_l_eqIntS_M) := noC_true
theorem f_l_eqIntS_o : loopsOnce Try.f12 = true := by kernel_rfl
def f_l_eqIntS_h0 : List Sh := [.p .sl, .p .sl, .u, .u, .u, .p (.int .i64), .u, .u, .u, .u, .u, .u, .u, .u, .u, .u, .u, .u, .u, .u, .u, .u, .u, .u, .u, .u]
def f_l_eqIntS_fr0 (a0 : List Sc) (b1 : List Sc) (s : Int) : List AV := enc f_l_eqIntS_h0 [.l a0, .l b1, .i s]
def f_l_eqIntS_g0_1 : List Sh := [.u, .u, .u, .u, .u, .u, .u, .u, .u, .u, .u, .u, .u, .u, .u, .u, .u, .u, .u, .u, .u, .u, .u, .u, .u, .u]
def f_l_eqIntS_x0_1 (a0 : List Sc) (b1 : List Sc) (e : Unit) : X × List AV := (.out 0, enc f_l_eqIntS_g0_1 [])
def f_l_eqIntS_g0_2 : List Sh := [.u, .u, .u, .u, .p .boo, .u, .u, .u, .u, .u, .u, .u, .u, .u, .u, .u, .u, .u, .u, .u, .u, .u, .u, .u, .u, .u]
def f_l_eqIntS_x0_2 (a0 : List Sc) (b1 : List Sc) (e : Unit) : X × List AV := (.ret, enc f_l_eqIntS_g0_2 [.b false])
theorem f_l_eqIntS_p0 {R : Type} (a0 : List Sc) (b1 : List Sc) (s : Int) (kN : Int → Option R) (kA : Unit → Option R) (kB : Unit → Option R) : f_l_eqIntS_k0 a0 b1 s kN kA kB = (f_l_eqIntS_r0 a0 b1 s).bind (Ro.el kN kA kB) := by
  simp only [f_l_eqIntS_k0, f_l_eqIntS_r0, brB, someB, noneB, Ro.el]
theorem f_l_eqIntS_e0 (a0 : List Sc) (b1 : List Sc) (s : Int) : EC E0 f_l_eqIntS_M H0 f_l_eqIntS_F (asL (noL)) 0 (bodyOf Try.f12 0) (f_l_eqIntS_fr0 a0 b1 s) (done (klOf f_l_eqIntS_F 0)) = f_l_eqIntS_k0 a0 b1 s (fun s => some (.norm, f_l_eqIntS_fr0 a0 b1 s)) (fun e => some (f_l_eqIntS_x0_1 a0 b1 e)) (fun e => some (f_l_eqIntS_x0_2 a0 b1 e)) := by kernel_rfl
theorem f_l_eqIntS_l0 (a0 : List Sc) (b1 : List Sc) : ∀ s r, loopL (f_l_eqIntS_r0 a0 b1) s = some r → LS Try.prog f_l_eqIntS_F (bodyOf Try.f12 0) (f_l_eqIntS_fr0 a0 b1 s) (enX (f_l_eqIntS_x0_1 a0 b1) (f_l_eqIntS_x0_2 a0 b1) r) :=
  loop_true E0ok f_l_eqIntS_Mt (noL_true) f_l_eqIntS_o (fun _ h => by cases h) (fun _ h => by cases h) (fun s => (f_l_eqIntS_e0 a0 b1 s).trans (f_l_eqIntS_p0 a0 b1 s _ _ (fun e => some (f_l_eqIntS_x0_2 a0 b1 e))))
def f_l_eqIntS_t0 (σ : List AV) : Option (Bool × Bool × (X × List AV) × (X × List AV)) := match dec f_l_eqIntS_h0 σ with
  | some [.l a0, .l b1, .i i5] => some ((loopL (f_l_eqIntS_r0 a0 b1) i5).isSome, isOne (loopL (f_l_eqIntS_r0 a0 b1) i5), f_l_eqIntS_x0_1 a0 b1 (getOne () (loopL (f_l_eqIntS_r0 a0 b1) i5)), f_l_eqIntS_x0_2 a0 b1 (getTwo () (loopL (f_l_eqIntS_r0 a0 b1) i5)))
  | _ => none
theorem f_l_eqIntS_tt0 : TTrue Try.prog f_l_eqIntS_F Try.f12 0 (f_l_eqIntS_t0) := by
  intro σ p r r' h
  unfold f_l_eqIntS_t0 at h
  split at h
  · rename_i hd
    rw [← dec_enc hd]
    exact row2 (f_l_eqIntS_l0 _ _ _) h
  · cases h
theorem f_l_eqIntS_p {R : Type} (a0 : List Sc) (b1 : List Sc) (kR : Bool → Option R) : f_l_eqIntS_k a0 b1 kR = (f_l_eqIntS_k a0 b1 some).bind kR := by
  simp only [f_l_eqIntS_k, brB, blB, someB]
theorem f_l_eqIntS_e (a0 : List Sc) (b1 : List Sc) : runFn E0 f_l_eqIntS_M H0 f_l_eqIntS_F (asL (addL 0 (f_l_eqIntS_t0) (noL))) Try.f12 (f_l_eqIntS_a a0 b1) (f_l_eqIntS_i a0 b1) = f_l_eqIntS_k a0 b1 (fun r => some (f_l_eqIntS_en r)) := by kernel_rfl
theorem f_l_eqIntS_ok (a0 : List Sc) (b1 : List Sc) (r : Bool) (h : f_l_eqIntS a0 b1 = some r) : CS Try.prog 12 (f_l_eqIntS_a a0 b1) (f_l_eqIntS_i a0 b1) (f_l_eqIntS_en r).1 (f_l_eqIntS_en r).2 :=
  fn_true (Gk := fun k => f_l_eqIntS_k a0 b1 k) (en := f_l_eqIntS_en) Try.func12 E0ok f_l_eqIntS_Mt (addL_true (f_l_eqIntS_tt0) (noL_true)) f_l_eqIntS_o (f_l_eqIntS_e a0 b1) (f_l_eqIntS_p a0 b1) h
def f_l_eqIntS_c : CRow := fun args inh => match dec2 [.p .sl, .p .sl] [] args inh with
  | some ([.l a0, .l b1], []) => some ((f_l_eqIntS a0 b1).isSome, (f_l_eqIntS_en ((f_l_eqIntS a0 b1).getD false)).1, (f_l_eqIntS_en ((f_l_eqIntS a0 b1).getD false)).2)
  | _ => none
theorem f_l_eqIntS_cc : CTrue Try.prog 12 f_l_eqIntS_c := by
  intro args inh rs out h
  unfold f_l_eqIntS_c at h
  split at h
  · rename_i hd
    obtain ⟨h1, h2⟩ := dec2_enc hd
    rw [← h1, ← h2]
    exact rowC (f_l_eqIntS_ok _ _) h
  · cases h

def f_l_FnExactMultiplicityIn_F : Fi := { nv := 0, nc := 0, m := 0, vt := [], kl := [], sk := [], mvs := [], fz := [] }
def f_l_FnExactMultiplicityIn_a (aL0 : List Sc) (aX1 : Int) : List AV := enc [.p .sl, .p (.int .i64)] [.l aL0, .i aX1]
def f_l_FnExactMultiplicityIn_i (aL0 : List Sc) (aX1 : Int) : List AV := enc [] []
def f_l_FnExactMultiplicityIn_en (r : Bool) : List AV × List AV := (enc [.p .boo] [.b r], enc [] [])
def f_l_FnExactMultiplicityIn_M : Calling := addC 10 f_l_toIntS_c (addC 9 f_s_MultiplicityIn_c (addC 11 f_i_MultiplicityIn_c (addC 12 f_l_eqIntS_c (noC))))
theorem f_l_FnExactMultiplicityIn_Mt : CallOk Try.prog (f_l_FnExactMultiplicityIn_M) := addC_true f_l_toIntS_cc (addC_true f_s_MultiplicityIn_cc (addC_true f_i_MultiplicityIn_cc (addC_true f_l_eqIntS_cc (noC_true))))
theorem f_l_FnExactMultiplicityIn_o : loopsOnce Try.f3 = true := by kernel_rfl
theorem f_l_FnExactMultiplicityIn_p {R : Type} (aL0 : List Sc) (aX1 : Int) (kR : Bool → Option R) : f_l_FnExactMultiplicityIn_k aL0 aX1 kR = (f_l_FnExactMultiplicityIn_k aL0 aX1 some).bind kR := by
  simp only [f_l_FnExactMultiplicityIn_k, brB, boB, someB]
theorem f_l_FnExactMultiplicityIn_e (aL0 : List Sc) (aX1 : Int) : runFn E0 f_l_FnExactMultiplicityIn_M H0 f_l_FnExactMultiplicityIn_F (asL (noL)) Try.f3 (f_l_FnExactMultiplicityIn_a aL0 aX1) (f_l_FnExactMultiplicityIn_i aL0 aX1) = f_l_FnExactMultiplicityIn_k aL0 aX1 (fun r => some (f_l_FnExactMultiplicityIn_en r)) := by kernel_rfl
theorem f_l_FnExactMultiplicityIn_ok (aL0 : List Sc) (aX1 : Int) (r : Bool) (h : f_l_FnExactMultiplicityIn aL0 aX1 = some r) : CS Try.prog 3 (f_l_FnExactMultiplicityIn_a aL0 aX1) (f_l_FnExactMultiplicityIn_i aL0 aX1) (f_l_FnExactMultiplicityIn_en r).1 (f_l_FnExactMultiplicityIn_en r).2 :=
  fn_true (Gk := fun k => f_l_FnExactMultiplicityIn_k aL0 aX1 k) (en := f_l_FnExactMultiplicityIn_en) Try.func3 E0ok f_l_FnExactMultiplicityIn_Mt (noL_true) f_l_FnExactMultiplicityIn_o (f_l_FnExactMultiplicityIn_e aL0 aX1) (f_l_FnExactMultiplicityIn_p aL0 aX1) h
def f_l_FnExactMultiplicityIn_c : CRow := fun args inh => match dec2 [.p .sl, .p (.int .i64)] [] args inh with
  | some ([.l aL0, .i aX1], []) => some ((f_l_FnExactMultiplicityIn aL0 aX1).isSome, (f_l_FnExactMultiplicityIn_en ((f_l_FnExactMultiplicityIn aL0 aX1).getD false)).1, (f_l_FnExactMultiplicityIn_en ((f_l_FnExactMultiplicityIn aL0 aX1).getD false)).2)
  | _ => none
theorem f_l_FnExactMultiplicityIn_cc : CTrue Try.prog 3 f_l_FnExactMultiplicityIn_c := by
  intro args inh rs out h
  unfold f_l_FnExactMultiplicityIn_c at h
  split at h
  · rename_i hd
    obtain ⟨h1, h2⟩ := dec2_enc hd
    rw [← h1, ← h2]
    exact rowC (f_l_FnExactMultiplicityIn_ok _ _) h
  · cases h

def f_l_szIntS_F : Fi := { nv := 0, nc := 0, m := 0, vt := [], kl := [], sk := [], mvs := [], fz := [] }
def f_l_szIntS_a (a0 : List Sc) (left1 : Int) : List AV := enc [.p .sl, .p (.int .i64)] [.l a0, .i left1]
def f_l_szIntS_i (a0 : List Sc) (left1 : Int) : List AV := enc [] []
def f_l_szIntS_en (r : Int) : List AV × List AV := (enc [.p (.int .i64)] [.i r], enc [] [])
def f_l_szIntS_M : Calling := noC
theorem f_l_szIntS_Mt : CallOk Try.prog (f_l_szIntS_M) := noC_true
theorem f_l_szIntS_o : loopsOnce Try.f28 = true := by kernel_rfl
theorem f_l_szIntS_p {R : Type} (a0 : List Sc) (left1 : Int) (kR : Int → Option R) : f_l_szIntS_k a0 left1 kR = (f_l_szIntS_k a0 left1 some).bind kR := by
  simp only [f_l_szIntS_k, brB, someB]
theorem f_l_szIntS_e (a0 : List Sc) (left1 : Int) : runFn E0 f_l_szIntS_M H0 f_l_szIntS_F (asL (noL)) Try.f28 (f_l_szIntS_a a0 left1) (f_l_szIntS_i a0 left1) = f_l_szIntS_k a0 left1 (fun r => some (f_l_szIntS_en r)) := by kernel_rfl
theorem f_l_szIntS_ok (a0 : List Sc) (left1 : Int) (r : Int) (h : f_l_szIntS a0 left1 = some r) : CS Try.prog 28 (f_l_szIntS_a a0 left1) (f_l_szIntS_i a0 left1) (f_l_szIntS_en r).1 (f_l_szIntS_en r).2 :=
  fn_true (Gk := fun k => f_l_szIntS_k a0 left1 k) (en := f_l_szIntS_en) Try.func28 E0ok f_l_szIntS_Mt (noL_true) f_l_szIntS_o (f_l_szIntS_e a0 left1) (f_l_szIntS_p a0 left1) h
def f_l_szIntS_c : CRow := fun args inh => match dec2 [.p .sl, .p (.int .i64)] [] args inh with
  | some ([.l a0, .i left1], []) => some ((f_l_szIntS a0 left1).isSome, (f_l_szIntS_en ((f_l_szIntS a0 left1).getD 0)).1, (f_l_szIntS_en ((f_l_szIntS a0 left1).getD 0)).2)
  | _ => none
theorem f_l_szIntS_cc : CTrue Try.prog 28 f_l_szIntS_c := by
  intro args inh rs out h
  unfold f_l_szIntS_c at h
  split at h
  · rename_i hd
    obtain ⟨h1, h2⟩ := dec2_enc hd
    rw [← h1, ← h2]
    exact rowC (f_l_szIntS_ok _ _) h
  · cases h

def f_l_szGroup_F : Fi := { nv := 0, nc := 0, m := 0, vt := [], kl := [], sk := [], mvs := [], fz := [] }
def f_l_szGroup_a (a0 : List Sc) (left1 : Int) : List AV := enc [.p .gr, .p (.int .i64)] [.l a0, .i left1]
def f_l_szGroup_i (a0 : List Sc) (left1 : Int) : List AV := enc [] []
def f_l_szGroup_en (r : Int) : List AV × List AV := (enc [.p (.int .i64)] [.i r], enc [] [])
def f_l_szGroup_M : Calling := addC 28 f_l_szIntS_c (noC)
theorem f_l_szGroup_Mt : CallOk Try.prog (f_l_szGroup_M) := addC_true f_l_szIntS_cc (noC_true)
theorem f_l_szGroup_o : loopsOnce Try.f13 = true := by kernel_rfl
theorem f_l_szGroup_p {R : Type} (a0 : List Sc) (left1 : Int) (kR : Int → Option R) : f_l_szGroup_k a0 left1 kR = (f_l_szGroup_k a0 left1 some).bind kR := by
  simp only [f_l_szGroup_k, brB, boB, someB]
theorem f_l_szGroup_e (a0 : List Sc) (left1 : Int) : runFn E0 f_l_szGroup_M H0 f_l_szGroup_F (asL (noL)) Try.f13 (f_l_szGroup_a a0 left1) (f_l_szGroup_i a0 left1) = f_l_szGroup_k a0 left1 (fun r => some (f_l_szGroup_en r)) := by kernel_rfl
theorem f_l_szGroup_ok (a0 : List Sc) (left1 : Int) (r : Int) (h : f_l_szGroup a0 left1 = some r) : CS Try.prog 13 (f_l_szGroup_a a0 left1) (f_l_szGroup_i a0 left1) (f_l_szGroup_en r).1 (f_l_szGroup_en r).2 :=
  fn_true (Gk := fun k => f_l_szGroup_k a0 left1 k) (en := f_l_szGroup_en) Try.func13 E0ok f_l_szGroup_Mt (noL_true) f_l_szGroup_o (f_l_szGroup_e a0 left1) (f_l_szGroup_p a0 left1) h
def f_l_szGroup_c : CRow := fun args inh => match dec2 [.p .gr, .p (.int .i64)] [] args inh with
  | some ([.l a0, .i left1], []) => some ((f_l_szGroup a0 left1).isSome, (f_l_szGroup_en ((f_l_szGroup a0 left1).getD 0)).1, (f_l_szGroup_en ((f_l_szGroup a0 left1).getD 0)).2)
  | _ => none
theorem f_l_szGroup_cc : CTrue Try.prog 13 f_l_szGroup_c := by
  intro args inh rs out h
  unfold f_l_szGroup_c at h
  split at h
  · rename_i hd
    obtain ⟨h1, h2⟩ := dec2_enc hd
    rw [← h1, ← h2]
    exact rowC (f_l_szGroup_ok _ _) h
  · cases h

def f_l_toGroup_F : Fi := { nv := 2, nc := 2, m := 0, vt := [(2, 0), (3, 1)], kl := [], sk := [], mvs := [], fz := [] }
def f_l_toGroup_a (a0 : List Sc) : List AV := enc [.p .gr] [.l a0]
def f_l_toGroup_i (a0 : List Sc) : List AV := enc [] []
def f_l_toGroup_en (r : List Sc) : List AV × List AV := (enc [.p (.go 0)] [], enc [.own 3] [.l r])
def f_l_toGroup_M : Calling := addC 10 f_l_toIntS_c (noC)
theorem f_l_toGroup_Mt : CallOk Try.prog (f_l_toGroup_M) := addC_true f_l_toIntS_cc (noC_true)
theorem f_l_toGroup_o : loopsOnce Try.f15 = true := by kernel_rfl
theorem f_l_toGroup_p {R : Type} (a0 : List Sc) (kR : List Sc → Option R) : f_l_toGroup_k a0 kR = (f_l_toGroup_k a0 some).bind kR := by
  simp only [f_l_toGroup_k, boB, someB]
theorem f_l_toGroup_e (a0 : List Sc) : runFn E0 f_l_toGroup_M H0 f_l_toGroup_F (asL (noL)) Try.f15 (f_l_toGroup_a a0) (f_l_toGroup_i a0) = f_l_toGroup_k a0 (fun r => some (f_l_toGroup_en r)) := by kernel_rfl
theorem f_l_toGroup_ok (a0 : List Sc) (r : List Sc) (h : f_l_toGroup a0 = some r) : CS Try.prog 15 (f_l_toGroup_a a0) (f_l_toGroup_i a0) (f_l_toGroup_en r).1 (f_l_toGroup_en r).2 :=
  fn_true (Gk := fun k => f_l_toGroup_k a0 k) (en := f_l_toGroup_en) Try.func15 E0ok f_l_toGroup_Mt (noL_true) f_l_toGroup_o (f_l_toGroup_e a0) (f_l_toGroup_p a0) h
def f_l_toGroup_c : CRow := fun args inh => match dec2 [.p .gr] [] args inh with
  | some ([.l a0], []) => some ((f_l_toGroup a0).isSome, (f_l_toGroup_en ((f_l_toGroup a0).getD [])).1, (f_l_toGroup_en ((f_l_toGroup a0).getD [])).2)
  | _ => none
theorem f_l_toGroup_cc : CTrue Try.prog 15 f_l_toGroup_c := by
  intro args inh rs out h
  unfold f_l_toGroup_c at h
  split at h
  · rename_i hd
    obtain ⟨h1, h2⟩ := dec2_enc hd
    rw [← h1, ← h2]
    exact rowC (f_l_toGroup_ok _) h
  · cases h

def f_s_l1In_F : Fi := { nv := 0, nc := 0, m := 0, vt := [], kl := [], sk := [], mvs := [], fz := [] }
def f_s_l1In_a (x0 : Int) (low1 : Int) (high2 : Int) : List AV := enc [.p (.int .i64), .p (.int .i64), .p (.int .i64)] [.i x0, .i low1, .i high2]
def f_s_l1In_i (x0 : Int) (low1 : Int) (high2 : Int) : List AV := enc [] []
def f_s_l1In_en (r : Bool) : List AV × List AV := (enc [.p .boo] [.b r], enc [] [])
def f_s_l1In_M : Calling := noC
theorem f_s_l1In_Mt : CallOk Try.prog (f_s_l1In_M) := noC_true
theorem f_s_l1In_o : loopsOnce Try.f32 = true := by kernel_rfl
theorem f_s_l1In_p {R : Type} (x0 : Int) (low1 : Int) (high2 : Int) (kR : Bool → Option R) : f_s_l1In_k x0 low1 high2 kR = (f_s_l1In_k x0 low1 high2 some).bind kR := by
  simp only [f_s_l1In_k, brB, someB]
theorem f_s_l1In_e (x0 : Int) (low1 : Int) (high2 : Int) : runFn E0 f_s_l1In_M H0 f_s_l1In_F (asL (noL)) Try.f32 (f_s_l1In_a x0 low1 high2) (f_s_l1In_i x0 low1 high2) = f_s_l1In_k x0 low1 high2 (fun r => some (f_s_l1In_en r)) := by kernel_rfl
theorem f_s_l1In_ok (x0 : Int) (low1 : Int) (high2 : Int) (r : Bool) (h : f_s_l1In x0 low1 high2 = some r) : CS Try.prog 32 (f_s_l1In_a x0 low1 high2) (f_s_l1In_i x0 low1 high2) (f_s_l1In_en r).1 (f_s_l1In_en r).2 :=
  fn_true (Gk := fun k => f_s_l1In_k x0 low1 high2 k) (en := f_s_l1In_en) Try.func32 E0ok f_s_l1In_Mt (noL_true) f_s_l1In_o (f_s_l1In_e x0 low1 high2) (f_s_l1In_p x0 low1 high2) h
def f_s_l1In_c : CRow := fun args inh => match dec2 [.p (.int .i64), .p (.int .i64), .p (.int .i64)] [] args inh with
  | some ([.i x0, .i low1, .i high2], []) => some ((f_s_l1In x0 low1 high2).isSome, (f_s_l1In_en ((f_s_l1In x0 low1 high2).getD false)).1, (f_s_l1In_en ((f_s_l1In x0 low1 high2).getD false)).2)
  | _ => none
theorem f_s_l1In_cc : CTrue Try.prog 32 f_s_l1In_c := by
  intro args inh rs out h
  unfold f_s_l1In_c at h
  split at h
  · rename_i hd
    obtain ⟨h1, h2⟩ := dec2_enc hd
    rw [← h1, ← h2]
    exact rowC (f_s_l1In_ok _ _ _) h
  · cases h

def f_s_IsGroup_F : Fi := { nv := 0, nc := 0, m := 0, vt := [], kl := [(0, ([0, 2, 5, 6, 7, 8, 9, 10, 11, 12, 13, 14, 15, 16, 17, 18, 19, 20, 21, 22, 23, 24, 25, 26, 27, 28, 29, 30, 31], [0, 1, 2, 4, 5, 6, 7, 8, 9, 10, 11, 12, 13, 14, 15, 16, 17, 18, 19, 20, 21, 22, 23, 24, 25, 26, 27, 28, 29, 30, 31], [0, 1, 3, 4, 5, 6, 7, 8, 9, 10, 11, 12, 13, 14, 15, 16, 17, 18, 19, 20, 21, 22, 23, 24, 25, 26, 27, 28, 29, 30, 31]))], sk := [], mvs := [], fz := [] }
def f_s_IsGroup_a (g0 : List Sc) : List AV := enc [.p .gr] [.l g0]
def f_s_IsGroup_i (g0 : List Sc) : List AV := enc [] []
def f_s_IsGroup_en (r : Bool) : List AV × List AV := (enc [.p .boo] [.b r], enc [] [])
def f_s_IsGroup_M : Calling := addC 32 f_s_l1In_c (noC)
theorem f_s_IsGroup_Mt : CallOk Try.prog (f_s_IsGroup_M) := addC_true f_s_l1In_cc (noC_true)
theorem f_s_IsGroup_o : loopsOnce Try.f29 = true := by kernel_rfl
def f_s_IsGroup_h0 : List Sh := [.u, .p .el, .u, .p (.int .i64), .p (.int .i64), .u, .u, .u, .u, .u, .u, .u, .u, .u, .u, .u, .u, .u, .u, .u, .u, .u, .u, .u, .u, .u, .u, .u, .u, .u, .u, .u]
def f_s_IsGroup_fr0 (g1 : List Sc) (s : Int × Int) : List AV := enc f_s_IsGroup_h0 [.l g1, .i s.1, .i s.2]
def f_s_IsGroup_g0_1 : List Sh := [.u, .u, .u, .p (.int .i64), .u, .u, .u, .u, .u, .u, .u, .u, .u, .u, .u, .u, .u, .u, .u, .u, .u, .u, .u, .u, .u, .u, .u, .u, .u, .u, .u, .u]
def f_s_IsGroup_x0_1 (g1 : List Sc) (e : Int) : X × List AV := (.out 0, enc f_s_IsGroup_g0_1 [.i e])
def f_s_IsGroup_g0_2 : List Sh := [.u, .u, .p .boo, .u, .u, .u, .u, .u, .u, .u, .u, .u, .u, .u, .u, .u, .u, .u, .u, .u, .u, .u, .u, .u, .u, .u, .u, .u, .u, .u, .u, .u]
def f_s_IsGroup_x0_2 (g1 : List Sc) (e : Unit) : X × List AV := (.ret, enc f_s_IsGroup_g0_2 [.b false])
theorem f_s_IsGroup_p0 {R : Type} (g1 : List Sc) (s : Int × Int) (kN : Int × Int → Option R) (kA : Int → Option R) (kB : Unit → Option R) : f_s_IsGroup_k0 g1 s.1 s.2 kN kA kB = (f_s_IsGroup_r0 g1 s).bind (Ro.el kN kA kB) := by
  simp only [f_s_IsGroup_k0, f_s_IsGroup_r0, brB, boB, someB, noneB, Ro.el]
theorem f_s_IsGroup_e0 (g1 : List Sc) (s : Int × Int) : EC E0 f_s_IsGroup_M H0 f_s_IsGroup_F (asL (noL)) 0 (bodyOf Try.f29 0) (f_s_IsGroup_fr0 g1 s) (done (klOf f_s_IsGroup_F 0)) = f_s_IsGroup_k0 g1 s.1 s.2 (fun s => some (.norm, f_s_IsGroup_fr0 g1 s)) (fun e => some (f_s_IsGroup_x0_1 g1 e)) (fun e => some (f_s_IsGroup_x0_2 g1 e)) := by kernel_rfl
theorem f_s_IsGroup_l0 (g1 : List Sc) : ∀ s r, loopL (f_s_IsGroup_r0 g1) s = some r → LS Try.prog f_s_IsGroup_F (bodyOf Try.f29 0) (f_s_IsGroup_fr0 g1 s) (enX (f_s_IsGroup_x0_1 g1) (f_s_IsGroup_x0_2 g1) r) :=
  loop_true E0ok f_s_IsGroup_Mt (noL_true) f_s_IsGroup_o (fun _ h => by cases h) (fun _ h => by cases h) (fun s => (f_s_IsGroup_e0 g1 s).trans (f_s_IsGroup_p0 g1 s _ _ (fun e => some (f_s_IsGroup_x0_2 g1 e))))
def f_s_IsGroup_t0 (σ : List AV) : Option (Bool × Bool × (X × List AV) × (X × List AV)) := match dec f_s_IsGroup_h0 σ with
  | some [.l g1, .i n3, .i i4] => some ((loopL (f_s_IsGroup_r0 g1) (n3, i4)).isSome, isOne (loopL (f_s_IsGroup_r0 g1) (n3, i4)), f_s_IsGroup_x0_1 g1 (getOne 0 (loopL (f_s_IsGroup_r0 g1) (n3, i4))), f_s_IsGroup_x0_2 g1 (getTwo () (loopL (f_s_IsGroup_r0 g1) (n3, i4))))
  | _ => none
theorem f_s_IsGroup_tt0 : TTrue Try.prog f_s_IsGroup_F Try.f29 0 (f_s_IsGroup_t0) := by
  intro σ p r r' h
  unfold f_s_IsGroup_t0 at h
  split at h
  · rename_i hd
    rw [← dec_enc hd]
    exact row2 (f_s_IsGroup_l0 _ _) h
  · cases h
theorem f_s_IsGroup_p {R : Type} (g0 : List Sc) (kR : Bool → Option R) : f_s_IsGroup_k g0 kR = (f_s_IsGroup_k g0 some).bind kR := by
  simp only [f_s_IsGroup_k, blB, someB]
theorem f_s_IsGroup_e (g0 : List Sc) : runFn E0 f_s_IsGroup_M H0 f_s_IsGroup_F (asL (addL 0 (f_s_IsGroup_t0) (noL))) Try.f29 (f_s_IsGroup_a g0) (f_s_IsGroup_i g0) = f_s_IsGroup_k g0 (fun r => some (f_s_IsGroup_en r)) := by kernel_rfl
theorem f_s_IsGroup_ok (g0 : List Sc) (r : Bool) (h : f_s_IsGroup g0 = some r) : CS Try.prog 29 (f_s_IsGroup_a g0) (f_s_IsGroup_i g0) (f_s_IsGroup_en r).1 (f_s_IsGroup_en r).2 :=
  fn_true (Gk := fun k => f_s_IsGroup_k g0 k) (en := f_s_IsGroup_en) Try.func29 E0ok f_s_IsGroup_Mt (addL_true (f_s_IsGroup_tt0) (noL_true)) f_s_IsGroup_o (f_s_IsGroup_e g0) (f_s_IsGroup_p g0) h
def f_s_IsGroup_c : CRow := fun args inh => match dec2 [.p .gr] [] args inh with
  | some ([.l g0], []) => some ((f_s_IsGroup g0).isSome, (f_s_IsGroup_en ((f_s_IsGroup g0).getD false)).1, (f_s_IsGroup_en ((f_s_IsGroup g0).getD false)).2)
  | _ => none
theorem f_s_IsGroup_cc : CTrue Try.prog 29 f_s_IsGroup_c := by
  intro args inh rs out h
  unfold f_s_IsGroup_c at h
  split at h
  · rename_i hd
    obtain ⟨h1, h2⟩ := dec2_enc hd
    rw [← h1, ← h2]
    exact rowC (f_s_IsGroup_ok _) h
  · cases h

def f_s_l2Order_F : Fi := { nv := 0, nc := 0, m := 0, vt := [], kl := [(0, ([0, 2, 5, 6, 7, 8, 9, 10, 11, 12, 13, 14, 15, 16, 17, 18, 19], [0, 1, 2, 4, 5, 6, 7, 8, 9, 10, 11, 12, 13, 14, 15, 16, 17, 18, 19], [0, 1, 3, 4, 5, 6, 7, 8, 9, 10, 11, 12, 13, 14, 15, 16, 17, 18, 19]))], sk := [], mvs := [], fz := [] }
def f_s_l2Order_a (g0 : List Sc) : List AV := enc [.p .gr] [.l g0]
def f_s_l2Order_i (g0 : List Sc) : List AV := enc [] []
def f_s_l2Order_en (r : Int) : List AV × List AV := (enc [.p (.int .i64)] [.i r], enc [] [])
def f_s_l2Order_M : Calling := noC
theorem f_s_l2Order_Mt : CallOk Try.prog (f_s_l2Order_M) := noC_true
theorem f_s_l2Order_o : loopsOnce Try.f30 = true := by kernel_rfl
def f_s_l2Order_h0 : List Sh := [.u, .p .el, .u, .p (.int .i64), .p (.int .i64), .u, .u, .u, .u, .u, .u, .u, .u, .u, .u, .u, .u, .u, .u, .u]
def f_s_l2Order_fr0 (g1 : List Sc) (s : Int × Int) : List AV := enc f_s_l2Order_h0 [.l g1, .i s.1, .i s.2]
def f_s_l2Order_g0_1 : List Sh := [.u, .u, .u, .p (.int .i64), .u, .u, .u, .u, .u, .u, .u, .u, .u, .u, .u, .u, .u, .u, .u, .u]
def f_s_l2Order_x0_1 (g1 : List Sc) (e : Int) : X × List AV := (.out 0, enc f_s_l2Order_g0_1 [.i e])
def f_s_l2Order_x0_2 (g1 : List Sc) (_e : Unit) : X × List AV := (.ret, [])
theorem f_s_l2Order_p0 {R : Type} (g1 : List Sc) (s : Int × Int) (kN : Int × Int → Option R) (kA : Int → Option R) (kB : Unit → Option R) : f_s_l2Order_k0 g1 s.1 s.2 kN kA = (f_s_l2Order_r0 g1 s).bind (Ro.el kN kA kB) := by
  simp only [f_s_l2Order_k0, f_s_l2Order_r0, brB, someB, noneB, Ro.el]
theorem f_s_l2Order_e0 (g1 : List Sc) (s : Int × Int) : EC E0 f_s_l2Order_M H0 f_s_l2Order_F (asL (noL)) 0 (bodyOf Try.f30 0) (f_s_l2Order_fr0 g1 s) (done (klOf f_s_l2Order_F 0)) = f_s_l2Order_k0 g1 s.1 s.2 (fun s => some (.norm, f_s_l2Order_fr0 g1 s)) (fun e => some (f_s_l2Order_x0_1 g1 e)) := by kernel_rfl
theorem f_s_l2Order_l0 (g1 : List Sc) : ∀ s r, loopL (f_s_l2Order_r0 g1) s = some r → LS Try.prog f_s_l2Order_F (bodyOf Try.f30 0) (f_s_l2Order_fr0 g1 s) (enX (f_s_l2Order_x0_1 g1) (f_s_l2Order_x0_2 g1) r) :=
  loop_true E0ok f_s_l2Order_Mt (noL_true) f_s_l2Order_o (fun _ h => by cases h) (fun _ h => by cases h) (fun s => (f_s_l2Order_e0 g1 s).trans (f_s_l2Order_p0 g1 s _ _ (fun e => some (f_s_l2Order_x0_2 g1 e))))
def f_s_l2Order_t0 (σ : List AV) : Option (Bool × Bool × (X × List AV) × (X × List AV)) := match dec f_s_l2Order_h0 σ with
  | some [.l g1, .i n3, .i i4] => some (isOne (loopL (f_s_l2Order_r0 g1) (n3, i4)), true, f_s_l2Order_x0_1 g1 (getOne 0 (loopL (f_s_l2Order_r0 g1) (n3, i4))), (.ret, []))
  | _ => none
theorem f_s_l2Order_tt0 : TTrue Try.prog f_s_l2Order_F Try.f30 0 (f_s_l2Order_t0) := by
  intro σ p r r' h
  unfold f_s_l2Order_t0 at h
  split at h
  · rename_i hd
    rw [← dec_enc hd]
    exact row1 (f_s_l2Order_l0 _ _) h
  · cases h
theorem f_s_l2Order_p {R : Type} (g0 : List Sc) (kR : Int → Option R) : f_s_l2Order_k g0 kR = (f_s_l2Order_k g0 some).bind kR := by
  simp only [f_s_l2Order_k, bl1B, someB]
theorem f_s_l2Order_e (g0 : List Sc) : runFn E0 f_s_l2Order_M H0 f_s_l2Order_F (asL (addL 0 (f_s_l2Order_t0) (noL))) Try.f30 (f_s_l2Order_a g0) (f_s_l2Order_i g0) = f_s_l2Order_k g0 (fun r => some (f_s_l2Order_en r)) := by kernel_rfl
theorem f_s_l2Order_ok (g0 : List Sc) (r : Int) (h : f_s_l2Order g0 = some r) : CS Try.prog 30 (f_s_l2Order_a g0) (f_s_l2Order_i g0) (f_s_l2Order_en r).1 (f_s_l2Order_en r).2 :=
  fn_true (Gk := fun k => f_s_l2Order_k g0 k) (en := f_s_l2Order_en) Try.func30 E0ok f_s_l2Order_Mt (addL_true (f_s_l2Order_tt0) (noL_true)) f_s_l2Order_o (f_s_l2Order_e g0) (f_s_l2Order_p g0) h
def f_s_l2Order_c : CRow := fun args inh => match dec2 [.p .gr] [] args inh with
  | some ([.l g0], []) => some ((f_s_l2Order g0).isSome, (f_s_l2Order_en ((f_s_l2Order g0).getD 0)).1, (f_s_l2Order_en ((f_s_l2Order g0).getD 0)).2)
  | _ => none
theorem f_s_l2Order_cc : CTrue Try.prog 30 f_s_l2Order_c := by
  intro args inh rs out h
  unfold f_s_l2Order_c at h
  split at h
  · rename_i hd
    obtain ⟨h1, h2⟩ := dec2_enc hd
    rw [← h1, ← h2]
    exact rowC (f_s_l2Order_ok _) h
  · cases h

def f_s_MiddleThird_F : Fi := { nv := 0, nc := 0, m := 0, vt := [], kl := [(0, ([0, 2, 6, 7, 8, 9, 10, 11, 12, 13, 14, 15, 16, 17, 18, 19, 20, 21, 22, 23, 24, 25, 26, 27, 28, 29, 30, 31, 32, 33, 34, 35, 36, 37], [0, 1, 2, 3, 5, 6, 7, 8, 9, 10, 11, 12, 13, 14, 15, 16, 17, 18, 19, 20, 21, 22, 23, 24, 25, 26, 27, 28, 29, 30, 31, 32, 33, 34, 35, 36, 37], [0, 1, 3, 4, 5, 6, 7, 8, 9, 10, 11, 12, 13, 14, 15, 16, 17, 18, 19, 20, 21, 22, 23, 24, 25, 26, 27, 28, 29, 30, 31, 32, 33, 34, 35, 36, 37]))], sk := [], mvs := [], fz := [] }
def f_s_MiddleThird_a (g0 : List Sc) : List AV := enc [.p .gr] [.l g0]
def f_s_MiddleThird_i (g0 : List Sc) : List AV := enc [] []
def f_s_MiddleThird_en (r : Int) : List AV × List AV := (enc [.p (.int .i64)] [.i r], enc [] [])
def f_s_MiddleThird_M : Calling := addC 29 f_s_IsGroup_c (addC 30 f_s_l2Order_c (noC))
theorem f_s_MiddleThird_Mt : CallOk Try.prog (f_s_MiddleThird_M) := addC_true f_s_IsGroup_cc (addC_true f_s_l2Order_cc (noC_true))
theorem f_s_MiddleThird_o : loopsOnce Try.f14 = true := by kernel_rfl
def f_s_MiddleThird_h0 : List Sh := [.u, .p .el, .u, .p (.int .i64), .p (.int .i64), .p (.int .i64), .u, .u, .u, .u, .u, .u, .u, .u, .u, .u, .u, .u, .u, .u, .u, .u, .u, .u, .u, .u, .u, .u, .u, .u, .u, .u, .u, .u, .u, .u, .u, .u]
def f_s_MiddleThird_fr0 (g1 : List Sc) (n3 : Int) (s : Int × Int) : List AV := enc f_s_MiddleThird_h0 [.l g1, .i n3, .i s.1, .i s.2]
def f_s_MiddleThird_g0_1 : List Sh := [.u, .u, .u, .u, .p (.int .i64), .u, .u, .u, .u, .u, .u, .u, .u, .u, .u, .u, .u, .u, .u, .u, .u, .u, .u, .u, .u, .u, .u, .u, .u, .u, .u, .u, .u, .u, .u, .u, .u, .u]
def f_s_MiddleThird_x0_1 (g1 : List Sc) (n3 : Int) (e : Int) : X × List AV := (.out 0, enc f_s_MiddleThird_g0_1 [.i e])
def f_s_MiddleThird_x0_2 (g1 : List Sc) (n3 : Int) (_e : Unit) : X × List AV := (.ret, [])
theorem f_s_MiddleThird_p0 {R : Type} (g1 : List Sc) (n3 : Int) (s : Int × Int) (kN : Int × Int → Option R) (kA : Int → Option R) (kB : Unit → Option R) : f_s_MiddleThird_k0 g1 n3 s.1 s.2 kN kA = (f_s_MiddleThird_r0 g1 n3 s).bind (Ro.el kN kA kB) := by
  simp only [f_s_MiddleThird_k0, f_s_MiddleThird_r0, brB, someB, noneB, Ro.el]
theorem f_s_MiddleThird_e0 (g1 : List Sc) (n3 : Int) (s : Int × Int) : EC E0 f_s_MiddleThird_M H0 f_s_MiddleThird_F (asL (noL)) 0 (bodyOf Try.f14 0) (f_s_MiddleThird_fr0 g1 n3 s) (done (klOf f_s_MiddleThird_F 0)) = f_s_MiddleThird_k0 g1 n3 s.1 s.2 (fun s => some (.norm, f_s_MiddleThird_fr0 g1 n3 s)) (fun e => some (f_s_MiddleThird_x0_1 g1 n3 e)) := by kernel_rfl
theorem f_s_MiddleThird_l0 (g1 : List Sc) (n3 : Int) : ∀ s r, loopL (f_s_MiddleThird_r0 g1 n3) s = some r → LS Try.prog f_s_MiddleThird_F (bodyOf Try.f14 0) (f_s_MiddleThird_fr0 g1 n3 s) (enX (f_s_MiddleThird_x0_1 g1 n3) (f_s_MiddleThird_x0_2 g1 n3) r) :=
  loop_true E0ok f_s_MiddleThird_Mt (noL_true) f_s_MiddleThird_o (fun _ h => by cases h) (fun _ h => by cases h) (fun s => (f_s_MiddleThird_e0 g1 n3 s).trans (f_s_MiddleThird_p0 g1 n3 s _ _ (fun e => some (f_s_MiddleThird_x0_2 g1 n3 e))))
def f_s_MiddleThird_t0 (σ : List AV) : Option (Bool × Bool × (X × List AV) × (X × List AV)) := match dec f_s_MiddleThird_h0 σ with
  | some [.l g1, .i n3, .i a4, .i x5] => some (isOne (loopL (f_s_MiddleThird_r0 g1 n3) (a4, x5)), true, f_s_MiddleThird_x0_1 g1 n3 (getOne 0 (loopL (f_s_MiddleThird_r0 g1 n3) (a4, x5))), (.ret, []))
  | _ => none
theorem f_s_MiddleThird_tt0 : TTrue Try.prog f_s_MiddleThird_F Try.f14 0 (f_s_MiddleThird_t0) := by
  intro σ p r r' h
  unfold f_s_MiddleThird_t0 at h
  split at h
  · rename_i hd
    rw [← dec_enc hd]
    exact row1 (f_s_MiddleThird_l0 _ _ _) h
  · cases h
theorem f_s_MiddleThird_p {R : Type} (g0 : List Sc) (kR : Int → Option R) : f_s_MiddleThird_k g0 kR = (f_s_MiddleThird_k g0 some).bind kR := by
  simp only [f_s_MiddleThird_k, brB, boB, bl1B, someB]
theorem f_s_MiddleThird_e (g0 : List Sc) : runFn E0 f_s_MiddleThird_M H0 f_s_MiddleThird_F (asL (addL 0 (f_s_MiddleThird_t0) (noL))) Try.f14 (f_s_MiddleThird_a g0) (f_s_MiddleThird_i g0) = f_s_MiddleThird_k g0 (fun r => some (f_s_MiddleThird_en r)) := by kernel_rfl
theorem f_s_MiddleThird_ok (g0 : List Sc) (r : Int) (h : f_s_MiddleThird g0 = some r) : CS Try.prog 14 (f_s_MiddleThird_a g0) (f_s_MiddleThird_i g0) (f_s_MiddleThird_en r).1 (f_s_MiddleThird_en r).2 :=
  fn_true (Gk := fun k => f_s_MiddleThird_k g0 k) (en := f_s_MiddleThird_en) Try.func14 E0ok f_s_MiddleThird_Mt (addL_true (f_s_MiddleThird_tt0) (noL_true)) f_s_MiddleThird_o (f_s_MiddleThird_e g0) (f_s_MiddleThird_p g0) h
def f_s_MiddleThird_c : CRow := fun args inh => match dec2 [.p .gr] [] args inh with
  | some ([.l g0], []) => some ((f_s_MiddleThird g0).isSome, (f_s_MiddleThird_en ((f_s_MiddleThird g0).getD 0)).1, (f_s_MiddleThird_en ((f_s_MiddleThird g0).getD 0)).2)
  | _ => none
theorem f_s_MiddleThird_cc : CTrue Try.prog 14 f_s_MiddleThird_c := by
  intro args inh rs out h
  unfold f_s_MiddleThird_c at h
  split at h
  · rename_i hd
    obtain ⟨h1, h2⟩ := dec2_enc hd
    rw [← h1, ← h2]
    exact rowC (f_s_MiddleThird_ok _) h
  · cases h

def f_i_within_F : Fi := { nv := 0, nc := 0, m := 0, vt := [], kl := [], sk := [], mvs := [], fz := [] }
def f_i_within_a (x0 : Int) (lo1 : Int) (hi2 : Int) : List AV := enc [.p (.int .i64), .p (.int .i64), .p (.int .i64)] [.i x0, .i lo1, .i hi2]
def f_i_within_i (x0 : Int) (lo1 : Int) (hi2 : Int) : List AV := enc [] []
def f_i_within_en (r : Bool) : List AV × List AV := (enc [.p .boo] [.b r], enc [] [])
def f_i_within_M : Calling := noC
theorem f_i_within_Mt : CallOk Try.prog (f_i_within_M) := noC_true
theorem f_i_within_o : loopsOnce Try.f34 = true := by kernel_rfl
theorem f_i_within_p {R : Type} (x0 : Int) (lo1 : Int) (hi2 : Int) (kR : Bool → Option R) : f_i_within_k x0 lo1 hi2 kR = (f_i_within_k x0 lo1 hi2 some).bind kR := by
  simp only [f_i_within_k, brB, someB]
theorem f_i_within_e (x0 : Int) (lo1 : Int) (hi2 : Int) : runFn E0 f_i_within_M H0 f_i_within_F (asL (noL)) Try.f34 (f_i_within_a x0 lo1 hi2) (f_i_within_i x0 lo1 hi2) = f_i_within_k x0 lo1 hi2 (fun r => some (f_i_within_en r)) := by kernel_rfl
theorem f_i_within_ok (x0 : Int) (lo1 : Int) (hi2 : Int) (r : Bool) (h : f_i_within x0 lo1 hi2 = some r) : CS Try.prog 34 (f_i_within_a x0 lo1 hi2) (f_i_within_i x0 lo1 hi2) (f_i_within_en r).1 (f_i_within_en r).2 :=
  fn_true (Gk := fun k => f_i_within_k x0 lo1 hi2 k) (en := f_i_within_en) Try.func34 E0ok f_i_within_Mt (noL_true) f_i_within_o (f_i_within_e x0 lo1 hi2) (f_i_within_p x0 lo1 hi2) h
def f_i_within_c : CRow := fun args inh => match dec2 [.p (.int .i64), .p (.int .i64), .p (.int .i64)] [] args inh with
  | some ([.i x0, .i lo1, .i hi2], []) => some ((f_i_within x0 lo1 hi2).isSome, (f_i_within_en ((f_i_within x0 lo1 hi2).getD false)).1, (f_i_within_en ((f_i_within x0 lo1 hi2).getD false)).2)
  | _ => none
theorem f_i_within_cc : CTrue Try.prog 34 f_i_within_c := by
  intro args inh rs out h
  unfold f_i_within_c at h
  split at h
  · rename_i hd
    obtain ⟨h1, h2⟩ := dec2_enc hd
    rw [← h1, ← h2]
    exact rowC (f_i_within_ok _ _ _) h
  · cases h

def f_i_IsGroup_F : Fi := { nv := 0, nc := 0, m := 0, vt := [], kl := [(0, ([0, 1, 2, 4, 5, 6, 7, 8, 9, 10, 14, 15, 16, 17, 18, 19, 20, 21, 22, 23, 24, 25], [0, 1, 2, 4, 5, 6, 7, 8, 9, 10, 11, 12, 13, 14, 15, 16, 17, 18, 19, 20, 21, 22, 23, 24, 25], [0, 1, 3, 4, 5, 6, 7, 8, 9, 10, 11, 12, 13, 14, 15, 16, 17, 18, 19, 20, 21, 22, 23, 24, 25]))], sk := [], mvs := [], fz := [] }
def f_i_IsGroup_a (g0 : List Sc) : List AV := enc [.p .gr] [.l g0]
def f_i_IsGroup_i (g0 : List Sc) : List AV := enc [] []
def f_i_IsGroup_en (r : Bool) : List AV × List AV := (enc [.p .boo] [.b r], enc [] [])
def f_i_IsGroup_M : Calling := addC 34 f_i_within_c (noC)
theorem f_i_IsGroup_Mt : CallOk Try.prog (f_i_IsGroup_M) := addC_true f_i_within_cc (noC_true)
theorem f_i_IsGroup_o : loopsOnce Try.f31 = true := by kernel_rfl
def f_i_IsGroup_h0 : List Sh := [.u, .u, .u, .p (.int .i64), .u, .u, .u, .u, .u, .u, .u, .p .sl, .p (.int .i64), .p (.int .i64), .u, .u, .u, .u, .u, .u, .u, .u, .u, .u, .u, .u]
def f_i_IsGroup_fr0 (t11 : List Sc) (t12 : Int) (s : Int × Int) : List AV := enc f_i_IsGroup_h0 [.i s.1, .l t11, .i t12, .i s.2]
def f_i_IsGroup_g0_1 : List Sh := [.u, .u, .u, .p (.int .i64), .u, .u, .u, .u, .u, .u, .u, .u, .u, .u, .u, .u, .u, .u, .u, .u, .u, .u, .u, .u, .u, .u]
def f_i_IsGroup_x0_1 (t11 : List Sc) (t12 : Int) (e : Int) : X × List AV := (.out 0, enc f_i_IsGroup_g0_1 [.i e])
def f_i_IsGroup_g0_2 : List Sh := [.u, .u, .p .boo, .u, .u, .u, .u, .u, .u, .u, .u, .u, .u, .u, .u, .u, .u, .u, .u, .u, .u, .u, .u, .u, .u, .u]
def f_i_IsGroup_x0_2 (t11 : List Sc) (t12 : Int) (e : Unit) : X × List AV := (.ret, enc f_i_IsGroup_g0_2 [.b false])
theorem f_i_IsGroup_p0 {R : Type} (t11 : List Sc) (t12 : Int) (s : Int × Int) (kN : Int × Int → Option R) (kA : Int → Option R) (kB : Unit → Option R) : f_i_IsGroup_k0 t11 t12 s.1 s.2 kN kA kB = (f_i_IsGroup_r0 t11 t12 s).bind (Ro.el kN kA kB) := by
  simp only [f_i_IsGroup_k0, f_i_IsGroup_r0, brB, boB, someB, noneB, Ro.el]
theorem f_i_IsGroup_e0 (t11 : List Sc) (t12 : Int) (s : Int × Int) : EC E0 f_i_IsGroup_M H0 f_i_IsGroup_F (asL (noL)) 0 (bodyOf Try.f31 0) (f_i_IsGroup_fr0 t11 t12 s) (done (klOf f_i_IsGroup_F 0)) = f_i_IsGroup_k0 t11 t12 s.1 s.2 (fun s => some (.norm, f_i_IsGroup_fr0 t11 t12 s)) (fun e => some (f_i_IsGroup_x0_1 t11 t12 e)) (fun e => some (f_i_IsGroup_x0_2 t11 t12 e)) := by kernel_rfl
theorem f_i_IsGroup_l0 (t11 : List Sc) (t12 : Int) : ∀ s r, loopL (f_i_IsGroup_r0 t11 t12) s = some r → LS Try.prog f_i_IsGroup_F (bodyOf Try.f31 0) (f_i_IsGroup_fr0 t11 t12 s) (enX (f_i_IsGroup_x0_1 t11 t12) (f_i_IsGroup_x0_2 t11 t12) r) :=
  loop_true E0ok f_i_IsGroup_Mt (noL_true) f_i_IsGroup_o (fun _ h => by cases h) (fun _ h => by cases h) (fun s => (f_i_IsGroup_e0 t11 t12 s).trans (f_i_IsGroup_p0 t11 t12 s _ _ (fun e => some (f_i_IsGroup_x0_2 t11 t12 e))))
def f_i_IsGroup_t0 (σ : List AV) : Option (Bool × Bool × (X × List AV) × (X × List AV)) := match dec f_i_IsGroup_h0 σ with
  | some [.i n3, .l t11, .i t12, .i t13] => some ((loopL (f_i_IsGroup_r0 t11 t12) (n3, t13)).isSome, isOne (loopL (f_i_IsGroup_r0 t11 t12) (n3, t13)), f_i_IsGroup_x0_1 t11 t12 (getOne 0 (loopL (f_i_IsGroup_r0 t11 t12) (n3, t13))), f_i_IsGroup_x0_2 t11 t12 (getTwo () (loopL (f_i_IsGroup_r0 t11 t12) (n3, t13))))
  | _ => none
theorem f_i_IsGroup_tt0 : TTrue Try.prog f_i_IsGroup_F Try.f31 0 (f_i_IsGroup_t0) := by
  intro σ p r r' h
  unfold f_i_IsGroup_t0 at h
  split at h
  · rename_i hd
    rw [← dec_enc hd]
    exact row2 (f_i_IsGroup_l0 _ _ _) h
  · cases h
theorem f_i_IsGroup_p {R : Type} (g0 : List Sc) (kR : Bool → Option R) : f_i_IsGroup_k g0 kR = (f_i_IsGroup_k g0 some).bind kR := by
  simp only [f_i_IsGroup_k, brB, blB, someB]
theorem f_i_IsGroup_e (g0 : List Sc) : runFn E0 f_i_IsGroup_M H0 f_i_IsGroup_F (asL (addL 0 (f_i_IsGroup_t0) (noL))) Try.f31 (f_i_IsGroup_a g0) (f_i_IsGroup_i g0) = f_i_IsGroup_k g0 (fun r => some (f_i_IsGroup_en r)) := by kernel_rfl
theorem f_i_IsGroup_ok (g0 : List Sc) (r : Bool) (h : f_i_IsGroup g0 = some r) : CS Try.prog 31 (f_i_IsGroup_a g0) (f_i_IsGroup_i g0) (f_i_IsGroup_en r).1 (f_i_IsGroup_en r).2 :=
  fn_true (Gk := fun k => f_i_IsGroup_k g0 k) (en := f_i_IsGroup_en) Try.func31 E0ok f_i_IsGroup_Mt (addL_true (f_i_IsGroup_tt0) (noL_true)) f_i_IsGroup_o (f_i_IsGroup_e g0) (f_i_IsGroup_p g0) h
def f_i_IsGroup_c : CRow := fun args inh => match dec2 [.p .gr] [] args inh with
  | some ([.l g0], []) => some ((f_i_IsGroup g0).isSome, (f_i_IsGroup_en ((f_i_IsGroup g0).getD false)).1, (f_i_IsGroup_en ((f_i_IsGroup g0).getD false)).2)
  | _ => none
theorem f_i_IsGroup_cc : CTrue Try.prog 31 f_i_IsGroup_c := by
  intro args inh rs out h
  unfold f_i_IsGroup_c at h
  split at h
  · rename_i hd
    obtain ⟨h1, h2⟩ := dec2_enc hd
    rw [← h1, ← h2]
    exact rowC (f_i_IsGroup_ok _) h
  · cases h

def f_i_MiddleThird_F : Fi := { nv := 0, nc := 0, m := 0, vt := [], kl := [(0, ([0, 1, 2, 5, 6, 7, 8, 9, 10, 11, 12, 13, 14, 15, 16, 19, 20, 21, 22, 23, 24, 25, 26, 27, 28, 29, 30, 31, 32, 33, 34, 35, 36, 37], [0, 1, 2, 4, 5, 6, 7, 8, 9, 10, 11, 12, 13, 14, 15, 16, 17, 18, 19, 20, 21, 22, 23, 24, 25, 26, 27, 28, 29, 30, 31, 32, 33, 34, 35, 36, 37], [0, 1, 3, 4, 5, 6, 7, 8, 9, 10, 11, 12, 13, 14, 15, 16, 17, 18, 19, 20, 21, 22, 23, 24, 25, 26, 27, 28, 29, 30, 31, 32, 33, 34, 35, 36, 37]))], sk := [], mvs := [], fz := [] }
def f_i_MiddleThird_a (g0 : List Sc) : List AV := enc [.p .gr] [.l g0]
def f_i_MiddleThird_i (g0 : List Sc) : List AV := enc [] []
def f_i_MiddleThird_en (r : Int) : List AV × List AV := (enc [.p (.int .i64)] [.i r], enc [] [])
def f_i_MiddleThird_M : Calling := addC 31 f_i_IsGroup_c (noC)
theorem f_i_MiddleThird_Mt : CallOk Try.prog (f_i_MiddleThird_M) := addC_true f_i_IsGroup_cc (noC_true)
theorem f_i_MiddleThird_o : loopsOnce Try.f16 = true := by kernel_rfl
def f_i_MiddleThird_h0 : List Sh := [.u, .u, .u, .p (.int .i64), .p (.int .i64), .u, .u, .u, .u, .u, .u, .u, .u, .u, .u, .u, .u, .p (.int .i64), .p (.int .i64), .u, .u, .u, .u, .u, .u, .u, .u, .u, .u, .u, .u, .u, .u, .u, .u, .u, .u, .u]
def f_i_MiddleThird_fr0 (n4 : Int) (t17 : Int) (s : Int × Int) : List AV := enc f_i_MiddleThird_h0 [.i s.1, .i n4, .i t17, .i s.2]
def f_i_MiddleThird_g0_1 : List Sh := [.u, .u, .u, .p (.int .i64), .u, .u, .u, .u, .u, .u, .u, .u, .u, .u, .u, .u, .u, .u, .u, .u, .u, .u, .u, .u, .u, .u, .u, .u, .u, .u, .u, .u, .u, .u, .u, .u, .u, .u]
def f_i_MiddleThird_x0_1 (n4 : Int) (t17 : Int) (e : Int) : X × List AV := (.out 0, enc f_i_MiddleThird_g0_1 [.i e])
def f_i_MiddleThird_x0_2 (n4 : Int) (t17 : Int) (_e : Unit) : X × List AV := (.ret, [])
theorem f_i_MiddleThird_p0 {R : Type} (n4 : Int) (t17 : Int) (s : Int × Int) (kN : Int × Int → Option R) (kA : Int → Option R) (kB : Unit → Option R) : f_i_MiddleThird_k0 n4 t17 s.1 s.2 kN kA = (f_i_MiddleThird_r0 n4 t17 s).bind (Ro.el kN kA kB) := by
  simp only [f_i_MiddleThird_k0, f_i_MiddleThird_r0, brB, someB, noneB, Ro.el]
theorem f_i_MiddleThird_e0 (n4 : Int) (t17 : Int) (s : Int × Int) : EC E0 f_i_MiddleThird_M H0 f_i_MiddleThird_F (asL (noL)) 0 (bodyOf Try.f16 0) (f_i_MiddleThird_fr0 n4 t17 s) (done (klOf f_i_MiddleThird_F 0)) = f_i_MiddleThird_k0 n4 t17 s.1 s.2 (fun s => some (.norm, f_i_MiddleThird_fr0 n4 t17 s)) (fun e => some (f_i_MiddleThird_x0_1 n4 t17 e)) := by kernel_rfl
theorem f_i_MiddleThird_l0 (n4 : Int) (t17 : Int) : ∀ s r, loopL (f_i_MiddleThird_r0 n4 t17) s = some r → LS Try.prog f_i_MiddleThird_F (bodyOf Try.f16 0) (f_i_MiddleThird_fr0 n4 t17 s) (enX (f_i_MiddleThird_x0_1 n4 t17) (f_i_MiddleThird_x0_2 n4 t17) r) :=
  loop_true E0ok f_i_MiddleThird_Mt (noL_true) f_i_MiddleThird_o (fun _ h => by cases h) (fun _ h => by cases h) (fun s => (f_i_MiddleThird_e0 n4 t17 s).trans (f_i_MiddleThird_p0 n4 t17 s _ _ (fun e => some (f_i_MiddleThird_x0_2 n4 t17 e))))
def f_i_MiddleThird_t0 (σ : List AV) : Option (Bool × Bool × (X × List AV) × (X × List AV)) := match dec f_i_MiddleThird_h0 σ with
  | some [.i out3, .i n4, .i t17, .i t18] => some (isOne (loopL (f_i_MiddleThird_r0 n4 t17) (out3, t18)), true, f_i_MiddleThird_x0_1 n4 t17 (getOne 0 (loopL (f_i_MiddleThird_r0 n4 t17) (out3, t18))), (.ret, []))
  | _ => none
theorem f_i_MiddleThird_tt0 : TTrue Try.prog f_i_MiddleThird_F Try.f16 0 (f_i_MiddleThird_t0) := by
  intro σ p r r' h
  unfold f_i_MiddleThird_t0 at h
  split at h
  · rename_i hd
    rw [← dec_enc hd]
    exact row1 (f_i_MiddleThird_l0 _ _ _) h
  · cases h
theorem f_i_MiddleThird_p {R : Type} (g0 : List Sc) (kR : Int → Option R) : f_i_MiddleThird_k g0 kR = (f_i_MiddleThird_k g0 some).bind kR := by
  simp only [f_i_MiddleThird_k, brB, boB, bl1B, someB, noneB]
theorem f_i_MiddleThird_e (g0 : List Sc) : runFn E0 f_i_MiddleThird_M H0 f_i_MiddleThird_F (asL (addL 0 (f_i_MiddleThird_t0) (noL))) Try.f16 (f_i_MiddleThird_a g0) (f_i_MiddleThird_i g0) = f_i_MiddleThird_k g0 (fun r => some (f_i_MiddleThird_en r)) := by kernel_rfl
theorem f_i_MiddleThird_ok (g0 : List Sc) (r : Int) (h : f_i_MiddleThird g0 = some r) : CS Try.prog 16 (f_i_MiddleThird_a g0) (f_i_MiddleThird_i g0) (f_i_MiddleThird_en r).1 (f_i_MiddleThird_en r).2 :=
  fn_true (Gk := fun k => f_i_MiddleThird_k g0 k) (en := f_i_MiddleThird_en) Try.func16 E0ok f_i_MiddleThird_Mt (addL_true (f_i_MiddleThird_tt0) (noL_true)) f_i_MiddleThird_o (f_i_MiddleThird_e g0) (f_i_MiddleThird_p g0) h
def f_i_MiddleThird_c : CRow := fun args inh => match dec2 [.p .gr] [] args inh with
  | some ([.l g0], []) => some ((f_i_MiddleThird g0).isSome, (f_i_MiddleThird_en ((f_i_MiddleThird g0).getD 0)).1, (f_i_MiddleThird_en ((f_i_MiddleThird g0).getD 0)).2)
  | _ => none
theorem f_i_MiddleThird_cc : CTrue Try.prog 16 f_i_MiddleThird_c := by
  intro args inh rs out h
  unfold f_i_MiddleThird_c at h
  split at h
  · rename_i hd
    obtain ⟨h1, h2⟩ := dec2_enc hd
    rw [← h1, ← h2]
    exact rowC (f_i_MiddleThird_ok _) h
  · cases h

def f_l_eqGroup_F : Fi := { nv := 0, nc := 0, m := 0, vt := [], kl := [], sk := [], mvs := [], fz := [] }
def f_l_eqGroup_a (a0 : List Sc) (b1 : List Sc) : List AV := enc [.p .gr, .p .gr] [.l a0, .l b1]
def f_l_eqGroup_i (a0 : List Sc) (b1 : List Sc) : List AV := enc [] []
def f_l_eqGroup_en (r : Bool) : List AV × List AV := (enc [.p .boo] [.b r], enc [] [])
def f_l_eqGroup_M : Calling := addC 12 f_l_eqIntS_c (noC)
theorem f_l_eqGroup_Mt : CallOk Try.prog (f_l_eqGroup_M) := addC_true f_l_eqIntS_cc (noC_true)
theorem f_l_eqGroup_o : loopsOnce Try.f17 = true := by kernel_rfl
theorem f_l_eqGroup_p {R : Type} (a0 : List Sc) (b1 : List Sc) (kR : Bool → Option R) : f_l_eqGroup_k a0 b1 kR = (f_l_eqGroup_k a0 b1 some).bind kR := by
  simp only [f_l_eqGroup_k, brB, boB, someB]
theorem f_l_eqGroup_e (a0 : List Sc) (b1 : List Sc) : runFn E0 f_l_eqGroup_M H0 f_l_eqGroup_F (asL (noL)) Try.f17 (f_l_eqGroup_a a0 b1) (f_l_eqGroup_i a0 b1) = f_l_eqGroup_k a0 b1 (fun r => some (f_l_eqGroup_en r)) := by kernel_rfl
theorem f_l_eqGroup_ok (a0 : List Sc) (b1 : List Sc) (r : Bool) (h : f_l_eqGroup a0 b1 = some r) : CS Try.prog 17 (f_l_eqGroup_a a0 b1) (f_l_eqGroup_i a0 b1) (f_l_eqGroup_en r).1 (f_l_eqGroup_en r).2 :=
  fn_true (Gk := fun k => f_l_eqGroup_k a0 b1 k) (en := f_l_eqGroup_en) Try.func17 E0ok f_l_eqGroup_Mt (noL_true) f_l_eqGroup_o (f_l_eqGroup_e a0 b1) (f_l_eqGroup_p a0 b1) h
def f_l_eqGroup_c : CRow := fun args inh => match dec2 [.p .gr, .p .gr] [] args inh with
  | some ([.l a0, .l b1], []) => some ((f_l_eqGroup a0 b1).isSome, (f_l_eqGroup_en ((f_l_eqGroup a0 b1).getD false)).1, (f_l_eqGroup_en ((f_l_eqGroup a0 b1).getD false)).2)
  | _ => none
theorem f_l_eqGroup_cc : CTrue Try.prog 17 f_l_eqGroup_c := by
  intro args inh rs out h
  unfold f_l_eqGroup_c at h
  split at h
  · rename_i hd
    obtain ⟨h1, h2⟩ := dec2_enc hd
    rw [← h1, ← h2]
    exact rowC (f_l_eqGroup_ok _ _) h
  · cases h

def f_l_FnExactMiddleThird_F : Fi := { nv := 3, nc := 1, m := 0, vt := [(5, 0), (13, 1), (16, 2)], kl := [], sk := [], mvs := [1, 2], fz := [] }
def f_l_FnExactMiddleThird_a (aG0 : List Sc) : List AV := enc [.p .gr] [.l aG0]
def f_l_FnExactMiddleThird_i (aG0 : List Sc) : List AV := enc [] []
def f_l_FnExactMiddleThird_en (r : Bool) : List AV × List AV := (enc [.p .boo] [.b r], enc [] [])
def f_l_FnExactMiddleThird_M : Calling := addC 13 f_l_szGroup_c (addC 15 f_l_toGroup_c (addC 14 f_s_MiddleThird_c (addC 16 f_i_MiddleThird_c (addC 17 f_l_eqGroup_c (noC)))))
theorem f_l_FnExactMiddleThird_Mt : CallOk Try.prog (f_l_FnExactMiddleThird_M) := addC_true f_l_szGroup_cc (addC_true f_l_toGroup_cc (addC_true f_s_MiddleThird_cc (addC_true f_i_MiddleThird_cc (addC_true f_l_eqGroup_cc (noC_true)))))
theorem f_l_FnExactMiddleThird_o : loopsOnce Try.f4 = true := by kernel_rfl
theorem f_l_FnExactMiddleThird_p {R : Type} (aG0 : List Sc) (kR : Bool → Option R) : f_l_FnExactMiddleThird_k aG0 kR = (f_l_FnExactMiddleThird_k aG0 some).bind kR := by
  simp only [f_l_FnExactMiddleThird_k, brB, boB, someB]
theorem f_l_FnExactMiddleThird_e (aG0 : List Sc) : runFn E0 f_l_FnExactMiddleThird_M H0 f_l_FnExactMiddleThird_F (asL (noL)) Try.f4 (f_l_FnExactMiddleThird_a aG0) (f_l_FnExactMiddleThird_i aG0) = f_l_FnExactMiddleThird_k aG0 (fun r => some (f_l_FnExactMiddleThird_en r)) := by kernel_rfl
theorem f_l_FnExactMiddleThird_ok (aG0 : List Sc) (r : Bool) (h : f_l_FnExactMiddleThird aG0 = some r) : CS Try.prog 4 (f_l_FnExactMiddleThird_a aG0) (f_l_FnExactMiddleThird_i aG0) (f_l_FnExactMiddleThird_en r).1 (f_l_FnExactMiddleThird_en r).2 :=
  fn_true (Gk := fun k => f_l_FnExactMiddleThird_k aG0 k) (en := f_l_FnExactMiddleThird_en) Try.func4 E0ok f_l_FnExactMiddleThird_Mt (noL_true) f_l_FnExactMiddleThird_o (f_l_FnExactMiddleThird_e aG0) (f_l_FnExactMiddleThird_p aG0) h
def f_l_FnExactMiddleThird_c : CRow := fun args inh => match dec2 [.p .gr] [] args inh with
  | some ([.l aG0], []) => some ((f_l_FnExactMiddleThird aG0).isSome, (f_l_FnExactMiddleThird_en ((f_l_FnExactMiddleThird aG0).getD false)).1, (f_l_FnExactMiddleThird_en ((f_l_FnExactMiddleThird aG0).getD false)).2)
  | _ => none
theorem f_l_FnExactMiddleThird_cc : CTrue Try.prog 4 f_l_FnExactMiddleThird_c := by
  intro args inh rs out h
  unfold f_l_FnExactMiddleThird_c at h
  split at h
  · rename_i hd
    obtain ⟨h1, h2⟩ := dec2_enc hd
    rw [← h1, ← h2]
    exact rowC (f_l_FnExactMiddleThird_ok _) h
  · cases h

def f_s_l16Part_F : Fi := { nv := 0, nc := 0, m := 0, vt := [], kl := [(0, ([2, 3, 4, 7, 8, 9, 10, 11, 12, 13, 14, 15, 16, 17, 18, 19, 20, 21, 22, 23, 24, 25, 26], [0, 1, 2, 3, 4, 6, 7, 8, 9, 10, 11, 12, 13, 14, 15, 16, 17, 18, 19, 20, 21, 22, 23, 24, 25, 26], [0, 1, 2, 3, 5, 6, 7, 8, 9, 10, 11, 12, 13, 14, 15, 16, 17, 18, 19, 20, 21, 22, 23, 24, 25, 26]))], sk := [], mvs := [], fz := [] }
def f_s_l16Part_a (l0 : List Sc) (code1 : Int) : List AV := enc [.p .sl, .p (.int .i64)] [.l l0, .i code1]
def f_s_l16Part_i (l0 : List Sc) (code1 : Int) : List AV := enc [] []
def f_s_l16Part_en (r : List Sc) : List AV × List AV := (enc [.p (.al 0)] [], enc [.own 3] [.l r])
def f_s_l16Part_M : Calling := noC
theorem f_s_l16Part_Mt : CallOk Try.prog (f_s_l16Part_M) := noC_true
theorem f_s_l16Part_o : loopsOnce Try.f33 = true := by kernel_rfl
def f_s_l16Part_h0 : List Sh := [.p .sl, .p (.int .i64), .u, .u, .u, .own 3, .p (.int .i64), .u, .u, .u, .u, .u, .u, .u, .u, .u, .u, .u, .u, .u, .u, .u, .u, .u, .u, .u, .u]
def f_s_l16Part_fr0 (l0 : List Sc) (code1 : Int) (s : List Sc × Int) : List AV := enc f_s_l16Part_h0 [.l l0, .i code1, .l s.1, .i s.2]
def f_s_l16Part_g0_1 : List Sh := [.u, .u, .u, .u, .u, .own 3, .u, .u, .u, .u, .u, .u, .u, .u, .u, .u, .u, .u, .u, .u, .u, .u, .u, .u, .u, .u, .u]
def f_s_l16Part_x0_1 (l0 : List Sc) (code1 : Int) (e : List Sc) : X × List AV := (.out 0, enc f_s_l16Part_g0_1 [.l e])
def f_s_l16Part_x0_2 (l0 : List Sc) (code1 : Int) (_e : Unit) : X × List AV := (.ret, [])
theorem f_s_l16Part_p0 {R : Type} (l0 : List Sc) (code1 : Int) (s : List Sc × Int) (kN : List Sc × Int → Option R) (kA : List Sc → Option R) (kB : Unit → Option R) : f_s_l16Part_k0 l0 code1 s.1 s.2 kN kA = (f_s_l16Part_r0 l0 code1 s).bind (Ro.el kN kA kB) := by
  simp only [f_s_l16Part_k0, f_s_l16Part_r0, brB, someB, noneB, Ro.el]
theorem f_s_l16Part_e0 (l0 : List Sc) (code1 : Int) (s : List Sc × Int) : EC E0 f_s_l16Part_M H0 f_s_l16Part_F (asL (noL)) 0 (bodyOf Try.f33 0) (f_s_l16Part_fr0 l0 code1 s) (done (klOf f_s_l16Part_F 0)) = f_s_l16Part_k0 l0 code1 s.1 s.2 (fun s => some (.norm, f_s_l16Part_fr0 l0 code1 s)) (fun e => some (f_s_l16Part_x0_1 l0 code1 e)) := by kernel_rfl
theorem f_s_l16Part_l0 (l0 : List Sc) (code1 : Int) : ∀ s r, loopL (f_s_l16Part_r0 l0 code1) s = some r → LS Try.prog f_s_l16Part_F (bodyOf Try.f33 0) (f_s_l16Part_fr0 l0 code1 s) (enX (f_s_l16Part_x0_1 l0 code1) (f_s_l16Part_x0_2 l0 code1) r) :=
  loop_true E0ok f_s_l16Part_Mt (noL_true) f_s_l16Part_o (fun _ h => by cases h) (fun _ h => by cases h) (fun s => (f_s_l16Part_e0 l0 code1 s).trans (f_s_l16Part_p0 l0 code1 s _ _ (fun e => some (f_s_l16Part_x0_2 l0 code1 e))))
def f_s_l16Part_t0 (σ : List AV) : Option (Bool × Bool × (X × List AV) × (X × List AV)) := match dec f_s_l16Part_h0 σ with
  | some [.l l0, .i code1, .l out5, .i i6] => some (isOne (loopL (f_s_l16Part_r0 l0 code1) (out5, i6)), true, f_s_l16Part_x0_1 l0 code1 (getOne [] (loopL (f_s_l16Part_r0 l0 code1) (out5, i6))), (.ret, []))
  | _ => none
theorem f_s_l16Part_tt0 : TTrue Try.prog f_s_l16Part_F Try.f33 0 (f_s_l16Part_t0) := by
  intro σ p r r' h
  unfold f_s_l16Part_t0 at h
  split at h
  · rename_i hd
    rw [← dec_enc hd]
    exact row1 (f_s_l16Part_l0 _ _ _) h
  · cases h
theorem f_s_l16Part_p {R : Type} (l0 : List Sc) (code1 : Int) (kR : List Sc → Option R) : f_s_l16Part_k l0 code1 kR = (f_s_l16Part_k l0 code1 some).bind kR := by
  simp only [f_s_l16Part_k, bl1B, someB]
theorem f_s_l16Part_e (l0 : List Sc) (code1 : Int) : runFn E0 f_s_l16Part_M H0 f_s_l16Part_F (asL (addL 0 (f_s_l16Part_t0) (noL))) Try.f33 (f_s_l16Part_a l0 code1) (f_s_l16Part_i l0 code1) = f_s_l16Part_k l0 code1 (fun r => some (f_s_l16Part_en r)) := by kernel_rfl
theorem f_s_l16Part_ok (l0 : List Sc) (code1 : Int) (r : List Sc) (h : f_s_l16Part l0 code1 = some r) : CS Try.prog 33 (f_s_l16Part_a l0 code1) (f_s_l16Part_i l0 code1) (f_s_l16Part_en r).1 (f_s_l16Part_en r).2 :=
  fn_true (Gk := fun k => f_s_l16Part_k l0 code1 k) (en := f_s_l16Part_en) Try.func33 E0ok f_s_l16Part_Mt (addL_true (f_s_l16Part_tt0) (noL_true)) f_s_l16Part_o (f_s_l16Part_e l0 code1) (f_s_l16Part_p l0 code1) h
def f_s_l16Part_c : CRow := fun args inh => match dec2 [.p .sl, .p (.int .i64)] [] args inh with
  | some ([.l l0, .i code1], []) => some ((f_s_l16Part l0 code1).isSome, (f_s_l16Part_en ((f_s_l16Part l0 code1).getD [])).1, (f_s_l16Part_en ((f_s_l16Part l0 code1).getD [])).2)
  | _ => none
theorem f_s_l16Part_cc : CTrue Try.prog 33 f_s_l16Part_c := by
  intro args inh rs out h
  unfold f_s_l16Part_c at h
  split at h
  · rename_i hd
    obtain ⟨h1, h2⟩ := dec2_enc hd
    rw [← h1, ← h2]
    exact rowC (f_s_l16Part_ok _ _) h
  · cases h

def f_s_EgzPart_F : Fi := { nv := 0, nc := 0, m := 0, vt := [], kl := [(4, ([2, 3, 4, 5, 6, 11, 12, 13, 14, 15, 16, 17, 18, 19, 20, 21, 22, 23, 24, 25, 26, 27, 28, 29, 30, 31, 32, 33, 34, 35, 36, 37, 38, 39, 40, 41, 42, 43, 44, 45, 46, 47, 48, 49, 50, 51, 52, 53, 54, 55, 56, 57, 58, 59, 60, 61, 62, 63, 64, 65, 66, 67, 68, 69, 70], [2, 3, 4, 5, 6, 10, 11, 12, 13, 14, 15, 16, 17, 18, 19, 20, 21, 22, 23, 24, 25, 26, 27, 28, 29, 30, 31, 32, 33, 34, 35, 36, 37, 38, 39, 40, 41, 42, 43, 44, 45, 46, 47, 48, 49, 50, 51, 52, 53, 54, 55, 56, 57, 58, 59, 60, 61, 62, 63, 64, 65, 66, 67, 68, 69, 70], [0, 1, 2, 3, 6, 7, 8, 9, 10, 11, 12, 13, 14, 15, 16, 17, 18, 19, 20, 21, 22, 23, 24, 25, 26, 27, 28, 29, 30, 31, 32, 33, 34, 35, 36, 37, 38, 39, 40, 41, 42, 43, 44, 45, 46, 47, 48, 49, 50, 51, 52, 53, 54, 55, 56, 57, 58, 59, 60, 61, 62, 63, 64, 65, 66, 67, 68, 69, 70])), (2, ([2, 3, 4, 5, 6, 8, 9, 10, 11, 12, 13, 14, 15, 16, 17, 18, 19, 20, 21, 22, 23, 24, 25, 26, 27, 28, 29, 30, 31, 32, 33, 34, 35, 36, 37, 38, 39, 40, 41, 42, 43, 44, 45, 46, 47, 48, 49, 50, 51, 52, 53, 54, 55, 56, 57, 58, 59, 60, 61, 62, 63, 64, 65, 66, 67, 68, 69, 70], [2, 3, 4, 5, 6, 10, 11, 12, 13, 14, 15, 16, 17, 18, 19, 20, 21, 22, 23, 24, 25, 26, 27, 28, 29, 30, 31, 32, 33, 34, 35, 36, 37, 38, 39, 40, 41, 42, 43, 44, 45, 46, 47, 48, 49, 50, 51, 52, 53, 54, 55, 56, 57, 58, 59, 60, 61, 62, 63, 64, 65, 66, 67, 68, 69, 70], [0, 1, 2, 3, 6, 7, 8, 9, 10, 11, 12, 13, 14, 15, 16, 17, 18, 19, 20, 21, 22, 23, 24, 25, 26, 27, 28, 29, 30, 31, 32, 33, 34, 35, 36, 37, 38, 39, 40, 41, 42, 43, 44, 45, 46, 47, 48, 49, 50, 51, 52, 53, 54, 55, 56, 57, 58, 59, 60, 61, 62, 63, 64, 65, 66, 67, 68, 69, 70])), (0, ([2, 3, 4, 5, 7, 8, 9, 10, 11, 12, 13, 14, 15, 16, 17, 18, 19, 20, 21, 22, 23, 24, 25, 26, 27, 28, 29, 30, 31, 32, 33, 34, 35, 36, 37, 38, 39, 40, 41, 42, 43, 44, 45, 46, 47, 48, 49, 50, 51, 52, 53, 54, 55, 56, 57, 58, 59, 60, 61, 62, 63, 64, 65, 66, 67, 68, 69, 70], [2, 3, 4, 5, 6, 7, 8, 9, 10, 11, 12, 13, 14, 15, 16, 17, 18, 19, 20, 21, 22, 23, 24, 25, 26, 27, 28, 29, 30, 31, 32, 33, 34, 35, 36, 37, 38, 39, 40, 41, 42, 43, 44, 45, 46, 47, 48, 49, 50, 51, 52, 53, 54, 55, 56, 57, 58, 59, 60, 61, 62, 63, 64, 65, 66, 67, 68, 69, 70], [0, 1, 2, 3, 6, 7, 8, 9, 10, 11, 12, 13, 14, 15, 16, 17, 18, 19, 20, 21, 22, 23, 24, 25, 26, 27, 28, 29, 30, 31, 32, 33, 34, 35, 36, 37, 38, 39, 40, 41, 42, 43, 44, 45, 46, 47, 48, 49, 50, 51, 52, 53, 54, 55, 56, 57, 58, 59, 60, 61, 62, 63, 64, 65, 66, 67, 68, 69, 70]))], sk := [], mvs := [], fz := [] }
def f_s_EgzPart_a (L0 : List Sc) (p1 : Int) : List AV := enc [.p .sl, .p (.int .i64)] [.l L0, .i p1]
def f_s_EgzPart_i (L0 : List Sc) (p1 : Int) : List AV := enc [] []
def f_s_EgzPart_en (r : List Sc × Bool) : List AV × List AV := (enc [.p (.al 0), .p .boo] [.b r.2], enc [.own 3] [.l r.1])
def f_s_EgzPart_M : Calling := addC 32 f_s_l1In_c (addC 33 f_s_l16Part_c (noC))
theorem f_s_EgzPart_Mt : CallOk Try.prog (f_s_EgzPart_M) := addC_true f_s_l1In_cc (addC_true f_s_l16Part_cc (noC_true))
theorem f_s_EgzPart_o : loopsOnce Try.f18 = true := by kernel_rfl
def f_s_EgzPart_h0 : List Sh := [.p .sl, .p (.int .i64), .u, .u, .u, .u, .p (.int .i64), .u, .u, .u, .u, .u, .u, .u, .u, .u, .u, .u, .u, .u, .u, .u, .u, .u, .u, .u, .u, .u, .u, .u, .u, .u, .u, .u, .u, .u, .u, .u, .u, .u, .u, .u, .u, .u, .u, .u, .u, .u, .u, .u, .u, .u, .u, .u, .u, .u, .u, .u, .u, .u, .u, .u, .u, .u, .u, .u, .u, .u, .u, .u, .u]
def f_s_EgzPart_fr0 (L0 : List Sc) (t1 : Int) (s : Int) : List AV := enc f_s_EgzPart_h0 [.l L0, .i t1, .i s]
def f_s_EgzPart_g0_1 : List Sh := [.p .sl, .p (.int .i64), .u, .u, .u, .u, .u, .u, .u, .u, .u, .u, .u, .u, .u, .u, .u, .u, .u, .u, .u, .u, .u, .u, .u, .u, .u, .u, .u, .u, .u, .u, .u, .u, .u, .u, .u, .u, .u, .u, .u, .u, .u, .u, .u, .u, .u, .u, .u, .u, .u, .u, .u, .u, .u, .u, .u, .u, .u, .u, .u, .u, .u, .u, .u, .u, .u, .u, .u, .u, .u]
def f_s_EgzPart_x0_1 (L0 : List Sc) (t1 : Int) (e : Unit) : X × List AV := (.out 0, enc f_s_EgzPart_g0_1 [.l L0, .i t1])
def f_s_EgzPart_g0_2 : List Sh := [.u, .u, .u, .u, .own 3, .p .boo, .u, .u, .u, .u, .u, .u, .u, .u, .u, .u, .u, .u, .u, .u, .u, .u, .u, .u, .u, .u, .u, .u, .u, .u, .u, .u, .u, .u, .u, .u, .u, .u, .u, .u, .u, .u, .u, .u, .u, .u, .u, .u, .u, .u, .u, .u, .u, .u, .u, .u, .u, .u, .u, .u, .u, .u, .u, .u, .u, .u, .u, .u, .u, .u, .u]
def f_s_EgzPart_x0_2 (L0 : List Sc) (t1 : Int) (e : List Sc) : X × List AV := (.ret, enc f_s_EgzPart_g0_2 [.l e, .b false])
theorem f_s_EgzPart_p0 {R : Type} (L0 : List Sc) (t1 : Int) (s : Int) (kN : Int → Option R) (kA : Unit → Option R) (kB : List Sc → Option R) : f_s_EgzPart_k0 L0 t1 s kN kA kB = (f_s_EgzPart_r0 L0 t1 s).bind (Ro.el kN kA kB) := by
  simp only [f_s_EgzPart_k0, f_s_EgzPart_r0, brB, boB, someB, noneB, Ro.el]
theorem f_s_EgzPart_e0 (L0 : List Sc) (t1 : Int) (s : Int) : EC E0 f_s_EgzPart_M H0 f_s_EgzPart_F (asL (noL)) 0 (bodyOf Try.f18 0) (f_s_EgzPart_fr0 L0 t1 s) (done (klOf f_s_EgzPart_F 0)) = f_s_EgzPart_k0 L0 t1 s (fun s => some (.norm, f_s_EgzPart_fr0 L0 t1 s)) (fun e => some (f_s_EgzPart_x0_1 L0 t1 e)) (fun e => some (f_s_EgzPart_x0_2 L0 t1 e)) := by kernel_rfl
theorem f_s_EgzPart_l0 (L0 : List Sc) (t1 : Int) : ∀ s r, loopL (f_s_EgzPart_r0 L0 t1) s = some r → LS Try.prog f_s_EgzPart_F (bodyOf Try.f18 0) (f_s_EgzPart_fr0 L0 t1 s) (enX (f_s_EgzPart_x0_1 L0 t1) (f_s_EgzPart_x0_2 L0 t1) r) :=
  loop_true E0ok f_s_EgzPart_Mt (noL_true) f_s_EgzPart_o (fun _ h => by cases h) (fun _ h => by cases h) (fun s => (f_s_EgzPart_e0 L0 t1 s).trans (f_s_EgzPart_p0 L0 t1 s _ _ (fun e => some (f_s_EgzPart_x0_2 L0 t1 e))))
def f_s_EgzPart_t0 (σ : List AV) : Option (Bool × Bool × (X × List AV) × (X × List AV)) := match dec f_s_EgzPart_h0 σ with
  | some [.l L0, .i t1, .i t6] => some ((loopL (f_s_EgzPart_r0 L0 t1) t6).isSome, isOne (loopL (f_s_EgzPart_r0 L0 t1) t6), f_s_EgzPart_x0_1 L0 t1 (getOne () (loopL (f_s_EgzPart_r0 L0 t1) t6)), f_s_EgzPart_x0_2 L0 t1 (getTwo [] (loopL (f_s_EgzPart_r0 L0 t1) t6)))
  | _ => none
theorem f_s_EgzPart_tt0 : TTrue Try.prog f_s_EgzPart_F Try.f18 0 (f_s_EgzPart_t0) := by
  intro σ p r r' h
  unfold f_s_EgzPart_t0 at h
  split at h
  · rename_i hd
    rw [← dec_enc hd]
    exact row2 (f_s_EgzPart_l0 _ _ _) h
  · cases h
def f_s_EgzPart_h4 : List Sh := [.p .sl, .p (.int .i64), .u, .u, .u, .u, .u, .p (.int .i64), .p (.int .i64), .own 3, .p (.int .i64), .u, .u, .u, .u, .u, .u, .u, .u, .u, .u, .u, .u, .u, .u, .u, .u, .u, .u, .u, .u, .u, .u, .u, .u, .u, .u, .u, .u, .u, .u, .u, .u, .u, .u, .u, .u, .u, .u, .u, .u, .u, .u, .u, .u, .u, .u, .u, .u, .u, .u, .u, .u, .u, .u, .u, .u, .u, .u, .u, .u]
def f_s_EgzPart_fr4 (L0 : List Sc) (t1 : Int) (t7 : Int) (s : Int × List Sc × Int) : List AV := enc f_s_EgzPart_h4 [.l L0, .i t1, .i t7, .i s.1, .l s.2.1, .i s.2.2]
def f_s_EgzPart_g4_1 : List Sh := [.p .sl, .p (.int .i64), .u, .u, .u, .u, .u, .p (.int .i64), .p (.int .i64), .own 3, .u, .u, .u, .u, .u, .u, .u, .u, .u, .u, .u, .u, .u, .u, .u, .u, .u, .u, .u, .u, .u, .u, .u, .u, .u, .u, .u, .u, .u, .u, .u, .u, .u, .u, .u, .u, .u, .u, .u, .u, .u, .u, .u, .u, .u, .u, .u, .u, .u, .u, .u, .u, .u, .u, .u, .u, .u, .u, .u, .u, .u]
def f_s_EgzPart_x4_1 (L0 : List Sc) (t1 : Int) (t7 : Int) (e : Int × List Sc) : X × List AV := (.out 4, enc f_s_EgzPart_g4_1 [.l L0, .i t1, .i t7, .i e.1, .l e.2])
def f_s_EgzPart_x4_2 (L0 : List Sc) (t1 : Int) (t7 : Int) (_e : Unit) : X × List AV := (.ret, [])
theorem f_s_EgzPart_p4 {R : Type} (L0 : List Sc) (t1 : Int) (t7 : Int) (s : Int × List Sc × Int) (kN : Int × List Sc × Int → Option R) (kA : Int × List Sc → Option R) (kB : Unit → Option R) : f_s_EgzPart_k4 L0 t1 t7 s.1 s.2.1 s.2.2 kN kA = (f_s_EgzPart_r4 L0 t1 t7 s).bind (Ro.el kN kA kB) := by
  simp only [f_s_EgzPart_k4, f_s_EgzPart_r4, brB, someB, noneB, Ro.el]
theorem f_s_EgzPart_e4 (L0 : List Sc) (t1 : Int) (t7 : Int) (s : Int × List Sc × Int) : EC E0 f_s_EgzPart_M H0 f_s_EgzPart_F (asL (addL 0 (f_s_EgzPart_t0) (noL))) 4 (bodyOf Try.f18 4) (f_s_EgzPart_fr4 L0 t1 t7 s) (done (klOf f_s_EgzPart_F 4)) = f_s_EgzPart_k4 L0 t1 t7 s.1 s.2.1 s.2.2 (fun s => some (.norm, f_s_EgzPart_fr4 L0 t1 t7 s)) (fun e => some (f_s_EgzPart_x4_1 L0 t1 t7 e)) := by kernel_rfl
theorem f_s_EgzPart_l4 (L0 : List Sc) (t1 : Int) (t7 : Int) : ∀ s r, loopL (f_s_EgzPart_r4 L0 t1 t7) s = some r → LS Try.prog f_s_EgzPart_F (bodyOf Try.f18 4) (f_s_EgzPart_fr4 L0 t1 t7 s) (enX (f_s_EgzPart_x4_1 L0 t1 t7) (f_s_EgzPart_x4_2 L0 t1 t7) r) :=
  loop_true E0ok f_s_EgzPart_Mt (addL_true (f_s_EgzPart_tt0) (noL_true)) f_s_EgzPart_o (fun _ h => by cases h) (fun _ h => by cases h) (fun s => (f_s_EgzPart_e4 L0 t1 t7 s).trans (f_s_EgzPart_p4 L0 t1 t7 s _ _ (fun e => some (f_s_EgzPart_x4_2 L0 t1 t7 e))))
def f_s_EgzPart_t4 (σ : List AV) : Option (Bool × Bool × (X × List AV) × (X × List AV)) := match dec f_s_EgzPart_h4 σ with
  | some [.l L0, .i t1, .i t7, .i t8, .l t9, .i t10] => some (isOne (loopL (f_s_EgzPart_r4 L0 t1 t7) (t8, t9, t10)), true, f_s_EgzPart_x4_1 L0 t1 t7 (getOne (0, []) (loopL (f_s_EgzPart_r4 L0 t1 t7) (t8, t9, t10))), (.ret, []))
  | _ => none
theorem f_s_EgzPart_tt4 : TTrue Try.prog f_s_EgzPart_F Try.f18 4 (f_s_EgzPart_t4) := by
  intro σ p r r' h
  unfold f_s_EgzPart_t4 at h
  split at h
  · rename_i hd
    rw [← dec_enc hd]
    exact row1 (f_s_EgzPart_l4 _ _ _ _) h
  · cases h
def f_s_EgzPart_h2 : List Sh := [.p .sl, .p (.int .i64), .u, .u, .u, .u, .u, .p (.int .i64), .u, .u, .u, .u, .u, .u, .u, .u, .u, .u, .u, .u, .u, .u, .u, .u, .u, .u, .u, .u, .u, .u, .u, .u, .u, .u, .u, .u, .u, .u, .u, .u, .u, .u, .u, .u, .u, .u, .u, .u, .u, .u, .u, .u, .u, .u, .u, .u, .u, .u, .u, .u, .u, .u, .u, .u, .u, .u, .u, .u, .u, .u, .u]
def f_s_EgzPart_fr2 (L0 : List Sc) (t1 : Int) (s : Int) : List AV := enc f_s_EgzPart_h2 [.l L0, .i t1, .i s]
def f_s_EgzPart_g2_1 : List Sh := [.p .sl, .p (.int .i64), .u, .u, .u, .u, .u, .p (.int .i64), .u, .u, .u, .u, .u, .u, .u, .u, .u, .u, .u, .u, .u, .u, .u, .u, .u, .u, .u, .u, .u, .u, .u, .u, .u, .u, .u, .u, .u, .u, .u, .u, .u, .u, .u, .u, .u, .u, .u, .u, .u, .u, .u, .u, .u, .u, .u, .u, .u, .u, .u, .u, .u, .u, .u, .u, .u, .u, .u, .u, .u, .u, .u]
def f_s_EgzPart_x2_1 (L0 : List Sc) (t1 : Int) (e : Int) : X × List AV := (.out 2, enc f_s_EgzPart_g2_1 [.l L0, .i t1, .i e])
def f_s_EgzPart_g2_2 : List Sh := [.u, .u, .u, .u, .own 3, .p .boo, .u, .u, .u, .u, .u, .u, .u, .u, .u, .u, .u, .u, .u, .u, .u, .u, .u, .u, .u, .u, .u, .u, .u, .u, .u, .u, .u, .u, .u, .u, .u, .u, .u, .u, .u, .u, .u, .u, .u, .u, .u, .u, .u, .u, .u, .u, .u, .u, .u, .u, .u, .u, .u, .u, .u, .u, .u, .u, .u, .u, .u, .u, .u, .u, .u]
def f_s_EgzPart_x2_2 (L0 : List Sc) (t1 : Int) (e : List Sc) : X × List AV := (.ret, enc f_s_EgzPart_g2_2 [.l e, .b true])
theorem f_s_EgzPart_p2 {R : Type} (L0 : List Sc) (t1 : Int) (s : Int) (kN : Int → Option R) (kA : Int → Option R) (kB : List Sc → Option R) : f_s_EgzPart_k2 L0 t1 s kN kA kB = (f_s_EgzPart_r2 L0 t1 s).bind (Ro.el kN kA kB) := by
  simp only [f_s_EgzPart_k2, f_s_EgzPart_r2, brB, boB, bl1B, someB, noneB, Ro.el]
theorem f_s_EgzPart_e2 (L0 : List Sc) (t1 : Int) (s : Int) : EC E0 f_s_EgzPart_M H0 f_s_EgzPart_F (asL (addL 4 (f_s_EgzPart_t4) (addL 0 (f_s_EgzPart_t0) (noL)))) 2 (bodyOf Try.f18 2) (f_s_EgzPart_fr2 L0 t1 s) (done (klOf f_s_EgzPart_F 2)) = f_s_EgzPart_k2 L0 t1 s (fun s => some (.norm, f_s_EgzPart_fr2 L0 t1 s)) (fun e => some (f_s_EgzPart_x2_1 L0 t1 e)) (fun e => some (f_s_EgzPart_x2_2 L0 t1 e)) := by kernel_rfl
theorem f_s_EgzPart_l2 (L0 : List Sc) (t1 : Int) : ∀ s r, loopL (f_s_EgzPart_r2 L0 t1) s = some r → LS Try.prog f_s_EgzPart_F (bodyOf Try.f18 2) (f_s_EgzPart_fr2 L0 t1 s) (enX (f_s_EgzPart_x2_1 L0 t1) (f_s_EgzPart_x2_2 L0 t1) r) :=
  loop_true E0ok f_s_EgzPart_Mt (addL_true (f_s_EgzPart_tt4) (addL_true (f_s_EgzPart_tt0) (noL_true))) f_s_EgzPart_o (fun _ h => by cases h) (fun _ h => by cases h) (fun s => (f_s_EgzPart_e2 L0 t1 s).trans (f_s_EgzPart_p2 L0 t1 s _ _ (fun e => some (f_s_EgzPart_x2_2 L0 t1 e))))
def f_s_EgzPart_t2 (σ : List AV) : Option (Bool × Bool × (X × List AV) × (X × List AV)) := match dec f_s_EgzPart_h2 σ with
  | some [.l L0, .i t1, .i t7] => some ((loopL (f_s_EgzPart_r2 L0 t1) t7).isSome, isOne (loopL (f_s_EgzPart_r2 L0 t1) t7), f_s_EgzPart_x2_1 L0 t1 (getOne 0 (loopL (f_s_EgzPart_r2 L0 t1) t7)), f_s_EgzPart_x2_2 L0 t1 (getTwo [] (loopL (f_s_EgzPart_r2 L0 t1) t7)))
  | _ => none
theorem f_s_EgzPart_tt2 : TTrue Try.prog f_s_EgzPart_F Try.f18 2 (f_s_EgzPart_t2) := by
  intro σ p r r' h
  unfold f_s_EgzPart_t2 at h
  split at h
  · rename_i hd
    rw [← dec_enc hd]
    exact row2 (f_s_EgzPart_l2 _ _ _) h
  · cases h
theorem f_s_EgzPart_p {R : Type} (L0 : List Sc) (p1 : Int) (kR : List Sc × Bool → Option R) : f_s_EgzPart_k L0 p1 kR = (f_s_EgzPart_k L0 p1 some).bind kR := by
  simp only [f_s_EgzPart_k, brB, boB, blB, someB]
theorem f_s_EgzPart_e (L0 : List Sc) (p1 : Int) : runFn E0 f_s_EgzPart_M H0 f_s_EgzPart_F (asL (addL 2 (f_s_EgzPart_t2) (addL 4 (f_s_EgzPart_t4) (addL 0 (f_s_EgzPart_t0) (noL))))) Try.f18 (f_s_EgzPart_a L0 p1) (f_s_EgzPart_i L0 p1) = f_s_EgzPart_k L0 p1 (fun r => some (f_s_EgzPart_en r)) := by kernel_rfl
theorem f_s_EgzPart_ok (L0 : List Sc) (p1 : Int) (r : List Sc × Bool) (h : f_s_EgzPart L0 p1 = some r) : CS Try.prog 18 (f_s_EgzPart_a L0 p1) (f_s_EgzPart_i L0 p1) (f_s_EgzPart_en r).1 (f_s_EgzPart_en r).2 :=
  fn_true (Gk := fun k => f_s_EgzPart_k L0 p1 k) (en := f_s_EgzPart_en) Try.func18 E0ok f_s_EgzPart_Mt (addL_true (f_s_EgzPart_tt2) (addL_true (f_s_EgzPart_tt4) (addL_true (f_s_EgzPart_tt0) (noL_true)))) f_s_EgzPart_o (f_s_EgzPart_e L0 p1) (f_s_EgzPart_p L0 p1) h
def f_s_EgzPart_c : CRow := fun args inh => match dec2 [.p .sl, .p (.int .i64)] [] args inh with
  | some ([.l L0, .i p1], []) => some ((f_s_EgzPart L0 p1).isSome, (f_s_EgzPart_en ((f_s_EgzPart L0 p1).getD ([], false))).1, (f_s_EgzPart_en ((f_s_EgzPart L0 p1).getD ([], false))).2)
  | _ => none
theorem f_s_EgzPart_cc : CTrue Try.prog 18 f_s_EgzPart_c := by
  intro args inh rs out h
  unfold f_s_EgzPart_c at h
  split at h
  · rename_i hd
    obtain ⟨h1, h2⟩ := dec2_enc hd
    rw [← h1, ← h2]
    exact rowC (f_s_EgzPart_ok _ _) h
  · cases h

def f_i_bits_F : Fi := { nv := 0, nc := 0, m := 0, vt := [], kl := [(0, ([1, 2, 4, 5, 6, 7, 8, 9, 10, 11, 12], [0, 1, 2, 4, 5, 6, 7, 8, 9, 10, 11, 12], [0, 1, 3, 4, 5, 6, 7, 8, 9, 10, 11, 12]))], sk := [], mvs := [], fz := [] }
def f_i_bits_a (a0 : Int) : List AV := enc [.p (.int .i64)] [.i a0]
def f_i_bits_i (a0 : Int) : List AV := enc [] []
def f_i_bits_en (r : Int) : List AV × List AV := (enc [.p (.int .i64)] [.i r], enc [] [])
def f_i_bits_M : Calling := noC
theorem f_i_bits_Mt : CallOk Try.prog (f_i_bits_M) := noC_true
theorem f_i_bits_o : loopsOnce Try.f35 = true := by kernel_rfl
def f_i_bits_h0 : List Sh := [.p (.int .i64), .u, .u, .p (.int .i64), .u, .u, .u, .u, .u, .u, .u, .u, .u]
def f_i_bits_fr0 (s : Int × Int) : List AV := enc f_i_bits_h0 [.i s.1, .i s.2]
def f_i_bits_g0_1 : List Sh := [.u, .u, .u, .p (.int .i64), .u, .u, .u, .u, .u, .u, .u, .u, .u]
def f_i_bits_x0_1 (e : Int) : X × List AV := (.out 0, enc f_i_bits_g0_1 [.i e])
def f_i_bits_x0_2 (_e : Unit) : X × List AV := (.ret, [])
theorem f_i_bits_p0 {R : Type} (s : Int × Int) (kN : Int × Int → Option R) (kA : Int → Option R) (kB : Unit → Option R) : f_i_bits_k0 s.1 s.2 kN kA = (f_i_bits_r0 s).bind (Ro.el kN kA kB) := by
  simp only [f_i_bits_k0, f_i_bits_r0, brB, someB, Ro.el]
theorem f_i_bits_e0 (s : Int × Int) : EC E0 f_i_bits_M H0 f_i_bits_F (asL (noL)) 0 (bodyOf Try.f35 0) (f_i_bits_fr0 s) (done (klOf f_i_bits_F 0)) = f_i_bits_k0 s.1 s.2 (fun s => some (.norm, f_i_bits_fr0 s)) (fun e => some (f_i_bits_x0_1 e)) := by kernel_rfl
theorem f_i_bits_l0 : ∀ s r, loopL (f_i_bits_r0) s = some r → LS Try.prog f_i_bits_F (bodyOf Try.f35 0) (f_i_bits_fr0 s) (enX (f_i_bits_x0_1) (f_i_bits_x0_2) r) :=
  loop_true E0ok f_i_bits_Mt (noL_true) f_i_bits_o (fun _ h => by cases h) (fun _ h => by cases h) (fun s => (f_i_bits_e0 s).trans (f_i_bits_p0 s _ _ (fun e => some (f_i_bits_x0_2 e))))
def f_i_bits_t0 (σ : List AV) : Option (Bool × Bool × (X × List AV) × (X × List AV)) := match dec f_i_bits_h0 σ with
  | some [.i a0, .i n3] => some (isOne (loopL (f_i_bits_r0) (a0, n3)), true, f_i_bits_x0_1 (getOne 0 (loopL (f_i_bits_r0) (a0, n3))), (.ret, []))
  | _ => none
theorem f_i_bits_tt0 : TTrue Try.prog f_i_bits_F Try.f35 0 (f_i_bits_t0) := by
  intro σ p r r' h
  unfold f_i_bits_t0 at h
  split at h
  · rename_i hd
    rw [← dec_enc hd]
    exact row1 (f_i_bits_l0 _) h
  · cases h
theorem f_i_bits_p {R : Type} (a0 : Int) (kR : Int → Option R) : f_i_bits_k a0 kR = (f_i_bits_k a0 some).bind kR := by
  simp only [f_i_bits_k, bl1B, someB]
theorem f_i_bits_e (a0 : Int) : runFn E0 f_i_bits_M H0 f_i_bits_F (asL (addL 0 (f_i_bits_t0) (noL))) Try.f35 (f_i_bits_a a0) (f_i_bits_i a0) = f_i_bits_k a0 (fun r => some (f_i_bits_en r)) := by kernel_rfl
theorem f_i_bits_ok (a0 : Int) (r : Int) (h : f_i_bits a0 = some r) : CS Try.prog 35 (f_i_bits_a a0) (f_i_bits_i a0) (f_i_bits_en r).1 (f_i_bits_en r).2 :=
  fn_true (Gk := fun k => f_i_bits_k a0 k) (en := f_i_bits_en) Try.func35 E0ok f_i_bits_Mt (addL_true (f_i_bits_tt0) (noL_true)) f_i_bits_o (f_i_bits_e a0) (f_i_bits_p a0) h
def f_i_bits_c : CRow := fun args inh => match dec2 [.p (.int .i64)] [] args inh with
  | some ([.i a0], []) => some ((f_i_bits a0).isSome, (f_i_bits_en ((f_i_bits a0).getD 0)).1, (f_i_bits_en ((f_i_bits a0).getD 0)).2)
  | _ => none
theorem f_i_bits_cc : CTrue Try.prog 35 f_i_bits_c := by
  intro args inh rs out h
  unfold f_i_bits_c at h
  split at h
  · rename_i hd
    obtain ⟨h1, h2⟩ := dec2_enc hd
    rw [← h1, ← h2]
    exact rowC (f_i_bits_ok _) h
  · cases h

def f_i_in_F : Fi := { nv := 0, nc := 0, m := 0, vt := [], kl := [], sk := [], mvs := [], fz := [] }
def f_i_in_a (a0 : Int) (x1 : Int) : List AV := enc [.p (.int .i64), .p (.int .i64)] [.i a0, .i x1]
def f_i_in_i (a0 : Int) (x1 : Int) : List AV := enc [] []
def f_i_in_en (r : Bool) : List AV × List AV := (enc [.p .boo] [.b r], enc [] [])
def f_i_in_M : Calling := noC
theorem f_i_in_Mt : CallOk Try.prog (f_i_in_M) := noC_true
theorem f_i_in_o : loopsOnce Try.f43 = true := by kernel_rfl
theorem f_i_in_p {R : Type} (a0 : Int) (x1 : Int) (kR : Bool → Option R) : f_i_in_k a0 x1 kR = (f_i_in_k a0 x1 some).bind kR := by
  simp only [f_i_in_k, brB, someB, noneB]
theorem f_i_in_e (a0 : Int) (x1 : Int) : runFn E0 f_i_in_M H0 f_i_in_F (asL (noL)) Try.f43 (f_i_in_a a0 x1) (f_i_in_i a0 x1) = f_i_in_k a0 x1 (fun r => some (f_i_in_en r)) := by kernel_rfl
theorem f_i_in_ok (a0 : Int) (x1 : Int) (r : Bool) (h : f_i_in a0 x1 = some r) : CS Try.prog 43 (f_i_in_a a0 x1) (f_i_in_i a0 x1) (f_i_in_en r).1 (f_i_in_en r).2 :=
  fn_true (Gk := fun k => f_i_in_k a0 x1 k) (en := f_i_in_en) Try.func43 E0ok f_i_in_Mt (noL_true) f_i_in_o (f_i_in_e a0 x1) (f_i_in_p a0 x1) h
def f_i_in_c : CRow := fun args inh => match dec2 [.p (.int .i64), .p (.int .i64)] [] args inh with
  | some ([.i a0, .i x1], []) => some ((f_i_in a0 x1).isSome, (f_i_in_en ((f_i_in a0 x1).getD false)).1, (f_i_in_en ((f_i_in a0 x1).getD false)).2)
  | _ => none
theorem f_i_in_cc : CTrue Try.prog 43 f_i_in_c := by
  intro args inh rs out h
  unfold f_i_in_c at h
  split at h
  · rename_i hd
    obtain ⟨h1, h2⟩ := dec2_enc hd
    rw [← h1, ← h2]
    exact rowC (f_i_in_ok _ _) h
  · cases h

def f_i_part_F : Fi := { nv := 0, nc := 0, m := 0, vt := [], kl := [(0, ([0, 2, 3, 4, 6, 7, 8, 12, 13, 14, 15, 16, 17, 18, 19, 20, 21, 22, 23, 24], [0, 1, 2, 3, 4, 6, 7, 8, 9, 10, 11, 12, 13, 14, 15, 16, 17, 18, 19, 20, 21, 22, 23, 24], [0, 1, 2, 3, 5, 6, 7, 8, 9, 10, 11, 12, 13, 14, 15, 16, 17, 18, 19, 20, 21, 22, 23, 24]))], sk := [], mvs := [], fz := [] }
def f_i_part_a (l0 : List Sc) (mask1 : Int) : List AV := enc [.p .sl, .p (.int .i64)] [.l l0, .i mask1]
def f_i_part_i (l0 : List Sc) (mask1 : Int) : List AV := enc [] []
def f_i_part_en (r : List Sc) : List AV × List AV := (enc [.p (.al 0)] [], enc [.own 3] [.l r])
def f_i_part_M : Calling := addC 43 f_i_in_c (noC)
theorem f_i_part_Mt : CallOk Try.prog (f_i_part_M) := addC_true f_i_in_cc (noC_true)
theorem f_i_part_o : loopsOnce Try.f36 = true := by kernel_rfl
def f_i_part_h0 : List Sh := [.u, .p (.int .i64), .u, .u, .u, .own 3, .u, .u, .u, .p .sl, .p (.int .i64), .p (.int .i64), .u, .u, .u, .u, .u, .u, .u, .u, .u, .u, .u, .u, .u]
def f_i_part_fr0 (mask1 : Int) (t9 : List Sc) (t10 : Int) (s : List Sc × Int) : List AV := enc f_i_part_h0 [.i mask1, .l s.1, .l t9, .i t10, .i s.2]
def f_i_part_g0_1 : List Sh := [.u, .u, .u, .u, .u, .own 3, .u, .u, .u, .u, .u, .u, .u, .u, .u, .u, .u, .u, .u, .u, .u, .u, .u, .u, .u]
def f_i_part_x0_1 (mask1 : Int) (t9 : List Sc) (t10 : Int) (e : List Sc) : X × List AV := (.out 0, enc f_i_part_g0_1 [.l e])
def f_i_part_x0_2 (mask1 : Int) (t9 : List Sc) (t10 : Int) (_e : Unit) : X × List AV := (.ret, [])
theorem f_i_part_p0 {R : Type} (mask1 : Int) (t9 : List Sc) (t10 : Int) (s : List Sc × Int) (kN : List Sc × Int → Option R) (kA : List Sc → Option R) (kB : Unit → Option R) : f_i_part_k0 mask1 t9 t10 s.1 s.2 kN kA = (f_i_part_r0 mask1 t9 t10 s).bind (Ro.el kN kA kB) := by
  simp only [f_i_part_k0, f_i_part_r0, brB, boB, someB, noneB, Ro.el]
theorem f_i_part_e0 (mask1 : Int) (t9 : List Sc) (t10 : Int) (s : List Sc × Int) : EC E0 f_i_part_M H0 f_i_part_F (asL (noL)) 0 (bodyOf Try.f36 0) (f_i_part_fr0 mask1 t9 t10 s) (done (klOf f_i_part_F 0)) = f_i_part_k0 mask1 t9 t10 s.1 s.2 (fun s => some (.norm, f_i_part_fr0 mask1 t9 t10 s)) (fun e => some (f_i_part_x0_1 mask1 t9 t10 e)) := by kernel_rfl
theorem f_i_part_l0 (mask1 : Int) (t9 : List Sc) (t10 : Int) : ∀ s r, loopL (f_i_part_r0 mask1 t9 t10) s = some r → LS Try.prog f_i_part_F (bodyOf Try.f36 0) (f_i_part_fr0 mask1 t9 t10 s) (enX (f_i_part_x0_1 mask1 t9 t10) (f_i_part_x0_2 mask1 t9 t10) r) :=
  loop_true E0ok f_i_part_Mt (noL_true) f_i_part_o (fun _ h => by cases h) (fun _ h => by cases h) (fun s => (f_i_part_e0 mask1 t9 t10 s).trans (f_i_part_p0 mask1 t9 t10 s _ _ (fun e => some (f_i_part_x0_2 mask1 t9 t10 e))))
def f_i_part_t0 (σ : List AV) : Option (Bool × Bool × (X × List AV) × (X × List AV)) := match dec f_i_part_h0 σ with
  | some [.i mask1, .l out5, .l t9, .i t10, .i t11] => some (isOne (loopL (f_i_part_r0 mask1 t9 t10) (out5, t11)), true, f_i_part_x0_1 mask1 t9 t10 (getOne [] (loopL (f_i_part_r0 mask1 t9 t10) (out5, t11))), (.ret, []))
  | _ => none
theorem f_i_part_tt0 : TTrue Try.prog f_i_part_F Try.f36 0 (f_i_part_t0) := by
  intro σ p r r' h
  unfold f_i_part_t0 at h
  split at h
  · rename_i hd
    rw [← dec_enc hd]
    exact row1 (f_i_part_l0 _ _ _ _) h
  · cases h
theorem f_i_part_p {R : Type} (l0 : List Sc) (mask1 : Int) (kR : List Sc → Option R) : f_i_part_k l0 mask1 kR = (f_i_part_k l0 mask1 some).bind kR := by
  simp only [f_i_part_k, bl1B, someB]
theorem f_i_part_e (l0 : List Sc) (mask1 : Int) : runFn E0 f_i_part_M H0 f_i_part_F (asL (addL 0 (f_i_part_t0) (noL))) Try.f36 (f_i_part_a l0 mask1) (f_i_part_i l0 mask1) = f_i_part_k l0 mask1 (fun r => some (f_i_part_en r)) := by kernel_rfl
theorem f_i_part_ok (l0 : List Sc) (mask1 : Int) (r : List Sc) (h : f_i_part l0 mask1 = some r) : CS Try.prog 36 (f_i_part_a l0 mask1) (f_i_part_i l0 mask1) (f_i_part_en r).1 (f_i_part_en r).2 :=
  fn_true (Gk := fun k => f_i_part_k l0 mask1 k) (en := f_i_part_en) Try.func36 E0ok f_i_part_Mt (addL_true (f_i_part_tt0) (noL_true)) f_i_part_o (f_i_part_e l0 mask1) (f_i_part_p l0 mask1) h
def f_i_part_c : CRow := fun args inh => match dec2 [.p .sl, .p (.int .i64)] [] args inh with
  | some ([.l l0, .i mask1], []) => some ((f_i_part l0 mask1).isSome, (f_i_part_en ((f_i_part l0 mask1).getD [])).1, (f_i_part_en ((f_i_part l0 mask1).getD [])).2)
  | _ => none
theorem f_i_part_cc : CTrue Try.prog 36 f_i_part_c := by
  intro args inh rs out h
  unfold f_i_part_c at h
  split at h
  · rename_i hd
    obtain ⟨h1, h2⟩ := dec2_enc hd
    rw [← h1, ← h2]
    exact rowC (f_i_part_ok _ _) h
  · cases h

def f_i_EgzPart_F : Fi := { nv := 0, nc := 0, m := 0, vt := [], kl := [(4, ([2, 3, 4, 5, 6, 7, 10, 11, 12, 13, 14, 15, 16, 17, 18, 19, 20, 21, 22, 23, 24, 25, 26, 27, 28, 29, 30, 31, 32, 33, 34, 35, 36, 37, 40, 41, 42, 43, 44, 45, 46, 47, 51, 52, 53, 54, 55, 56, 57, 58, 59, 60, 61, 62, 63, 64, 65, 66], [2, 3, 4, 5, 6, 7, 10, 11, 12, 13, 14, 15, 16, 17, 18, 19, 20, 21, 22, 23, 24, 25, 26, 27, 28, 29, 30, 31, 32, 33, 34, 35, 36, 37, 40, 41, 42, 43, 44, 45, 46, 47, 48, 49, 50, 51, 52, 53, 54, 55, 56, 57, 58, 59, 60, 61, 62, 63, 64, 65, 66], [0, 1, 2, 3, 6, 7, 8, 9, 10, 11, 12, 13, 14, 15, 16, 17, 18, 19, 20, 21, 22, 23, 24, 25, 26, 27, 28, 29, 30, 31, 32, 33, 34, 35, 36, 37, 38, 39, 40, 41, 42, 43, 44, 45, 46, 47, 48, 49, 50, 51, 52, 53, 54, 55, 56, 57, 58, 59, 60, 61, 62, 63, 64, 65, 66])), (2, ([2, 3, 4, 5, 6, 7, 8, 9, 10, 11, 12, 13, 14, 15, 16, 17, 18, 19, 20, 21, 22, 23, 24, 25, 26, 27, 28, 29, 30, 31, 32, 33, 34, 35, 36, 37, 40, 41, 42, 43, 44, 45, 46, 47, 48, 49, 50, 51, 52, 53, 54, 55, 56, 57, 58, 59, 60, 61, 62, 63, 64, 65, 66], [2, 3, 4, 5, 6, 7, 10, 11, 12, 13, 14, 15, 16, 17, 18, 19, 20, 21, 22, 23, 24, 25, 26, 27, 28, 29, 30, 31, 32, 33, 34, 35, 36, 37, 40, 41, 42, 43, 44, 45, 46, 47, 48, 49, 50, 51, 52, 53, 54, 55, 56, 57, 58, 59, 60, 61, 62, 63, 64, 65, 66], [0, 1, 2, 3, 6, 7, 8, 9, 10, 11, 12, 13, 14, 15, 16, 17, 18, 19, 20, 21, 22, 23, 24, 25, 26, 27, 28, 29, 30, 31, 32, 33, 34, 35, 36, 37, 38, 39, 40, 41, 42, 43, 44, 45, 46, 47, 48, 49, 50, 51, 52, 53, 54, 55, 56, 57, 58, 59, 60, 61, 62, 63, 64, 65, 66])), (0, ([2, 3, 4, 5, 6, 7, 8, 9, 10, 11, 12, 13, 14, 15, 16, 17, 18, 19, 20, 21, 22, 23, 24, 28, 29, 30, 31, 32, 33, 34, 35, 36, 37, 38, 39, 40, 41, 42, 43, 44, 45, 46, 47, 48, 49, 50, 51, 52, 53, 54, 55, 56, 57, 58, 59, 60, 61, 62, 63, 64, 65, 66], [2, 3, 4, 5, 6, 7, 8, 9, 10, 11, 12, 13, 14, 15, 16, 17, 18, 19, 20, 21, 22, 23, 24, 25, 26, 27, 28, 29, 30, 31, 32, 33, 34, 35, 36, 37, 38, 39, 40, 41, 42, 43, 44, 45, 46, 47, 48, 49, 50, 51, 52, 53, 54, 55, 56, 57, 58, 59, 60, 61, 62, 63, 64, 65, 66], [0, 1, 2, 3, 6, 7, 8, 9, 10, 11, 12, 13, 14, 15, 16, 17, 18, 19, 20, 21, 22, 23, 24, 25, 26, 27, 28, 29, 30, 31, 32, 33, 34, 35, 36, 37, 38, 39, 40, 41, 42, 43, 44, 45, 46, 47, 48, 49, 50, 51, 52, 53, 54, 55, 56, 57, 58, 59, 60, 61, 62, 63, 64, 65, 66]))], sk := [], mvs := [], fz := [] }
def f_i_EgzPart_a (L0 : List Sc) (p1 : Int) : List AV := enc [.p .sl, .p (.int .i64)] [.l L0, .i p1]
def f_i_EgzPart_i (L0 : List Sc) (p1 : Int) : List AV := enc [] []
def f_i_EgzPart_en (r : List Sc × Bool) : List AV × List AV := (enc [.p (.al 0), .p .boo] [.b r.2], enc [.own 3] [.l r.1])
def f_i_EgzPart_M : Calling := addC 34 f_i_within_c (addC 35 f_i_bits_c (addC 36 f_i_part_c (noC)))
theorem f_i_EgzPart_Mt : CallOk Try.prog (f_i_EgzPart_M) := addC_true f_i_within_cc (addC_true f_i_bits_cc (addC_true f_i_part_cc (noC_true)))
theorem f_i_EgzPart_o : loopsOnce Try.f19 = true := by kernel_rfl
def f_i_EgzPart_h0 : List Sh := [.p .sl, .p (.int .i64), .u, .u, .u, .u, .u, .u, .u, .u, .u, .u, .u, .u, .u, .u, .u, .u, .u, .u, .u, .u, .u, .u, .u, .p .sl, .p (.int .i64), .p (.int .i64), .u, .u, .u, .u, .u, .u, .u, .u, .u, .u, .u, .u, .u, .u, .u, .u, .u, .u, .u, .u, .u, .u, .u, .u, .u, .u, .u, .u, .u, .u, .u, .u, .u, .u, .u, .u, .u, .u, .u]
def f_i_EgzPart_fr0 (L0 : List Sc) (t1 : Int) (t25 : List Sc) (t26 : Int) (s : Int) : List AV := enc f_i_EgzPart_h0 [.l L0, .i t1, .l t25, .i t26, .i s]
def f_i_EgzPart_g0_1 : List Sh := [.p .sl, .p (.int .i64), .u, .u, .u, .u, .u, .u, .u, .u, .u, .u, .u, .u, .u, .u, .u, .u, .u, .u, .u, .u, .u, .u, .u, .u, .u, .u, .u, .u, .u, .u, .u, .u, .u, .u, .u, .u, .u, .u, .u, .u, .u, .u, .u, .u, .u, .u, .u, .u, .u, .u, .u, .u, .u, .u, .u, .u, .u, .u, .u, .u, .u, .u, .u, .u, .u]
def f_i_EgzPart_x0_1 (L0 : List Sc) (t1 : Int) (t25 : List Sc) (t26 : Int) (e : Unit) : X × List AV := (.out 0, enc f_i_EgzPart_g0_1 [.l L0, .i t1])
def f_i_EgzPart_g0_2 : List Sh := [.u, .u, .u, .u, .own 3, .p .boo, .u, .u, .u, .u, .u, .u, .u, .u, .u, .u, .u, .u, .u, .u, .u, .u, .u, .u, .u, .u, .u, .u, .u, .u, .u, .u, .u, .u, .u, .u, .u, .u, .u, .u, .u, .u, .u, .u, .u, .u, .u, .u, .u, .u, .u, .u, .u, .u, .u, .u, .u, .u, .u, .u, .u, .u, .u, .u, .u, .u, .u]
def f_i_EgzPart_x0_2 (L0 : List Sc) (t1 : Int) (t25 : List Sc) (t26 : Int) (e : List Sc) : X × List AV := (.ret, enc f_i_EgzPart_g0_2 [.l e, .b false])
theorem f_i_EgzPart_p0 {R : Type} (L0 : List Sc) (t1 : Int) (t25 : List Sc) (t26 : Int) (s : Int) (kN : Int → Option R) (kA : Unit → Option R) (kB : List Sc → Option R) : f_i_EgzPart_k0 L0 t1 t25 t26 s kN kA kB = (f_i_EgzPart_r0 L0 t1 t25 t26 s).bind (Ro.el kN kA kB) := by
  simp only [f_i_EgzPart_k0, f_i_EgzPart_r0, brB, boB, someB, noneB, Ro.el]
theorem f_i_EgzPart_e0 (L0 : List Sc) (t1 : Int) (t25 : List Sc) (t26 : Int) (s : Int) : EC E0 f_i_EgzPart_M H0 f_i_EgzPart_F (asL (noL)) 0 (bodyOf Try.f19 0) (f_i_EgzPart_fr0 L0 t1 t25 t26 s) (done (klOf f_i_EgzPart_F 0)) = f_i_EgzPart_k0 L0 t1 t25 t26 s (fun s => some (.norm, f_i_EgzPart_fr0 L0 t1 t25 t26 s)) (fun e => some (f_i_EgzPart_x0_1 L0 t1 t25 t26 e)) (fun e => some (f_i_EgzPart_x0_2 L0 t1 t25 t26 e)) := by kernel_rfl
theorem f_i_EgzPart_l0 (L0 : List Sc) (t1 : Int) (t25 : List Sc) (t26 : Int) : ∀ s r, loopL (f_i_EgzPart_r0 L0 t1 t25 t26) s = some r → LS Try.prog f_i_EgzPart_F (bodyOf Try.f19 0) (f_i_EgzPart_fr0 L0 t1 t25 t26 s) (enX (f_i_EgzPart_x0_1 L0 t1 t25 t26) (f_i_EgzPart_x0_2 L0 t1 t25 t26) r) :=
  loop_true E0ok f_i_EgzPart_Mt (noL_true) f_i_EgzPart_o (fun _ h => by cases h) (fun _ h => by cases h) (fun s => (f_i_EgzPart_e0 L0 t1 t25 t26 s).trans (f_i_EgzPart_p0 L0 t1 t25 t26 s _ _ (fun e => some (f_i_EgzPart_x0_2 L0 t1 t25 t26 e))))
def f_i_EgzPart_t0 (σ : List AV) : Option (Bool × Bool × (X × List AV) × (X × List AV)) := match dec f_i_EgzPart_h0 σ with
  | some [.l L0, .i t1, .l t25, .i t26, .i t27] => some ((loopL (f_i_EgzPart_r0 L0 t1 t25 t26) t27).isSome, isOne (loopL (f_i_EgzPart_r0 L0 t1 t25 t26) t27), f_i_EgzPart_x0_1 L0 t1 t25 t26 (getOne () (loopL (f_i_EgzPart_r0 L0 t1 t25 t26) t27)), f_i_EgzPart_x0_2 L0 t1 t25 t26 (getTwo [] (loopL (f_i_EgzPart_r0 L0 t1 t25 t26) t27)))
  | _ => none
theorem f_i_EgzPart_tt0 : TTrue Try.prog f_i_EgzPart_F Try.f19 0 (f_i_EgzPart_t0) := by
  intro σ p r r' h
  unfold f_i_EgzPart_t0 at h
  split at h
  · rename_i hd
    rw [← dec_enc hd]
    exact row2 (f_i_EgzPart_l0 _ _ _ _ _) h
  · cases h
def f_i_EgzPart_h4 : List Sh := [.p .sl, .p (.int .i64), .u, .u, .u, .u, .u, .u, .p (.int .i64), .p (.int .i64), .u, .u, .u, .u, .u, .u, .u, .u, .u, .u, .u, .u, .u, .u, .u, .u, .u, .u, .u, .u, .u, .u, .u, .u, .u, .u, .u, .u, .p (.int .i64), .p (.int .i64), .u, .u, .u, .u, .u, .u, .u, .u, .own 3, .p (.int .i64), .p (.int .i64), .u, .u, .u, .u, .u, .u, .u, .u, .u, .u, .u, .u, .u, .u, .u, .u]
def f_i_EgzPart_fr4 (L0 : List Sc) (t1 : Int) (t8 : Int) (t38 : Int) (t39 : Int) (t49 : Int) (s : Int × List Sc × Int) : List AV := enc f_i_EgzPart_h4 [.l L0, .i t1, .i t8, .i s.1, .i t38, .i t39, .l s.2.1, .i t49, .i s.2.2]
def f_i_EgzPart_g4_1 : List Sh := [.p .sl, .p (.int .i64), .u, .u, .u, .u, .u, .u, .p (.int .i64), .p (.int .i64), .u, .u, .u, .u, .u, .u, .u, .u, .u, .u, .u, .u, .u, .u, .u, .u, .u, .u, .u, .u, .u, .u, .u, .u, .u, .u, .u, .u, .p (.int .i64), .p (.int .i64), .u, .u, .u, .u, .u, .u, .u, .u, .u, .u, .u, .u, .u, .u, .u, .u, .u, .u, .u, .u, .u, .u, .u, .u, .u, .u, .u]
def f_i_EgzPart_x4_1 (L0 : List Sc) (t1 : Int) (t8 : Int) (t38 : Int) (t39 : Int) (t49 : Int) (e : Int) : X × List AV := (.out 4, enc f_i_EgzPart_g4_1 [.l L0, .i t1, .i t8, .i e, .i t38, .i t39])
def f_i_EgzPart_x4_2 (L0 : List Sc) (t1 : Int) (t8 : Int) (t38 : Int) (t39 : Int) (t49 : Int) (_e : Unit) : X × List AV := (.ret, [])
theorem f_i_EgzPart_p4 {R : Type} (L0 : List Sc) (t1 : Int) (t8 : Int) (t38 : Int) (t39 : Int) (t49 : Int) (s : Int × List Sc × Int) (kN : Int × List Sc × Int → Option R) (kA : Int → Option R) (kB : Unit → Option R) : f_i_EgzPart_k4 L0 t1 t8 t38 t39 t49 s.1 s.2.1 s.2.2 kN kA = (f_i_EgzPart_r4 L0 t1 t8 t38 t39 t49 s).bind (Ro.el kN kA kB) := by
  simp only [f_i_EgzPart_k4, f_i_EgzPart_r4, brB, someB, noneB, Ro.el]
theorem f_i_EgzPart_e4 (L0 : List Sc) (t1 : Int) (t8 : Int) (t38 : Int) (t39 : Int) (t49 : Int) (s : Int × List Sc × Int) : EC E0 f_i_EgzPart_M H0 f_i_EgzPart_F (asL (addL 0 (f_i_EgzPart_t0) (noL))) 4 (bodyOf Try.f19 4) (f_i_EgzPart_fr4 L0 t1 t8 t38 t39 t49 s) (done (klOf f_i_EgzPart_F 4)) = f_i_EgzPart_k4 L0 t1 t8 t38 t39 t49 s.1 s.2.1 s.2.2 (fun s => some (.norm, f_i_EgzPart_fr4 L0 t1 t8 t38 t39 t49 s)) (fun e => some (f_i_EgzPart_x4_1 L0 t1 t8 t38 t39 t49 e)) := by kernel_rfl
theorem f_i_EgzPart_l4 (L0 : List Sc) (t1 : Int) (t8 : Int) (t38 : Int) (t39 : Int) (t49 : Int) : ∀ s r, loopL (f_i_EgzPart_r4 L0 t1 t8 t38 t39 t49) s = some r → LS Try.prog f_i_EgzPart_F (bodyOf Try.f19 4) (f_i_EgzPart_fr4 L0 t1 t8 t38 t39 t49 s) (enX (f_i_EgzPart_x4_1 L0 t1 t8 t38 t39 t49) (f_i_EgzPart_x4_2 L0 t1 t8 t38 t39 t49) r) :=
  loop_true E0ok f_i_EgzPart_Mt (addL_true (f_i_EgzPart_tt0) (noL_true)) f_i_EgzPart_o (fun _ h => by cases h) (fun _ h => by cases h) (fun s => (f_i_EgzPart_e4 L0 t1 t8 t38 t39 t49 s).trans (f_i_EgzPart_p4 L0 t1 t8 t38 t39 t49 s _ _ (fun e => some (f_i_EgzPart_x4_2 L0 t1 t8 t38 t39 t49 e))))
def f_i_EgzPart_t4 (σ : List AV) : Option (Bool × Bool × (X × List AV) × (X × List AV)) := match dec f_i_EgzPart_h4 σ with
  | some [.l L0, .i t1, .i t8, .i t9, .i t38, .i t39, .l t48, .i t49, .i t50] => some (isOne (loopL (f_i_EgzPart_r4 L0 t1 t8 t38 t39 t49) (t9, t48, t50)), true, f_i_EgzPart_x4_1 L0 t1 t8 t38 t39 t49 (getOne 0 (loopL (f_i_EgzPart_r4 L0 t1 t8 t38 t39 t49) (t9, t48, t50))), (.ret, []))
  | _ => none
theorem f_i_EgzPart_tt4 : TTrue Try.prog f_i_EgzPart_F Try.f19 4 (f_i_EgzPart_t4) := by
  intro σ p r r' h
  unfold f_i_EgzPart_t4 at h
  split at h
  · rename_i hd
    rw [← dec_enc hd]
    exact row1 (f_i_EgzPart_l4 _ _ _ _ _ _ _) h
  · cases h
def f_i_EgzPart_h2 : List Sh := [.p .sl, .p (.int .i64), .u, .u, .u, .u, .u, .u, .u, .u, .u, .u, .u, .u, .u, .u, .u, .u, .u, .u, .u, .u, .u, .u, .u, .u, .u, .u, .u, .u, .u, .u, .u, .u, .u, .u, .u, .u, .p (.int .i64), .p (.int .i64), .u, .u, .u, .u, .u, .u, .u, .u, .u, .u, .u, .u, .u, .u, .u, .u, .u, .u, .u, .u, .u, .u, .u, .u, .u, .u, .u]
def f_i_EgzPart_fr2 (L0 : List Sc) (t1 : Int) (t38 : Int) (s : Int) : List AV := enc f_i_EgzPart_h2 [.l L0, .i t1, .i t38, .i s]
def f_i_EgzPart_g2_1 : List Sh := [.p .sl, .p (.int .i64), .u, .u, .u, .u, .u, .u, .u, .u, .u, .u, .u, .u, .u, .u, .u, .u, .u, .u, .u, .u, .u, .u, .u, .u, .u, .u, .u, .u, .u, .u, .u, .u, .u, .u, .u, .u, .p (.int .i64), .p (.int .i64), .u, .u, .u, .u, .u, .u, .u, .u, .u, .u, .u, .u, .u, .u, .u, .u, .u, .u, .u, .u, .u, .u, .u, .u, .u, .u, .u]
def f_i_EgzPart_x2_1 (L0 : List Sc) (t1 : Int) (t38 : Int) (e : Int) : X × List AV := (.out 2, enc f_i_EgzPart_g2_1 [.l L0, .i t1, .i t38, .i e])
def f_i_EgzPart_g2_2 : List Sh := [.u, .u, .u, .u, .own 3, .p .boo, .u, .u, .u, .u, .u, .u, .u, .u, .u, .u, .u, .u, .u, .u, .u, .u, .u, .u, .u, .u, .u, .u, .u, .u, .u, .u, .u, .u, .u, .u, .u, .u, .u, .u, .u, .u, .u, .u, .u, .u, .u, .u, .u, .u, .u, .u, .u, .u, .u, .u, .u, .u, .u, .u, .u, .u, .u, .u, .u, .u, .u]
def f_i_EgzPart_x2_2 (L0 : List Sc) (t1 : Int) (t38 : Int) (e : List Sc) : X × List AV := (.ret, enc f_i_EgzPart_g2_2 [.l e, .b true])
theorem f_i_EgzPart_p2 {R : Type} (L0 : List Sc) (t1 : Int) (t38 : Int) (s : Int) (kN : Int → Option R) (kA : Int → Option R) (kB : List Sc → Option R) : f_i_EgzPart_k2 L0 t1 t38 s kN kA kB = (f_i_EgzPart_r2 L0 t1 t38 s).bind (Ro.el kN kA kB) := by
  simp only [f_i_EgzPart_k2, f_i_EgzPart_r2, brB, boB, bl1B, someB, noneB, Ro.el]
theorem f_i_EgzPart_e2 (L0 : List Sc) (t1 : Int) (t38 : Int) (s : Int) : EC E0 f_i_EgzPart_M H0 f_i_EgzPart_F (asL (addL 4 (f_i_EgzPart_t4) (addL 0 (f_i_EgzPart_t0) (noL)))) 2 (bodyOf Try.f19 2) (f_i_EgzPart_fr2 L0 t1 t38 s) (done (klOf f_i_EgzPart_F 2)) = f_i_EgzPart_k2 L0 t1 t38 s (fun s => some (.norm, f_i_EgzPart_fr2 L0 t1 t38 s)) (fun e => some (f_i_EgzPart_x2_1 L0 t1 t38 e)) (fun e => some (f_i_EgzPart_x2_2 L0 t1 t38 e)) := by kernel_rfl
theorem f_i_EgzPart_l2 (L0 : List Sc) (t1 : Int) (t38 : Int) : ∀ s r, loopL (f_i_EgzPart_r2 L0 t1 t38) s = some r → LS Try.prog f_i_EgzPart_F (bodyOf Try.f19 2) (f_i_EgzPart_fr2 L0 t1 t38 s) (enX (f_i_EgzPart_x2_1 L0 t1 t38) (f_i_EgzPart_x2_2 L0 t1 t38) r) :=
  loop_true E0ok f_i_EgzPart_Mt (addL_true (f_i_EgzPart_tt4) (addL_true (f_i_EgzPart_tt0) (noL_true))) f_i_EgzPart_o (fun _ h => by cases h) (fun _ h => by cases h) (fun s => (f_i_EgzPart_e2 L0 t1 t38 s).trans (f_i_EgzPart_p2 L0 t1 t38 s _ _ (fun e => some (f_i_EgzPart_x2_2 L0 t1 t38 e))))
def f_i_EgzPart_t2 (σ : List AV) : Option (Bool × Bool × (X × List AV) × (X × List AV)) := match dec f_i_EgzPart_h2 σ with
  | some [.l L0, .i t1, .i t38, .i t39] => some ((loopL (f_i_EgzPart_r2 L0 t1 t38) t39).isSome, isOne (loopL (f_i_EgzPart_r2 L0 t1 t38) t39), f_i_EgzPart_x2_1 L0 t1 t38 (getOne 0 (loopL (f_i_EgzPart_r2 L0 t1 t38) t39)), f_i_EgzPart_x2_2 L0 t1 t38 (getTwo [] (loopL (f_i_EgzPart_r2 L0 t1 t38) t39)))
  | _ => none
theorem f_i_EgzPart_tt2 : TTrue Try.prog f_i_EgzPart_F Try.f19 2 (f_i_EgzPart_t2) := by
  intro σ p r r' h
  unfold f_i_EgzPart_t2 at h
  split at h
  · rename_i hd
    rw [← dec_enc hd]
    exact row2 (f_i_EgzPart_l2 _ _ _ _) h
  · cases h
theorem f_i_EgzPart_p {R : Type} (L0 : List Sc) (p1 : Int) (kR : List Sc × Bool → Option R) : f_i_EgzPart_k L0 p1 kR = (f_i_EgzPart_k L0 p1 some).bind kR := by
  simp only [f_i_EgzPart_k, brB, boB, blB, someB, noneB]
theorem f_i_EgzPart_e (L0 : List Sc) (p1 : Int) : runFn E0 f_i_EgzPart_M H0 f_i_EgzPart_F (asL (addL 2 (f_i_EgzPart_t2) (addL 4 (f_i_EgzPart_t4) (addL 0 (f_i_EgzPart_t0) (noL))))) Try.f19 (f_i_EgzPart_a L0 p1) (f_i_EgzPart_i L0 p1) = f_i_EgzPart_k L0 p1 (fun r => some (f_i_EgzPart_en r)) := by kernel_rfl
theorem f_i_EgzPart_ok (L0 : List Sc) (p1 : Int) (r : List Sc × Bool) (h : f_i_EgzPart L0 p1 = some r) : CS Try.prog 19 (f_i_EgzPart_a L0 p1) (f_i_EgzPart_i L0 p1) (f_i_EgzPart_en r).1 (f_i_EgzPart_en r).2 :=
  fn_true (Gk := fun k => f_i_EgzPart_k L0 p1 k) (en := f_i_EgzPart_en) Try.func19 E0ok f_i_EgzPart_Mt (addL_true (f_i_EgzPart_tt2) (addL_true (f_i_EgzPart_tt4) (addL_true (f_i_EgzPart_tt0) (noL_true)))) f_i_EgzPart_o (f_i_EgzPart_e L0 p1) (f_i_EgzPart_p L0 p1) h
def f_i_EgzPart_c : CRow := fun args inh => match dec2 [.p .sl, .p (.int .i64)] [] args inh with
  | some ([.l L0, .i p1], []) => some ((f_i_EgzPart L0 p1).isSome, (f_i_EgzPart_en ((f_i_EgzPart L0 p1).getD ([], false))).1, (f_i_EgzPart_en ((f_i_EgzPart L0 p1).getD ([], false))).2)
  | _ => none
theorem f_i_EgzPart_cc : CTrue Try.prog 19 f_i_EgzPart_c := by
  intro args inh rs out h
  unfold f_i_EgzPart_c at h
  split at h
  · rename_i hd
    obtain ⟨h1, h2⟩ := dec2_enc hd
    rw [← h1, ← h2]
    exact rowC (f_i_EgzPart_ok _ _) h
  · cases h

def f_l_markIntS_io_F : Fi := { nv := 1, nc := 1, m := 1, vt := [], kl := [(0, ([3, 4, 5, 7, 8, 9, 10, 11, 12, 13, 14, 15, 16, 17, 18, 19], [1, 3, 4, 5, 6, 7, 8, 9, 10, 11, 12, 13, 14, 15, 16, 17, 18, 19], [1, 2, 3, 4, 6, 7, 8, 9, 10, 11, 12, 13, 14, 15, 16, 17, 18, 19]))], sk := [], mvs := [], fz := [] }
def f_l_markIntS_io_a (k1 : Int) (h0 : List Sc) : List AV := enc [.p (.al 0), .p (.int .i64)] [.i k1]
def f_l_markIntS_io_i (k1 : Int) (h0 : List Sc) : List AV := enc [.own 3] [.l h0]
def f_l_markIntS_io_en (r : Int × List Sc) : List AV × List AV := (enc [.p (.int .i64)] [.i r.1], enc [.own 3] [.l r.2])
def f_l_markIntS_io_M : Calling := noC
theorem f_l_markIntS_io_Mt : CallOk Try.prog (f_l_markIntS_io_M) := noC_true
theorem f_l_markIntS_io_o : loopsOnce Try.f20 = true := by kernel_rfl
def f_l_markIntS_io_h0 : List Sh := [.own 3, .p (.al 0), .p (.int .i64), .u, .u, .u, .p (.int .i64), .u, .u, .u, .u, .u, .u, .u, .u, .u, .u, .u, .u, .u]
def f_l_markIntS_io_fr0 (s : List Sc × Int × Int) : List AV := enc f_l_markIntS_io_h0 [.l s.1, .i s.2.1, .i s.2.2]
def f_l_markIntS_io_g0_1 : List Sh := [.own 3, .u, .p (.int .i64), .u, .u, .u, .u, .u, .u, .u, .u, .u, .u, .u, .u, .u, .u, .u, .u, .u]
def f_l_markIntS_io_x0_1 (e : List Sc × Int) : X × List AV := (.out 0, enc f_l_markIntS_io_g0_1 [.l e.1, .i e.2])
def f_l_markIntS_io_x0_2 (_e : Unit) : X × List AV := (.ret, [])
theorem f_l_markIntS_io_p0 {R : Type} (s : List Sc × Int × Int) (kN : List Sc × Int × Int → Option R) (kA : List Sc × Int → Option R) (kB : Unit → Option R) : f_l_markIntS_io_k0 s.1 s.2.1 s.2.2 kN kA = (f_l_markIntS_io_r0 s).bind (Ro.el kN kA kB) := by
  simp only [f_l_markIntS_io_k0, f_l_markIntS_io_r0, brB, someB, noneB, Ro.el]
theorem f_l_markIntS_io_e0 (s : List Sc × Int × Int) : EC E0 f_l_markIntS_io_M H0 f_l_markIntS_io_F (asL (noL)) 0 (bodyOf Try.f20 0) (f_l_markIntS_io_fr0 s) (done (klOf f_l_markIntS_io_F 0)) = f_l_markIntS_io_k0 s.1 s.2.1 s.2.2 (fun s => some (.norm, f_l_markIntS_io_fr0 s)) (fun e => some (f_l_markIntS_io_x0_1 e)) := by kernel_rfl
theorem f_l_markIntS_io_l0 : ∀ s r, loopL (f_l_markIntS_io_r0) s = some r → LS Try.prog f_l_markIntS_io_F (bodyOf Try.f20 0) (f_l_markIntS_io_fr0 s) (enX (f_l_markIntS_io_x0_1) (f_l_markIntS_io_x0_2) r) :=
  loop_true E0ok f_l_markIntS_io_Mt (noL_true) f_l_markIntS_io_o (fun _ h => by cases h) (fun _ h => by cases h) (fun s => (f_l_markIntS_io_e0 s).trans (f_l_markIntS_io_p0 s _ _ (fun e => some (f_l_markIntS_io_x0_2 e))))
def f_l_markIntS_io_t0 (σ : List AV) : Option (Bool × Bool × (X × List AV) × (X × List AV)) := match dec f_l_markIntS_io_h0 σ with
  | some [.l v0, .i k1, .i i5] => some (isOne (loopL (f_l_markIntS_io_r0) (v0, k1, i5)), true, f_l_markIntS_io_x0_1 (getOne ([], 0) (loopL (f_l_markIntS_io_r0) (v0, k1, i5))), (.ret, []))
  | _ => none
theorem f_l_markIntS_io_tt0 : TTrue Try.prog f_l_markIntS_io_F Try.f20 0 (f_l_markIntS_io_t0) := by
  intro σ p r r' h
  unfold f_l_markIntS_io_t0 at h
  split at h
  · rename_i hd
    rw [← dec_enc hd]
    exact row1 (f_l_markIntS_io_l0 _) h
  · cases h
theorem f_l_markIntS_io_p {R : Type} (k1 : Int) (h0 : List Sc) (kR : Int × List Sc → Option R) : f_l_markIntS_io_k k1 h0 kR = (f_l_markIntS_io_k k1 h0 some).bind kR := by
  simp only [f_l_markIntS_io_k, bl1B, someB]
theorem f_l_markIntS_io_e (k1 : Int) (h0 : List Sc) : runFn E0 f_l_markIntS_io_M H0 f_l_markIntS_io_F (asL (addL 0 (f_l_markIntS_io_t0) (noL))) Try.f20 (f_l_markIntS_io_a k1 h0) (f_l_markIntS_io_i k1 h0) = f_l_markIntS_io_k k1 h0 (fun r => some (f_l_markIntS_io_en r)) := by kernel_rfl
theorem f_l_markIntS_io_ok (k1 : Int) (h0 : List Sc) (r : Int × List Sc) (h : f_l_markIntS_io k1 h0 = some r) : CS Try.prog 20 (f_l_markIntS_io_a k1 h0) (f_l_markIntS_io_i k1 h0) (f_l_markIntS_io_en r).1 (f_l_markIntS_io_en r).2 :=
  fn_true (Gk := fun k => f_l_markIntS_io_k k1 h0 k) (en := f_l_markIntS_io_en) Try.func20 E0ok f_l_markIntS_io_Mt (addL_true (f_l_markIntS_io_tt0) (noL_true)) f_l_markIntS_io_o (f_l_markIntS_io_e k1 h0) (f_l_markIntS_io_p k1 h0) h
def f_l_markIntS_io_c : CRow := fun args inh => match dec2 [.p (.al 0), .p (.int .i64)] [.own 3] args inh with
  | some ([.i k1], [.l h0]) => some ((f_l_markIntS_io k1 h0).isSome, (f_l_markIntS_io_en ((f_l_markIntS_io k1 h0).getD (0, []))).1, (f_l_markIntS_io_en ((f_l_markIntS_io k1 h0).getD (0, []))).2)
  | _ => none
theorem f_l_markIntS_io_cc : CTrue Try.prog 20 f_l_markIntS_io_c := by
  intro args inh rs out h
  unfold f_l_markIntS_io_c at h
  split at h
  · rename_i hd
    obtain ⟨h1, h2⟩ := dec2_enc hd
    rw [← h1, ← h2]
    exact rowC (f_l_markIntS_io_ok _ _) h
  · cases h

def f_l_heldIntS_F : Fi := { nv := 0, nc := 0, m := 0, vt := [], kl := [(0, ([2, 3, 4, 6, 7, 8, 9, 10, 11, 12, 13, 14, 15, 16, 17, 18, 19, 20], [0, 2, 3, 4, 5, 6, 7, 8, 9, 10, 11, 12, 13, 14, 15, 16, 17, 18, 19, 20], [0, 1, 2, 3, 5, 6, 7, 8, 9, 10, 11, 12, 13, 14, 15, 16, 17, 18, 19, 20]))], sk := [], mvs := [], fz := [] }
def f_l_heldIntS_a (a0 : List Sc) (k1 : Int) : List AV := enc [.p .sl, .p (.int .i64)] [.l a0, .i k1]
def f_l_heldIntS_i (a0 : List Sc) (k1 : Int) : List AV := enc [] []
def f_l_heldIntS_en (r : Int) : List AV × List AV := (enc [.p (.int .i64)] [.i r], enc [] [])
def f_l_heldIntS_M : Calling := noC
theorem f_l_heldIntS_Mt : CallOk Try.prog (f_l_heldIntS_M) := noC_true
theorem f_l_heldIntS_o : loopsOnce Try.f21 = true := by kernel_rfl
def f_l_heldIntS_h0 : List Sh := [.p .sl, .p (.int .i64), .u, .u, .u, .p (.int .i64), .u, .u, .u, .u, .u, .u, .u, .u, .u, .u, .u, .u, .u, .u, .u]
def f_l_heldIntS_fr0 (a0 : List Sc) (s : Int × Int) : List AV := enc f_l_heldIntS_h0 [.l a0, .i s.1, .i s.2]
def f_l_heldIntS_g0_1 : List Sh := [.u, .p (.int .i64), .u, .u, .u, .u, .u, .u, .u, .u, .u, .u, .u, .u, .u, .u, .u, .u, .u, .u, .u]
def f_l_heldIntS_x0_1 (a0 : List Sc) (e : Int) : X × List AV := (.out 0, enc f_l_heldIntS_g0_1 [.i e])
def f_l_heldIntS_g0_2 : List Sh := [.u, .u, .u, .u, .p (.int .i64), .u, .u, .u, .u, .u, .u, .u, .u, .u, .u, .u, .u, .u, .u, .u, .u]
def f_l_heldIntS_x0_2 (a0 : List Sc) (e : Unit) : X × List AV := (.ret, enc f_l_heldIntS_g0_2 [.i (-1)])
theorem f_l_heldIntS_p0 {R : Type} (a0 : List Sc) (s : Int × Int) (kN : Int × Int → Option R) (kA : Int → Option R) (kB : Unit → Option R) : f_l_heldIntS_k0 a0 s.1 s.2 kN kA kB = (f_l_heldIntS_r0 a0 s).bind (Ro.el kN kA kB) := by
  simp only [f_l_heldIntS_k0, f_l_heldIntS_r0, brB, someB, noneB, Ro.el]
theorem f_l_heldIntS_e0 (a0 : List Sc) (s : Int × Int) : EC E0 f_l_heldIntS_M H0 f_l_heldIntS_F (asL (noL)) 0 (bodyOf Try.f21 0) (f_l_heldIntS_fr0 a0 s) (done (klOf f_l_heldIntS_F 0)) = f_l_heldIntS_k0 a0 s.1 s.2 (fun s => some (.norm, f_l_heldIntS_fr0 a0 s)) (fun e => some (f_l_heldIntS_x0_1 a0 e)) (fun e => some (f_l_heldIntS_x0_2 a0 e)) := by kernel_rfl
theorem f_l_heldIntS_l0 (a0 : List Sc) : ∀ s r, loopL (f_l_heldIntS_r0 a0) s = some r → LS Try.prog f_l_heldIntS_F (bodyOf Try.f21 0) (f_l_heldIntS_fr0 a0 s) (enX (f_l_heldIntS_x0_1 a0) (f_l_heldIntS_x0_2 a0) r) :=
  loop_true E0ok f_l_heldIntS_Mt (noL_true) f_l_heldIntS_o (fun _ h => by cases h) (fun _ h => by cases h) (fun s => (f_l_heldIntS_e0 a0 s).trans (f_l_heldIntS_p0 a0 s _ _ (fun e => some (f_l_heldIntS_x0_2 a0 e))))
def f_l_heldIntS_t0 (σ : List AV) : Option (Bool × Bool × (X × List AV) × (X × List AV)) := match dec f_l_heldIntS_h0 σ with
  | some [.l a0, .i k1, .i i5] => some ((loopL (f_l_heldIntS_r0 a0) (k1, i5)).isSome, isOne (loopL (f_l_heldIntS_r0 a0) (k1, i5)), f_l_heldIntS_x0_1 a0 (getOne 0 (loopL (f_l_heldIntS_r0 a0) (k1, i5))), f_l_heldIntS_x0_2 a0 (getTwo () (loopL (f_l_heldIntS_r0 a0) (k1, i5))))
  | _ => none
theorem f_l_heldIntS_tt0 : TTrue Try.prog f_l_heldIntS_F Try.f21 0 (f_l_heldIntS_t0) := by
  intro σ p r r' h
  unfold f_l_heldIntS_t0 at h
  split at h
  · rename_i hd
    rw [← dec_enc hd]
    exact row2 (f_l_heldIntS_l0 _ _) h
  · cases h
theorem f_l_heldIntS_p {R : Type} (a0 : List Sc) (k1 : Int) (kR : Int → Option R) : f_l_heldIntS_k a0 k1 kR = (f_l_heldIntS_k a0 k1 some).bind kR := by
  simp only [f_l_heldIntS_k, blB, someB]
theorem f_l_heldIntS_e (a0 : List Sc) (k1 : Int) : runFn E0 f_l_heldIntS_M H0 f_l_heldIntS_F (asL (addL 0 (f_l_heldIntS_t0) (noL))) Try.f21 (f_l_heldIntS_a a0 k1) (f_l_heldIntS_i a0 k1) = f_l_heldIntS_k a0 k1 (fun r => some (f_l_heldIntS_en r)) := by kernel_rfl
theorem f_l_heldIntS_ok (a0 : List Sc) (k1 : Int) (r : Int) (h : f_l_heldIntS a0 k1 = some r) : CS Try.prog 21 (f_l_heldIntS_a a0 k1) (f_l_heldIntS_i a0 k1) (f_l_heldIntS_en r).1 (f_l_heldIntS_en r).2 :=
  fn_true (Gk := fun k => f_l_heldIntS_k a0 k1 k) (en := f_l_heldIntS_en) Try.func21 E0ok f_l_heldIntS_Mt (addL_true (f_l_heldIntS_tt0) (noL_true)) f_l_heldIntS_o (f_l_heldIntS_e a0 k1) (f_l_heldIntS_p a0 k1) h
def f_l_heldIntS_c : CRow := fun args inh => match dec2 [.p .sl, .p (.int .i64)] [] args inh with
  | some ([.l a0, .i k1], []) => some ((f_l_heldIntS a0 k1).isSome, (f_l_heldIntS_en ((f_l_heldIntS a0 k1).getD 0)).1, (f_l_heldIntS_en ((f_l_heldIntS a0 k1).getD 0)).2)
  | _ => none
theorem f_l_heldIntS_cc : CTrue Try.prog 21 f_l_heldIntS_c := by
  intro args inh rs out h
  unfold f_l_heldIntS_c at h
  split at h
  · rename_i hd
    obtain ⟨h1, h2⟩ := dec2_enc hd
    rw [← h1, ← h2]
    exact rowC (f_l_heldIntS_ok _ _) h
  · cases h

def f_l_FnExactEgzPart_F : Fi := { nv := 3, nc := 0, m := 0, vt := [(22, 0), (30, 1), (78, 2)], kl := [], sk := [], mvs := [0, 1, 2], fz := [] }
def f_l_FnExactEgzPart_a (L0 : List Sc) (p1 : Int) : List AV := enc [.p .sl, .p (.int .i64)] [.l L0, .i p1]
def f_l_FnExactEgzPart_i (L0 : List Sc) (p1 : Int) : List AV := enc [] []
def f_l_FnExactEgzPart_en (r : Bool) : List AV × List AV := (enc [.p .boo] [.b r], enc [] [])
def f_l_FnExactEgzPart_M : Calling := addC 10 f_l_toIntS_c (addC 18 f_s_EgzPart_c (addC 19 f_i_EgzPart_c (addC 12 f_l_eqIntS_c (addC 20 f_l_markIntS_io_c (addC 21 f_l_heldIntS_c (noC))))))
theorem f_l_FnExactEgzPart_Mt : CallOk Try.prog (f_l_FnExactEgzPart_M) := addC_true f_l_toIntS_cc (addC_true f_s_EgzPart_cc (addC_true f_i_EgzPart_cc (addC_true f_l_eqIntS_cc (addC_true f_l_markIntS_io_cc (addC_true f_l_heldIntS_cc (noC_true))))))
theorem f_l_FnExactEgzPart_o : loopsOnce Try.f5 = true := by kernel_rfl
theorem f_l_FnExactEgzPart_p {R : Type} (L0 : List Sc) (p1 : Int) (kR : Bool → Option R) : f_l_FnExactEgzPart_k L0 p1 kR = (f_l_FnExactEgzPart_k L0 p1 some).bind kR := by
  simp only [f_l_FnExactEgzPart_k, brB, boB, someB]
theorem f_l_FnExactEgzPart_e (L0 : List Sc) (p1 : Int) : runFn E0 f_l_FnExactEgzPart_M H0 f_l_FnExactEgzPart_F (asL (noL)) Try.f5 (f_l_FnExactEgzPart_a L0 p1) (f_l_FnExactEgzPart_i L0 p1) = f_l_FnExactEgzPart_k L0 p1 (fun r => some (f_l_FnExactEgzPart_en r)) := by kernel_rfl
theorem f_l_FnExactEgzPart_ok (L0 : List Sc) (p1 : Int) (r : Bool) (h : f_l_FnExactEgzPart L0 p1 = some r) : CS Try.prog 5 (f_l_FnExactEgzPart_a L0 p1) (f_l_FnExactEgzPart_i L0 p1) (f_l_FnExactEgzPart_en r).1 (f_l_FnExactEgzPart_en r).2 :=
  fn_true (Gk := fun k => f_l_FnExactEgzPart_k L0 p1 k) (en := f_l_FnExactEgzPart_en) Try.func5 E0ok f_l_FnExactEgzPart_Mt (noL_true) f_l_FnExactEgzPart_o (f_l_FnExactEgzPart_e L0 p1) (f_l_FnExactEgzPart_p L0 p1) h
def f_l_FnExactEgzPart_c : CRow := fun args inh => match dec2 [.p .sl, .p (.int .i64)] [] args inh with
  | some ([.l L0, .i p1], []) => some ((f_l_FnExactEgzPart L0 p1).isSome, (f_l_FnExactEgzPart_en ((f_l_FnExactEgzPart L0 p1).getD false)).1, (f_l_FnExactEgzPart_en ((f_l_FnExactEgzPart L0 p1).getD false)).2)
  | _ => none
theorem f_l_FnExactEgzPart_cc : CTrue Try.prog 5 f_l_FnExactEgzPart_c := by
  intro args inh rs out h
  unfold f_l_FnExactEgzPart_c at h
  split at h
  · rename_i hd
    obtain ⟨h1, h2⟩ := dec2_enc hd
    rw [← h1, ← h2]
    exact rowC (f_l_FnExactEgzPart_ok _ _) h
  · cases h

def f_s_OrderOf_F : Fi := { nv := 0, nc := 0, m := 0, vt := [], kl := [], sk := [], mvs := [], fz := [] }
def f_s_OrderOf_a (g0 : List Sc) : List AV := enc [.p .gr] [.l g0]
def f_s_OrderOf_i (g0 : List Sc) : List AV := enc [] []
def f_s_OrderOf_en (r : Int) : List AV × List AV := (enc [.p (.int .i64)] [.i r], enc [] [])
def f_s_OrderOf_M : Calling := addC 29 f_s_IsGroup_c (addC 30 f_s_l2Order_c (noC))
theorem f_s_OrderOf_Mt : CallOk Try.prog (f_s_OrderOf_M) := addC_true f_s_IsGroup_cc (addC_true f_s_l2Order_cc (noC_true))
theorem f_s_OrderOf_o : loopsOnce Try.f44 = true := by kernel_rfl
theorem f_s_OrderOf_p {R : Type} (g0 : List Sc) (kR : Int → Option R) : f_s_OrderOf_k g0 kR = (f_s_OrderOf_k g0 some).bind kR := by
  simp only [f_s_OrderOf_k, brB, boB, someB]
theorem f_s_OrderOf_e (g0 : List Sc) : runFn E0 f_s_OrderOf_M H0 f_s_OrderOf_F (asL (noL)) Try.f44 (f_s_OrderOf_a g0) (f_s_OrderOf_i g0) = f_s_OrderOf_k g0 (fun r => some (f_s_OrderOf_en r)) := by kernel_rfl
theorem f_s_OrderOf_ok (g0 : List Sc) (r : Int) (h : f_s_OrderOf g0 = some r) : CS Try.prog 44 (f_s_OrderOf_a g0) (f_s_OrderOf_i g0) (f_s_OrderOf_en r).1 (f_s_OrderOf_en r).2 :=
  fn_true (Gk := fun k => f_s_OrderOf_k g0 k) (en := f_s_OrderOf_en) Try.func44 E0ok f_s_OrderOf_Mt (noL_true) f_s_OrderOf_o (f_s_OrderOf_e g0) (f_s_OrderOf_p g0) h
def f_s_OrderOf_c : CRow := fun args inh => match dec2 [.p .gr] [] args inh with
  | some ([.l g0], []) => some ((f_s_OrderOf g0).isSome, (f_s_OrderOf_en ((f_s_OrderOf g0).getD 0)).1, (f_s_OrderOf_en ((f_s_OrderOf g0).getD 0)).2)
  | _ => none
theorem f_s_OrderOf_cc : CTrue Try.prog 44 f_s_OrderOf_c := by
  intro args inh rs out h
  unfold f_s_OrderOf_c at h
  split at h
  · rename_i hd
    obtain ⟨h1, h2⟩ := dec2_enc hd
    rw [← h1, ← h2]
    exact rowC (f_s_OrderOf_ok _) h
  · cases h

def f_s_l2Is_F : Fi := { nv := 0, nc := 0, m := 0, vt := [], kl := [], sk := [], mvs := [], fz := [] }
def f_s_l2Is_a (g0 : List Sc) (x1 : Int) : List AV := enc [.p .gr, .p (.int .i64)] [.l g0, .i x1]
def f_s_l2Is_i (g0 : List Sc) (x1 : Int) : List AV := enc [] []
def f_s_l2Is_en (r : Bool) : List AV × List AV := (enc [.p .boo] [.b r], enc [] [])
def f_s_l2Is_M : Calling := addC 44 f_s_OrderOf_c (noC)
theorem f_s_l2Is_Mt : CallOk Try.prog (f_s_l2Is_M) := addC_true f_s_OrderOf_cc (noC_true)
theorem f_s_l2Is_o : loopsOnce Try.f37 = true := by kernel_rfl
theorem f_s_l2Is_p {R : Type} (g0 : List Sc) (x1 : Int) (kR : Bool → Option R) : f_s_l2Is_k g0 x1 kR = (f_s_l2Is_k g0 x1 some).bind kR := by
  simp only [f_s_l2Is_k, brB, boB, someB]
theorem f_s_l2Is_e (g0 : List Sc) (x1 : Int) : runFn E0 f_s_l2Is_M H0 f_s_l2Is_F (asL (noL)) Try.f37 (f_s_l2Is_a g0 x1) (f_s_l2Is_i g0 x1) = f_s_l2Is_k g0 x1 (fun r => some (f_s_l2Is_en r)) := by kernel_rfl
theorem f_s_l2Is_ok (g0 : List Sc) (x1 : Int) (r : Bool) (h : f_s_l2Is g0 x1 = some r) : CS Try.prog 37 (f_s_l2Is_a g0 x1) (f_s_l2Is_i g0 x1) (f_s_l2Is_en r).1 (f_s_l2Is_en r).2 :=
  fn_true (Gk := fun k => f_s_l2Is_k g0 x1 k) (en := f_s_l2Is_en) Try.func37 E0ok f_s_l2Is_Mt (noL_true) f_s_l2Is_o (f_s_l2Is_e g0 x1) (f_s_l2Is_p g0 x1) h
def f_s_l2Is_c : CRow := fun args inh => match dec2 [.p .gr, .p (.int .i64)] [] args inh with
  | some ([.l g0, .i x1], []) => some ((f_s_l2Is g0 x1).isSome, (f_s_l2Is_en ((f_s_l2Is g0 x1).getD false)).1, (f_s_l2Is_en ((f_s_l2Is g0 x1).getD false)).2)
  | _ => none
theorem f_s_l2Is_cc : CTrue Try.prog 37 f_s_l2Is_c := by
  intro args inh rs out h
  unfold f_s_l2Is_c at h
  split at h
  · rename_i hd
    obtain ⟨h1, h2⟩ := dec2_enc hd
    rw [← h1, ← h2]
    exact rowC (f_s_l2Is_ok _ _) h
  · cases h

def f_s_ImageOfMap_F : Fi := { nv := 0, nc := 0, m := 0, vt := [], kl := [(0, ([0, 3, 4, 5, 8, 9, 10, 11, 12, 13, 14, 15, 16, 17, 18, 19, 20, 21, 22, 23, 24, 25, 26, 27, 28, 29, 30], [0, 1, 3, 4, 5, 7, 8, 9, 10, 11, 12, 13, 14, 15, 16, 17, 18, 19, 20, 21, 22, 23, 24, 25, 26, 27, 28, 29, 30], [0, 1, 2, 3, 6, 7, 8, 9, 10, 11, 12, 13, 14, 15, 16, 17, 18, 19, 20, 21, 22, 23, 24, 25, 26, 27, 28, 29, 30]))], sk := [], mvs := [], fz := [] }
def f_s_ImageOfMap_a (h0 : List Sc) (m1 : List Sc) : List AV := enc [.p .gr, .p .sl] [.l h0, .l m1]
def f_s_ImageOfMap_i (h0 : List Sc) (m1 : List Sc) : List AV := enc [] []
def f_s_ImageOfMap_en (r : Int × Bool) : List AV × List AV := (enc [.p (.int .i64), .p .boo] [.i r.1, .b r.2], enc [] [])
def f_s_ImageOfMap_M : Calling := addC 37 f_s_l2Is_c (addC 29 f_s_IsGroup_c (noC))
theorem f_s_ImageOfMap_Mt : CallOk Try.prog (f_s_ImageOfMap_M) := addC_true f_s_l2Is_cc (addC_true f_s_IsGroup_cc (noC_true))
theorem f_s_ImageOfMap_o : loopsOnce Try.f22 = true := by kernel_rfl
def f_s_ImageOfMap_h0 : List Sh := [.u, .p .sl, .p .el, .u, .u, .u, .p (.int .i64), .p (.int .i64), .u, .u, .u, .u, .u, .u, .u, .u, .u, .u, .u, .u, .u, .u, .u, .u, .u, .u, .u, .u, .u, .u, .u]
def f_s_ImageOfMap_fr0 (m1 : List Sc) (h2 : List Sc) (s : Int × Int) : List AV := enc f_s_ImageOfMap_h0 [.l m1, .l h2, .i s.1, .i s.2]
def f_s_ImageOfMap_g0_1 : List Sh := [.u, .u, .p .el, .u, .u, .u, .p (.int .i64), .u, .u, .u, .u, .u, .u, .u, .u, .u, .u, .u, .u, .u, .u, .u, .u, .u, .u, .u, .u, .u, .u, .u, .u]
def f_s_ImageOfMap_x0_1 (m1 : List Sc) (h2 : List Sc) (e : Int) : X × List AV := (.out 0, enc f_s_ImageOfMap_g0_1 [.l h2, .i e])
def f_s_ImageOfMap_g0_2 : List Sh := [.u, .u, .u, .u, .p (.int .i64), .p .boo, .u, .u, .u, .u, .u, .u, .u, .u, .u, .u, .u, .u, .u, .u, .u, .u, .u, .u, .u, .u, .u, .u, .u, .u, .u]
def f_s_ImageOfMap_x0_2 (m1 : List Sc) (h2 : List Sc) (e : Unit) : X × List AV := (.ret, enc f_s_ImageOfMap_g0_2 [.i 0, .b false])
theorem f_s_ImageOfMap_p0 {R : Type} (m1 : List Sc) (h2 : List Sc) (s : Int × Int) (kN : Int × Int → Option R) (kA : Int → Option R) (kB : Unit → Option R) : f_s_ImageOfMap_k0 m1 h2 s.1 s.2 kN kA kB = (f_s_ImageOfMap_r0 m1 h2 s).bind (Ro.el kN kA kB) := by
  simp only [f_s_ImageOfMap_k0, f_s_ImageOfMap_r0, brB, boB, someB, noneB, Ro.el]
theorem f_s_ImageOfMap_e0 (m1 : List Sc) (h2 : List Sc) (s : Int × Int) : EC E0 f_s_ImageOfMap_M H0 f_s_ImageOfMap_F (asL (noL)) 0 (bodyOf Try.f22 0) (f_s_ImageOfMap_fr0 m1 h2 s) (done (klOf f_s_ImageOfMap_F 0)) = f_s_ImageOfMap_k0 m1 h2 s.1 s.2 (fun s => some (.norm, f_s_ImageOfMap_fr0 m1 h2 s)) (fun e => some (f_s_ImageOfMap_x0_1 m1 h2 e)) (fun e => some (f_s_ImageOfMap_x0_2 m1 h2 e)) := by kernel_rfl
theorem f_s_ImageOfMap_l0 (m1 : List Sc) (h2 : List Sc) : ∀ s r, loopL (f_s_ImageOfMap_r0 m1 h2) s = some r → LS Try.prog f_s_ImageOfMap_F (bodyOf Try.f22 0) (f_s_ImageOfMap_fr0 m1 h2 s) (enX (f_s_ImageOfMap_x0_1 m1 h2) (f_s_ImageOfMap_x0_2 m1 h2) r) :=
  loop_true E0ok f_s_ImageOfMap_Mt (noL_true) f_s_ImageOfMap_o (fun _ h => by cases h) (fun _ h => by cases h) (fun s => (f_s_ImageOfMap_e0 m1 h2 s).trans (f_s_ImageOfMap_p0 m1 h2 s _ _ (fun e => some (f_s_ImageOfMap_x0_2 m1 h2 e))))
def f_s_ImageOfMap_t0 (σ : List AV) : Option (Bool × Bool × (X × List AV) × (X × List AV)) := match dec f_s_ImageOfMap_h0 σ with
  | some [.l m1, .l h2, .i out6, .i i7] => some ((loopL (f_s_ImageOfMap_r0 m1 h2) (out6, i7)).isSome, isOne (loopL (f_s_ImageOfMap_r0 m1 h2) (out6, i7)), f_s_ImageOfMap_x0_1 m1 h2 (getOne 0 (loopL (f_s_ImageOfMap_r0 m1 h2) (out6, i7))), f_s_ImageOfMap_x0_2 m1 h2 (getTwo () (loopL (f_s_ImageOfMap_r0 m1 h2) (out6, i7))))
  | _ => none
theorem f_s_ImageOfMap_tt0 : TTrue Try.prog f_s_ImageOfMap_F Try.f22 0 (f_s_ImageOfMap_t0) := by
  intro σ p r r' h
  unfold f_s_ImageOfMap_t0 at h
  split at h
  · rename_i hd
    rw [← dec_enc hd]
    exact row2 (f_s_ImageOfMap_l0 _ _ _) h
  · cases h
theorem f_s_ImageOfMap_p {R : Type} (h0 : List Sc) (m1 : List Sc) (kR : Int × Bool → Option R) : f_s_ImageOfMap_k h0 m1 kR = (f_s_ImageOfMap_k h0 m1 some).bind kR := by
  simp only [f_s_ImageOfMap_k, boB, blB, someB]
theorem f_s_ImageOfMap_e (h0 : List Sc) (m1 : List Sc) : runFn E0 f_s_ImageOfMap_M H0 f_s_ImageOfMap_F (asL (addL 0 (f_s_ImageOfMap_t0) (noL))) Try.f22 (f_s_ImageOfMap_a h0 m1) (f_s_ImageOfMap_i h0 m1) = f_s_ImageOfMap_k h0 m1 (fun r => some (f_s_ImageOfMap_en r)) := by kernel_rfl
theorem f_s_ImageOfMap_ok (h0 : List Sc) (m1 : List Sc) (r : Int × Bool) (h : f_s_ImageOfMap h0 m1 = some r) : CS Try.prog 22 (f_s_ImageOfMap_a h0 m1) (f_s_ImageOfMap_i h0 m1) (f_s_ImageOfMap_en r).1 (f_s_ImageOfMap_en r).2 :=
  fn_true (Gk := fun k => f_s_ImageOfMap_k h0 m1 k) (en := f_s_ImageOfMap_en) Try.func22 E0ok f_s_ImageOfMap_Mt (addL_true (f_s_ImageOfMap_tt0) (noL_true)) f_s_ImageOfMap_o (f_s_ImageOfMap_e h0 m1) (f_s_ImageOfMap_p h0 m1) h
def f_s_ImageOfMap_c : CRow := fun args inh => match dec2 [.p .gr, .p .sl] [] args inh with
  | some ([.l h0, .l m1], []) => some ((f_s_ImageOfMap h0 m1).isSome, (f_s_ImageOfMap_en ((f_s_ImageOfMap h0 m1).getD (0, false))).1, (f_s_ImageOfMap_en ((f_s_ImageOfMap h0 m1).getD (0, false))).2)
  | _ => none
theorem f_s_ImageOfMap_cc : CTrue Try.prog 22 f_s_ImageOfMap_c := by
  intro args inh rs out h
  unfold f_s_ImageOfMap_c at h
  split at h
  · rename_i hd
    obtain ⟨h1, h2⟩ := dec2_enc hd
    rw [← h1, ← h2]
    exact rowC (f_s_ImageOfMap_ok _ _) h
  · cases h

def f_i_OrderOf_F : Fi := { nv := 0, nc := 0, m := 0, vt := [], kl := [(0, ([0, 1, 2, 4, 5, 6, 7, 8, 9, 13, 14, 15, 16, 17, 18, 19, 20], [0, 1, 2, 4, 5, 6, 7, 8, 9, 10, 11, 12, 13, 14, 15, 16, 17, 18, 19, 20], [0, 1, 3, 4, 5, 6, 7, 8, 9, 10, 11, 12, 13, 14, 15, 16, 17, 18, 19, 20]))], sk := [], mvs := [], fz := [] }
def f_i_OrderOf_a (g0 : List Sc) : List AV := enc [.p .gr] [.l g0]
def f_i_OrderOf_i (g0 : List Sc) : List AV := enc [] []
def f_i_OrderOf_en (r : Int) : List AV × List AV := (enc [.p (.int .i64)] [.i r], enc [] [])
def f_i_OrderOf_M : Calling := addC 31 f_i_IsGroup_c (noC)
theorem f_i_OrderOf_Mt : CallOk Try.prog (f_i_OrderOf_M) := addC_true f_i_IsGroup_cc (noC_true)
theorem f_i_OrderOf_o : loopsOnce Try.f45 = true := by kernel_rfl
def f_i_OrderOf_h0 : List Sh := [.u, .u, .u, .p (.int .i64), .u, .u, .u, .u, .u, .u, .p .sl, .p (.int .i64), .p (.int .i64), .u, .u, .u, .u, .u, .u, .u, .u]
def f_i_OrderOf_fr0 (t10 : List Sc) (t11 : Int) (s : Int × Int) : List AV := enc f_i_OrderOf_h0 [.i s.1, .l t10, .i t11, .i s.2]
def f_i_OrderOf_g0_1 : List Sh := [.u, .u, .u, .p (.int .i64), .u, .u, .u, .u, .u, .u, .u, .u, .u, .u, .u, .u, .u, .u, .u, .u, .u]
def f_i_OrderOf_x0_1 (t10 : List Sc) (t11 : Int) (e : Int) : X × List AV := (.out 0, enc f_i_OrderOf_g0_1 [.i e])
def f_i_OrderOf_x0_2 (t10 : List Sc) (t11 : Int) (_e : Unit) : X × List AV := (.ret, [])
theorem f_i_OrderOf_p0 {R : Type} (t10 : List Sc) (t11 : Int) (s : Int × Int) (kN : Int × Int → Option R) (kA : Int → Option R) (kB : Unit → Option R) : f_i_OrderOf_k0 t10 t11 s.1 s.2 kN kA = (f_i_OrderOf_r0 t10 t11 s).bind (Ro.el kN kA kB) := by
  simp only [f_i_OrderOf_k0, f_i_OrderOf_r0, brB, someB, noneB, Ro.el]
theorem f_i_OrderOf_e0 (t10 : List Sc) (t11 : Int) (s : Int × Int) : EC E0 f_i_OrderOf_M H0 f_i_OrderOf_F (asL (noL)) 0 (bodyOf Try.f45 0) (f_i_OrderOf_fr0 t10 t11 s) (done (klOf f_i_OrderOf_F 0)) = f_i_OrderOf_k0 t10 t11 s.1 s.2 (fun s => some (.norm, f_i_OrderOf_fr0 t10 t11 s)) (fun e => some (f_i_OrderOf_x0_1 t10 t11 e)) := by kernel_rfl
theorem f_i_OrderOf_l0 (t10 : List Sc) (t11 : Int) : ∀ s r, loopL (f_i_OrderOf_r0 t10 t11) s = some r → LS Try.prog f_i_OrderOf_F (bodyOf Try.f45 0) (f_i_OrderOf_fr0 t10 t11 s) (enX (f_i_OrderOf_x0_1 t10 t11) (f_i_OrderOf_x0_2 t10 t11) r) :=
  loop_true E0ok f_i_OrderOf_Mt (noL_true) f_i_OrderOf_o (fun _ h => by cases h) (fun _ h => by cases h) (fun s => (f_i_OrderOf_e0 t10 t11 s).trans (f_i_OrderOf_p0 t10 t11 s _ _ (fun e => some (f_i_OrderOf_x0_2 t10 t11 e))))
def f_i_OrderOf_t0 (σ : List AV) : Option (Bool × Bool × (X × List AV) × (X × List AV)) := match dec f_i_OrderOf_h0 σ with
  | some [.i n3, .l t10, .i t11, .i t12] => some (isOne (loopL (f_i_OrderOf_r0 t10 t11) (n3, t12)), true, f_i_OrderOf_x0_1 t10 t11 (getOne 0 (loopL (f_i_OrderOf_r0 t10 t11) (n3, t12))), (.ret, []))
  | _ => none
theorem f_i_OrderOf_tt0 : TTrue Try.prog f_i_OrderOf_F Try.f45 0 (f_i_OrderOf_t0) := by
  intro σ p r r' h
  unfold f_i_OrderOf_t0 at h
  split at h
  · rename_i hd
    rw [← dec_enc hd]
    exact row1 (f_i_OrderOf_l0 _ _ _) h
  · cases h
theorem f_i_OrderOf_p {R : Type} (g0 : List Sc) (kR : Int → Option R) : f_i_OrderOf_k g0 kR = (f_i_OrderOf_k g0 some).bind kR := by
  simp only [f_i_OrderOf_k, brB, boB, bl1B, someB]
theorem f_i_OrderOf_e (g0 : List Sc) : runFn E0 f_i_OrderOf_M H0 f_i_OrderOf_F (asL (addL 0 (f_i_OrderOf_t0) (noL))) Try.f45 (f_i_OrderOf_a g0) (f_i_OrderOf_i g0) = f_i_OrderOf_k g0 (fun r => some (f_i_OrderOf_en r)) := by kernel_rfl
theorem f_i_OrderOf_ok (g0 : List Sc) (r : Int) (h : f_i_OrderOf g0 = some r) : CS Try.prog 45 (f_i_OrderOf_a g0) (f_i_OrderOf_i g0) (f_i_OrderOf_en r).1 (f_i_OrderOf_en r).2 :=
  fn_true (Gk := fun k => f_i_OrderOf_k g0 k) (en := f_i_OrderOf_en) Try.func45 E0ok f_i_OrderOf_Mt (addL_true (f_i_OrderOf_tt0) (noL_true)) f_i_OrderOf_o (f_i_OrderOf_e g0) (f_i_OrderOf_p g0) h
def f_i_OrderOf_c : CRow := fun args inh => match dec2 [.p .gr] [] args inh with
  | some ([.l g0], []) => some ((f_i_OrderOf g0).isSome, (f_i_OrderOf_en ((f_i_OrderOf g0).getD 0)).1, (f_i_OrderOf_en ((f_i_OrderOf g0).getD 0)).2)
  | _ => none
theorem f_i_OrderOf_cc : CTrue Try.prog 45 f_i_OrderOf_c := by
  intro args inh rs out h
  unfold f_i_OrderOf_c at h
  split at h
  · rename_i hd
    obtain ⟨h1, h2⟩ := dec2_enc hd
    rw [← h1, ← h2]
    exact rowC (f_i_OrderOf_ok _) h
  · cases h

def f_i_Group_has_F : Fi := { nv := 0, nc := 0, m := 0, vt := [], kl := [], sk := [], mvs := [], fz := [] }
def f_i_Group_has_a (g0 : List Sc) (x1 : Int) : List AV := enc [.p .gr, .p (.int .i64)] [.l g0, .i x1]
def f_i_Group_has_i (g0 : List Sc) (x1 : Int) : List AV := enc [] []
def f_i_Group_has_en (r : Bool) : List AV × List AV := (enc [.p .boo] [.b r], enc [] [])
def f_i_Group_has_M : Calling := addC 45 f_i_OrderOf_c (addC 34 f_i_within_c (noC))
theorem f_i_Group_has_Mt : CallOk Try.prog (f_i_Group_has_M) := addC_true f_i_OrderOf_cc (addC_true f_i_within_cc (noC_true))
theorem f_i_Group_has_o : loopsOnce Try.f38 = true := by kernel_rfl
theorem f_i_Group_has_p {R : Type} (g0 : List Sc) (x1 : Int) (kR : Bool → Option R) : f_i_Group_has_k g0 x1 kR = (f_i_Group_has_k g0 x1 some).bind kR := by
  simp only [f_i_Group_has_k, boB, someB]
theorem f_i_Group_has_e (g0 : List Sc) (x1 : Int) : runFn E0 f_i_Group_has_M H0 f_i_Group_has_F (asL (noL)) Try.f38 (f_i_Group_has_a g0 x1) (f_i_Group_has_i g0 x1) = f_i_Group_has_k g0 x1 (fun r => some (f_i_Group_has_en r)) := by kernel_rfl
theorem f_i_Group_has_ok (g0 : List Sc) (x1 : Int) (r : Bool) (h : f_i_Group_has g0 x1 = some r) : CS Try.prog 38 (f_i_Group_has_a g0 x1) (f_i_Group_has_i g0 x1) (f_i_Group_has_en r).1 (f_i_Group_has_en r).2 :=
  fn_true (Gk := fun k => f_i_Group_has_k g0 x1 k) (en := f_i_Group_has_en) Try.func38 E0ok f_i_Group_has_Mt (noL_true) f_i_Group_has_o (f_i_Group_has_e g0 x1) (f_i_Group_has_p g0 x1) h
def f_i_Group_has_c : CRow := fun args inh => match dec2 [.p .gr, .p (.int .i64)] [] args inh with
  | some ([.l g0, .i x1], []) => some ((f_i_Group_has g0 x1).isSome, (f_i_Group_has_en ((f_i_Group_has g0 x1).getD false)).1, (f_i_Group_has_en ((f_i_Group_has g0 x1).getD false)).2)
  | _ => none
theorem f_i_Group_has_cc : CTrue Try.prog 38 f_i_Group_has_c := by
  intro args inh rs out h
  unfold f_i_Group_has_c at h
  split at h
  · rename_i hd
    obtain ⟨h1, h2⟩ := dec2_enc hd
    rw [← h1, ← h2]
    exact rowC (f_i_Group_has_ok _ _) h
  · cases h

def f_i_ImageOfMap_F : Fi := { nv := 0, nc := 0, m := 0, vt := [], kl := [(0, ([0, 1, 3, 4, 5, 7, 8, 12, 13, 14, 15, 16, 17, 18, 19, 20, 21, 22, 23, 24, 25, 26], [0, 1, 3, 4, 5, 7, 8, 9, 10, 11, 12, 13, 14, 15, 16, 17, 18, 19, 20, 21, 22, 23, 24, 25, 26], [0, 1, 2, 3, 6, 7, 8, 9, 10, 11, 12, 13, 14, 15, 16, 17, 18, 19, 20, 21, 22, 23, 24, 25, 26]))], sk := [], mvs := [], fz := [] }
def f_i_ImageOfMap_a (h0 : List Sc) (m1 : List Sc) : List AV := enc [.p .gr, .p .sl] [.l h0, .l m1]
def f_i_ImageOfMap_i (h0 : List Sc) (m1 : List Sc) : List AV := enc [] []
def f_i_ImageOfMap_en (r : Int × Bool) : List AV × List AV := (enc [.p (.int .i64), .p .boo] [.i r.1, .b r.2], enc [] [])
def f_i_ImageOfMap_M : Calling := addC 38 f_i_Group_has_c (addC 31 f_i_IsGroup_c (noC))
theorem f_i_ImageOfMap_Mt : CallOk Try.prog (f_i_ImageOfMap_M) := addC_true f_i_Group_has_cc (addC_true f_i_IsGroup_cc (noC_true))
theorem f_i_ImageOfMap_o : loopsOnce Try.f23 = true := by kernel_rfl
def f_i_ImageOfMap_h0 : List Sh := [.u, .u, .p .el, .u, .u, .u, .p (.int .i64), .u, .u, .p .sl, .p (.int .i64), .p (.int .i64), .u, .u, .u, .u, .u, .u, .u, .u, .u, .u, .u, .u, .u, .u, .u]
def f_i_ImageOfMap_fr0 (h2 : List Sc) (t9 : List Sc) (t10 : Int) (s : Int × Int) : List AV := enc f_i_ImageOfMap_h0 [.l h2, .i s.1, .l t9, .i t10, .i s.2]
def f_i_ImageOfMap_g0_1 : List Sh := [.u, .u, .p .el, .u, .u, .u, .p (.int .i64), .u, .u, .u, .u, .u, .u, .u, .u, .u, .u, .u, .u, .u, .u, .u, .u, .u, .u, .u, .u]
def f_i_ImageOfMap_x0_1 (h2 : List Sc) (t9 : List Sc) (t10 : Int) (e : Int) : X × List AV := (.out 0, enc f_i_ImageOfMap_g0_1 [.l h2, .i e])
def f_i_ImageOfMap_g0_2 : List Sh := [.u, .u, .u, .u, .p (.int .i64), .p .boo, .u, .u, .u, .u, .u, .u, .u, .u, .u, .u, .u, .u, .u, .u, .u, .u, .u, .u, .u, .u, .u]
def f_i_ImageOfMap_x0_2 (h2 : List Sc) (t9 : List Sc) (t10 : Int) (e : Unit) : X × List AV := (.ret, enc f_i_ImageOfMap_g0_2 [.i 0, .b false])
theorem f_i_ImageOfMap_p0 {R : Type} (h2 : List Sc) (t9 : List Sc) (t10 : Int) (s : Int × Int) (kN : Int × Int → Option R) (kA : Int → Option R) (kB : Unit → Option R) : f_i_ImageOfMap_k0 h2 t9 t10 s.1 s.2 kN kA kB = (f_i_ImageOfMap_r0 h2 t9 t10 s).bind (Ro.el kN kA kB) := by
  simp only [f_i_ImageOfMap_k0, f_i_ImageOfMap_r0, brB, boB, someB, noneB, Ro.el]
theorem f_i_ImageOfMap_e0 (h2 : List Sc) (t9 : List Sc) (t10 : Int) (s : Int × Int) : EC E0 f_i_ImageOfMap_M H0 f_i_ImageOfMap_F (asL (noL)) 0 (bodyOf Try.f23 0) (f_i_ImageOfMap_fr0 h2 t9 t10 s) (done (klOf f_i_ImageOfMap_F 0)) = f_i_ImageOfMap_k0 h2 t9 t10 s.1 s.2 (fun s => some (.norm, f_i_ImageOfMap_fr0 h2 t9 t10 s)) (fun e => some (f_i_ImageOfMap_x0_1 h2 t9 t10 e)) (fun e => some (f_i_ImageOfMap_x0_2 h2 t9 t10 e)) := by kernel_rfl
theorem f_i_ImageOfMap_l0 (h2 : List Sc) (t9 : List Sc) (t10 : Int) : ∀ s r, loopL (f_i_ImageOfMap_r0 h2 t9 t10) s = some r → LS Try.prog f_i_ImageOfMap_F (bodyOf Try.f23 0) (f_i_ImageOfMap_fr0 h2 t9 t10 s) (enX (f_i_ImageOfMap_x0_1 h2 t9 t10) (f_i_ImageOfMap_x0_2 h2 t9 t10) r) :=
  loop_true E0ok f_i_ImageOfMap_Mt (noL_true) f_i_ImageOfMap_o (fun _ h => by cases h) (fun _ h => by cases h) (fun s => (f_i_ImageOfMap_e0 h2 t9 t10 s).trans (f_i_ImageOfMap_p0 h2 t9 t10 s _ _ (fun e => some (f_i_ImageOfMap_x0_2 h2 t9 t10 e))))
def f_i_ImageOfMap_t0 (σ : List AV) : Option (Bool × Bool × (X × List AV) × (X × List AV)) := match dec f_i_ImageOfMap_h0 σ with
  | some [.l h2, .i a6, .l t9, .i t10, .i t11] => some ((loopL (f_i_ImageOfMap_r0 h2 t9 t10) (a6, t11)).isSome, isOne (loopL (f_i_ImageOfMap_r0 h2 t9 t10) (a6, t11)), f_i_ImageOfMap_x0_1 h2 t9 t10 (getOne 0 (loopL (f_i_ImageOfMap_r0 h2 t9 t10) (a6, t11))), f_i_ImageOfMap_x0_2 h2 t9 t10 (getTwo () (loopL (f_i_ImageOfMap_r0 h2 t9 t10) (a6, t11))))
  | _ => none
theorem f_i_ImageOfMap_tt0 : TTrue Try.prog f_i_ImageOfMap_F Try.f23 0 (f_i_ImageOfMap_t0) := by
  intro σ p r r' h
  unfold f_i_ImageOfMap_t0 at h
  split at h
  · rename_i hd
    rw [← dec_enc hd]
    exact row2 (f_i_ImageOfMap_l0 _ _ _ _) h
  · cases h
theorem f_i_ImageOfMap_p {R : Type} (h0 : List Sc) (m1 : List Sc) (kR : Int × Bool → Option R) : f_i_ImageOfMap_k h0 m1 kR = (f_i_ImageOfMap_k h0 m1 some).bind kR := by
  simp only [f_i_ImageOfMap_k, boB, blB, someB]
theorem f_i_ImageOfMap_e (h0 : List Sc) (m1 : List Sc) : runFn E0 f_i_ImageOfMap_M H0 f_i_ImageOfMap_F (asL (addL 0 (f_i_ImageOfMap_t0) (noL))) Try.f23 (f_i_ImageOfMap_a h0 m1) (f_i_ImageOfMap_i h0 m1) = f_i_ImageOfMap_k h0 m1 (fun r => some (f_i_ImageOfMap_en r)) := by kernel_rfl
theorem f_i_ImageOfMap_ok (h0 : List Sc) (m1 : List Sc) (r : Int × Bool) (h : f_i_ImageOfMap h0 m1 = some r) : CS Try.prog 23 (f_i_ImageOfMap_a h0 m1) (f_i_ImageOfMap_i h0 m1) (f_i_ImageOfMap_en r).1 (f_i_ImageOfMap_en r).2 :=
  fn_true (Gk := fun k => f_i_ImageOfMap_k h0 m1 k) (en := f_i_ImageOfMap_en) Try.func23 E0ok f_i_ImageOfMap_Mt (addL_true (f_i_ImageOfMap_tt0) (noL_true)) f_i_ImageOfMap_o (f_i_ImageOfMap_e h0 m1) (f_i_ImageOfMap_p h0 m1) h
def f_i_ImageOfMap_c : CRow := fun args inh => match dec2 [.p .gr, .p .sl] [] args inh with
  | some ([.l h0, .l m1], []) => some ((f_i_ImageOfMap h0 m1).isSome, (f_i_ImageOfMap_en ((f_i_ImageOfMap h0 m1).getD (0, false))).1, (f_i_ImageOfMap_en ((f_i_ImageOfMap h0 m1).getD (0, false))).2)
  | _ => none
theorem f_i_ImageOfMap_cc : CTrue Try.prog 23 f_i_ImageOfMap_c := by
  intro args inh rs out h
  unfold f_i_ImageOfMap_c at h
  split at h
  · rename_i hd
    obtain ⟨h1, h2⟩ := dec2_enc hd
    rw [← h1, ← h2]
    exact rowC (f_i_ImageOfMap_ok _ _) h
  · cases h

def f_l_FnExactImageOfMap_F : Fi := { nv := 3, nc := 1, m := 0, vt := [(8, 0), (22, 1), (29, 2)], kl := [], sk := [], mvs := [1, 2], fz := [] }
def f_l_FnExactImageOfMap_a (aH0 : List Sc) (aM1 : List Sc) : List AV := enc [.p .gr, .p .sl] [.l aH0, .l aM1]
def f_l_FnExactImageOfMap_i (aH0 : List Sc) (aM1 : List Sc) : List AV := enc [] []
def f_l_FnExactImageOfMap_en (r : Bool) : List AV × List AV := (enc [.p .boo] [.b r], enc [] [])
def f_l_FnExactImageOfMap_M : Calling := addC 13 f_l_szGroup_c (addC 15 f_l_toGroup_c (addC 10 f_l_toIntS_c (addC 22 f_s_ImageOfMap_c (addC 23 f_i_ImageOfMap_c (addC 17 f_l_eqGroup_c (addC 12 f_l_eqIntS_c (noC)))))))
theorem f_l_FnExactImageOfMap_Mt : CallOk Try.prog (f_l_FnExactImageOfMap_M) := addC_true f_l_szGroup_cc (addC_true f_l_toGroup_cc (addC_true f_l_toIntS_cc (addC_true f_s_ImageOfMap_cc (addC_true f_i_ImageOfMap_cc (addC_true f_l_eqGroup_cc (addC_true f_l_eqIntS_cc (noC_true)))))))
theorem f_l_FnExactImageOfMap_o : loopsOnce Try.f6 = true := by kernel_rfl
theorem f_l_FnExactImageOfMap_p {R : Type} (aH0 : List Sc) (aM1 : List Sc) (kR : Bool → Option R) : f_l_FnExactImageOfMap_k aH0 aM1 kR = (f_l_FnExactImageOfMap_k aH0 aM1 some).bind kR := by
  simp only [f_l_FnExactImageOfMap_k, brB, boB, someB]
theorem f_l_FnExactImageOfMap_e (aH0 : List Sc) (aM1 : List Sc) : runFn E0 f_l_FnExactImageOfMap_M H0 f_l_FnExactImageOfMap_F (asL (noL)) Try.f6 (f_l_FnExactImageOfMap_a aH0 aM1) (f_l_FnExactImageOfMap_i aH0 aM1) = f_l_FnExactImageOfMap_k aH0 aM1 (fun r => some (f_l_FnExactImageOfMap_en r)) := by kernel_rfl
theorem f_l_FnExactImageOfMap_ok (aH0 : List Sc) (aM1 : List Sc) (r : Bool) (h : f_l_FnExactImageOfMap aH0 aM1 = some r) : CS Try.prog 6 (f_l_FnExactImageOfMap_a aH0 aM1) (f_l_FnExactImageOfMap_i aH0 aM1) (f_l_FnExactImageOfMap_en r).1 (f_l_FnExactImageOfMap_en r).2 :=
  fn_true (Gk := fun k => f_l_FnExactImageOfMap_k aH0 aM1 k) (en := f_l_FnExactImageOfMap_en) Try.func6 E0ok f_l_FnExactImageOfMap_Mt (noL_true) f_l_FnExactImageOfMap_o (f_l_FnExactImageOfMap_e aH0 aM1) (f_l_FnExactImageOfMap_p aH0 aM1) h
def f_l_FnExactImageOfMap_c : CRow := fun args inh => match dec2 [.p .gr, .p .sl] [] args inh with
  | some ([.l aH0, .l aM1], []) => some ((f_l_FnExactImageOfMap aH0 aM1).isSome, (f_l_FnExactImageOfMap_en ((f_l_FnExactImageOfMap aH0 aM1).getD false)).1, (f_l_FnExactImageOfMap_en ((f_l_FnExactImageOfMap aH0 aM1).getD false)).2)
  | _ => none
theorem f_l_FnExactImageOfMap_cc : CTrue Try.prog 6 f_l_FnExactImageOfMap_c := by
  intro args inh rs out h
  unfold f_l_FnExactImageOfMap_c at h
  split at h
  · rename_i hd
    obtain ⟨h1, h2⟩ := dec2_enc hd
    rw [← h1, ← h2]
    exact rowC (f_l_FnExactImageOfMap_ok _ _) h
  · cases h

def f_s_l11Divisor_F : Fi := { nv := 0, nc := 0, m := 0, vt := [], kl := [(0, ([2, 3, 4, 5, 6, 7, 8, 9, 10, 11, 12, 13], [1, 2, 3, 4, 5, 6, 7, 8, 9, 10, 11, 12, 13], [0, 1, 2, 3, 5, 6, 7, 8, 9, 10, 11, 12, 13]))], sk := [], mvs := [], fz := [] }
def f_s_l11Divisor_a (x0 : Int) (y1 : Int) : List AV := enc [.p (.int .i64), .p (.int .i64)] [.i x0, .i y1]
def f_s_l11Divisor_i (x0 : Int) (y1 : Int) : List AV := enc [] []
def f_s_l11Divisor_en (r : Int) : List AV × List AV := (enc [.p (.int .i64)] [.i r], enc [] [])
def f_s_l11Divisor_M : Calling := noC
theorem f_s_l11Divisor_Mt : CallOk Try.prog (f_s_l11Divisor_M) := noC_true
theorem f_s_l11Divisor_o : loopsOnce Try.f39 = true := by kernel_rfl
def f_s_l11Divisor_h0 : List Sh := [.p (.int .i64), .p (.int .i64), .u, .u, .u, .u, .u, .u, .u, .u, .u, .u, .u, .u]
def f_s_l11Divisor_fr0 (s : Int × Int) : List AV := enc f_s_l11Divisor_h0 [.i s.1, .i s.2]
def f_s_l11Divisor_g0_1 : List Sh := [.p (.int .i64), .u, .u, .u, .u, .u, .u, .u, .u, .u, .u, .u, .u, .u]
def f_s_l11Divisor_x0_1 (e : Int) : X × List AV := (.out 0, enc f_s_l11Divisor_g0_1 [.i e])
def f_s_l11Divisor_x0_2 (_e : Unit) : X × List AV := (.ret, [])
theorem f_s_l11Divisor_p0 {R : Type} (s : Int × Int) (kN : Int × Int → Option R) (kA : Int → Option R) (kB : Unit → Option R) : f_s_l11Divisor_k0 s.1 s.2 kN kA = (f_s_l11Divisor_r0 s).bind (Ro.el kN kA kB) := by
  simp only [f_s_l11Divisor_k0, f_s_l11Divisor_r0, brB, someB, noneB, Ro.el]
theorem f_s_l11Divisor_e0 (s : Int × Int) : EC E0 f_s_l11Divisor_M H0 f_s_l11Divisor_F (asL (noL)) 0 (bodyOf Try.f39 0) (f_s_l11Divisor_fr0 s) (done (klOf f_s_l11Divisor_F 0)) = f_s_l11Divisor_k0 s.1 s.2 (fun s => some (.norm, f_s_l11Divisor_fr0 s)) (fun e => some (f_s_l11Divisor_x0_1 e)) := by kernel_rfl
theorem f_s_l11Divisor_l0 : ∀ s r, loopL (f_s_l11Divisor_r0) s = some r → LS Try.prog f_s_l11Divisor_F (bodyOf Try.f39 0) (f_s_l11Divisor_fr0 s) (enX (f_s_l11Divisor_x0_1) (f_s_l11Divisor_x0_2) r) :=
  loop_true E0ok f_s_l11Divisor_Mt (noL_true) f_s_l11Divisor_o (fun _ h => by cases h) (fun _ h => by cases h) (fun s => (f_s_l11Divisor_e0 s).trans (f_s_l11Divisor_p0 s _ _ (fun e => some (f_s_l11Divisor_x0_2 e))))
def f_s_l11Divisor_t0 (σ : List AV) : Option (Bool × Bool × (X × List AV) × (X × List AV)) := match dec f_s_l11Divisor_h0 σ with
  | some [.i x0, .i y1] => some (isOne (loopL (f_s_l11Divisor_r0) (x0, y1)), true, f_s_l11Divisor_x0_1 (getOne 0 (loopL (f_s_l11Divisor_r0) (x0, y1))), (.ret, []))
  | _ => none
theorem f_s_l11Divisor_tt0 : TTrue Try.prog f_s_l11Divisor_F Try.f39 0 (f_s_l11Divisor_t0) := by
  intro σ p r r' h
  unfold f_s_l11Divisor_t0 at h
  split at h
  · rename_i hd
    rw [← dec_enc hd]
    exact row1 (f_s_l11Divisor_l0 _) h
  · cases h
theorem f_s_l11Divisor_p {R : Type} (x0 : Int) (y1 : Int) (kR : Int → Option R) : f_s_l11Divisor_k x0 y1 kR = (f_s_l11Divisor_k x0 y1 some).bind kR := by
  simp only [f_s_l11Divisor_k, bl1B, someB]
theorem f_s_l11Divisor_e (x0 : Int) (y1 : Int) : runFn E0 f_s_l11Divisor_M H0 f_s_l11Divisor_F (asL (addL 0 (f_s_l11Divisor_t0) (noL))) Try.f39 (f_s_l11Divisor_a x0 y1) (f_s_l11Divisor_i x0 y1) = f_s_l11Divisor_k x0 y1 (fun r => some (f_s_l11Divisor_en r)) := by kernel_rfl
theorem f_s_l11Divisor_ok (x0 : Int) (y1 : Int) (r : Int) (h : f_s_l11Divisor x0 y1 = some r) : CS Try.prog 39 (f_s_l11Divisor_a x0 y1) (f_s_l11Divisor_i x0 y1) (f_s_l11Divisor_en r).1 (f_s_l11Divisor_en r).2 :=
  fn_true (Gk := fun k => f_s_l11Divisor_k x0 y1 k) (en := f_s_l11Divisor_en) Try.func39 E0ok f_s_l11Divisor_Mt (addL_true (f_s_l11Divisor_tt0) (noL_true)) f_s_l11Divisor_o (f_s_l11Divisor_e x0 y1) (f_s_l11Divisor_p x0 y1) h
def f_s_l11Divisor_c : CRow := fun args inh => match dec2 [.p (.int .i64), .p (.int .i64)] [] args inh with
  | some ([.i x0, .i y1], []) => some ((f_s_l11Divisor x0 y1).isSome, (f_s_l11Divisor_en ((f_s_l11Divisor x0 y1).getD 0)).1, (f_s_l11Divisor_en ((f_s_l11Divisor x0 y1).getD 0)).2)
  | _ => none
theorem f_s_l11Divisor_cc : CTrue Try.prog 39 f_s_l11Divisor_c := by
  intro args inh rs out h
  unfold f_s_l11Divisor_c at h
  split at h
  · rename_i hd
    obtain ⟨h1, h2⟩ := dec2_enc hd
    rw [← h1, ← h2]
    exact rowC (f_s_l11Divisor_ok _ _) h
  · cases h

def f_s_DavenportBound_F : Fi := { nv := 0, nc := 0, m := 0, vt := [], kl := [(4, ([0, 1, 2, 4, 5, 6, 7, 10, 11, 12, 13, 14, 15, 16, 17, 18, 19, 20, 21, 22, 23, 24, 25, 26, 27, 28, 29, 30, 31, 32, 33, 34, 35, 36, 37, 38, 39, 40, 41, 42, 43, 44, 45, 46, 47, 48, 49, 50, 51, 52, 53, 54, 55, 56, 57, 58, 59, 60, 61, 62, 63, 64, 65, 66, 67, 68, 69, 70, 71, 72], [0, 1, 2, 3, 4, 5, 6, 7, 9, 10, 11, 12, 13, 14, 15, 16, 17, 18, 19, 20, 21, 22, 23, 24, 25, 26, 27, 28, 29, 30, 31, 32, 33, 34, 35, 36, 37, 38, 39, 40, 41, 42, 43, 44, 45, 46, 47, 48, 49, 50, 51, 52, 53, 54, 55, 56, 57, 58, 59, 60, 61, 62, 63, 64, 65, 66, 67, 68, 69, 70, 71, 72], [0, 1, 3, 4, 5, 6, 7, 8, 9, 10, 11, 12, 13, 14, 15, 16, 17, 18, 19, 20, 21, 22, 23, 24, 25, 26, 27, 28, 29, 30, 31, 32, 33, 34, 35, 36, 37, 38, 39, 40, 41, 42, 43, 44, 45, 46, 47, 48, 49, 50, 51, 52, 53, 54, 55, 56, 57, 58, 59, 60, 61, 62, 63, 64, 65, 66, 67, 68, 69, 70, 71, 72])), (2, ([0, 1, 2, 6, 7, 8, 9, 10, 11, 12, 13, 14, 15, 16, 17, 18, 19, 20, 21, 22, 23, 24, 25, 26, 27, 28, 29, 30, 31, 32, 33, 34, 35, 36, 37, 38, 39, 40, 41, 42, 43, 44, 45, 46, 47, 48, 49, 50, 51, 52, 53, 54, 55, 56, 57, 58, 59, 60, 61, 62, 63, 64, 65, 66, 67, 68, 69, 70, 71, 72], [0, 1, 2, 5, 6, 7, 8, 9, 10, 11, 12, 13, 14, 15, 16, 17, 18, 19, 20, 21, 22, 23, 24, 25, 26, 27, 28, 29, 30, 31, 32, 33, 34, 35, 36, 37, 38, 39, 40, 41, 42, 43, 44, 45, 46, 47, 48, 49, 50, 51, 52, 53, 54, 55, 56, 57, 58, 59, 60, 61, 62, 63, 64, 65, 66, 67, 68, 69, 70, 71, 72], [0, 1, 3, 4, 5, 6, 7, 8, 9, 10, 11, 12, 13, 14, 15, 16, 17, 18, 19, 20, 21, 22, 23, 24, 25, 26, 27, 28, 29, 30, 31, 32, 33, 34, 35, 36, 37, 38, 39, 40, 41, 42, 43, 44, 45, 46, 47, 48, 49, 50, 51, 52, 53, 54, 55, 56, 57, 58, 59, 60, 61, 62, 63, 64, 65, 66, 67, 68, 69, 70, 71, 72])), (0, ([0, 1, 2, 5, 6, 7, 8, 9, 10, 11, 12, 13, 14, 15, 16, 17, 18, 19, 20, 21, 22, 23, 24, 25, 26, 27, 28, 29, 30, 31, 32, 33, 34, 35, 36, 37, 38, 39, 40, 41, 42, 43, 44, 45, 46, 47, 48, 49, 50, 51, 52, 53, 54, 55, 56, 57, 58, 59, 60, 61, 62, 63, 64, 65, 66, 67, 68, 69, 70, 71, 72], [0, 1, 2, 5, 6, 7, 8, 9, 10, 11, 12, 13, 14, 15, 16, 17, 18, 19, 20, 21, 22, 23, 24, 25, 26, 27, 28, 29, 30, 31, 32, 33, 34, 35, 36, 37, 38, 39, 40, 41, 42, 43, 44, 45, 46, 47, 48, 49, 50, 51, 52, 53, 54, 55, 56, 57, 58, 59, 60, 61, 62, 63, 64, 65, 66, 67, 68, 69, 70, 71, 72], [0, 1, 3, 4, 5, 6, 7, 8, 9, 10, 11, 12, 13, 14, 15, 16, 17, 18, 19, 20, 21, 22, 23, 24, 25, 26, 27, 28, 29, 30, 31, 32, 33, 34, 35, 36, 37, 38, 39, 40, 41, 42, 43, 44, 45, 46, 47, 48, 49, 50, 51, 52, 53, 54, 55, 56, 57, 58, 59, 60, 61, 62, 63, 64, 65, 66, 67, 68, 69, 70, 71, 72]))], sk := [], mvs := [], fz := [] }
def f_s_DavenportBound_a (L0 : List Sc) : List AV := enc [.p .gr] [.l L0]
def f_s_DavenportBound_i (L0 : List Sc) : List AV := enc [] []
def f_s_DavenportBound_en (r : Int) : List AV × List AV := (enc [.p (.int .i64)] [.i r], enc [] [])
def f_s_DavenportBound_M : Calling := addC 29 f_s_IsGroup_c (addC 39 f_s_l11Divisor_c (noC))
theorem f_s_DavenportBound_Mt : CallOk Try.prog (f_s_DavenportBound_M) := addC_true f_s_IsGroup_cc (addC_true f_s_l11Divisor_cc (noC_true))
theorem f_s_DavenportBound_o : loopsOnce Try.f24 = true := by kernel_rfl
def f_s_DavenportBound_h2 : List Sh := [.u, .u, .u, .own 3, .p (.int .i64), .p (.int .i64), .u, .u, .u, .u, .u, .u, .u, .u, .u, .u, .u, .u, .u, .u, .u, .u, .u, .u, .u, .u, .u, .u, .u, .u, .u, .u, .u, .u, .u, .u, .u, .u, .u, .u, .u, .u, .u, .u, .u, .u, .u, .u, .u, .u, .u, .u, .u, .u, .u, .u, .u, .u, .u, .u, .u, .u, .u, .u, .u, .u, .u, .u, .u, .u, .u, .u, .u]
def f_s_DavenportBound_fr2 (t4 : Int) (s : List Sc × Int) : List AV := enc f_s_DavenportBound_h2 [.l s.1, .i t4, .i s.2]
def f_s_DavenportBound_g2_1 : List Sh := [.u, .u, .u, .own 3, .p (.int .i64), .u, .u, .u, .u, .u, .u, .u, .u, .u, .u, .u, .u, .u, .u, .u, .u, .u, .u, .u, .u, .u, .u, .u, .u, .u, .u, .u, .u, .u, .u, .u, .u, .u, .u, .u, .u, .u, .u, .u, .u, .u, .u, .u, .u, .u, .u, .u, .u, .u, .u, .u, .u, .u, .u, .u, .u, .u, .u, .u, .u, .u, .u, .u, .u, .u, .u, .u, .u]
def f_s_DavenportBound_x2_1 (t4 : Int) (e : List Sc) : X × List AV := (.out 2, enc f_s_DavenportBound_g2_1 [.l e, .i t4])
def f_s_DavenportBound_x2_2 (t4 : Int) (_e : Unit) : X × List AV := (.ret, [])
theorem f_s_DavenportBound_p2 {R : Type} (t4 : Int) (s : List Sc × Int) (kN : List Sc × Int → Option R) (kA : List Sc → Option R) (kB : Unit → Option R) : f_s_DavenportBound_k2 t4 s.1 s.2 kN kA = (f_s_DavenportBound_r2 t4 s).bind (Ro.el kN kA kB) := by
  simp only [f_s_DavenportBound_k2, f_s_DavenportBound_r2, brB, boB, someB, noneB, Ro.el]
theorem f_s_DavenportBound_e2 (t4 : Int) (s : List Sc × Int) : EC E0 f_s_DavenportBound_M H0 f_s_DavenportBound_F (asL (noL)) 2 (bodyOf Try.f24 2) (f_s_DavenportBound_fr2 t4 s) (done (klOf f_s_DavenportBound_F 2)) = f_s_DavenportBound_k2 t4 s.1 s.2 (fun s => some (.norm, f_s_DavenportBound_fr2 t4 s)) (fun e => some (f_s_DavenportBound_x2_1 t4 e)) := by kernel_rfl
theorem f_s_DavenportBound_l2 (t4 : Int) : ∀ s r, loopL (f_s_DavenportBound_r2 t4) s = some r → LS Try.prog f_s_DavenportBound_F (bodyOf Try.f24 2) (f_s_DavenportBound_fr2 t4 s) (enX (f_s_DavenportBound_x2_1 t4) (f_s_DavenportBound_x2_2 t4) r) :=
  loop_true E0ok f_s_DavenportBound_Mt (noL_true) f_s_DavenportBound_o (fun _ h => by cases h) (fun _ h => by cases h) (fun s => (f_s_DavenportBound_e2 t4 s).trans (f_s_DavenportBound_p2 t4 s _ _ (fun e => some (f_s_DavenportBound_x2_2 t4 e))))
def f_s_DavenportBound_t2 (σ : List AV) : Option (Bool × Bool × (X × List AV) × (X × List AV)) := match dec f_s_DavenportBound_h2 σ with
  | some [.l t3, .i t4, .i t5] => some (isOne (loopL (f_s_DavenportBound_r2 t4) (t3, t5)), true, f_s_DavenportBound_x2_1 t4 (getOne [] (loopL (f_s_DavenportBound_r2 t4) (t3, t5))), (.ret, []))
  | _ => none
theorem f_s_DavenportBound_tt2 : TTrue Try.prog f_s_DavenportBound_F Try.f24 2 (f_s_DavenportBound_t2) := by
  intro σ p r r' h
  unfold f_s_DavenportBound_t2 at h
  split at h
  · rename_i hd
    rw [← dec_enc hd]
    exact row1 (f_s_DavenportBound_l2 _ _) h
  · cases h
def f_s_DavenportBound_h0 : List Sh := [.u, .u, .u, .own 3, .p (.int .i64), .u, .u, .u, .u, .u, .u, .u, .u, .u, .u, .u, .u, .u, .u, .u, .u, .u, .u, .u, .u, .u, .u, .u, .u, .u, .u, .u, .u, .u, .u, .u, .u, .u, .u, .u, .u, .u, .u, .u, .u, .u, .u, .u, .u, .u, .u, .u, .u, .u, .u, .u, .u, .u, .u, .u, .u, .u, .u, .u, .u, .u, .u, .u, .u, .u, .u, .u, .u]
def f_s_DavenportBound_fr0 (s : List Sc × Int) : List AV := enc f_s_DavenportBound_h0 [.l s.1, .i s.2]
def f_s_DavenportBound_g0_1 : List Sh := [.u, .u, .u, .own 3, .p (.int .i64), .u, .u, .u, .u, .u, .u, .u, .u, .u, .u, .u, .u, .u, .u, .u, .u, .u, .u, .u, .u, .u, .u, .u, .u, .u, .u, .u, .u, .u, .u, .u, .u, .u, .u, .u, .u, .u, .u, .u, .u, .u, .u, .u, .u, .u, .u, .u, .u, .u, .u, .u, .u, .u, .u, .u, .u, .u, .u, .u, .u, .u, .u, .u, .u, .u, .u, .u, .u]
def f_s_DavenportBound_x0_1 (e : List Sc × Int) : X × List AV := (.out 0, enc f_s_DavenportBound_g0_1 [.l e.1, .i e.2])
def f_s_DavenportBound_x0_2 (_e : Unit) : X × List AV := (.ret, [])
theorem f_s_DavenportBound_p0 {R : Type} (s : List Sc × Int) (kN : List Sc × Int → Option R) (kA : List Sc × Int → Option R) (kB : Unit → Option R) : f_s_DavenportBound_k0 s.1 s.2 kN kA = (f_s_DavenportBound_r0 s).bind (Ro.el kN kA kB) := by
  simp only [f_s_DavenportBound_k0, f_s_DavenportBound_r0, brB, bl1B, someB, Ro.el]
theorem f_s_DavenportBound_e0 (s : List Sc × Int) : EC E0 f_s_DavenportBound_M H0 f_s_DavenportBound_F (asL (addL 2 (f_s_DavenportBound_t2) (noL))) 0 (bodyOf Try.f24 0) (f_s_DavenportBound_fr0 s) (done (klOf f_s_DavenportBound_F 0)) = f_s_DavenportBound_k0 s.1 s.2 (fun s => some (.norm, f_s_DavenportBound_fr0 s)) (fun e => some (f_s_DavenportBound_x0_1 e)) := by kernel_rfl
theorem f_s_DavenportBound_l0 : ∀ s r, loopL (f_s_DavenportBound_r0) s = some r → LS Try.prog f_s_DavenportBound_F (bodyOf Try.f24 0) (f_s_DavenportBound_fr0 s) (enX (f_s_DavenportBound_x0_1) (f_s_DavenportBound_x0_2) r) :=
  loop_true E0ok f_s_DavenportBound_Mt (addL_true (f_s_DavenportBound_tt2) (noL_true)) f_s_DavenportBound_o (fun _ h => by cases h) (fun _ h => by cases h) (fun s => (f_s_DavenportBound_e0 s).trans (f_s_DavenportBound_p0 s _ _ (fun e => some (f_s_DavenportBound_x0_2 e))))
def f_s_DavenportBound_t0 (σ : List AV) : Option (Bool × Bool × (X × List AV) × (X × List AV)) := match dec f_s_DavenportBound_h0 σ with
  | some [.l t3, .i t4] => some (isOne (loopL (f_s_DavenportBound_r0) (t3, t4)), true, f_s_DavenportBound_x0_1 (getOne ([], 0) (loopL (f_s_DavenportBound_r0) (t3, t4))), (.ret, []))
  | _ => none
theorem f_s_DavenportBound_tt0 : TTrue Try.prog f_s_DavenportBound_F Try.f24 0 (f_s_DavenportBound_t0) := by
  intro σ p r r' h
  unfold f_s_DavenportBound_t0 at h
  split at h
  · rename_i hd
    rw [← dec_enc hd]
    exact row1 (f_s_DavenportBound_l0 _) h
  · cases h
def f_s_DavenportBound_h4 : List Sh := [.u, .u, .u, .own 3, .u, .u, .u, .u, .p (.int .i64), .p (.int .i64), .u, .u, .u, .u, .u, .u, .u, .u, .u, .u, .u, .u, .u, .u, .u, .u, .u, .u, .u, .u, .u, .u, .u, .u, .u, .u, .u, .u, .u, .u, .u, .u, .u, .u, .u, .u, .u, .u, .u, .u, .u, .u, .u, .u, .u, .u, .u, .u, .u, .u, .u, .u, .u, .u, .u, .u, .u, .u, .u, .u, .u, .u, .u]
def f_s_DavenportBound_fr4 (s : List Sc × Int × Int) : List AV := enc f_s_DavenportBound_h4 [.l s.1, .i s.2.1, .i s.2.2]
def f_s_DavenportBound_g4_1 : List Sh := [.u, .u, .u, .u, .u, .u, .u, .u, .p (.int .i64), .u, .u, .u, .u, .u, .u, .u, .u, .u, .u, .u, .u, .u, .u, .u, .u, .u, .u, .u, .u, .u, .u, .u, .u, .u, .u, .u, .u, .u, .u, .u, .u, .u, .u, .u, .u, .u, .u, .u, .u, .u, .u, .u, .u, .u, .u, .u, .u, .u, .u, .u, .u, .u, .u, .u, .u, .u, .u, .u, .u, .u, .u, .u, .u]
def f_s_DavenportBound_x4_1 (e : Int) : X × List AV := (.out 4, enc f_s_DavenportBound_g4_1 [.i e])
def f_s_DavenportBound_x4_2 (_e : Unit) : X × List AV := (.ret, [])
theorem f_s_DavenportBound_p4 {R : Type} (s : List Sc × Int × Int) (kN : List Sc × Int × Int → Option R) (kA : Int → Option R) (kB : Unit → Option R) : f_s_DavenportBound_k4 s.1 s.2.1 s.2.2 kN kA = (f_s_DavenportBound_r4 s).bind (Ro.el kN kA kB) := by
  simp only [f_s_DavenportBound_k4, f_s_DavenportBound_r4, brB, someB, noneB, Ro.el]
theorem f_s_DavenportBound_e4 (s : List Sc × Int × Int) : EC E0 f_s_DavenportBound_M H0 f_s_DavenportBound_F (asL (addL 0 (f_s_DavenportBound_t0) (addL 2 (f_s_DavenportBound_t2) (noL)))) 4 (bodyOf Try.f24 4) (f_s_DavenportBound_fr4 s) (done (klOf f_s_DavenportBound_F 4)) = f_s_DavenportBound_k4 s.1 s.2.1 s.2.2 (fun s => some (.norm, f_s_DavenportBound_fr4 s)) (fun e => some (f_s_DavenportBound_x4_1 e)) := by kernel_rfl
theorem f_s_DavenportBound_l4 : ∀ s r, loopL (f_s_DavenportBound_r4) s = some r → LS Try.prog f_s_DavenportBound_F (bodyOf Try.f24 4) (f_s_DavenportBound_fr4 s) (enX (f_s_DavenportBound_x4_1) (f_s_DavenportBound_x4_2) r) :=
  loop_true E0ok f_s_DavenportBound_Mt (addL_true (f_s_DavenportBound_tt0) (addL_true (f_s_DavenportBound_tt2) (noL_true))) f_s_DavenportBound_o (fun _ h => by cases h) (fun _ h => by cases h) (fun s => (f_s_DavenportBound_e4 s).trans (f_s_DavenportBound_p4 s _ _ (fun e => some (f_s_DavenportBound_x4_2 e))))
def f_s_DavenportBound_t4 (σ : List AV) : Option (Bool × Bool × (X × List AV) × (X × List AV)) := match dec f_s_DavenportBound_h4 σ with
  | some [.l t3, .i t8, .i t9] => some (isOne (loopL (f_s_DavenportBound_r4) (t3, t8, t9)), true, f_s_DavenportBound_x4_1 (getOne 0 (loopL (f_s_DavenportBound_r4) (t3, t8, t9))), (.ret, []))
  | _ => none
theorem f_s_DavenportBound_tt4 : TTrue Try.prog f_s_DavenportBound_F Try.f24 4 (f_s_DavenportBound_t4) := by
  intro σ p r r' h
  unfold f_s_DavenportBound_t4 at h
  split at h
  · rename_i hd
    rw [← dec_enc hd]
    exact row1 (f_s_DavenportBound_l4 _) h
  · cases h
theorem f_s_DavenportBound_p {R : Type} (L0 : List Sc) (kR : Int → Option R) : f_s_DavenportBound_k L0 kR = (f_s_DavenportBound_k L0 some).bind kR := by
  simp only [f_s_DavenportBound_k, brB, boB, bl1B, someB, noneB]
theorem f_s_DavenportBound_e (L0 : List Sc) : runFn E0 f_s_DavenportBound_M H0 f_s_DavenportBound_F (asL (addL 4 (f_s_DavenportBound_t4) (addL 0 (f_s_DavenportBound_t0) (addL 2 (f_s_DavenportBound_t2) (noL))))) Try.f24 (f_s_DavenportBound_a L0) (f_s_DavenportBound_i L0) = f_s_DavenportBound_k L0 (fun r => some (f_s_DavenportBound_en r)) := by kernel_rfl
theorem f_s_DavenportBound_ok (L0 : List Sc) (r : Int) (h : f_s_DavenportBound L0 = some r) : CS Try.prog 24 (f_s_DavenportBound_a L0) (f_s_DavenportBound_i L0) (f_s_DavenportBound_en r).1 (f_s_DavenportBound_en r).2 :=
  fn_true (Gk := fun k => f_s_DavenportBound_k L0 k) (en := f_s_DavenportBound_en) Try.func24 E0ok f_s_DavenportBound_Mt (addL_true (f_s_DavenportBound_tt4) (addL_true (f_s_DavenportBound_tt0) (addL_true (f_s_DavenportBound_tt2) (noL_true)))) f_s_DavenportBound_o (f_s_DavenportBound_e L0) (f_s_DavenportBound_p L0) h
def f_s_DavenportBound_c : CRow := fun args inh => match dec2 [.p .gr] [] args inh with
  | some ([.l L0], []) => some ((f_s_DavenportBound L0).isSome, (f_s_DavenportBound_en ((f_s_DavenportBound L0).getD 0)).1, (f_s_DavenportBound_en ((f_s_DavenportBound L0).getD 0)).2)
  | _ => none
theorem f_s_DavenportBound_cc : CTrue Try.prog 24 f_s_DavenportBound_c := by
  intro args inh rs out h
  unfold f_s_DavenportBound_c at h
  split at h
  · rename_i hd
    obtain ⟨h1, h2⟩ := dec2_enc hd
    rw [← h1, ← h2]
    exact rowC (f_s_DavenportBound_ok _) h
  · cases h

def f_i_copyInts_F : Fi := { nv := 0, nc := 0, m := 0, vt := [], kl := [], sk := [], mvs := [], fz := [] }
def f_i_copyInts_a (l0 : List Sc) : List AV := enc [.p .sl] [.l l0]
def f_i_copyInts_i (l0 : List Sc) : List AV := enc [] []
def f_i_copyInts_en (r : List Sc) : List AV × List AV := (enc [.p (.al 0)] [], enc [.own 3] [.l r])
def f_i_copyInts_M : Calling := noC
theorem f_i_copyInts_Mt : CallOk Try.prog (f_i_copyInts_M) := noC_true
theorem f_i_copyInts_o : loopsOnce Try.f40 = true := by kernel_rfl
theorem f_i_copyInts_p {R : Type} (l0 : List Sc) (kR : List Sc → Option R) : f_i_copyInts_k l0 kR = (f_i_copyInts_k l0 some).bind kR := by
  simp only [f_i_copyInts_k, brB, someB, noneB]
theorem f_i_copyInts_e (l0 : List Sc) : runFn E0 f_i_copyInts_M H0 f_i_copyInts_F (asL (noL)) Try.f40 (f_i_copyInts_a l0) (f_i_copyInts_i l0) = f_i_copyInts_k l0 (fun r => some (f_i_copyInts_en r)) := by kernel_rfl
theorem f_i_copyInts_ok (l0 : List Sc) (r : List Sc) (h : f_i_copyInts l0 = some r) : CS Try.prog 40 (f_i_copyInts_a l0) (f_i_copyInts_i l0) (f_i_copyInts_en r).1 (f_i_copyInts_en r).2 :=
  fn_true (Gk := fun k => f_i_copyInts_k l0 k) (en := f_i_copyInts_en) Try.func40 E0ok f_i_copyInts_Mt (noL_true) f_i_copyInts_o (f_i_copyInts_e l0) (f_i_copyInts_p l0) h
def f_i_copyInts_c : CRow := fun args inh => match dec2 [.p .sl] [] args inh with
  | some ([.l l0], []) => some ((f_i_copyInts l0).isSome, (f_i_copyInts_en ((f_i_copyInts l0).getD [])).1, (f_i_copyInts_en ((f_i_copyInts l0).getD [])).2)
  | _ => none
theorem f_i_copyInts_cc : CTrue Try.prog 40 f_i_copyInts_c := by
  intro args inh rs out h
  unfold f_i_copyInts_c at h
  split at h
  · rename_i hd
    obtain ⟨h1, h2⟩ := dec2_enc hd
    rw [← h1, ← h2]
    exact rowC (f_i_copyInts_ok _) h
  · cases h

def f_i_gcd_F : Fi := { nv := 0, nc := 0, m := 0, vt := [], kl := [(0, ([2, 3, 4, 5, 6, 7, 8, 9, 10, 11], [1, 2, 3, 4, 5, 6, 7, 8, 9, 10, 11], [0, 1, 2, 3, 5, 6, 7, 8, 9, 10, 11]))], sk := [], mvs := [], fz := [] }
def f_i_gcd_a (a0 : Int) (b1 : Int) : List AV := enc [.p (.int .i64), .p (.int .i64)] [.i a0, .i b1]
def f_i_gcd_i (a0 : Int) (b1 : Int) : List AV := enc [] []
def f_i_gcd_en (r : Int) : List AV × List AV := (enc [.p (.int .i64)] [.i r], enc [] [])
def f_i_gcd_M : Calling := noC
theorem f_i_gcd_Mt : CallOk Try.prog (f_i_gcd_M) := noC_true
theorem f_i_gcd_o : loopsOnce Try.f41 = true := by kernel_rfl
def f_i_gcd_h0 : List Sh := [.p (.int .i64), .p (.int .i64), .u, .u, .u, .u, .u, .u, .u, .u, .u, .u]
def f_i_gcd_fr0 (s : Int × Int) : List AV := enc f_i_gcd_h0 [.i s.1, .i s.2]
def f_i_gcd_g0_1 : List Sh := [.p (.int .i64), .u, .u, .u, .u, .u, .u, .u, .u, .u, .u, .u]
def f_i_gcd_x0_1 (e : Int) : X × List AV := (.out 0, enc f_i_gcd_g0_1 [.i e])
def f_i_gcd_x0_2 (_e : Unit) : X × List AV := (.ret, [])
theorem f_i_gcd_p0 {R : Type} (s : Int × Int) (kN : Int × Int → Option R) (kA : Int → Option R) (kB : Unit → Option R) : f_i_gcd_k0 s.1 s.2 kN kA = (f_i_gcd_r0 s).bind (Ro.el kN kA kB) := by
  simp only [f_i_gcd_k0, f_i_gcd_r0, brB, someB, noneB, Ro.el]
theorem f_i_gcd_e0 (s : Int × Int) : EC E0 f_i_gcd_M H0 f_i_gcd_F (asL (noL)) 0 (bodyOf Try.f41 0) (f_i_gcd_fr0 s) (done (klOf f_i_gcd_F 0)) = f_i_gcd_k0 s.1 s.2 (fun s => some (.norm, f_i_gcd_fr0 s)) (fun e => some (f_i_gcd_x0_1 e)) := by kernel_rfl
theorem f_i_gcd_l0 : ∀ s r, loopL (f_i_gcd_r0) s = some r → LS Try.prog f_i_gcd_F (bodyOf Try.f41 0) (f_i_gcd_fr0 s) (enX (f_i_gcd_x0_1) (f_i_gcd_x0_2) r) :=
  loop_true E0ok f_i_gcd_Mt (noL_true) f_i_gcd_o (fun _ h => by cases h) (fun _ h => by cases h) (fun s => (f_i_gcd_e0 s).trans (f_i_gcd_p0 s _ _ (fun e => some (f_i_gcd_x0_2 e))))
def f_i_gcd_t0 (σ : List AV) : Option (Bool × Bool × (X × List AV) × (X × List AV)) := match dec f_i_gcd_h0 σ with
  | some [.i a0, .i b1] => some (isOne (loopL (f_i_gcd_r0) (a0, b1)), true, f_i_gcd_x0_1 (getOne 0 (loopL (f_i_gcd_r0) (a0, b1))), (.ret, []))
  | _ => none
theorem f_i_gcd_tt0 : TTrue Try.prog f_i_gcd_F Try.f41 0 (f_i_gcd_t0) := by
  intro σ p r r' h
  unfold f_i_gcd_t0 at h
  split at h
  · rename_i hd
    rw [← dec_enc hd]
    exact row1 (f_i_gcd_l0 _) h
  · cases h
theorem f_i_gcd_p {R : Type} (a0 : Int) (b1 : Int) (kR : Int → Option R) : f_i_gcd_k a0 b1 kR = (f_i_gcd_k a0 b1 some).bind kR := by
  simp only [f_i_gcd_k, bl1B, someB]
theorem f_i_gcd_e (a0 : Int) (b1 : Int) : runFn E0 f_i_gcd_M H0 f_i_gcd_F (asL (addL 0 (f_i_gcd_t0) (noL))) Try.f41 (f_i_gcd_a a0 b1) (f_i_gcd_i a0 b1) = f_i_gcd_k a0 b1 (fun r => some (f_i_gcd_en r)) := by kernel_rfl
theorem f_i_gcd_ok (a0 : Int) (b1 : Int) (r : Int) (h : f_i_gcd a0 b1 = some r) : CS Try.prog 41 (f_i_gcd_a a0 b1) (f_i_gcd_i a0 b1) (f_i_gcd_en r).1 (f_i_gcd_en r).2 :=
  fn_true (Gk := fun k => f_i_gcd_k a0 b1 k) (en := f_i_gcd_en) Try.func41 E0ok f_i_gcd_Mt (addL_true (f_i_gcd_tt0) (noL_true)) f_i_gcd_o (f_i_gcd_e a0 b1) (f_i_gcd_p a0 b1) h
def f_i_gcd_c : CRow := fun args inh => match dec2 [.p (.int .i64), .p (.int .i64)] [] args inh with
  | some ([.i a0, .i b1], []) => some ((f_i_gcd a0 b1).isSome, (f_i_gcd_en ((f_i_gcd a0 b1).getD 0)).1, (f_i_gcd_en ((f_i_gcd a0 b1).getD 0)).2)
  | _ => none
theorem f_i_gcd_cc : CTrue Try.prog 41 f_i_gcd_c := by
  intro args inh rs out h
  unfold f_i_gcd_c at h
  split at h
  · rename_i hd
    obtain ⟨h1, h2⟩ := dec2_enc hd
    rw [← h1, ← h2]
    exact rowC (f_i_gcd_ok _ _) h
  · cases h

def f_i_DavenportBound_F : Fi := { nv := 0, nc := 0, m := 0, vt := [], kl := [(4, ([0, 1, 2, 4, 5, 6, 8, 9, 10, 11, 12, 13, 14, 15, 16, 17, 18, 19, 20, 21, 22, 23, 24, 25, 26, 27, 28, 29, 30, 31, 32, 33, 34, 35, 36, 37, 38, 39, 40, 41, 42, 43, 44, 45, 46, 47, 48, 49, 50, 51, 52, 53, 54, 55, 56, 60, 61, 62, 63, 64, 65, 66, 67, 68], [0, 1, 2, 4, 5, 6, 8, 9, 10, 11, 12, 13, 14, 15, 16, 17, 18, 19, 20, 21, 22, 23, 24, 25, 26, 27, 28, 29, 30, 31, 32, 33, 34, 35, 36, 37, 38, 39, 40, 41, 42, 43, 44, 45, 46, 47, 48, 49, 50, 51, 52, 53, 54, 55, 56, 57, 58, 59, 60, 61, 62, 63, 64, 65, 66, 67, 68], [0, 1, 4, 5, 6, 7, 8, 9, 10, 11, 12, 13, 14, 15, 16, 17, 18, 19, 20, 21, 22, 23, 24, 25, 26, 27, 28, 29, 30, 31, 32, 33, 34, 35, 36, 37, 38, 39, 40, 41, 42, 43, 44, 45, 46, 47, 48, 49, 50, 51, 52, 53, 54, 55, 56, 57, 58, 59, 60, 61, 62, 63, 64, 65, 66, 67, 68])), (2, ([0, 1, 2, 6, 7, 8, 9, 10, 11, 12, 13, 14, 15, 16, 19, 20, 21, 22, 23, 24, 25, 26, 27, 28, 29, 30, 31, 32, 33, 34, 35, 36, 37, 38, 39, 40, 41, 42, 43, 44, 45, 46, 47, 48, 49, 50, 51, 52, 53, 54, 55, 56, 57, 58, 59, 60, 61, 62, 63, 64, 65, 66, 67, 68], [0, 1, 2, 4, 5, 6, 7, 8, 9, 10, 11, 12, 13, 14, 15, 16, 19, 20, 21, 22, 23, 24, 25, 26, 27, 28, 29, 30, 31, 32, 33, 34, 35, 36, 37, 38, 39, 40, 41, 42, 43, 44, 45, 46, 47, 48, 49, 50, 51, 52, 53, 54, 55, 56, 57, 58, 59, 60, 61, 62, 63, 64, 65, 66, 67, 68], [0, 1, 3, 4, 5, 6, 7, 8, 9, 10, 11, 12, 13, 14, 15, 16, 17, 18, 19, 20, 21, 22, 23, 24, 25, 26, 27, 28, 29, 30, 31, 32, 33, 34, 35, 36, 37, 38, 39, 40, 41, 42, 43, 44, 45, 46, 47, 48, 49, 50, 51, 52, 53, 54, 55, 56, 57, 58, 59, 60, 61, 62, 63, 64, 65, 66, 67, 68])), (0, ([0, 1, 2, 4, 5, 6, 7, 8, 9, 10, 11, 12, 13, 14, 15, 16, 19, 20, 21, 22, 23, 24, 25, 26, 27, 28, 29, 30, 31, 32, 33, 34, 35, 36, 37, 38, 39, 40, 41, 42, 43, 44, 45, 46, 47, 48, 49, 50, 51, 52, 53, 54, 55, 56, 57, 58, 59, 60, 61, 62, 63, 64, 65, 66, 67, 68], [0, 1, 2, 4, 5, 6, 7, 8, 9, 10, 11, 12, 13, 14, 15, 16, 19, 20, 21, 22, 23, 24, 25, 26, 27, 28, 29, 30, 31, 32, 33, 34, 35, 36, 37, 38, 39, 40, 41, 42, 43, 44, 45, 46, 47, 48, 49, 50, 51, 52, 53, 54, 55, 56, 57, 58, 59, 60, 61, 62, 63, 64, 65, 66, 67, 68], [0, 1, 3, 4, 5, 6, 7, 8, 9, 10, 11, 12, 13, 14, 15, 16, 17, 18, 19, 20, 21, 22, 23, 24, 25, 26, 27, 28, 29, 30, 31, 32, 33, 34, 35, 36, 37, 38, 39, 40, 41, 42, 43, 44, 45, 46, 47, 48, 49, 50, 51, 52, 53, 54, 55, 56, 57, 58, 59, 60, 61, 62, 63, 64, 65, 66, 67, 68]))], sk := [], mvs := [], fz := [] }
def f_i_DavenportBound_a (L0 : List Sc) : List AV := enc [.p .gr] [.l L0]
def f_i_DavenportBound_i (L0 : List Sc) : List AV := enc [] []
def f_i_DavenportBound_en (r : Int) : List AV × List AV := (enc [.p (.int .i64)] [.i r], enc [] [])
def f_i_DavenportBound_M : Calling := addC 31 f_i_IsGroup_c (addC 40 f_i_copyInts_c (addC 41 f_i_gcd_c (noC)))
theorem f_i_DavenportBound_Mt : CallOk Try.prog (f_i_DavenportBound_M) := addC_true f_i_IsGroup_cc (addC_true f_i_copyInts_cc (addC_true f_i_gcd_cc (noC_true)))
theorem f_i_DavenportBound_o : loopsOnce Try.f25 = true := by kernel_rfl
def f_i_DavenportBound_h2 : List Sh := [.u, .u, .u, .own 3, .p (.int .i64), .p (.int .i64), .u, .u, .u, .u, .u, .u, .u, .u, .u, .u, .u, .p (.int .i64), .p (.int .i64), .u, .u, .u, .u, .u, .u, .u, .u, .u, .u, .u, .u, .u, .u, .u, .u, .u, .u, .u, .u, .u, .u, .u, .u, .u, .u, .u, .u, .u, .u, .u, .u, .u, .u, .u, .u, .u, .u, .u, .u, .u, .u, .u, .u, .u, .u, .u, .u, .u, .u]
def f_i_DavenportBound_fr2 (t4 : Int) (t17 : Int) (t18 : Int) (s : List Sc × Int) : List AV := enc f_i_DavenportBound_h2 [.l s.1, .i t4, .i s.2, .i t17, .i t18]
def f_i_DavenportBound_g2_1 : List Sh := [.u, .u, .u, .own 3, .u, .u, .u, .u, .u, .u, .u, .u, .u, .u, .u, .u, .u, .p (.int .i64), .p (.int .i64), .u, .u, .u, .u, .u, .u, .u, .u, .u, .u, .u, .u, .u, .u, .u, .u, .u, .u, .u, .u, .u, .u, .u, .u, .u, .u, .u, .u, .u, .u, .u, .u, .u, .u, .u, .u, .u, .u, .u, .u, .u, .u, .u, .u, .u, .u, .u, .u, .u, .u]
def f_i_DavenportBound_x2_1 (t4 : Int) (t17 : Int) (t18 : Int) (e : List Sc) : X × List AV := (.out 2, enc f_i_DavenportBound_g2_1 [.l e, .i t17, .i t18])
def f_i_DavenportBound_x2_2 (t4 : Int) (t17 : Int) (t18 : Int) (_e : Unit) : X × List AV := (.ret, [])
theorem f_i_DavenportBound_p2 {R : Type} (t4 : Int) (t17 : Int) (t18 : Int) (s : List Sc × Int) (kN : List Sc × Int → Option R) (kA : List Sc → Option R) (kB : Unit → Option R) : f_i_DavenportBound_k2 t4 t17 t18 s.1 s.2 kN kA = (f_i_DavenportBound_r2 t4 t17 t18 s).bind (Ro.el kN kA kB) := by
  simp only [f_i_DavenportBound_k2, f_i_DavenportBound_r2, brB, boB, someB, noneB, Ro.el]
theorem f_i_DavenportBound_e2 (t4 : Int) (t17 : Int) (t18 : Int) (s : List Sc × Int) : EC E0 f_i_DavenportBound_M H0 f_i_DavenportBound_F (asL (noL)) 2 (bodyOf Try.f25 2) (f_i_DavenportBound_fr2 t4 t17 t18 s) (done (klOf f_i_DavenportBound_F 2)) = f_i_DavenportBound_k2 t4 t17 t18 s.1 s.2 (fun s => some (.norm, f_i_DavenportBound_fr2 t4 t17 t18 s)) (fun e => some (f_i_DavenportBound_x2_1 t4 t17 t18 e)) := by kernel_rfl
theorem f_i_DavenportBound_l2 (t4 : Int) (t17 : Int) (t18 : Int) : ∀ s r, loopL (f_i_DavenportBound_r2 t4 t17 t18) s = some r → LS Try.prog f_i_DavenportBound_F (bodyOf Try.f25 2) (f_i_DavenportBound_fr2 t4 t17 t18 s) (enX (f_i_DavenportBound_x2_1 t4 t17 t18) (f_i_DavenportBound_x2_2 t4 t17 t18) r) :=
  loop_true E0ok f_i_DavenportBound_Mt (noL_true) f_i_DavenportBound_o (fun _ h => by cases h) (fun _ h => by cases h) (fun s => (f_i_DavenportBound_e2 t4 t17 t18 s).trans (f_i_DavenportBound_p2 t4 t17 t18 s _ _ (fun e => some (f_i_DavenportBound_x2_2 t4 t17 t18 e))))
def f_i_DavenportBound_t2 (σ : List AV) : Option (Bool × Bool × (X × List AV) × (X × List AV)) := match dec f_i_DavenportBound_h2 σ with
  | some [.l t3, .i t4, .i t5, .i t17, .i t18] => some (isOne (loopL (f_i_DavenportBound_r2 t4 t17 t18) (t3, t5)), true, f_i_DavenportBound_x2_1 t4 t17 t18 (getOne [] (loopL (f_i_DavenportBound_r2 t4 t17 t18) (t3, t5))), (.ret, []))
  | _ => none
theorem f_i_DavenportBound_tt2 : TTrue Try.prog f_i_DavenportBound_F Try.f25 2 (f_i_DavenportBound_t2) := by
  intro σ p r r' h
  unfold f_i_DavenportBound_t2 at h
  split at h
  · rename_i hd
    rw [← dec_enc hd]
    exact row1 (f_i_DavenportBound_l2 _ _ _ _) h
  · cases h
def f_i_DavenportBound_h0 : List Sh := [.u, .u, .u, .own 3, .u, .u, .u, .u, .u, .u, .u, .u, .u, .u, .u, .u, .u, .p (.int .i64), .p (.int .i64), .u, .u, .u, .u, .u, .u, .u, .u, .u, .u, .u, .u, .u, .u, .u, .u, .u, .u, .u, .u, .u, .u, .u, .u, .u, .u, .u, .u, .u, .u, .u, .u, .u, .u, .u, .u, .u, .u, .u, .u, .u, .u, .u, .u, .u, .u, .u, .u, .u, .u]
def f_i_DavenportBound_fr0 (t17 : Int) (s : List Sc × Int) : List AV := enc f_i_DavenportBound_h0 [.l s.1, .i t17, .i s.2]
def f_i_DavenportBound_g0_1 : List Sh := [.u, .u, .u, .own 3, .u, .u, .u, .u, .u, .u, .u, .u, .u, .u, .u, .u, .u, .p (.int .i64), .p (.int .i64), .u, .u, .u, .u, .u, .u, .u, .u, .u, .u, .u, .u, .u, .u, .u, .u, .u, .u, .u, .u, .u, .u, .u, .u, .u, .u, .u, .u, .u, .u, .u, .u, .u, .u, .u, .u, .u, .u, .u, .u, .u, .u, .u, .u, .u, .u, .u, .u, .u, .u]
def f_i_DavenportBound_x0_1 (t17 : Int) (e : List Sc × Int) : X × List AV := (.out 0, enc f_i_DavenportBound_g0_1 [.l e.1, .i t17, .i e.2])
def f_i_DavenportBound_x0_2 (t17 : Int) (_e : Unit) : X × List AV := (.ret, [])
theorem f_i_DavenportBound_p0 {R : Type} (t17 : Int) (s : List Sc × Int) (kN : List Sc × Int → Option R) (kA : List Sc × Int → Option R) (kB : Unit → Option R) : f_i_DavenportBound_k0 t17 s.1 s.2 kN kA = (f_i_DavenportBound_r0 t17 s).bind (Ro.el kN kA kB) := by
  simp only [f_i_DavenportBound_k0, f_i_DavenportBound_r0, brB, bl1B, someB, Ro.el]
theorem f_i_DavenportBound_e0 (t17 : Int) (s : List Sc × Int) : EC E0 f_i_DavenportBound_M H0 f_i_DavenportBound_F (asL (addL 2 (f_i_DavenportBound_t2) (noL))) 0 (bodyOf Try.f25 0) (f_i_DavenportBound_fr0 t17 s) (done (klOf f_i_DavenportBound_F 0)) = f_i_DavenportBound_k0 t17 s.1 s.2 (fun s => some (.norm, f_i_DavenportBound_fr0 t17 s)) (fun e => some (f_i_DavenportBound_x0_1 t17 e)) := by kernel_rfl
theorem f_i_DavenportBound_l0 (t17 : Int) : ∀ s r, loopL (f_i_DavenportBound_r0 t17) s = some r → LS Try.prog f_i_DavenportBound_F (bodyOf Try.f25 0) (f_i_DavenportBound_fr0 t17 s) (enX (f_i_DavenportBound_x0_1 t17) (f_i_DavenportBound_x0_2 t17) r) :=
  loop_true E0ok f_i_DavenportBound_Mt (addL_true (f_i_DavenportBound_tt2) (noL_true)) f_i_DavenportBound_o (fun _ h => by cases h) (fun _ h => by cases h) (fun s => (f_i_DavenportBound_e0 t17 s).trans (f_i_DavenportBound_p0 t17 s _ _ (fun e => some (f_i_DavenportBound_x0_2 t17 e))))
def f_i_DavenportBound_t0 (σ : List AV) : Option (Bool × Bool × (X × List AV) × (X × List AV)) := match dec f_i_DavenportBound_h0 σ with
  | some [.l t3, .i t17, .i t18] => some (isOne (loopL (f_i_DavenportBound_r0 t17) (t3, t18)), true, f_i_DavenportBound_x0_1 t17 (getOne ([], 0) (loopL (f_i_DavenportBound_r0 t17) (t3, t18))), (.ret, []))
  | _ => none
theorem f_i_DavenportBound_tt0 : TTrue Try.prog f_i_DavenportBound_F Try.f25 0 (f_i_DavenportBound_t0) := by
  intro σ p r r' h
  unfold f_i_DavenportBound_t0 at h
  split at h
  · rename_i hd
    rw [← dec_enc hd]
    exact row1 (f_i_DavenportBound_l0 _ _) h
  · cases h
def f_i_DavenportBound_h4 : List Sh := [.u, .u, .u, .own 3, .u, .u, .u, .p (.int .i64), .u, .u, .u, .u, .u, .u, .u, .u, .u, .u, .u, .u, .u, .u, .u, .u, .u, .u, .u, .u, .u, .u, .u, .u, .u, .u, .u, .u, .u, .u, .u, .u, .u, .u, .u, .u, .u, .u, .u, .u, .u, .u, .u, .u, .u, .u, .u, .u, .u, .p (.al 3), .p (.int .i64), .p (.int .i64), .u, .u, .u, .u, .u, .u, .u, .u, .u]
def f_i_DavenportBound_fr4 (t58 : Int) (s : List Sc × Int × Int) : List AV := enc f_i_DavenportBound_h4 [.l s.1, .i s.2.1, .i t58, .i s.2.2]
def f_i_DavenportBound_g4_1 : List Sh := [.u, .u, .u, .own 3, .u, .u, .u, .p (.int .i64), .u, .u, .u, .u, .u, .u, .u, .u, .u, .u, .u, .u, .u, .u, .u, .u, .u, .u, .u, .u, .u, .u, .u, .u, .u, .u, .u, .u, .u, .u, .u, .u, .u, .u, .u, .u, .u, .u, .u, .u, .u, .u, .u, .u, .u, .u, .u, .u, .u, .u, .u, .u, .u, .u, .u, .u, .u, .u, .u, .u, .u]
def f_i_DavenportBound_x4_1 (t58 : Int) (e : List Sc × Int) : X × List AV := (.out 4, enc f_i_DavenportBound_g4_1 [.l e.1, .i e.2])
def f_i_DavenportBound_x4_2 (t58 : Int) (_e : Unit) : X × List AV := (.ret, [])
theorem f_i_DavenportBound_p4 {R : Type} (t58 : Int) (s : List Sc × Int × Int) (kN : List Sc × Int × Int → Option R) (kA : List Sc × Int → Option R) (kB : Unit → Option R) : f_i_DavenportBound_k4 t58 s.1 s.2.1 s.2.2 kN kA = (f_i_DavenportBound_r4 t58 s).bind (Ro.el kN kA kB) := by
  simp only [f_i_DavenportBound_k4, f_i_DavenportBound_r4, brB, someB, noneB, Ro.el]
theorem f_i_DavenportBound_e4 (t58 : Int) (s : List Sc × Int × Int) : EC E0 f_i_DavenportBound_M H0 f_i_DavenportBound_F (asL (addL 0 (f_i_DavenportBound_t0) (addL 2 (f_i_DavenportBound_t2) (noL)))) 4 (bodyOf Try.f25 4) (f_i_DavenportBound_fr4 t58 s) (done (klOf f_i_DavenportBound_F 4)) = f_i_DavenportBound_k4 t58 s.1 s.2.1 s.2.2 (fun s => some (.norm, f_i_DavenportBound_fr4 t58 s)) (fun e => some (f_i_DavenportBound_x4_1 t58 e)) := by kernel_rfl
theorem f_i_DavenportBound_l4 (t58 : Int) : ∀ s r, loopL (f_i_DavenportBound_r4 t58) s = some r → LS Try.prog f_i_DavenportBound_F (bodyOf Try.f25 4) (f_i_DavenportBound_fr4 t58 s) (enX (f_i_DavenportBound_x4_1 t58) (f_i_DavenportBound_x4_2 t58) r) :=
  loop_true E0ok f_i_DavenportBound_Mt (addL_true (f_i_DavenportBound_tt0) (addL_true (f_i_DavenportBound_tt2) (noL_true))) f_i_DavenportBound_o (fun _ h => by cases h) (fun _ h => by cases h) (fun s => (f_i_DavenportBound_e4 t58 s).trans (f_i_DavenportBound_p4 t58 s _ _ (fun e => some (f_i_DavenportBound_x4_2 t58 e))))
def f_i_DavenportBound_t4 (σ : List AV) : Option (Bool × Bool × (X × List AV) × (X × List AV)) := match dec f_i_DavenportBound_h4 σ with
  | some [.l t3, .i t7, .i t58, .i t59] => some (isOne (loopL (f_i_DavenportBound_r4 t58) (t3, t7, t59)), true, f_i_DavenportBound_x4_1 t58 (getOne ([], 0) (loopL (f_i_DavenportBound_r4 t58) (t3, t7, t59))), (.ret, []))
  | _ => none
theorem f_i_DavenportBound_tt4 : TTrue Try.prog f_i_DavenportBound_F Try.f25 4 (f_i_DavenportBound_t4) := by
  intro σ p r r' h
  unfold f_i_DavenportBound_t4 at h
  split at h
  · rename_i hd
    rw [← dec_enc hd]
    exact row1 (f_i_DavenportBound_l4 _ _) h
  · cases h
theorem f_i_DavenportBound_p {R : Type} (L0 : List Sc) (kR : Int → Option R) : f_i_DavenportBound_k L0 kR = (f_i_DavenportBound_k L0 some).bind kR := by
  simp only [f_i_DavenportBound_k, brB, boB, bl1B, someB]
theorem f_i_DavenportBound_e (L0 : List Sc) : runFn E0 f_i_DavenportBound_M H0 f_i_DavenportBound_F (asL (addL 4 (f_i_DavenportBound_t4) (addL 0 (f_i_DavenportBound_t0) (addL 2 (f_i_DavenportBound_t2) (noL))))) Try.f25 (f_i_DavenportBound_a L0) (f_i_DavenportBound_i L0) = f_i_DavenportBound_k L0 (fun r => some (f_i_DavenportBound_en r)) := by kernel_rfl
theorem f_i_DavenportBound_ok (L0 : List Sc) (r : Int) (h : f_i_DavenportBound L0 = some r) : CS Try.prog 25 (f_i_DavenportBound_a L0) (f_i_DavenportBound_i L0) (f_i_DavenportBound_en r).1 (f_i_DavenportBound_en r).2 :=
  fn_true (Gk := fun k => f_i_DavenportBound_k L0 k) (en := f_i_DavenportBound_en) Try.func25 E0ok f_i_DavenportBound_Mt (addL_true (f_i_DavenportBound_tt4) (addL_true (f_i_DavenportBound_tt0) (addL_true (f_i_DavenportBound_tt2) (noL_true)))) f_i_DavenportBound_o (f_i_DavenportBound_e L0) (f_i_DavenportBound_p L0) h
def f_i_DavenportBound_c : CRow := fun args inh => match dec2 [.p .gr] [] args inh with
  | some ([.l L0], []) => some ((f_i_DavenportBound L0).isSome, (f_i_DavenportBound_en ((f_i_DavenportBound L0).getD 0)).1, (f_i_DavenportBound_en ((f_i_DavenportBound L0).getD 0)).2)
  | _ => none
theorem f_i_DavenportBound_cc : CTrue Try.prog 25 f_i_DavenportBound_c := by
  intro args inh rs out h
  unfold f_i_DavenportBound_c at h
  split at h
  · rename_i hd
    obtain ⟨h1, h2⟩ := dec2_enc hd
    rw [← h1, ← h2]
    exact rowC (f_i_DavenportBound_ok _) h
  · cases h

def f_l_FnExactDavenportBound_F : Fi := { nv := 3, nc := 1, m := 0, vt := [(5, 0), (13, 1), (16, 2)], kl := [], sk := [], mvs := [1, 2], fz := [] }
def f_l_FnExactDavenportBound_a (aG0 : List Sc) : List AV := enc [.p .gr] [.l aG0]
def f_l_FnExactDavenportBound_i (aG0 : List Sc) : List AV := enc [] []
def f_l_FnExactDavenportBound_en (r : Bool) : List AV × List AV := (enc [.p .boo] [.b r], enc [] [])
def f_l_FnExactDavenportBound_M : Calling := addC 13 f_l_szGroup_c (addC 15 f_l_toGroup_c (addC 24 f_s_DavenportBound_c (addC 25 f_i_DavenportBound_c (addC 17 f_l_eqGroup_c (noC)))))
theorem f_l_FnExactDavenportBound_Mt : CallOk Try.prog (f_l_FnExactDavenportBound_M) := addC_true f_l_szGroup_cc (addC_true f_l_toGroup_cc (addC_true f_s_DavenportBound_cc (addC_true f_i_DavenportBound_cc (addC_true f_l_eqGroup_cc (noC_true)))))
theorem f_l_FnExactDavenportBound_o : loopsOnce Try.f7 = true := by kernel_rfl
theorem f_l_FnExactDavenportBound_p {R : Type} (aG0 : List Sc) (kR : Bool → Option R) : f_l_FnExactDavenportBound_k aG0 kR = (f_l_FnExactDavenportBound_k aG0 some).bind kR := by
  simp only [f_l_FnExactDavenportBound_k, brB, boB, someB]
theorem f_l_FnExactDavenportBound_e (aG0 : List Sc) : runFn E0 f_l_FnExactDavenportBound_M H0 f_l_FnExactDavenportBound_F (asL (noL)) Try.f7 (f_l_FnExactDavenportBound_a aG0) (f_l_FnExactDavenportBound_i aG0) = f_l_FnExactDavenportBound_k aG0 (fun r => some (f_l_FnExactDavenportBound_en r)) := by kernel_rfl
theorem f_l_FnExactDavenportBound_ok (aG0 : List Sc) (r : Bool) (h : f_l_FnExactDavenportBound aG0 = some r) : CS Try.prog 7 (f_l_FnExactDavenportBound_a aG0) (f_l_FnExactDavenportBound_i aG0) (f_l_FnExactDavenportBound_en r).1 (f_l_FnExactDavenportBound_en r).2 :=
  fn_true (Gk := fun k => f_l_FnExactDavenportBound_k aG0 k) (en := f_l_FnExactDavenportBound_en) Try.func7 E0ok f_l_FnExactDavenportBound_Mt (noL_true) f_l_FnExactDavenportBound_o (f_l_FnExactDavenportBound_e aG0) (f_l_FnExactDavenportBound_p aG0) h
def f_l_FnExactDavenportBound_c : CRow := fun args inh => match dec2 [.p .gr] [] args inh with
  | some ([.l aG0], []) => some ((f_l_FnExactDavenportBound aG0).isSome, (f_l_FnExactDavenportBound_en ((f_l_FnExactDavenportBound aG0).getD false)).1, (f_l_FnExactDavenportBound_en ((f_l_FnExactDavenportBound aG0).getD false)).2)
  | _ => none
theorem f_l_FnExactDavenportBound_cc : CTrue Try.prog 7 f_l_FnExactDavenportBound_c := by
  intro args inh rs out h
  unfold f_l_FnExactDavenportBound_c at h
  split at h
  · rename_i hd
    obtain ⟨h1, h2⟩ := dec2_enc hd
    rw [← h1, ← h2]
    exact rowC (f_l_FnExactDavenportBound_ok _) h
  · cases h

def f_s_IsSequence_F : Fi := { nv := 0, nc := 0, m := 0, vt := [], kl := [(0, ([0, 3, 4, 6, 7, 8, 9, 10, 11, 12, 13, 14, 15, 16, 17, 18, 19, 20, 21, 22, 23, 24, 25, 26, 27, 28, 29, 30, 31, 32, 33, 34, 35, 36, 37, 38, 39, 40, 41], [0, 3, 4, 5, 6, 7, 8, 9, 10, 11, 12, 13, 14, 15, 16, 17, 18, 19, 20, 21, 22, 23, 24, 25, 26, 27, 28, 29, 30, 31, 32, 33, 34, 35, 36, 37, 38, 39, 40, 41], [0, 1, 2, 3, 5, 6, 7, 8, 9, 10, 11, 12, 13, 14, 15, 16, 17, 18, 19, 20, 21, 22, 23, 24, 25, 26, 27, 28, 29, 30, 31, 32, 33, 34, 35, 36, 37, 38, 39, 40, 41]))], sk := [], mvs := [], fz := [] }
def f_s_IsSequence_a (g0 : List Sc) (l1 : List Sc) : List AV := enc [.p .gr, .p .sl] [.l g0, .l l1]
def f_s_IsSequence_i (g0 : List Sc) (l1 : List Sc) : List AV := enc [] []
def f_s_IsSequence_en (r : Bool) : List AV × List AV := (enc [.p .boo] [.b r], enc [] [])
def f_s_IsSequence_M : Calling := addC 37 f_s_l2Is_c (addC 29 f_s_IsGroup_c (noC))
theorem f_s_IsSequence_Mt : CallOk Try.prog (f_s_IsSequence_M) := addC_true f_s_l2Is_cc (addC_true f_s_IsGroup_cc (noC_true))
theorem f_s_IsSequence_o : loopsOnce Try.f26 = true := by kernel_rfl
def f_s_IsSequence_h0 : List Sh := [.u, .p .sl, .p .el, .u, .u, .p (.int .i64), .u, .u, .u, .u, .u, .u, .u, .u, .u, .u, .u, .u, .u, .u, .u, .u, .u, .u, .u, .u, .u, .u, .u, .u, .u, .u, .u, .u, .u, .u, .u, .u, .u, .u, .u, .u]
def f_s_IsSequence_fr0 (l1 : List Sc) (g2 : List Sc) (s : Int) : List AV := enc f_s_IsSequence_h0 [.l l1, .l g2, .i s]
def f_s_IsSequence_g0_1 : List Sh := [.u, .p .sl, .p .el, .u, .u, .u, .u, .u, .u, .u, .u, .u, .u, .u, .u, .u, .u, .u, .u, .u, .u, .u, .u, .u, .u, .u, .u, .u, .u, .u, .u, .u, .u, .u, .u, .u, .u, .u, .u, .u, .u, .u]
def f_s_IsSequence_x0_1 (l1 : List Sc) (g2 : List Sc) (e : Unit) : X × List AV := (.out 0, enc f_s_IsSequence_g0_1 [.l l1, .l g2])
def f_s_IsSequence_g0_2 : List Sh := [.u, .u, .u, .u, .p .boo, .u, .u, .u, .u, .u, .u, .u, .u, .u, .u, .u, .u, .u, .u, .u, .u, .u, .u, .u, .u, .u, .u, .u, .u, .u, .u, .u, .u, .u, .u, .u, .u, .u, .u, .u, .u, .u]
def f_s_IsSequence_x0_2 (l1 : List Sc) (g2 : List Sc) (e : Unit) : X × List AV := (.ret, enc f_s_IsSequence_g0_2 [.b false])
theorem f_s_IsSequence_p0 {R : Type} (l1 : List Sc) (g2 : List Sc) (s : Int) (kN : Int → Option R) (kA : Unit → Option R) (kB : Unit → Option R) : f_s_IsSequence_k0 l1 g2 s kN kA kB = (f_s_IsSequence_r0 l1 g2 s).bind (Ro.el kN kA kB) := by
  simp only [f_s_IsSequence_k0, f_s_IsSequence_r0, brB, boB, someB, noneB, Ro.el]
theorem f_s_IsSequence_e0 (l1 : List Sc) (g2 : List Sc) (s : Int) : EC E0 f_s_IsSequence_M H0 f_s_IsSequence_F (asL (noL)) 0 (bodyOf Try.f26 0) (f_s_IsSequence_fr0 l1 g2 s) (done (klOf f_s_IsSequence_F 0)) = f_s_IsSequence_k0 l1 g2 s (fun s => some (.norm, f_s_IsSequence_fr0 l1 g2 s)) (fun e => some (f_s_IsSequence_x0_1 l1 g2 e)) (fun e => some (f_s_IsSequence_x0_2 l1 g2 e)) := by kernel_rfl
theorem f_s_IsSequence_l0 (l1 : List Sc) (g2 : List Sc) : ∀ s r, loopL (f_s_IsSequence_r0 l1 g2) s = some r → LS Try.prog f_s_IsSequence_F (bodyOf Try.f26 0) (f_s_IsSequence_fr0 l1 g2 s) (enX (f_s_IsSequence_x0_1 l1 g2) (f_s_IsSequence_x0_2 l1 g2) r) :=
  loop_true E0ok f_s_IsSequence_Mt (noL_true) f_s_IsSequence_o (fun _ h => by cases h) (fun _ h => by cases h) (fun s => (f_s_IsSequence_e0 l1 g2 s).trans (f_s_IsSequence_p0 l1 g2 s _ _ (fun e => some (f_s_IsSequence_x0_2 l1 g2 e))))
def f_s_IsSequence_t0 (σ : List AV) : Option (Bool × Bool × (X × List AV) × (X × List AV)) := match dec f_s_IsSequence_h0 σ with
  | some [.l l1, .l g2, .i i5] => some ((loopL (f_s_IsSequence_r0 l1 g2) i5).isSome, isOne (loopL (f_s_IsSequence_r0 l1 g2) i5), f_s_IsSequence_x0_1 l1 g2 (getOne () (loopL (f_s_IsSequence_r0 l1 g2) i5)), f_s_IsSequence_x0_2 l1 g2 (getTwo () (loopL (f_s_IsSequence_r0 l1 g2) i5)))
  | _ => none
theorem f_s_IsSequence_tt0 : TTrue Try.prog f_s_IsSequence_F Try.f26 0 (f_s_IsSequence_t0) := by
  intro σ p r r' h
  unfold f_s_IsSequence_t0 at h
  split at h
  · rename_i hd
    rw [← dec_enc hd]
    exact row2 (f_s_IsSequence_l0 _ _ _) h
  · cases h
theorem f_s_IsSequence_p {R : Type} (g0 : List Sc) (l1 : List Sc) (kR : Bool → Option R) : f_s_IsSequence_k g0 l1 kR = (f_s_IsSequence_k g0 l1 some).bind kR := by
  simp only [f_s_IsSequence_k, brB, boB, blB, someB]
theorem f_s_IsSequence_e (g0 : List Sc) (l1 : List Sc) : runFn E0 f_s_IsSequence_M H0 f_s_IsSequence_F (asL (addL 0 (f_s_IsSequence_t0) (noL))) Try.f26 (f_s_IsSequence_a g0 l1) (f_s_IsSequence_i g0 l1) = f_s_IsSequence_k g0 l1 (fun r => some (f_s_IsSequence_en r)) := by kernel_rfl
theorem f_s_IsSequence_ok (g0 : List Sc) (l1 : List Sc) (r : Bool) (h : f_s_IsSequence g0 l1 = some r) : CS Try.prog 26 (f_s_IsSequence_a g0 l1) (f_s_IsSequence_i g0 l1) (f_s_IsSequence_en r).1 (f_s_IsSequence_en r).2 :=
  fn_true (Gk := fun k => f_s_IsSequence_k g0 l1 k) (en := f_s_IsSequence_en) Try.func26 E0ok f_s_IsSequence_Mt (addL_true (f_s_IsSequence_tt0) (noL_true)) f_s_IsSequence_o (f_s_IsSequence_e g0 l1) (f_s_IsSequence_p g0 l1) h
def f_s_IsSequence_c : CRow := fun args inh => match dec2 [.p .gr, .p .sl] [] args inh with
  | some ([.l g0, .l l1], []) => some ((f_s_IsSequence g0 l1).isSome, (f_s_IsSequence_en ((f_s_IsSequence g0 l1).getD false)).1, (f_s_IsSequence_en ((f_s_IsSequence g0 l1).getD false)).2)
  | _ => none
theorem f_s_IsSequence_cc : CTrue Try.prog 26 f_s_IsSequence_c := by
  intro args inh rs out h
  unfold f_s_IsSequence_c at h
  split at h
  · rename_i hd
    obtain ⟨h1, h2⟩ := dec2_enc hd
    rw [← h1, ← h2]
    exact rowC (f_s_IsSequence_ok _ _) h
  · cases h

def f_cmp_isNaN_F : Fi := { nv := 0, nc := 0, m := 0, vt := [], kl := [], sk := [], mvs := [], fz := [] }
def f_cmp_isNaN_a (x0 : Int) : List AV := enc [.p (.int .i64)] [.i x0]
def f_cmp_isNaN_i (x0 : Int) : List AV := enc [] []
def f_cmp_isNaN_en (r : Bool) : List AV × List AV := (enc [.p .boo] [.b r], enc [] [])
def f_cmp_isNaN_M : Calling := noC
theorem f_cmp_isNaN_Mt : CallOk Try.prog (f_cmp_isNaN_M) := noC_true
theorem f_cmp_isNaN_o : loopsOnce Try.f47 = true := by kernel_rfl
theorem f_cmp_isNaN_p {R : Type} (x0 : Int) (kR : Bool → Option R) : f_cmp_isNaN_k x0 kR = (f_cmp_isNaN_k x0 some).bind kR := by
  simp only [f_cmp_isNaN_k, someB]
theorem f_cmp_isNaN_e (x0 : Int) : runFn E0 f_cmp_isNaN_M H0 f_cmp_isNaN_F (asL (noL)) Try.f47 (f_cmp_isNaN_a x0) (f_cmp_isNaN_i x0) = f_cmp_isNaN_k x0 (fun r => some (f_cmp_isNaN_en r)) := by kernel_rfl
theorem f_cmp_isNaN_ok (x0 : Int) (r : Bool) (h : f_cmp_isNaN x0 = some r) : CS Try.prog 47 (f_cmp_isNaN_a x0) (f_cmp_isNaN_i x0) (f_cmp_isNaN_en r).1 (f_cmp_isNaN_en r).2 :=
  fn_true (Gk := fun k => f_cmp_isNaN_k x0 k) (en := f_cmp_isNaN_en) Try.func47 E0ok f_cmp_isNaN_Mt (noL_true) f_cmp_isNaN_o (f_cmp_isNaN_e x0) (f_cmp_isNaN_p x0) h
def f_cmp_isNaN_c : CRow := fun args inh => match dec2 [.p (.int .i64)] [] args inh with
  | some ([.i x0], []) => some ((f_cmp_isNaN x0).isSome, (f_cmp_isNaN_en ((f_cmp_isNaN x0).getD false)).1, (f_cmp_isNaN_en ((f_cmp_isNaN x0).getD false)).2)
  | _ => none
theorem f_cmp_isNaN_cc : CTrue Try.prog 47 f_cmp_isNaN_c := by
  intro args inh rs out h
  unfold f_cmp_isNaN_c at h
  split at h
  · rename_i hd
    obtain ⟨h1, h2⟩ := dec2_enc hd
    rw [← h1, ← h2]
    exact rowC (f_cmp_isNaN_ok _) h
  · cases h

def f_cmp_Less_F : Fi := { nv := 0, nc := 0, m := 0, vt := [], kl := [], sk := [], mvs := [], fz := [] }
def f_cmp_Less_a (x0 : Int) (y1 : Int) : List AV := enc [.p (.int .i64), .p (.int .i64)] [.i x0, .i y1]
def f_cmp_Less_i (x0 : Int) (y1 : Int) : List AV := enc [] []
def f_cmp_Less_en (r : Bool) : List AV × List AV := (enc [.p .boo] [.b r], enc [] [])
def f_cmp_Less_M : Calling := addC 47 f_cmp_isNaN_c (noC)
theorem f_cmp_Less_Mt : CallOk Try.prog (f_cmp_Less_M) := addC_true f_cmp_isNaN_cc (noC_true)
theorem f_cmp_Less_o : loopsOnce Try.f46 = true := by kernel_rfl
theorem f_cmp_Less_p {R : Type} (x0 : Int) (y1 : Int) (kR : Bool → Option R) : f_cmp_Less_k x0 y1 kR = (f_cmp_Less_k x0 y1 some).bind kR := by
  simp only [f_cmp_Less_k, brB, boB, someB]
theorem f_cmp_Less_e (x0 : Int) (y1 : Int) : runFn E0 f_cmp_Less_M H0 f_cmp_Less_F (asL (noL)) Try.f46 (f_cmp_Less_a x0 y1) (f_cmp_Less_i x0 y1) = f_cmp_Less_k x0 y1 (fun r => some (f_cmp_Less_en r)) := by kernel_rfl
theorem f_cmp_Less_ok (x0 : Int) (y1 : Int) (r : Bool) (h : f_cmp_Less x0 y1 = some r) : CS Try.prog 46 (f_cmp_Less_a x0 y1) (f_cmp_Less_i x0 y1) (f_cmp_Less_en r).1 (f_cmp_Less_en r).2 :=
  fn_true (Gk := fun k => f_cmp_Less_k x0 y1 k) (en := f_cmp_Less_en) Try.func46 E0ok f_cmp_Less_Mt (noL_true) f_cmp_Less_o (f_cmp_Less_e x0 y1) (f_cmp_Less_p x0 y1) h
def f_cmp_Less_c : CRow := fun args inh => match dec2 [.p (.int .i64), .p (.int .i64)] [] args inh with
  | some ([.i x0, .i y1], []) => some ((f_cmp_Less x0 y1).isSome, (f_cmp_Less_en ((f_cmp_Less x0 y1).getD false)).1, (f_cmp_Less_en ((f_cmp_Less x0 y1).getD false)).2)
  | _ => none
theorem f_cmp_Less_cc : CTrue Try.prog 46 f_cmp_Less_c := by
  intro args inh rs out h
  unfold f_cmp_Less_c at h
  split at h
  · rename_i hd
    obtain ⟨h1, h2⟩ := dec2_enc hd
    rw [← h1, ← h2]
    exact rowC (f_cmp_Less_ok _ _) h
  · cases h

def f_slices_IsSorted_F : Fi := { nv := 0, nc := 0, m := 0, vt := [], kl := [(0, ([1, 2, 4, 5, 6, 7, 8, 9, 10, 11, 12, 13, 14, 15, 16, 17, 18, 19, 20], [0, 1, 2, 3, 4, 5, 6, 7, 8, 9, 10, 11, 12, 13, 14, 15, 16, 17, 18, 19, 20], [0, 1, 3, 4, 5, 6, 7, 8, 9, 10, 11, 12, 13, 14, 15, 16, 17, 18, 19, 20]))], sk := [], mvs := [], fz := [] }
def f_slices_IsSorted_a (x0 : List Sc) : List AV := enc [.p .sl] [.l x0]
def f_slices_IsSorted_i (x0 : List Sc) : List AV := enc [] []
def f_slices_IsSorted_en (r : Bool) : List AV × List AV := (enc [.p .boo] [.b r], enc [] [])
def f_slices_IsSorted_M : Calling := addC 46 f_cmp_Less_c (noC)
theorem f_slices_IsSorted_Mt : CallOk Try.prog (f_slices_IsSorted_M) := addC_true f_cmp_Less_cc (noC_true)
theorem f_slices_IsSorted_o : loopsOnce Try.f42 = true := by kernel_rfl
def f_slices_IsSorted_h0 : List Sh := [.p .sl, .u, .u, .p (.int .i64), .u, .u, .u, .u, .u, .u, .u, .u, .u, .u, .u, .u, .u, .u, .u, .u, .u]
def f_slices_IsSorted_fr0 (x0 : List Sc) (s : Int) : List AV := enc f_slices_IsSorted_h0 [.l x0, .i s]
def f_slices_IsSorted_g0_1 : List Sh := [.u, .u, .u, .u, .u, .u, .u, .u, .u, .u, .u, .u, .u, .u, .u, .u, .u, .u, .u, .u, .u]
def f_slices_IsSorted_x0_1 (x0 : List Sc) (e : Unit) : X × List AV := (.out 0, enc f_slices_IsSorted_g0_1 [])
def f_slices_IsSorted_g0_2 : List Sh := [.u, .u, .p .boo, .u, .u, .u, .u, .u, .u, .u, .u, .u, .u, .u, .u, .u, .u, .u, .u, .u, .u]
def f_slices_IsSorted_x0_2 (x0 : List Sc) (e : Unit) : X × List AV := (.ret, enc f_slices_IsSorted_g0_2 [.b false])
theorem f_slices_IsSorted_p0 {R : Type} (x0 : List Sc) (s : Int) (kN : Int → Option R) (kA : Unit → Option R) (kB : Unit → Option R) : f_slices_IsSorted_k0 x0 s kN kA kB = (f_slices_IsSorted_r0 x0 s).bind (Ro.el kN kA kB) := by
  simp only [f_slices_IsSorted_k0, f_slices_IsSorted_r0, brB, boB, someB, noneB, Ro.el]
theorem f_slices_IsSorted_e0 (x0 : List Sc) (s : Int) : EC E0 f_slices_IsSorted_M H0 f_slices_IsSorted_F (asL (noL)) 0 (bodyOf Try.f42 0) (f_slices_IsSorted_fr0 x0 s) (done (klOf f_slices_IsSorted_F 0)) = f_slices_IsSorted_k0 x0 s (fun s => some (.norm, f_slices_IsSorted_fr0 x0 s)) (fun e => some (f_slices_IsSorted_x0_1 x0 e)) (fun e => some (f_slices_IsSorted_x0_2 x0 e)) := by kernel_rfl
theorem f_slices_IsSorted_l0 (x0 : List Sc) : ∀ s r, loopL (f_slices_IsSorted_r0 x0) s = some r → LS Try.prog f_slices_IsSorted_F (bodyOf Try.f42 0) (f_slices_IsSorted_fr0 x0 s) (enX (f_slices_IsSorted_x0_1 x0) (f_slices_IsSorted_x0_2 x0) r) :=
  loop_true E0ok f_slices_IsSorted_Mt (noL_true) f_slices_IsSorted_o (fun _ h => by cases h) (fun _ h => by cases h) (fun s => (f_slices_IsSorted_e0 x0 s).trans (f_slices_IsSorted_p0 x0 s _ _ (fun e => some (f_slices_IsSorted_x0_2 x0 e))))
def f_slices_IsSorted_t0 (σ : List AV) : Option (Bool × Bool × (X × List AV) × (X × List AV)) := match dec f_slices_IsSorted_h0 σ with
  | some [.l x0, .i i3] => some ((loopL (f_slices_IsSorted_r0 x0) i3).isSome, isOne (loopL (f_slices_IsSorted_r0 x0) i3), f_slices_IsSorted_x0_1 x0 (getOne () (loopL (f_slices_IsSorted_r0 x0) i3)), f_slices_IsSorted_x0_2 x0 (getTwo () (loopL (f_slices_IsSorted_r0 x0) i3)))
  | _ => none
theorem f_slices_IsSorted_tt0 : TTrue Try.prog f_slices_IsSorted_F Try.f42 0 (f_slices_IsSorted_t0) := by
  intro σ p r r' h
  unfold f_slices_IsSorted_t0 at h
  split at h
  · rename_i hd
    rw [← dec_enc hd]
    exact row2 (f_slices_IsSorted_l0 _ _) h
  · cases h
theorem f_slices_IsSorted_p {R : Type} (x0 : List Sc) (kR : Bool → Option R) : f_slices_IsSorted_k x0 kR = (f_slices_IsSorted_k x0 some).bind kR := by
  simp only [f_slices_IsSorted_k, blB, someB]
theorem f_slices_IsSorted_e (x0 : List Sc) : runFn E0 f_slices_IsSorted_M H0 f_slices_IsSorted_F (asL (addL 0 (f_slices_IsSorted_t0) (noL))) Try.f42 (f_slices_IsSorted_a x0) (f_slices_IsSorted_i x0) = f_slices_IsSorted_k x0 (fun r => some (f_slices_IsSorted_en r)) := by kernel_rfl
theorem f_slices_IsSorted_ok (x0 : List Sc) (r : Bool) (h : f_slices_IsSorted x0 = some r) : CS Try.prog 42 (f_slices_IsSorted_a x0) (f_slices_IsSorted_i x0) (f_slices_IsSorted_en r).1 (f_slices_IsSorted_en r).2 :=
  fn_true (Gk := fun k => f_slices_IsSorted_k x0 k) (en := f_slices_IsSorted_en) Try.func42 E0ok f_slices_IsSorted_Mt (addL_true (f_slices_IsSorted_tt0) (noL_true)) f_slices_IsSorted_o (f_slices_IsSorted_e x0) (f_slices_IsSorted_p x0) h
def f_slices_IsSorted_c : CRow := fun args inh => match dec2 [.p .sl] [] args inh with
  | some ([.l x0], []) => some ((f_slices_IsSorted x0).isSome, (f_slices_IsSorted_en ((f_slices_IsSorted x0).getD false)).1, (f_slices_IsSorted_en ((f_slices_IsSorted x0).getD false)).2)
  | _ => none
theorem f_slices_IsSorted_cc : CTrue Try.prog 42 f_slices_IsSorted_c := by
  intro args inh rs out h
  unfold f_slices_IsSorted_c at h
  split at h
  · rename_i hd
    obtain ⟨h1, h2⟩ := dec2_enc hd
    rw [← h1, ← h2]
    exact rowC (f_slices_IsSorted_ok _) h
  · cases h

def f_i_IsSequence_F : Fi := { nv := 0, nc := 0, m := 0, vt := [], kl := [(0, ([0, 3, 4, 5, 6, 10, 11, 12, 13, 14, 15, 16, 17, 18, 19, 20, 21, 22, 23, 24, 25, 26, 27, 28], [0, 3, 4, 5, 6, 7, 8, 9, 10, 11, 12, 13, 14, 15, 16, 17, 18, 19, 20, 21, 22, 23, 24, 25, 26, 27, 28], [0, 1, 2, 3, 5, 6, 7, 8, 9, 10, 11, 12, 13, 14, 15, 16, 17, 18, 19, 20, 21, 22, 23, 24, 25, 26, 27, 28]))], sk := [], mvs := [], fz := [] }
def f_i_IsSequence_a (g0 : List Sc) (l1 : List Sc) : List AV := enc [.p .gr, .p .sl] [.l g0, .l l1]
def f_i_IsSequence_i (g0 : List Sc) (l1 : List Sc) : List AV := enc [] []
def f_i_IsSequence_en (r : Bool) : List AV × List AV := (enc [.p .boo] [.b r], enc [] [])
def f_i_IsSequence_M : Calling := addC 38 f_i_Group_has_c (addC 31 f_i_IsGroup_c (addC 42 f_slices_IsSorted_c (noC)))
theorem f_i_IsSequence_Mt : CallOk Try.prog (f_i_IsSequence_M) := addC_true f_i_Group_has_cc (addC_true f_i_IsGroup_cc (addC_true f_slices_IsSorted_cc (noC_true)))
theorem f_i_IsSequence_o : loopsOnce Try.f27 = true := by kernel_rfl
def f_i_IsSequence_h0 : List Sh := [.u, .p .sl, .p .el, .u, .u, .u, .u, .p .sl, .p (.int .i64), .p (.int .i64), .u, .u, .u, .u, .u, .u, .u, .u, .u, .u, .u, .u, .u, .u, .u, .u, .u, .u, .u]
def f_i_IsSequence_fr0 (l1 : List Sc) (g2 : List Sc) (t7 : List Sc) (t8 : Int) (s : Int) : List AV := enc f_i_IsSequence_h0 [.l l1, .l g2, .l t7, .i t8, .i s]
def f_i_IsSequence_g0_1 : List Sh := [.u, .p .sl, .p .el, .u, .u, .u, .u, .u, .u, .u, .u, .u, .u, .u, .u, .u, .u, .u, .u, .u, .u, .u, .u, .u, .u, .u, .u, .u, .u]
def f_i_IsSequence_x0_1 (l1 : List Sc) (g2 : List Sc) (t7 : List Sc) (t8 : Int) (e : Unit) : X × List AV := (.out 0, enc f_i_IsSequence_g0_1 [.l l1, .l g2])
def f_i_IsSequence_g0_2 : List Sh := [.u, .u, .u, .u, .p .boo, .u, .u, .u, .u, .u, .u, .u, .u, .u, .u, .u, .u, .u, .u, .u, .u, .u, .u, .u, .u, .u, .u, .u, .u]
def f_i_IsSequence_x0_2 (l1 : List Sc) (g2 : List Sc) (t7 : List Sc) (t8 : Int) (e : Unit) : X × List AV := (.ret, enc f_i_IsSequence_g0_2 [.b false])
theorem f_i_IsSequence_p0 {R : Type} (l1 : List Sc) (g2 : List Sc) (t7 : List Sc) (t8 : Int) (s : Int) (kN : Int → Option R) (kA : Unit → Option R) (kB : Unit → Option R) : f_i_IsSequence_k0 l1 g2 t7 t8 s kN kA kB = (f_i_IsSequence_r0 l1 g2 t7 t8 s).bind (Ro.el kN kA kB) := by
  simp only [f_i_IsSequence_k0, f_i_IsSequence_r0, brB, boB, someB, noneB, Ro.el]
theorem f_i_IsSequence_e0 (l1 : List Sc) (g2 : List Sc) (t7 : List Sc) (t8 : Int) (s : Int) : EC E0 f_i_IsSequence_M H0 f_i_IsSequence_F (asL (noL)) 0 (bodyOf Try.f27 0) (f_i_IsSequence_fr0 l1 g2 t7 t8 s) (done (klOf f_i_IsSequence_F 0)) = f_i_IsSequence_k0 l1 g2 t7 t8 s (fun s => some (.norm, f_i_IsSequence_fr0 l1 g2 t7 t8 s)) (fun e => some (f_i_IsSequence_x0_1 l1 g2 t7 t8 e)) (fun e => some (f_i_IsSequence_x0_2 l1 g2 t7 t8 e)) := by kernel_rfl
theorem f_i_IsSequence_l0 (l1 : List Sc) (g2 : List Sc) (t7 : List Sc) (t8 : Int) : ∀ s r, loopL (f_i_IsSequence_r0 l1 g2 t7 t8) s = some r → LS Try.prog f_i_IsSequence_F (bodyOf Try.f27 0) (f_i_IsSequence_fr0 l1 g2 t7 t8 s) (enX (f_i_IsSequence_x0_1 l1 g2 t7 t8) (f_i_IsSequence_x0_2 l1 g2 t7 t8) r) :=
  loop_true E0ok f_i_IsSequence_Mt (noL_true) f_i_IsSequence_o (fun _ h => by cases h) (fun _ h => by cases h) (fun s => (f_i_IsSequence_e0 l1 g2 t7 t8 s).trans (f_i_IsSequence_p0 l1 g2 t7 t8 s _ _ (fun e => some (f_i_IsSequence_x0_2 l1 g2 t7 t8 e))))
def f_i_IsSequence_t0 (σ : List AV) : Option (Bool × Bool × (X × List AV) × (X × List AV)) := match dec f_i_IsSequence_h0 σ with
  | some [.l l1, .l g2, .l t7, .i t8, .i t9] => some ((loopL (f_i_IsSequence_r0 l1 g2 t7 t8) t9).isSome, isOne (loopL (f_i_IsSequence_r0 l1 g2 t7 t8) t9), f_i_IsSequence_x0_1 l1 g2 t7 t8 (getOne () (loopL (f_i_IsSequence_r0 l1 g2 t7 t8) t9)), f_i_IsSequence_x0_2 l1 g2 t7 t8 (getTwo () (loopL (f_i_IsSequence_r0 l1 g2 t7 t8) t9)))
  | _ => none
theorem f_i_IsSequence_tt0 : TTrue Try.prog f_i_IsSequence_F Try.f27 0 (f_i_IsSequence_t0) := by
  intro σ p r r' h
  unfold f_i_IsSequence_t0 at h
  split at h
  · rename_i hd
    rw [← dec_enc hd]
    exact row2 (f_i_IsSequence_l0 _ _ _ _ _) h
  · cases h
theorem f_i_IsSequence_p {R : Type} (g0 : List Sc) (l1 : List Sc) (kR : Bool → Option R) : f_i_IsSequence_k g0 l1 kR = (f_i_IsSequence_k g0 l1 some).bind kR := by
  simp only [f_i_IsSequence_k, brB, boB, blB, someB]
theorem f_i_IsSequence_e (g0 : List Sc) (l1 : List Sc) : runFn E0 f_i_IsSequence_M H0 f_i_IsSequence_F (asL (addL 0 (f_i_IsSequence_t0) (noL))) Try.f27 (f_i_IsSequence_a g0 l1) (f_i_IsSequence_i g0 l1) = f_i_IsSequence_k g0 l1 (fun r => some (f_i_IsSequence_en r)) := by kernel_rfl
theorem f_i_IsSequence_ok (g0 : List Sc) (l1 : List Sc) (r : Bool) (h : f_i_IsSequence g0 l1 = some r) : CS Try.prog 27 (f_i_IsSequence_a g0 l1) (f_i_IsSequence_i g0 l1) (f_i_IsSequence_en r).1 (f_i_IsSequence_en r).2 :=
  fn_true (Gk := fun k => f_i_IsSequence_k g0 l1 k) (en := f_i_IsSequence_en) Try.func27 E0ok f_i_IsSequence_Mt (addL_true (f_i_IsSequence_tt0) (noL_true)) f_i_IsSequence_o (f_i_IsSequence_e g0 l1) (f_i_IsSequence_p g0 l1) h
def f_i_IsSequence_c : CRow := fun args inh => match dec2 [.p .gr, .p .sl] [] args inh with
  | some ([.l g0, .l l1], []) => some ((f_i_IsSequence g0 l1).isSome, (f_i_IsSequence_en ((f_i_IsSequence g0 l1).getD false)).1, (f_i_IsSequence_en ((f_i_IsSequence g0 l1).getD false)).2)
  | _ => none
theorem f_i_IsSequence_cc : CTrue Try.prog 27 f_i_IsSequence_c := by
  intro args inh rs out h
  unfold f_i_IsSequence_c at h
  split at h
  · rename_i hd
    obtain ⟨h1, h2⟩ := dec2_enc hd
    rw [← h1, ← h2]
    exact rowC (f_i_IsSequence_ok _ _) h
  · cases h

def f_l_FnExactIsSequence_F : Fi := { nv := 3, nc := 1, m := 0, vt := [(7, 0), (19, 1), (24, 2)], kl := [], sk := [], mvs := [1, 2], fz := [] }
def f_l_FnExactIsSequence_a (aG0 : List Sc) (aL1 : List Sc) : List AV := enc [.p .gr, .p .sl] [.l aG0, .l aL1]
def f_l_FnExactIsSequence_i (aG0 : List Sc) (aL1 : List Sc) : List AV := enc [] []
def f_l_FnExactIsSequence_en (r : Bool) : List AV × List AV := (enc [.p .boo] [.b r], enc [] [])
def f_l_FnExactIsSequence_M : Calling := addC 13 f_l_szGroup_c (addC 15 f_l_toGroup_c (addC 10 f_l_toIntS_c (addC 26 f_s_IsSequence_c (addC 27 f_i_IsSequence_c (addC 17 f_l_eqGroup_c (addC 12 f_l_eqIntS_c (noC)))))))
theorem f_l_FnExactIsSequence_Mt : CallOk Try.prog (f_l_FnExactIsSequence_M) := addC_true f_l_szGroup_cc (addC_true f_l_toGroup_cc (addC_true f_l_toIntS_cc (addC_true f_s_IsSequence_cc (addC_true f_i_IsSequence_cc (addC_true f_l_eqGroup_cc (addC_true f_l_eqIntS_cc (noC_true)))))))
theorem f_l_FnExactIsSequence_o : loopsOnce Try.f8 = true := by kernel_rfl
theorem f_l_FnExactIsSequence_p {R : Type} (aG0 : List Sc) (aL1 : List Sc) (kR : Bool → Option R) : f_l_FnExactIsSequence_k aG0 aL1 kR = (f_l_FnExactIsSequence_k aG0 aL1 some).bind kR := by
  simp only [f_l_FnExactIsSequence_k, brB, boB, someB]
theorem f_l_FnExactIsSequence_e (aG0 : List Sc) (aL1 : List Sc) : runFn E0 f_l_FnExactIsSequence_M H0 f_l_FnExactIsSequence_F (asL (noL)) Try.f8 (f_l_FnExactIsSequence_a aG0 aL1) (f_l_FnExactIsSequence_i aG0 aL1) = f_l_FnExactIsSequence_k aG0 aL1 (fun r => some (f_l_FnExactIsSequence_en r)) := by kernel_rfl
theorem f_l_FnExactIsSequence_ok (aG0 : List Sc) (aL1 : List Sc) (r : Bool) (h : f_l_FnExactIsSequence aG0 aL1 = some r) : CS Try.prog 8 (f_l_FnExactIsSequence_a aG0 aL1) (f_l_FnExactIsSequence_i aG0 aL1) (f_l_FnExactIsSequence_en r).1 (f_l_FnExactIsSequence_en r).2 :=
  fn_true (Gk := fun k => f_l_FnExactIsSequence_k aG0 aL1 k) (en := f_l_FnExactIsSequence_en) Try.func8 E0ok f_l_FnExactIsSequence_Mt (noL_true) f_l_FnExactIsSequence_o (f_l_FnExactIsSequence_e aG0 aL1) (f_l_FnExactIsSequence_p aG0 aL1) h
def f_l_FnExactIsSequence_c : CRow := fun args inh => match dec2 [.p .gr, .p .sl] [] args inh with
  | some ([.l aG0, .l aL1], []) => some ((f_l_FnExactIsSequence aG0 aL1).isSome, (f_l_FnExactIsSequence_en ((f_l_FnExactIsSequence aG0 aL1).getD false)).1, (f_l_FnExactIsSequence_en ((f_l_FnExactIsSequence aG0 aL1).getD false)).2)
  | _ => none
theorem f_l_FnExactIsSequence_cc : CTrue Try.prog 8 f_l_FnExactIsSequence_c := by
  intro args inh rs out h
  unfold f_l_FnExactIsSequence_c at h
  split at h
  · rename_i hd
    obtain ⟨h1, h2⟩ := dec2_enc hd
    rw [← h1, ← h2]
    exact rowC (f_l_FnExactIsSequence_ok _ _) h
  · cases h
end
end Go.Proofs.Ytppgjmdncffecaa
