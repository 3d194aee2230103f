/-
  That the program computes just that (printed by gen.py).
-/
import Derived.Test.YtppgjmdncffecaaSet
set_option linter.unusedVariables false
namespace Go.Proofs.Ytppgjmdncffecaa
open Go Ev
noncomputable section
def f_l_toIntS_M : Calling := noC
theorem f_l_toIntS_Mt : CallsTrue S0 f_l_toIntS_M := noC_true
theorem f_l_toIntS_o : loopsOnce Try.f10 = true := by kernel_rfl
def f_l_toIntS_h0 : List Sh := [.sl, .u, .u, .own 3, .int .i64, .u, .u, .u, .u, .u, .u, .u, .u, .u, .u, .u, .u, .u, .u, .u, .u, .u]
def f_l_toIntS_fr0 (a0 : List Sc) (s : List Sc × Int) : List AV := enc f_l_toIntS_h0 [.l a0, .l s.1, .i s.2]
def f_l_toIntS_g0_1 : List Sh := [.u, .u, .u, .own 3, .u, .u, .u, .u, .u, .u, .u, .u, .u, .u, .u, .u, .u, .u, .u, .u, .u, .u]
def f_l_toIntS_x0_1 (a0 : List Sc) (e : List Sc) : X × List AV := (.out 0, enc f_l_toIntS_g0_1 [.l e])
def f_l_toIntS_x0_2 (_ : List Sc) (_e : Unit) : X × List AV := (.ret, [])
theorem f_l_toIntS_p0 {R : Type} (a0 : List Sc) (s : List Sc × Int) (kN : List Sc × Int → Option R) (kA : List Sc → Option R) (kB : Unit → Option R) : f_l_toIntS_k0 a0 s.1 s.2 kN kA = (f_l_toIntS_r0 a0 s).bind (Ro.el kN kA kB) := by
  simp only [f_l_toIntS_k0, f_l_toIntS_r0, brB, someB, noneB, Ro.el]
theorem f_l_toIntS_e0 (a0 : List Sc) (s : List Sc × Int) : EC S0.E f_l_toIntS_M (asL (noL)) (S0.kl 10) 0 (bodyOf Try.f10 0) (f_l_toIntS_fr0 a0 s) (done (S0.kl 10 0)) = f_l_toIntS_k0 a0 s.1 s.2 (fun s => some (.norm, f_l_toIntS_fr0 a0 s)) (fun e => some (f_l_toIntS_x0_1 a0 e)) := by kernel_rfl
theorem f_l_toIntS_l0 (a0 : List Sc) : ∀ s r, loopL (f_l_toIntS_r0 a0) s = some r → LP S0 10 0 (bodyOf Try.f10 0) (f_l_toIntS_fr0 a0 s) = some (enX (f_l_toIntS_x0_1 a0) (f_l_toIntS_x0_2 a0) r) :=
  loop_true f_l_toIntS_Mt (noL_true) f_l_toIntS_o (fun _ h => by cases h) (fun _ h => by cases h) (fun s => (f_l_toIntS_e0 a0 s).trans (f_l_toIntS_p0 a0 s _ _ (fun e => some (f_l_toIntS_x0_2 a0 e))))
def f_l_toIntS_t0 (σ : List AV) : Option (Bool × Bool × (X × List AV) × (X × List AV)) := match dec f_l_toIntS_h0 σ with
  | some [.l a0, .l out3, .i i4] => some (isOne (loopL (f_l_toIntS_r0 a0) (out3, i4)), true, f_l_toIntS_x0_1 a0 (getOne [] (loopL (f_l_toIntS_r0 a0) (out3, i4))), (.ret, []))
  | _ => none
theorem f_l_toIntS_tt0 : TTrue S0 10 Try.f10 0 f_l_toIntS_t0 := by
  intro σ p r r' h
  unfold f_l_toIntS_t0 at h
  split at h
  · rename_i hd
    rw [← dec_enc hd]
    exact row1 (f_l_toIntS_l0 _ _) h
  · cases h
theorem f_l_toIntS_p {R : Type} (a0 : List Sc) (kR : List Sc → Option R) : f_l_toIntS_k a0 kR = (f_l_toIntS a0).bind kR := by
  simp only [f_l_toIntS_k, f_l_toIntS, brB, bl1B, someB, noneB]
def f_l_toIntS_en (r : List Sc) : List AV := enc [.own 3] [.l r]
theorem f_l_toIntS_e (a0 : List Sc) : runFn S0.E f_l_toIntS_M (asL (addL 0 f_l_toIntS_t0 (noL))) (S0.kl 10) Try.f10 (enc [.sl] [.l a0]) = f_l_toIntS_k a0 (fun r => some (f_l_toIntS_en r)) := by kernel_rfl
theorem f_l_toIntS_ok (a0 : List Sc) (r : List Sc) (h : f_l_toIntS a0 = some r) : CL S0 10 (enc [.sl] [.l a0]) = some (f_l_toIntS_en r) :=
  fn_true (Fk := fun k => f_l_toIntS_k a0 k) (enc := f_l_toIntS_en) Try.func10 rfl f_l_toIntS_Mt (addL_true f_l_toIntS_tt0 (noL_true)) f_l_toIntS_o (f_l_toIntS_e a0) (f_l_toIntS_p a0) h
def f_l_toIntS_c (args : List AV) : Option (Bool × List AV) := match dec [.sl] args with
  | some [.l a0] => some ((f_l_toIntS a0).isSome, f_l_toIntS_en ((f_l_toIntS a0).getD []))
  | _ => none
theorem f_l_toIntS_cc : CTrue S0 10 f_l_toIntS_c := by
  intro args rs h
  unfold f_l_toIntS_c at h
  split at h
  · rename_i hd
    rw [← dec_enc hd]
    exact rowC (f_l_toIntS_ok _) h
  · cases h

def f_s_MultiplicityIn_M : Calling := noC
theorem f_s_MultiplicityIn_Mt : CallsTrue S0 f_s_MultiplicityIn_M := noC_true
theorem f_s_MultiplicityIn_o : loopsOnce Try.f9 = true := by kernel_rfl
def f_s_MultiplicityIn_h0 : List Sh := [.sl, .int .i64, .u, .u, .u, .int .i64, .int .i64, .u, .u, .u, .u, .u, .u, .u, .u, .u, .u, .u, .u, .u, .u, .u]
def f_s_MultiplicityIn_fr0 (l0 : List Sc) (x1 : Int) (s : Int × Int) : List AV := enc f_s_MultiplicityIn_h0 [.l l0, .i x1, .i s.1, .i s.2]
def f_s_MultiplicityIn_g0_1 : List Sh := [.u, .u, .u, .u, .u, .int .i64, .u, .u, .u, .u, .u, .u, .u, .u, .u, .u, .u, .u, .u, .u, .u, .u]
def f_s_MultiplicityIn_x0_1 (l0 : List Sc) (x1 : Int) (e : Int) : X × List AV := (.out 0, enc f_s_MultiplicityIn_g0_1 [.i e])
def f_s_MultiplicityIn_x0_2 (_ : List Sc) (_ : Int) (_e : Unit) : X × List AV := (.ret, [])
theorem f_s_MultiplicityIn_p0 {R : Type} (l0 : List Sc) (x1 : Int) (s : Int × Int) (kN : Int × Int → Option R) (kA : Int → Option R) (kB : Unit → Option R) : f_s_MultiplicityIn_k0 l0 x1 s.1 s.2 kN kA = (f_s_MultiplicityIn_r0 l0 x1 s).bind (Ro.el kN kA kB) := by
  simp only [f_s_MultiplicityIn_k0, f_s_MultiplicityIn_r0, brB, someB, noneB, Ro.el]
theorem f_s_MultiplicityIn_e0 (l0 : List Sc) (x1 : Int) (s : Int × Int) : EC S0.E f_s_MultiplicityIn_M (asL (noL)) (S0.kl 9) 0 (bodyOf Try.f9 0) (f_s_MultiplicityIn_fr0 l0 x1 s) (done (S0.kl 9 0)) = f_s_MultiplicityIn_k0 l0 x1 s.1 s.2 (fun s => some (.norm, f_s_MultiplicityIn_fr0 l0 x1 s)) (fun e => some (f_s_MultiplicityIn_x0_1 l0 x1 e)) := by kernel_rfl
theorem f_s_MultiplicityIn_l0 (l0 : List Sc) (x1 : Int) : ∀ s r, loopL (f_s_MultiplicityIn_r0 l0 x1) s = some r → LP S0 9 0 (bodyOf Try.f9 0) (f_s_MultiplicityIn_fr0 l0 x1 s) = some (enX (f_s_MultiplicityIn_x0_1 l0 x1) (f_s_MultiplicityIn_x0_2 l0 x1) r) :=
  loop_true f_s_MultiplicityIn_Mt (noL_true) f_s_MultiplicityIn_o (fun _ h => by cases h) (fun _ h => by cases h) (fun s => (f_s_MultiplicityIn_e0 l0 x1 s).trans (f_s_MultiplicityIn_p0 l0 x1 s _ _ (fun e => some (f_s_MultiplicityIn_x0_2 l0 x1 e))))
def f_s_MultiplicityIn_t0 (σ : List AV) : Option (Bool × Bool × (X × List AV) × (X × List AV)) := match dec f_s_MultiplicityIn_h0 σ with
  | some [.l l0, .i x1, .i n5, .i i6] => some (isOne (loopL (f_s_MultiplicityIn_r0 l0 x1) (n5, i6)), true, f_s_MultiplicityIn_x0_1 l0 x1 (getOne 0 (loopL (f_s_MultiplicityIn_r0 l0 x1) (n5, i6))), (.ret, []))
  | _ => none
theorem f_s_MultiplicityIn_tt0 : TTrue S0 9 Try.f9 0 f_s_MultiplicityIn_t0 := by
  intro σ p r r' h
  unfold f_s_MultiplicityIn_t0 at h
  split at h
  · rename_i hd
    rw [← dec_enc hd]
    exact row1 (f_s_MultiplicityIn_l0 _ _ _) h
  · cases h
theorem f_s_MultiplicityIn_p {R : Type} (l0 : List Sc) (x1 : Int) (kR : Int → Option R) : f_s_MultiplicityIn_k l0 x1 kR = (f_s_MultiplicityIn l0 x1).bind kR := by
  simp only [f_s_MultiplicityIn_k, f_s_MultiplicityIn, bl1B, someB]
def f_s_MultiplicityIn_en (r : Int) : List AV := enc [.int .i64] [.i r]
theorem f_s_MultiplicityIn_e (l0 : List Sc) (x1 : Int) : runFn S0.E f_s_MultiplicityIn_M (asL (addL 0 f_s_MultiplicityIn_t0 (noL))) (S0.kl 9) Try.f9 (enc [.sl, .int .i64] [.l l0, .i x1]) = f_s_MultiplicityIn_k l0 x1 (fun r => some (f_s_MultiplicityIn_en r)) := by kernel_rfl
theorem f_s_MultiplicityIn_ok (l0 : List Sc) (x1 : Int) (r : Int) (h : f_s_MultiplicityIn l0 x1 = some r) : CL S0 9 (enc [.sl, .int .i64] [.l l0, .i x1]) = some (f_s_MultiplicityIn_en r) :=
  fn_true (Fk := fun k => f_s_MultiplicityIn_k l0 x1 k) (enc := f_s_MultiplicityIn_en) Try.func9 rfl f_s_MultiplicityIn_Mt (addL_true f_s_MultiplicityIn_tt0 (noL_true)) f_s_MultiplicityIn_o (f_s_MultiplicityIn_e l0 x1) (f_s_MultiplicityIn_p l0 x1) h
def f_s_MultiplicityIn_c (args : List AV) : Option (Bool × List AV) := match dec [.sl, .int .i64] args with
  | some [.l l0, .i x1] => some ((f_s_MultiplicityIn l0 x1).isSome, f_s_MultiplicityIn_en ((f_s_MultiplicityIn l0 x1).getD 0))
  | _ => none
theorem f_s_MultiplicityIn_cc : CTrue S0 9 f_s_MultiplicityIn_c := by
  intro args rs h
  unfold f_s_MultiplicityIn_c at h
  split at h
  · rename_i hd
    rw [← dec_enc hd]
    exact rowC (f_s_MultiplicityIn_ok _ _) h
  · cases h

def f_i_MultiplicityIn_M : Calling := noC
theorem f_i_MultiplicityIn_Mt : CallsTrue S0 f_i_MultiplicityIn_M := noC_true
theorem f_i_MultiplicityIn_o : loopsOnce Try.f11 = true := by kernel_rfl
def f_i_MultiplicityIn_h0 : List Sh := [.u, .int .i64, .u, .u, .u, .int .i64, .u, .u, .sl, .int .i64, .int .i64, .u, .u, .u, .u, .u, .u, .u, .u, .u, .u]
def f_i_MultiplicityIn_fr0 (x1 : Int) (t8 : List Sc) (t9 : Int) (s : Int × Int) : List AV := enc f_i_MultiplicityIn_h0 [.i x1, .i s.1, .l t8, .i t9, .i s.2]
def f_i_MultiplicityIn_g0_1 : List Sh := [.u, .u, .u, .u, .u, .int .i64, .u, .u, .u, .u, .u, .u, .u, .u, .u, .u, .u, .u, .u, .u, .u]
def f_i_MultiplicityIn_x0_1 (x1 : Int) (t8 : List Sc) (t9 : Int) (e : Int) : X × List AV := (.out 0, enc f_i_MultiplicityIn_g0_1 [.i e])
def f_i_MultiplicityIn_x0_2 (_ : Int) (_ : List Sc) (_ : Int) (_e : Unit) : X × List AV := (.ret, [])
theorem f_i_MultiplicityIn_p0 {R : Type} (x1 : Int) (t8 : List Sc) (t9 : Int) (s : Int × Int) (kN : Int × Int → Option R) (kA : Int → Option R) (kB : Unit → Option R) : f_i_MultiplicityIn_k0 x1 t8 t9 s.1 s.2 kN kA = (f_i_MultiplicityIn_r0 x1 t8 t9 s).bind (Ro.el kN kA kB) := by
  simp only [f_i_MultiplicityIn_k0, f_i_MultiplicityIn_r0, brB, someB, noneB, Ro.el]
theorem f_i_MultiplicityIn_e0 (x1 : Int) (t8 : List Sc) (t9 : Int) (s : Int × Int) : EC S0.E f_i_MultiplicityIn_M (asL (noL)) (S0.kl 11) 0 (bodyOf Try.f11 0) (f_i_MultiplicityIn_fr0 x1 t8 t9 s) (done (S0.kl 11 0)) = f_i_MultiplicityIn_k0 x1 t8 t9 s.1 s.2 (fun s => some (.norm, f_i_MultiplicityIn_fr0 x1 t8 t9 s)) (fun e => some (f_i_MultiplicityIn_x0_1 x1 t8 t9 e)) := by kernel_rfl
theorem f_i_MultiplicityIn_l0 (x1 : Int) (t8 : List Sc) (t9 : Int) : ∀ s r, loopL (f_i_MultiplicityIn_r0 x1 t8 t9) s = some r → LP S0 11 0 (bodyOf Try.f11 0) (f_i_MultiplicityIn_fr0 x1 t8 t9 s) = some (enX (f_i_MultiplicityIn_x0_1 x1 t8 t9) (f_i_MultiplicityIn_x0_2 x1 t8 t9) r) :=
  loop_true f_i_MultiplicityIn_Mt (noL_true) f_i_MultiplicityIn_o (fun _ h => by cases h) (fun _ h => by cases h) (fun s => (f_i_MultiplicityIn_e0 x1 t8 t9 s).trans (f_i_MultiplicityIn_p0 x1 t8 t9 s _ _ (fun e => some (f_i_MultiplicityIn_x0_2 x1 t8 t9 e))))
def f_i_MultiplicityIn_t0 (σ : List AV) : Option (Bool × Bool × (X × List AV) × (X × List AV)) := match dec f_i_MultiplicityIn_h0 σ with
  | some [.i x1, .i n5, .l t8, .i t9, .i t10] => some (isOne (loopL (f_i_MultiplicityIn_r0 x1 t8 t9) (n5, t10)), true, f_i_MultiplicityIn_x0_1 x1 t8 t9 (getOne 0 (loopL (f_i_MultiplicityIn_r0 x1 t8 t9) (n5, t10))), (.ret, []))
  | _ => none
theorem f_i_MultiplicityIn_tt0 : TTrue S0 11 Try.f11 0 f_i_MultiplicityIn_t0 := by
  intro σ p r r' h
  unfold f_i_MultiplicityIn_t0 at h
  split at h
  · rename_i hd
    rw [← dec_enc hd]
    exact row1 (f_i_MultiplicityIn_l0 _ _ _ _) h
  · cases h
theorem f_i_MultiplicityIn_p {R : Type} (l0 : List Sc) (x1 : Int) (kR : Int → Option R) : f_i_MultiplicityIn_k l0 x1 kR = (f_i_MultiplicityIn l0 x1).bind kR := by
  simp only [f_i_MultiplicityIn_k, f_i_MultiplicityIn, bl1B, someB]
def f_i_MultiplicityIn_en (r : Int) : List AV := enc [.int .i64] [.i r]
theorem f_i_MultiplicityIn_e (l0 : List Sc) (x1 : Int) : runFn S0.E f_i_MultiplicityIn_M (asL (addL 0 f_i_MultiplicityIn_t0 (noL))) (S0.kl 11) Try.f11 (enc [.sl, .int .i64] [.l l0, .i x1]) = f_i_MultiplicityIn_k l0 x1 (fun r => some (f_i_MultiplicityIn_en r)) := by kernel_rfl
theorem f_i_MultiplicityIn_ok (l0 : List Sc) (x1 : Int) (r : Int) (h : f_i_MultiplicityIn l0 x1 = some r) : CL S0 11 (enc [.sl, .int .i64] [.l l0, .i x1]) = some (f_i_MultiplicityIn_en r) :=
  fn_true (Fk := fun k => f_i_MultiplicityIn_k l0 x1 k) (enc := f_i_MultiplicityIn_en) Try.func11 rfl f_i_MultiplicityIn_Mt (addL_true f_i_MultiplicityIn_tt0 (noL_true)) f_i_MultiplicityIn_o (f_i_MultiplicityIn_e l0 x1) (f_i_MultiplicityIn_p l0 x1) h
def f_i_MultiplicityIn_c (args : List AV) : Option (Bool × List AV) := match dec [.sl, .int .i64] args with
  | some [.l l0, .i x1] => some ((f_i_MultiplicityIn l0 x1).isSome, f_i_MultiplicityIn_en ((f_i_MultiplicityIn l0 x1).getD 0))
  | _ => none
theorem f_i_MultiplicityIn_cc : CTrue S0 11 f_i_MultiplicityIn_c := by
  intro args rs h
  unfold f_i_MultiplicityIn_c at h
  split at h
  · rename_i hd
    rw [← dec_enc hd]
    exact rowC (f_i_MultiplicityIn_ok _ _) h
  · cases h

def f_l_eqIntS_M : Calling := noC
theorem f_l_eqIntS_Mt : CallsTrue S0 f_l_eqIntS_M := noC_true
theorem f_l_eqIntS_o : loopsOnce Try.f12 = true := by kernel_rfl
def f_l_eqIntS_h0 : List Sh := [.sl, .sl, .u, .u, .u, .int .i64, .u, .u, .u, .u, .u, .u, .u, .u, .u, .u, .u, .u, .u, .u, .u, .u, .u, .u, .u, .u]
def f_l_eqIntS_fr0 (a0 : List Sc) (b1 : List Sc) (s : Int) : List AV := enc f_l_eqIntS_h0 [.l a0, .l b1, .i s]
def f_l_eqIntS_g0_1 : List Sh := [.u, .u, .u, .u, .u, .u, .u, .u, .u, .u, .u, .u, .u, .u, .u, .u, .u, .u, .u, .u, .u, .u, .u, .u, .u, .u]
def f_l_eqIntS_x0_1 (a0 : List Sc) (b1 : List Sc) (e : Unit) : X × List AV := (.out 0, enc f_l_eqIntS_g0_1 [])
def f_l_eqIntS_g0_2 : List Sh := [.u, .u, .u, .u, .boo, .u, .u, .u, .u, .u, .u, .u, .u, .u, .u, .u, .u, .u, .u, .u, .u, .u, .u, .u, .u, .u]
def f_l_eqIntS_x0_2 (a0 : List Sc) (b1 : List Sc) (e : Unit) : X × List AV := (.ret, enc f_l_eqIntS_g0_2 [.b false])
theorem f_l_eqIntS_p0 {R : Type} (a0 : List Sc) (b1 : List Sc) (s : Int) (kN : Int → Option R) (kA : Unit → Option R) (kB : Unit → Option R) : f_l_eqIntS_k0 a0 b1 s kN kA kB = (f_l_eqIntS_r0 a0 b1 s).bind (Ro.el kN kA kB) := by
  simp only [f_l_eqIntS_k0, f_l_eqIntS_r0, brB, someB, noneB, Ro.el]
theorem f_l_eqIntS_e0 (a0 : List Sc) (b1 : List Sc) (s : Int) : EC S0.E f_l_eqIntS_M (asL (noL)) (S0.kl 12) 0 (bodyOf Try.f12 0) (f_l_eqIntS_fr0 a0 b1 s) (done (S0.kl 12 0)) = f_l_eqIntS_k0 a0 b1 s (fun s => some (.norm, f_l_eqIntS_fr0 a0 b1 s)) (fun e => some (f_l_eqIntS_x0_1 a0 b1 e)) (fun e => some (f_l_eqIntS_x0_2 a0 b1 e)) := by kernel_rfl
theorem f_l_eqIntS_l0 (a0 : List Sc) (b1 : List Sc) : ∀ s r, loopL (f_l_eqIntS_r0 a0 b1) s = some r → LP S0 12 0 (bodyOf Try.f12 0) (f_l_eqIntS_fr0 a0 b1 s) = some (enX (f_l_eqIntS_x0_1 a0 b1) (f_l_eqIntS_x0_2 a0 b1) r) :=
  loop_true f_l_eqIntS_Mt (noL_true) f_l_eqIntS_o (fun _ h => by cases h) (fun _ h => by cases h) (fun s => (f_l_eqIntS_e0 a0 b1 s).trans (f_l_eqIntS_p0 a0 b1 s _ _ (fun e => some (f_l_eqIntS_x0_2 a0 b1 e))))
def f_l_eqIntS_t0 (σ : List AV) : Option (Bool × Bool × (X × List AV) × (X × List AV)) := match dec f_l_eqIntS_h0 σ with
  | some [.l a0, .l b1, .i i5] => some ((loopL (f_l_eqIntS_r0 a0 b1) i5).isSome, isOne (loopL (f_l_eqIntS_r0 a0 b1) i5), f_l_eqIntS_x0_1 a0 b1 (getOne () (loopL (f_l_eqIntS_r0 a0 b1) i5)), f_l_eqIntS_x0_2 a0 b1 (getTwo () (loopL (f_l_eqIntS_r0 a0 b1) i5)))
  | _ => none
theorem f_l_eqIntS_tt0 : TTrue S0 12 Try.f12 0 f_l_eqIntS_t0 := by
  intro σ p r r' h
  unfold f_l_eqIntS_t0 at h
  split at h
  · rename_i hd
    rw [← dec_enc hd]
    exact row2 (f_l_eqIntS_l0 _ _ _) h
  · cases h
theorem f_l_eqIntS_p {R : Type} (a0 : List Sc) (b1 : List Sc) (kR : Bool → Option R) : f_l_eqIntS_k a0 b1 kR = (f_l_eqIntS a0 b1).bind kR := by
  simp only [f_l_eqIntS_k, f_l_eqIntS, brB, blB, someB]
def f_l_eqIntS_en (r : Bool) : List AV := enc [.boo] [.b r]
theorem f_l_eqIntS_e (a0 : List Sc) (b1 : List Sc) : runFn S0.E f_l_eqIntS_M (asL (addL 0 f_l_eqIntS_t0 (noL))) (S0.kl 12) Try.f12 (enc [.sl, .sl] [.l a0, .l b1]) = f_l_eqIntS_k a0 b1 (fun r => some (f_l_eqIntS_en r)) := by kernel_rfl
theorem f_l_eqIntS_ok (a0 : List Sc) (b1 : List Sc) (r : Bool) (h : f_l_eqIntS a0 b1 = some r) : CL S0 12 (enc [.sl, .sl] [.l a0, .l b1]) = some (f_l_eqIntS_en r) :=
  fn_true (Fk := fun k => f_l_eqIntS_k a0 b1 k) (enc := f_l_eqIntS_en) Try.func12 rfl f_l_eqIntS_Mt (addL_true f_l_eqIntS_tt0 (noL_true)) f_l_eqIntS_o (f_l_eqIntS_e a0 b1) (f_l_eqIntS_p a0 b1) h
def f_l_eqIntS_c (args : List AV) : Option (Bool × List AV) := match dec [.sl, .sl] args with
  | some [.l a0, .l b1] => some ((f_l_eqIntS a0 b1).isSome, f_l_eqIntS_en ((f_l_eqIntS a0 b1).getD false))
  | _ => none
theorem f_l_eqIntS_cc : CTrue S0 12 f_l_eqIntS_c := by
  intro args rs h
  unfold f_l_eqIntS_c at h
  split at h
  · rename_i hd
    rw [← dec_enc hd]
    exact rowC (f_l_eqIntS_ok _ _) h
  · cases h

def f_l_FnExactMultiplicityIn_M : Calling := addC 10 f_l_toIntS_c (addC 9 f_s_MultiplicityIn_c (addC 11 f_i_MultiplicityIn_c (addC 12 f_l_eqIntS_c (noC))))
theorem f_l_FnExactMultiplicityIn_Mt : CallsTrue S0 f_l_FnExactMultiplicityIn_M := addC_true f_l_toIntS_cc (addC_true f_s_MultiplicityIn_cc (addC_true f_i_MultiplicityIn_cc (addC_true f_l_eqIntS_cc (noC_true))))
theorem f_l_FnExactMultiplicityIn_o : loopsOnce Try.f3 = true := by kernel_rfl
theorem f_l_FnExactMultiplicityIn_p {R : Type} (aL0 : List Sc) (aX1 : Int) (kR : Bool → Option R) : f_l_FnExactMultiplicityIn_k aL0 aX1 kR = (f_l_FnExactMultiplicityIn aL0 aX1).bind kR := by
  simp only [f_l_FnExactMultiplicityIn_k, f_l_FnExactMultiplicityIn, brB, boB, someB]
def f_l_FnExactMultiplicityIn_en (r : Bool) : List AV := enc [.boo] [.b r]
theorem f_l_FnExactMultiplicityIn_e (aL0 : List Sc) (aX1 : Int) : runFn S0.E f_l_FnExactMultiplicityIn_M (asL (noL)) (S0.kl 3) Try.f3 (enc [.sl, .int .i64] [.l aL0, .i aX1]) = f_l_FnExactMultiplicityIn_k aL0 aX1 (fun r => some (f_l_FnExactMultiplicityIn_en r)) := by kernel_rfl
theorem f_l_FnExactMultiplicityIn_ok (aL0 : List Sc) (aX1 : Int) (r : Bool) (h : f_l_FnExactMultiplicityIn aL0 aX1 = some r) : CL S0 3 (enc [.sl, .int .i64] [.l aL0, .i aX1]) = some (f_l_FnExactMultiplicityIn_en r) :=
  fn_true (Fk := fun k => f_l_FnExactMultiplicityIn_k aL0 aX1 k) (enc := f_l_FnExactMultiplicityIn_en) Try.func3 rfl f_l_FnExactMultiplicityIn_Mt (noL_true) f_l_FnExactMultiplicityIn_o (f_l_FnExactMultiplicityIn_e aL0 aX1) (f_l_FnExactMultiplicityIn_p aL0 aX1) h
def f_l_FnExactMultiplicityIn_c (args : List AV) : Option (Bool × List AV) := match dec [.sl, .int .i64] args with
  | some [.l aL0, .i aX1] => some ((f_l_FnExactMultiplicityIn aL0 aX1).isSome, f_l_FnExactMultiplicityIn_en ((f_l_FnExactMultiplicityIn aL0 aX1).getD false))
  | _ => none
theorem f_l_FnExactMultiplicityIn_cc : CTrue S0 3 f_l_FnExactMultiplicityIn_c := by
  intro args rs h
  unfold f_l_FnExactMultiplicityIn_c at h
  split at h
  · rename_i hd
    rw [← dec_enc hd]
    exact rowC (f_l_FnExactMultiplicityIn_ok _ _) h
  · cases h

def f_l_szIntS_M : Calling := noC
theorem f_l_szIntS_Mt : CallsTrue S0 f_l_szIntS_M := noC_true
theorem f_l_szIntS_o : loopsOnce Try.f28 = true := by kernel_rfl
theorem f_l_szIntS_p {R : Type} (a0 : List Sc) (left1 : Int) (kR : Int → Option R) : f_l_szIntS_k a0 left1 kR = (f_l_szIntS a0 left1).bind kR := by
  simp only [f_l_szIntS_k, f_l_szIntS, brB, someB]
def f_l_szIntS_en (r : Int) : List AV := enc [.int .i64] [.i r]
theorem f_l_szIntS_e (a0 : List Sc) (left1 : Int) : runFn S0.E f_l_szIntS_M (asL (noL)) (S0.kl 28) Try.f28 (enc [.sl, .int .i64] [.l a0, .i left1]) = f_l_szIntS_k a0 left1 (fun r => some (f_l_szIntS_en r)) := by kernel_rfl
theorem f_l_szIntS_ok (a0 : List Sc) (left1 : Int) (r : Int) (h : f_l_szIntS a0 left1 = some r) : CL S0 28 (enc [.sl, .int .i64] [.l a0, .i left1]) = some (f_l_szIntS_en r) :=
  fn_true (Fk := fun k => f_l_szIntS_k a0 left1 k) (enc := f_l_szIntS_en) Try.func28 rfl f_l_szIntS_Mt (noL_true) f_l_szIntS_o (f_l_szIntS_e a0 left1) (f_l_szIntS_p a0 left1) h
def f_l_szIntS_c (args : List AV) : Option (Bool × List AV) := match dec [.sl, .int .i64] args with
  | some [.l a0, .i left1] => some ((f_l_szIntS a0 left1).isSome, f_l_szIntS_en ((f_l_szIntS a0 left1).getD 0))
  | _ => none
theorem f_l_szIntS_cc : CTrue S0 28 f_l_szIntS_c := by
  intro args rs h
  unfold f_l_szIntS_c at h
  split at h
  · rename_i hd
    rw [← dec_enc hd]
    exact rowC (f_l_szIntS_ok _ _) h
  · cases h

def f_l_szGroup_M : Calling := addC 28 f_l_szIntS_c (noC)
theorem f_l_szGroup_Mt : CallsTrue S0 f_l_szGroup_M := addC_true f_l_szIntS_cc (noC_true)
theorem f_l_szGroup_o : loopsOnce Try.f13 = true := by kernel_rfl
theorem f_l_szGroup_p {R : Type} (a0 : List Sc) (left1 : Int) (kR : Int → Option R) : f_l_szGroup_k a0 left1 kR = (f_l_szGroup a0 left1).bind kR := by
  simp only [f_l_szGroup_k, f_l_szGroup, brB, boB, someB]
def f_l_szGroup_en (r : Int) : List AV := enc [.int .i64] [.i r]
theorem f_l_szGroup_e (a0 : List Sc) (left1 : Int) : runFn S0.E f_l_szGroup_M (asL (noL)) (S0.kl 13) Try.f13 (enc [.gr, .int .i64] [.l a0, .i left1]) = f_l_szGroup_k a0 left1 (fun r => some (f_l_szGroup_en r)) := by kernel_rfl
theorem f_l_szGroup_ok (a0 : List Sc) (left1 : Int) (r : Int) (h : f_l_szGroup a0 left1 = some r) : CL S0 13 (enc [.gr, .int .i64] [.l a0, .i left1]) = some (f_l_szGroup_en r) :=
  fn_true (Fk := fun k => f_l_szGroup_k a0 left1 k) (enc := f_l_szGroup_en) Try.func13 rfl f_l_szGroup_Mt (noL_true) f_l_szGroup_o (f_l_szGroup_e a0 left1) (f_l_szGroup_p a0 left1) h
def f_l_szGroup_c (args : List AV) : Option (Bool × List AV) := match dec [.gr, .int .i64] args with
  | some [.l a0, .i left1] => some ((f_l_szGroup a0 left1).isSome, f_l_szGroup_en ((f_l_szGroup a0 left1).getD 0))
  | _ => none
theorem f_l_szGroup_cc : CTrue S0 13 f_l_szGroup_c := by
  intro args rs h
  unfold f_l_szGroup_c at h
  split at h
  · rename_i hd
    rw [← dec_enc hd]
    exact rowC (f_l_szGroup_ok _ _) h
  · cases h

def f_s_l1In_M : Calling := noC
theorem f_s_l1In_Mt : CallsTrue S0 f_s_l1In_M := noC_true
theorem f_s_l1In_o : loopsOnce Try.f32 = true := by kernel_rfl
theorem f_s_l1In_p {R : Type} (x0 : Int) (low1 : Int) (high2 : Int) (kR : Bool → Option R) : f_s_l1In_k x0 low1 high2 kR = (f_s_l1In x0 low1 high2).bind kR := by
  simp only [f_s_l1In_k, f_s_l1In, brB, someB]
def f_s_l1In_en (r : Bool) : List AV := enc [.boo] [.b r]
theorem f_s_l1In_e (x0 : Int) (low1 : Int) (high2 : Int) : runFn S0.E f_s_l1In_M (asL (noL)) (S0.kl 32) Try.f32 (enc [.int .i64, .int .i64, .int .i64] [.i x0, .i low1, .i high2]) = f_s_l1In_k x0 low1 high2 (fun r => some (f_s_l1In_en r)) := by kernel_rfl
theorem f_s_l1In_ok (x0 : Int) (low1 : Int) (high2 : Int) (r : Bool) (h : f_s_l1In x0 low1 high2 = some r) : CL S0 32 (enc [.int .i64, .int .i64, .int .i64] [.i x0, .i low1, .i high2]) = some (f_s_l1In_en r) :=
  fn_true (Fk := fun k => f_s_l1In_k x0 low1 high2 k) (enc := f_s_l1In_en) Try.func32 rfl f_s_l1In_Mt (noL_true) f_s_l1In_o (f_s_l1In_e x0 low1 high2) (f_s_l1In_p x0 low1 high2) h
def f_s_l1In_c (args : List AV) : Option (Bool × List AV) := match dec [.int .i64, .int .i64, .int .i64] args with
  | some [.i x0, .i low1, .i high2] => some ((f_s_l1In x0 low1 high2).isSome, f_s_l1In_en ((f_s_l1In x0 low1 high2).getD false))
  | _ => none
theorem f_s_l1In_cc : CTrue S0 32 f_s_l1In_c := by
  intro args rs h
  unfold f_s_l1In_c at h
  split at h
  · rename_i hd
    rw [← dec_enc hd]
    exact rowC (f_s_l1In_ok _ _ _) h
  · cases h

def f_s_IsGroup_M : Calling := addC 32 f_s_l1In_c (noC)
theorem f_s_IsGroup_Mt : CallsTrue S0 f_s_IsGroup_M := addC_true f_s_l1In_cc (noC_true)
theorem f_s_IsGroup_o : loopsOnce Try.f29 = true := by kernel_rfl
def f_s_IsGroup_h0 : List Sh := [.u, .bp, .u, .int .i64, .int .i64, .u, .u, .u, .u, .u, .u, .u, .u, .u, .u, .u, .u, .u, .u, .u, .u, .u, .u, .u, .u, .u, .u, .u, .u, .u, .u, .u]
def f_s_IsGroup_fr0 (g1 : List Sc) (s : Int × Int) : List AV := enc f_s_IsGroup_h0 [.l g1, .i s.1, .i s.2]
def f_s_IsGroup_g0_1 : List Sh := [.u, .u, .u, .int .i64, .u, .u, .u, .u, .u, .u, .u, .u, .u, .u, .u, .u, .u, .u, .u, .u, .u, .u, .u, .u, .u, .u, .u, .u, .u, .u, .u, .u]
def f_s_IsGroup_x0_1 (g1 : List Sc) (e : Int) : X × List AV := (.out 0, enc f_s_IsGroup_g0_1 [.i e])
def f_s_IsGroup_g0_2 : List Sh := [.u, .u, .boo, .u, .u, .u, .u, .u, .u, .u, .u, .u, .u, .u, .u, .u, .u, .u, .u, .u, .u, .u, .u, .u, .u, .u, .u, .u, .u, .u, .u, .u]
def f_s_IsGroup_x0_2 (g1 : List Sc) (e : Unit) : X × List AV := (.ret, enc f_s_IsGroup_g0_2 [.b false])
theorem f_s_IsGroup_p0 {R : Type} (g1 : List Sc) (s : Int × Int) (kN : Int × Int → Option R) (kA : Int → Option R) (kB : Unit → Option R) : f_s_IsGroup_k0 g1 s.1 s.2 kN kA kB = (f_s_IsGroup_r0 g1 s).bind (Ro.el kN kA kB) := by
  simp only [f_s_IsGroup_k0, f_s_IsGroup_r0, brB, boB, someB, noneB, Ro.el]
theorem f_s_IsGroup_e0 (g1 : List Sc) (s : Int × Int) : EC S0.E f_s_IsGroup_M (asL (noL)) (S0.kl 29) 0 (bodyOf Try.f29 0) (f_s_IsGroup_fr0 g1 s) (done (S0.kl 29 0)) = f_s_IsGroup_k0 g1 s.1 s.2 (fun s => some (.norm, f_s_IsGroup_fr0 g1 s)) (fun e => some (f_s_IsGroup_x0_1 g1 e)) (fun e => some (f_s_IsGroup_x0_2 g1 e)) := by kernel_rfl
theorem f_s_IsGroup_l0 (g1 : List Sc) : ∀ s r, loopL (f_s_IsGroup_r0 g1) s = some r → LP S0 29 0 (bodyOf Try.f29 0) (f_s_IsGroup_fr0 g1 s) = some (enX (f_s_IsGroup_x0_1 g1) (f_s_IsGroup_x0_2 g1) r) :=
  loop_true f_s_IsGroup_Mt (noL_true) f_s_IsGroup_o (fun _ h => by cases h) (fun _ h => by cases h) (fun s => (f_s_IsGroup_e0 g1 s).trans (f_s_IsGroup_p0 g1 s _ _ (fun e => some (f_s_IsGroup_x0_2 g1 e))))
def f_s_IsGroup_t0 (σ : List AV) : Option (Bool × Bool × (X × List AV) × (X × List AV)) := match dec f_s_IsGroup_h0 σ with
  | some [.l g1, .i n3, .i i4] => some ((loopL (f_s_IsGroup_r0 g1) (n3, i4)).isSome, isOne (loopL (f_s_IsGroup_r0 g1) (n3, i4)), f_s_IsGroup_x0_1 g1 (getOne 0 (loopL (f_s_IsGroup_r0 g1) (n3, i4))), f_s_IsGroup_x0_2 g1 (getTwo () (loopL (f_s_IsGroup_r0 g1) (n3, i4))))
  | _ => none
theorem f_s_IsGroup_tt0 : TTrue S0 29 Try.f29 0 f_s_IsGroup_t0 := by
  intro σ p r r' h
  unfold f_s_IsGroup_t0 at h
  split at h
  · rename_i hd
    rw [← dec_enc hd]
    exact row2 (f_s_IsGroup_l0 _ _) h
  · cases h
theorem f_s_IsGroup_p {R : Type} (g0 : List Sc) (kR : Bool → Option R) : f_s_IsGroup_k g0 kR = (f_s_IsGroup g0).bind kR := by
  simp only [f_s_IsGroup_k, f_s_IsGroup, blB, someB]
def f_s_IsGroup_en (r : Bool) : List AV := enc [.boo] [.b r]
theorem f_s_IsGroup_e (g0 : List Sc) : runFn S0.E f_s_IsGroup_M (asL (addL 0 f_s_IsGroup_t0 (noL))) (S0.kl 29) Try.f29 (enc [.gr] [.l g0]) = f_s_IsGroup_k g0 (fun r => some (f_s_IsGroup_en r)) := by kernel_rfl
theorem f_s_IsGroup_ok (g0 : List Sc) (r : Bool) (h : f_s_IsGroup g0 = some r) : CL S0 29 (enc [.gr] [.l g0]) = some (f_s_IsGroup_en r) :=
  fn_true (Fk := fun k => f_s_IsGroup_k g0 k) (enc := f_s_IsGroup_en) Try.func29 rfl f_s_IsGroup_Mt (addL_true f_s_IsGroup_tt0 (noL_true)) f_s_IsGroup_o (f_s_IsGroup_e g0) (f_s_IsGroup_p g0) h
def f_s_IsGroup_c (args : List AV) : Option (Bool × List AV) := match dec [.gr] args with
  | some [.l g0] => some ((f_s_IsGroup g0).isSome, f_s_IsGroup_en ((f_s_IsGroup g0).getD false))
  | _ => none
theorem f_s_IsGroup_cc : CTrue S0 29 f_s_IsGroup_c := by
  intro args rs h
  unfold f_s_IsGroup_c at h
  split at h
  · rename_i hd
    rw [← dec_enc hd]
    exact rowC (f_s_IsGroup_ok _) h
  · cases h

def f_s_l2Order_M : Calling := noC
theorem f_s_l2Order_Mt : CallsTrue S0 f_s_l2Order_M := noC_true
theorem f_s_l2Order_o : loopsOnce Try.f30 = true := by kernel_rfl
def f_s_l2Order_h0 : List Sh := [.u, .bp, .u, .int .i64, .int .i64, .u, .u, .u, .u, .u, .u, .u, .u, .u, .u, .u, .u, .u, .u, .u]
def f_s_l2Order_fr0 (g1 : List Sc) (s : Int × Int) : List AV := enc f_s_l2Order_h0 [.l g1, .i s.1, .i s.2]
def f_s_l2Order_g0_1 : List Sh := [.u, .u, .u, .int .i64, .u, .u, .u, .u, .u, .u, .u, .u, .u, .u, .u, .u, .u, .u, .u, .u]
def f_s_l2Order_x0_1 (g1 : List Sc) (e : Int) : X × List AV := (.out 0, enc f_s_l2Order_g0_1 [.i e])
def f_s_l2Order_x0_2 (_ : List Sc) (_e : Unit) : X × List AV := (.ret, [])
theorem f_s_l2Order_p0 {R : Type} (g1 : List Sc) (s : Int × Int) (kN : Int × Int → Option R) (kA : Int → Option R) (kB : Unit → Option R) : f_s_l2Order_k0 g1 s.1 s.2 kN kA = (f_s_l2Order_r0 g1 s).bind (Ro.el kN kA kB) := by
  simp only [f_s_l2Order_k0, f_s_l2Order_r0, brB, someB, noneB, Ro.el]
theorem f_s_l2Order_e0 (g1 : List Sc) (s : Int × Int) : EC S0.E f_s_l2Order_M (asL (noL)) (S0.kl 30) 0 (bodyOf Try.f30 0) (f_s_l2Order_fr0 g1 s) (done (S0.kl 30 0)) = f_s_l2Order_k0 g1 s.1 s.2 (fun s => some (.norm, f_s_l2Order_fr0 g1 s)) (fun e => some (f_s_l2Order_x0_1 g1 e)) := by kernel_rfl
theorem f_s_l2Order_l0 (g1 : List Sc) : ∀ s r, loopL (f_s_l2Order_r0 g1) s = some r → LP S0 30 0 (bodyOf Try.f30 0) (f_s_l2Order_fr0 g1 s) = some (enX (f_s_l2Order_x0_1 g1) (f_s_l2Order_x0_2 g1) r) :=
  loop_true f_s_l2Order_Mt (noL_true) f_s_l2Order_o (fun _ h => by cases h) (fun _ h => by cases h) (fun s => (f_s_l2Order_e0 g1 s).trans (f_s_l2Order_p0 g1 s _ _ (fun e => some (f_s_l2Order_x0_2 g1 e))))
def f_s_l2Order_t0 (σ : List AV) : Option (Bool × Bool × (X × List AV) × (X × List AV)) := match dec f_s_l2Order_h0 σ with
  | some [.l g1, .i n3, .i i4] => some (isOne (loopL (f_s_l2Order_r0 g1) (n3, i4)), true, f_s_l2Order_x0_1 g1 (getOne 0 (loopL (f_s_l2Order_r0 g1) (n3, i4))), (.ret, []))
  | _ => none
theorem f_s_l2Order_tt0 : TTrue S0 30 Try.f30 0 f_s_l2Order_t0 := by
  intro σ p r r' h
  unfold f_s_l2Order_t0 at h
  split at h
  · rename_i hd
    rw [← dec_enc hd]
    exact row1 (f_s_l2Order_l0 _ _) h
  · cases h
theorem f_s_l2Order_p {R : Type} (g0 : List Sc) (kR : Int → Option R) : f_s_l2Order_k g0 kR = (f_s_l2Order g0).bind kR := by
  simp only [f_s_l2Order_k, f_s_l2Order, bl1B, someB]
def f_s_l2Order_en (r : Int) : List AV := enc [.int .i64] [.i r]
theorem f_s_l2Order_e (g0 : List Sc) : runFn S0.E f_s_l2Order_M (asL (addL 0 f_s_l2Order_t0 (noL))) (S0.kl 30) Try.f30 (enc [.gr] [.l g0]) = f_s_l2Order_k g0 (fun r => some (f_s_l2Order_en r)) := by kernel_rfl
theorem f_s_l2Order_ok (g0 : List Sc) (r : Int) (h : f_s_l2Order g0 = some r) : CL S0 30 (enc [.gr] [.l g0]) = some (f_s_l2Order_en r) :=
  fn_true (Fk := fun k => f_s_l2Order_k g0 k) (enc := f_s_l2Order_en) Try.func30 rfl f_s_l2Order_Mt (addL_true f_s_l2Order_tt0 (noL_true)) f_s_l2Order_o (f_s_l2Order_e g0) (f_s_l2Order_p g0) h
def f_s_l2Order_c (args : List AV) : Option (Bool × List AV) := match dec [.gr] args with
  | some [.l g0] => some ((f_s_l2Order g0).isSome, f_s_l2Order_en ((f_s_l2Order g0).getD 0))
  | _ => none
theorem f_s_l2Order_cc : CTrue S0 30 f_s_l2Order_c := by
  intro args rs h
  unfold f_s_l2Order_c at h
  split at h
  · rename_i hd
    rw [← dec_enc hd]
    exact rowC (f_s_l2Order_ok _) h
  · cases h

def f_s_MiddleThird_M : Calling := addC 29 f_s_IsGroup_c (addC 30 f_s_l2Order_c (noC))
theorem f_s_MiddleThird_Mt : CallsTrue S0 f_s_MiddleThird_M := addC_true f_s_IsGroup_cc (addC_true f_s_l2Order_cc (noC_true))
theorem f_s_MiddleThird_o : loopsOnce Try.f14 = true := by kernel_rfl
def f_s_MiddleThird_h0 : List Sh := [.u, .bp, .u, .int .i64, .int .i64, .int .i64, .u, .u, .u, .u, .u, .u, .u, .u, .u, .u, .u, .u, .u, .u, .u, .u, .u, .u, .u, .u, .u, .u, .u, .u, .u, .u, .u, .u, .u, .u, .u, .u]
def f_s_MiddleThird_fr0 (g1 : List Sc) (n3 : Int) (s : Int × Int) : List AV := enc f_s_MiddleThird_h0 [.l g1, .i n3, .i s.1, .i s.2]
def f_s_MiddleThird_g0_1 : List Sh := [.u, .u, .u, .u, .int .i64, .u, .u, .u, .u, .u, .u, .u, .u, .u, .u, .u, .u, .u, .u, .u, .u, .u, .u, .u, .u, .u, .u, .u, .u, .u, .u, .u, .u, .u, .u, .u, .u, .u]
def f_s_MiddleThird_x0_1 (g1 : List Sc) (n3 : Int) (e : Int) : X × List AV := (.out 0, enc f_s_MiddleThird_g0_1 [.i e])
def f_s_MiddleThird_x0_2 (_ : List Sc) (_ : Int) (_e : Unit) : X × List AV := (.ret, [])
theorem f_s_MiddleThird_p0 {R : Type} (g1 : List Sc) (n3 : Int) (s : Int × Int) (kN : Int × Int → Option R) (kA : Int → Option R) (kB : Unit → Option R) : f_s_MiddleThird_k0 g1 n3 s.1 s.2 kN kA = (f_s_MiddleThird_r0 g1 n3 s).bind (Ro.el kN kA kB) := by
  simp only [f_s_MiddleThird_k0, f_s_MiddleThird_r0, brB, someB, noneB, Ro.el]
theorem f_s_MiddleThird_e0 (g1 : List Sc) (n3 : Int) (s : Int × Int) : EC S0.E f_s_MiddleThird_M (asL (noL)) (S0.kl 14) 0 (bodyOf Try.f14 0) (f_s_MiddleThird_fr0 g1 n3 s) (done (S0.kl 14 0)) = f_s_MiddleThird_k0 g1 n3 s.1 s.2 (fun s => some (.norm, f_s_MiddleThird_fr0 g1 n3 s)) (fun e => some (f_s_MiddleThird_x0_1 g1 n3 e)) := by kernel_rfl
theorem f_s_MiddleThird_l0 (g1 : List Sc) (n3 : Int) : ∀ s r, loopL (f_s_MiddleThird_r0 g1 n3) s = some r → LP S0 14 0 (bodyOf Try.f14 0) (f_s_MiddleThird_fr0 g1 n3 s) = some (enX (f_s_MiddleThird_x0_1 g1 n3) (f_s_MiddleThird_x0_2 g1 n3) r) :=
  loop_true f_s_MiddleThird_Mt (noL_true) f_s_MiddleThird_o (fun _ h => by cases h) (fun _ h => by cases h) (fun s => (f_s_MiddleThird_e0 g1 n3 s).trans (f_s_MiddleThird_p0 g1 n3 s _ _ (fun e => some (f_s_MiddleThird_x0_2 g1 n3 e))))
def f_s_MiddleThird_t0 (σ : List AV) : Option (Bool × Bool × (X × List AV) × (X × List AV)) := match dec f_s_MiddleThird_h0 σ with
  | some [.l g1, .i n3, .i a4, .i x5] => some (isOne (loopL (f_s_MiddleThird_r0 g1 n3) (a4, x5)), true, f_s_MiddleThird_x0_1 g1 n3 (getOne 0 (loopL (f_s_MiddleThird_r0 g1 n3) (a4, x5))), (.ret, []))
  | _ => none
theorem f_s_MiddleThird_tt0 : TTrue S0 14 Try.f14 0 f_s_MiddleThird_t0 := by
  intro σ p r r' h
  unfold f_s_MiddleThird_t0 at h
  split at h
  · rename_i hd
    rw [← dec_enc hd]
    exact row1 (f_s_MiddleThird_l0 _ _ _) h
  · cases h
theorem f_s_MiddleThird_p {R : Type} (g0 : List Sc) (kR : Int → Option R) : f_s_MiddleThird_k g0 kR = (f_s_MiddleThird g0).bind kR := by
  simp only [f_s_MiddleThird_k, f_s_MiddleThird, brB, boB, bl1B, someB]
def f_s_MiddleThird_en (r : Int) : List AV := enc [.int .i64] [.i r]
theorem f_s_MiddleThird_e (g0 : List Sc) : runFn S0.E f_s_MiddleThird_M (asL (addL 0 f_s_MiddleThird_t0 (noL))) (S0.kl 14) Try.f14 (enc [.gr] [.l g0]) = f_s_MiddleThird_k g0 (fun r => some (f_s_MiddleThird_en r)) := by kernel_rfl
theorem f_s_MiddleThird_ok (g0 : List Sc) (r : Int) (h : f_s_MiddleThird g0 = some r) : CL S0 14 (enc [.gr] [.l g0]) = some (f_s_MiddleThird_en r) :=
  fn_true (Fk := fun k => f_s_MiddleThird_k g0 k) (enc := f_s_MiddleThird_en) Try.func14 rfl f_s_MiddleThird_Mt (addL_true f_s_MiddleThird_tt0 (noL_true)) f_s_MiddleThird_o (f_s_MiddleThird_e g0) (f_s_MiddleThird_p g0) h
def f_s_MiddleThird_c (args : List AV) : Option (Bool × List AV) := match dec [.gr] args with
  | some [.l g0] => some ((f_s_MiddleThird g0).isSome, f_s_MiddleThird_en ((f_s_MiddleThird g0).getD 0))
  | _ => none
theorem f_s_MiddleThird_cc : CTrue S0 14 f_s_MiddleThird_c := by
  intro args rs h
  unfold f_s_MiddleThird_c at h
  split at h
  · rename_i hd
    rw [← dec_enc hd]
    exact rowC (f_s_MiddleThird_ok _) h
  · cases h

def f_i_within_M : Calling := noC
theorem f_i_within_Mt : CallsTrue S0 f_i_within_M := noC_true
theorem f_i_within_o : loopsOnce Try.f34 = true := by kernel_rfl
theorem f_i_within_p {R : Type} (x0 : Int) (lo1 : Int) (hi2 : Int) (kR : Bool → Option R) : f_i_within_k x0 lo1 hi2 kR = (f_i_within x0 lo1 hi2).bind kR := by
  simp only [f_i_within_k, f_i_within, brB, someB]
def f_i_within_en (r : Bool) : List AV := enc [.boo] [.b r]
theorem f_i_within_e (x0 : Int) (lo1 : Int) (hi2 : Int) : runFn S0.E f_i_within_M (asL (noL)) (S0.kl 34) Try.f34 (enc [.int .i64, .int .i64, .int .i64] [.i x0, .i lo1, .i hi2]) = f_i_within_k x0 lo1 hi2 (fun r => some (f_i_within_en r)) := by kernel_rfl
theorem f_i_within_ok (x0 : Int) (lo1 : Int) (hi2 : Int) (r : Bool) (h : f_i_within x0 lo1 hi2 = some r) : CL S0 34 (enc [.int .i64, .int .i64, .int .i64] [.i x0, .i lo1, .i hi2]) = some (f_i_within_en r) :=
  fn_true (Fk := fun k => f_i_within_k x0 lo1 hi2 k) (enc := f_i_within_en) Try.func34 rfl f_i_within_Mt (noL_true) f_i_within_o (f_i_within_e x0 lo1 hi2) (f_i_within_p x0 lo1 hi2) h
def f_i_within_c (args : List AV) : Option (Bool × List AV) := match dec [.int .i64, .int .i64, .int .i64] args with
  | some [.i x0, .i lo1, .i hi2] => some ((f_i_within x0 lo1 hi2).isSome, f_i_within_en ((f_i_within x0 lo1 hi2).getD false))
  | _ => none
theorem f_i_within_cc : CTrue S0 34 f_i_within_c := by
  intro args rs h
  unfold f_i_within_c at h
  split at h
  · rename_i hd
    rw [← dec_enc hd]
    exact rowC (f_i_within_ok _ _ _) h
  · cases h

def f_i_IsGroup_M : Calling := addC 34 f_i_within_c (noC)
theorem f_i_IsGroup_Mt : CallsTrue S0 f_i_IsGroup_M := addC_true f_i_within_cc (noC_true)
theorem f_i_IsGroup_o : loopsOnce Try.f31 = true := by kernel_rfl
def f_i_IsGroup_h0 : List Sh := [.u, .u, .u, .int .i64, .u, .u, .u, .u, .u, .u, .u, .sl, .int .i64, .int .i64, .u, .u, .u, .u, .u, .u, .u, .u, .u, .u, .u, .u]
def f_i_IsGroup_fr0 (t11 : List Sc) (t12 : Int) (s : Int × Int) : List AV := enc f_i_IsGroup_h0 [.i s.1, .l t11, .i t12, .i s.2]
def f_i_IsGroup_g0_1 : List Sh := [.u, .u, .u, .int .i64, .u, .u, .u, .u, .u, .u, .u, .u, .u, .u, .u, .u, .u, .u, .u, .u, .u, .u, .u, .u, .u, .u]
def f_i_IsGroup_x0_1 (t11 : List Sc) (t12 : Int) (e : Int) : X × List AV := (.out 0, enc f_i_IsGroup_g0_1 [.i e])
def f_i_IsGroup_g0_2 : List Sh := [.u, .u, .boo, .u, .u, .u, .u, .u, .u, .u, .u, .u, .u, .u, .u, .u, .u, .u, .u, .u, .u, .u, .u, .u, .u, .u]
def f_i_IsGroup_x0_2 (t11 : List Sc) (t12 : Int) (e : Unit) : X × List AV := (.ret, enc f_i_IsGroup_g0_2 [.b false])
theorem f_i_IsGroup_p0 {R : Type} (t11 : List Sc) (t12 : Int) (s : Int × Int) (kN : Int × Int → Option R) (kA : Int → Option R) (kB : Unit → Option R) : f_i_IsGroup_k0 t11 t12 s.1 s.2 kN kA kB = (f_i_IsGroup_r0 t11 t12 s).bind (Ro.el kN kA kB) := by
  simp only [f_i_IsGroup_k0, f_i_IsGroup_r0, brB, boB, someB, noneB, Ro.el]
theorem f_i_IsGroup_e0 (t11 : List Sc) (t12 : Int) (s : Int × Int) : EC S0.E f_i_IsGroup_M (asL (noL)) (S0.kl 31) 0 (bodyOf Try.f31 0) (f_i_IsGroup_fr0 t11 t12 s) (done (S0.kl 31 0)) = f_i_IsGroup_k0 t11 t12 s.1 s.2 (fun s => some (.norm, f_i_IsGroup_fr0 t11 t12 s)) (fun e => some (f_i_IsGroup_x0_1 t11 t12 e)) (fun e => some (f_i_IsGroup_x0_2 t11 t12 e)) := by kernel_rfl
theorem f_i_IsGroup_l0 (t11 : List Sc) (t12 : Int) : ∀ s r, loopL (f_i_IsGroup_r0 t11 t12) s = some r → LP S0 31 0 (bodyOf Try.f31 0) (f_i_IsGroup_fr0 t11 t12 s) = some (enX (f_i_IsGroup_x0_1 t11 t12) (f_i_IsGroup_x0_2 t11 t12) r) :=
  loop_true f_i_IsGroup_Mt (noL_true) f_i_IsGroup_o (fun _ h => by cases h) (fun _ h => by cases h) (fun s => (f_i_IsGroup_e0 t11 t12 s).trans (f_i_IsGroup_p0 t11 t12 s _ _ (fun e => some (f_i_IsGroup_x0_2 t11 t12 e))))
def f_i_IsGroup_t0 (σ : List AV) : Option (Bool × Bool × (X × List AV) × (X × List AV)) := match dec f_i_IsGroup_h0 σ with
  | some [.i n3, .l t11, .i t12, .i t13] => some ((loopL (f_i_IsGroup_r0 t11 t12) (n3, t13)).isSome, isOne (loopL (f_i_IsGroup_r0 t11 t12) (n3, t13)), f_i_IsGroup_x0_1 t11 t12 (getOne 0 (loopL (f_i_IsGroup_r0 t11 t12) (n3, t13))), f_i_IsGroup_x0_2 t11 t12 (getTwo () (loopL (f_i_IsGroup_r0 t11 t12) (n3, t13))))
  | _ => none
theorem f_i_IsGroup_tt0 : TTrue S0 31 Try.f31 0 f_i_IsGroup_t0 := by
  intro σ p r r' h
  unfold f_i_IsGroup_t0 at h
  split at h
  · rename_i hd
    rw [← dec_enc hd]
    exact row2 (f_i_IsGroup_l0 _ _ _) h
  · cases h
theorem f_i_IsGroup_p {R : Type} (g0 : List Sc) (kR : Bool → Option R) : f_i_IsGroup_k g0 kR = (f_i_IsGroup g0).bind kR := by
  simp only [f_i_IsGroup_k, f_i_IsGroup, brB, blB, someB]
def f_i_IsGroup_en (r : Bool) : List AV := enc [.boo] [.b r]
theorem f_i_IsGroup_e (g0 : List Sc) : runFn S0.E f_i_IsGroup_M (asL (addL 0 f_i_IsGroup_t0 (noL))) (S0.kl 31) Try.f31 (enc [.gr] [.l g0]) = f_i_IsGroup_k g0 (fun r => some (f_i_IsGroup_en r)) := by kernel_rfl
theorem f_i_IsGroup_ok (g0 : List Sc) (r : Bool) (h : f_i_IsGroup g0 = some r) : CL S0 31 (enc [.gr] [.l g0]) = some (f_i_IsGroup_en r) :=
  fn_true (Fk := fun k => f_i_IsGroup_k g0 k) (enc := f_i_IsGroup_en) Try.func31 rfl f_i_IsGroup_Mt (addL_true f_i_IsGroup_tt0 (noL_true)) f_i_IsGroup_o (f_i_IsGroup_e g0) (f_i_IsGroup_p g0) h
def f_i_IsGroup_c (args : List AV) : Option (Bool × List AV) := match dec [.gr] args with
  | some [.l g0] => some ((f_i_IsGroup g0).isSome, f_i_IsGroup_en ((f_i_IsGroup g0).getD false))
  | _ => none
theorem f_i_IsGroup_cc : CTrue S0 31 f_i_IsGroup_c := by
  intro args rs h
  unfold f_i_IsGroup_c at h
  split at h
  · rename_i hd
    rw [← dec_enc hd]
    exact rowC (f_i_IsGroup_ok _) h
  · cases h

def f_i_MiddleThird_M : Calling := addC 31 f_i_IsGroup_c (noC)
theorem f_i_MiddleThird_Mt : CallsTrue S0 f_i_MiddleThird_M := addC_true f_i_IsGroup_cc (noC_true)
theorem f_i_MiddleThird_o : loopsOnce Try.f16 = true := by kernel_rfl
def f_i_MiddleThird_h0 : List Sh := [.u, .u, .u, .int .i64, .int .i64, .u, .u, .u, .u, .u, .u, .u, .u, .u, .u, .u, .u, .int .i64, .int .i64, .u, .u, .u, .u, .u, .u, .u, .u, .u, .u, .u, .u, .u, .u, .u, .u, .u, .u, .u]
def f_i_MiddleThird_fr0 (n4 : Int) (t17 : Int) (s : Int × Int) : List AV := enc f_i_MiddleThird_h0 [.i s.1, .i n4, .i t17, .i s.2]
def f_i_MiddleThird_g0_1 : List Sh := [.u, .u, .u, .int .i64, .u, .u, .u, .u, .u, .u, .u, .u, .u, .u, .u, .u, .u, .u, .u, .u, .u, .u, .u, .u, .u, .u, .u, .u, .u, .u, .u, .u, .u, .u, .u, .u, .u, .u]
def f_i_MiddleThird_x0_1 (n4 : Int) (t17 : Int) (e : Int) : X × List AV := (.out 0, enc f_i_MiddleThird_g0_1 [.i e])
def f_i_MiddleThird_x0_2 (_ : Int) (_ : Int) (_e : Unit) : X × List AV := (.ret, [])
theorem f_i_MiddleThird_p0 {R : Type} (n4 : Int) (t17 : Int) (s : Int × Int) (kN : Int × Int → Option R) (kA : Int → Option R) (kB : Unit → Option R) : f_i_MiddleThird_k0 n4 t17 s.1 s.2 kN kA = (f_i_MiddleThird_r0 n4 t17 s).bind (Ro.el kN kA kB) := by
  simp only [f_i_MiddleThird_k0, f_i_MiddleThird_r0, brB, someB, noneB, Ro.el]
theorem f_i_MiddleThird_e0 (n4 : Int) (t17 : Int) (s : Int × Int) : EC S0.E f_i_MiddleThird_M (asL (noL)) (S0.kl 16) 0 (bodyOf Try.f16 0) (f_i_MiddleThird_fr0 n4 t17 s) (done (S0.kl 16 0)) = f_i_MiddleThird_k0 n4 t17 s.1 s.2 (fun s => some (.norm, f_i_MiddleThird_fr0 n4 t17 s)) (fun e => some (f_i_MiddleThird_x0_1 n4 t17 e)) := by kernel_rfl
theorem f_i_MiddleThird_l0 (n4 : Int) (t17 : Int) : ∀ s r, loopL (f_i_MiddleThird_r0 n4 t17) s = some r → LP S0 16 0 (bodyOf Try.f16 0) (f_i_MiddleThird_fr0 n4 t17 s) = some (enX (f_i_MiddleThird_x0_1 n4 t17) (f_i_MiddleThird_x0_2 n4 t17) r) :=
  loop_true f_i_MiddleThird_Mt (noL_true) f_i_MiddleThird_o (fun _ h => by cases h) (fun _ h => by cases h) (fun s => (f_i_MiddleThird_e0 n4 t17 s).trans (f_i_MiddleThird_p0 n4 t17 s _ _ (fun e => some (f_i_MiddleThird_x0_2 n4 t17 e))))
def f_i_MiddleThird_t0 (σ : List AV) : Option (Bool × Bool × (X × List AV) × (X × List AV)) := match dec f_i_MiddleThird_h0 σ with
  | some [.i out3, .i n4, .i t17, .i t18] => some (isOne (loopL (f_i_MiddleThird_r0 n4 t17) (out3, t18)), true, f_i_MiddleThird_x0_1 n4 t17 (getOne 0 (loopL (f_i_MiddleThird_r0 n4 t17) (out3, t18))), (.ret, []))
  | _ => none
theorem f_i_MiddleThird_tt0 : TTrue S0 16 Try.f16 0 f_i_MiddleThird_t0 := by
  intro σ p r r' h
  unfold f_i_MiddleThird_t0 at h
  split at h
  · rename_i hd
    rw [← dec_enc hd]
    exact row1 (f_i_MiddleThird_l0 _ _ _) h
  · cases h
theorem f_i_MiddleThird_p {R : Type} (g0 : List Sc) (kR : Int → Option R) : f_i_MiddleThird_k g0 kR = (f_i_MiddleThird g0).bind kR := by
  simp only [f_i_MiddleThird_k, f_i_MiddleThird, brB, boB, bl1B, someB, noneB]
def f_i_MiddleThird_en (r : Int) : List AV := enc [.int .i64] [.i r]
theorem f_i_MiddleThird_e (g0 : List Sc) : runFn S0.E f_i_MiddleThird_M (asL (addL 0 f_i_MiddleThird_t0 (noL))) (S0.kl 16) Try.f16 (enc [.gr] [.l g0]) = f_i_MiddleThird_k g0 (fun r => some (f_i_MiddleThird_en r)) := by kernel_rfl
theorem f_i_MiddleThird_ok (g0 : List Sc) (r : Int) (h : f_i_MiddleThird g0 = some r) : CL S0 16 (enc [.gr] [.l g0]) = some (f_i_MiddleThird_en r) :=
  fn_true (Fk := fun k => f_i_MiddleThird_k g0 k) (enc := f_i_MiddleThird_en) Try.func16 rfl f_i_MiddleThird_Mt (addL_true f_i_MiddleThird_tt0 (noL_true)) f_i_MiddleThird_o (f_i_MiddleThird_e g0) (f_i_MiddleThird_p g0) h
def f_i_MiddleThird_c (args : List AV) : Option (Bool × List AV) := match dec [.gr] args with
  | some [.l g0] => some ((f_i_MiddleThird g0).isSome, f_i_MiddleThird_en ((f_i_MiddleThird g0).getD 0))
  | _ => none
theorem f_i_MiddleThird_cc : CTrue S0 16 f_i_MiddleThird_c := by
  intro args rs h
  unfold f_i_MiddleThird_c at h
  split at h
  · rename_i hd
    rw [← dec_enc hd]
    exact rowC (f_i_MiddleThird_ok _) h
  · cases h

def f_l_eqGroup_M : Calling := addC 12 f_l_eqIntS_c (noC)
theorem f_l_eqGroup_Mt : CallsTrue S0 f_l_eqGroup_M := addC_true f_l_eqIntS_cc (noC_true)
theorem f_l_eqGroup_o : loopsOnce Try.f17 = true := by kernel_rfl
theorem f_l_eqGroup_p {R : Type} (a0 : List Sc) (b1 : List Sc) (kR : Bool → Option R) : f_l_eqGroup_k a0 b1 kR = (f_l_eqGroup a0 b1).bind kR := by
  simp only [f_l_eqGroup_k, f_l_eqGroup, brB, boB, someB]
def f_l_eqGroup_en (r : Bool) : List AV := enc [.boo] [.b r]
theorem f_l_eqGroup_e (a0 : List Sc) (b1 : List Sc) : runFn S0.E f_l_eqGroup_M (asL (noL)) (S0.kl 17) Try.f17 (enc [.gr, .gr] [.l a0, .l b1]) = f_l_eqGroup_k a0 b1 (fun r => some (f_l_eqGroup_en r)) := by kernel_rfl
theorem f_l_eqGroup_ok (a0 : List Sc) (b1 : List Sc) (r : Bool) (h : f_l_eqGroup a0 b1 = some r) : CL S0 17 (enc [.gr, .gr] [.l a0, .l b1]) = some (f_l_eqGroup_en r) :=
  fn_true (Fk := fun k => f_l_eqGroup_k a0 b1 k) (enc := f_l_eqGroup_en) Try.func17 rfl f_l_eqGroup_Mt (noL_true) f_l_eqGroup_o (f_l_eqGroup_e a0 b1) (f_l_eqGroup_p a0 b1) h
def f_l_eqGroup_c (args : List AV) : Option (Bool × List AV) := match dec [.gr, .gr] args with
  | some [.l a0, .l b1] => some ((f_l_eqGroup a0 b1).isSome, f_l_eqGroup_en ((f_l_eqGroup a0 b1).getD false))
  | _ => none
theorem f_l_eqGroup_cc : CTrue S0 17 f_l_eqGroup_c := by
  intro args rs h
  unfold f_l_eqGroup_c at h
  split at h
  · rename_i hd
    rw [← dec_enc hd]
    exact rowC (f_l_eqGroup_ok _ _) h
  · cases h

def f_l_FnExactMiddleThird_M : Calling := addC 13 f_l_szGroup_c (addC 15 f_l_toGroup_c (addC 14 f_s_MiddleThird_c (addC 16 f_i_MiddleThird_c (addC 17 f_l_eqGroup_c (noC)))))
theorem f_l_FnExactMiddleThird_Mt : CallsTrue S0 f_l_FnExactMiddleThird_M := addC_true f_l_szGroup_cc (addC_true f_l_toGroup_cc (addC_true f_s_MiddleThird_cc (addC_true f_i_MiddleThird_cc (addC_true f_l_eqGroup_cc (noC_true)))))
theorem f_l_FnExactMiddleThird_o : loopsOnce Try.f4 = true := by kernel_rfl
theorem f_l_FnExactMiddleThird_p {R : Type} (aG0 : List Sc) (kR : Bool → Option R) : f_l_FnExactMiddleThird_k aG0 kR = (f_l_FnExactMiddleThird aG0).bind kR := by
  simp only [f_l_FnExactMiddleThird_k, f_l_FnExactMiddleThird, brB, boB, someB, noneB]
def f_l_FnExactMiddleThird_en (r : Bool) : List AV := enc [.boo] [.b r]
theorem f_l_FnExactMiddleThird_e (aG0 : List Sc) : runFn S0.E f_l_FnExactMiddleThird_M (asL (noL)) (S0.kl 4) Try.f4 (enc [.gr] [.l aG0]) = f_l_FnExactMiddleThird_k aG0 (fun r => some (f_l_FnExactMiddleThird_en r)) := by kernel_rfl
theorem f_l_FnExactMiddleThird_ok (aG0 : List Sc) (r : Bool) (h : f_l_FnExactMiddleThird aG0 = some r) : CL S0 4 (enc [.gr] [.l aG0]) = some (f_l_FnExactMiddleThird_en r) :=
  fn_true (Fk := fun k => f_l_FnExactMiddleThird_k aG0 k) (enc := f_l_FnExactMiddleThird_en) Try.func4 rfl f_l_FnExactMiddleThird_Mt (noL_true) f_l_FnExactMiddleThird_o (f_l_FnExactMiddleThird_e aG0) (f_l_FnExactMiddleThird_p aG0) h
def f_l_FnExactMiddleThird_c (args : List AV) : Option (Bool × List AV) := match dec [.gr] args with
  | some [.l aG0] => some ((f_l_FnExactMiddleThird aG0).isSome, f_l_FnExactMiddleThird_en ((f_l_FnExactMiddleThird aG0).getD false))
  | _ => none
theorem f_l_FnExactMiddleThird_cc : CTrue S0 4 f_l_FnExactMiddleThird_c := by
  intro args rs h
  unfold f_l_FnExactMiddleThird_c at h
  split at h
  · rename_i hd
    rw [← dec_enc hd]
    exact rowC (f_l_FnExactMiddleThird_ok _) h
  · cases h

def f_s_l16Part_M : Calling := noC
theorem f_s_l16Part_Mt : CallsTrue S0 f_s_l16Part_M := noC_true
theorem f_s_l16Part_o : loopsOnce Try.f33 = true := by kernel_rfl
def f_s_l16Part_h0 : List Sh := [.sl, .int .i64, .u, .u, .u, .own 3, .int .i64, .u, .u, .u, .u, .u, .u, .u, .u, .u, .u, .u, .u, .u, .u, .u, .u, .u, .u, .u, .u]
def f_s_l16Part_fr0 (l0 : List Sc) (code1 : Int) (s : List Sc × Int) : List AV := enc f_s_l16Part_h0 [.l l0, .i code1, .l s.1, .i s.2]
def f_s_l16Part_g0_1 : List Sh := [.u, .u, .u, .u, .u, .own 3, .u, .u, .u, .u, .u, .u, .u, .u, .u, .u, .u, .u, .u, .u, .u, .u, .u, .u, .u, .u, .u]
def f_s_l16Part_x0_1 (l0 : List Sc) (code1 : Int) (e : List Sc) : X × List AV := (.out 0, enc f_s_l16Part_g0_1 [.l e])
def f_s_l16Part_x0_2 (_ : List Sc) (_ : Int) (_e : Unit) : X × List AV := (.ret, [])
theorem f_s_l16Part_p0 {R : Type} (l0 : List Sc) (code1 : Int) (s : List Sc × Int) (kN : List Sc × Int → Option R) (kA : List Sc → Option R) (kB : Unit → Option R) : f_s_l16Part_k0 l0 code1 s.1 s.2 kN kA = (f_s_l16Part_r0 l0 code1 s).bind (Ro.el kN kA kB) := by
  simp only [f_s_l16Part_k0, f_s_l16Part_r0, brB, someB, noneB, Ro.el]
theorem f_s_l16Part_e0 (l0 : List Sc) (code1 : Int) (s : List Sc × Int) : EC S0.E f_s_l16Part_M (asL (noL)) (S0.kl 33) 0 (bodyOf Try.f33 0) (f_s_l16Part_fr0 l0 code1 s) (done (S0.kl 33 0)) = f_s_l16Part_k0 l0 code1 s.1 s.2 (fun s => some (.norm, f_s_l16Part_fr0 l0 code1 s)) (fun e => some (f_s_l16Part_x0_1 l0 code1 e)) := by kernel_rfl
theorem f_s_l16Part_l0 (l0 : List Sc) (code1 : Int) : ∀ s r, loopL (f_s_l16Part_r0 l0 code1) s = some r → LP S0 33 0 (bodyOf Try.f33 0) (f_s_l16Part_fr0 l0 code1 s) = some (enX (f_s_l16Part_x0_1 l0 code1) (f_s_l16Part_x0_2 l0 code1) r) :=
  loop_true f_s_l16Part_Mt (noL_true) f_s_l16Part_o (fun _ h => by cases h) (fun _ h => by cases h) (fun s => (f_s_l16Part_e0 l0 code1 s).trans (f_s_l16Part_p0 l0 code1 s _ _ (fun e => some (f_s_l16Part_x0_2 l0 code1 e))))
def f_s_l16Part_t0 (σ : List AV) : Option (Bool × Bool × (X × List AV) × (X × List AV)) := match dec f_s_l16Part_h0 σ with
  | some [.l l0, .i code1, .l out5, .i i6] => some (isOne (loopL (f_s_l16Part_r0 l0 code1) (out5, i6)), true, f_s_l16Part_x0_1 l0 code1 (getOne [] (loopL (f_s_l16Part_r0 l0 code1) (out5, i6))), (.ret, []))
  | _ => none
theorem f_s_l16Part_tt0 : TTrue S0 33 Try.f33 0 f_s_l16Part_t0 := by
  intro σ p r r' h
  unfold f_s_l16Part_t0 at h
  split at h
  · rename_i hd
    rw [← dec_enc hd]
    exact row1 (f_s_l16Part_l0 _ _ _) h
  · cases h
theorem f_s_l16Part_p {R : Type} (l0 : List Sc) (code1 : Int) (kR : List Sc → Option R) : f_s_l16Part_k l0 code1 kR = (f_s_l16Part l0 code1).bind kR := by
  simp only [f_s_l16Part_k, f_s_l16Part, bl1B, someB]
def f_s_l16Part_en (r : List Sc) : List AV := enc [.own 3] [.l r]
theorem f_s_l16Part_e (l0 : List Sc) (code1 : Int) : runFn S0.E f_s_l16Part_M (asL (addL 0 f_s_l16Part_t0 (noL))) (S0.kl 33) Try.f33 (enc [.sl, .int .i64] [.l l0, .i code1]) = f_s_l16Part_k l0 code1 (fun r => some (f_s_l16Part_en r)) := by kernel_rfl
theorem f_s_l16Part_ok (l0 : List Sc) (code1 : Int) (r : List Sc) (h : f_s_l16Part l0 code1 = some r) : CL S0 33 (enc [.sl, .int .i64] [.l l0, .i code1]) = some (f_s_l16Part_en r) :=
  fn_true (Fk := fun k => f_s_l16Part_k l0 code1 k) (enc := f_s_l16Part_en) Try.func33 rfl f_s_l16Part_Mt (addL_true f_s_l16Part_tt0 (noL_true)) f_s_l16Part_o (f_s_l16Part_e l0 code1) (f_s_l16Part_p l0 code1) h
def f_s_l16Part_c (args : List AV) : Option (Bool × List AV) := match dec [.sl, .int .i64] args with
  | some [.l l0, .i code1] => some ((f_s_l16Part l0 code1).isSome, f_s_l16Part_en ((f_s_l16Part l0 code1).getD []))
  | _ => none
theorem f_s_l16Part_cc : CTrue S0 33 f_s_l16Part_c := by
  intro args rs h
  unfold f_s_l16Part_c at h
  split at h
  · rename_i hd
    rw [← dec_enc hd]
    exact rowC (f_s_l16Part_ok _ _) h
  · cases h

def f_s_EgzPart_M : Calling := addC 32 f_s_l1In_c (addC 33 f_s_l16Part_c (noC))
theorem f_s_EgzPart_Mt : CallsTrue S0 f_s_EgzPart_M := addC_true f_s_l1In_cc (addC_true f_s_l16Part_cc (noC_true))
theorem f_s_EgzPart_o : loopsOnce Try.f18 = true := by kernel_rfl
def f_s_EgzPart_h0 : List Sh := [.sl, .int .i64, .u, .u, .u, .u, .int .i64, .u, .u, .u, .u, .u, .u, .u, .u, .u, .u, .u, .u, .u, .u, .u, .u, .u, .u, .u, .u, .u, .u, .u, .u, .u, .u, .u, .u, .u, .u, .u, .u, .u, .u, .u, .u, .u, .u, .u, .u, .u, .u, .u, .u, .u, .u, .u, .u, .u, .u, .u, .u, .u, .u, .u, .u, .u, .u, .u, .u, .u, .u, .u, .u]
def f_s_EgzPart_fr0 (L0 : List Sc) (t1 : Int) (s : Int) : List AV := enc f_s_EgzPart_h0 [.l L0, .i t1, .i s]
def f_s_EgzPart_g0_1 : List Sh := [.sl, .int .i64, .u, .u, .u, .u, .u, .u, .u, .u, .u, .u, .u, .u, .u, .u, .u, .u, .u, .u, .u, .u, .u, .u, .u, .u, .u, .u, .u, .u, .u, .u, .u, .u, .u, .u, .u, .u, .u, .u, .u, .u, .u, .u, .u, .u, .u, .u, .u, .u, .u, .u, .u, .u, .u, .u, .u, .u, .u, .u, .u, .u, .u, .u, .u, .u, .u, .u, .u, .u, .u]
def f_s_EgzPart_x0_1 (L0 : List Sc) (t1 : Int) (e : Unit) : X × List AV := (.out 0, enc f_s_EgzPart_g0_1 [.l L0, .i t1])
def f_s_EgzPart_g0_2 : List Sh := [.u, .u, .u, .u, .own 3, .boo, .u, .u, .u, .u, .u, .u, .u, .u, .u, .u, .u, .u, .u, .u, .u, .u, .u, .u, .u, .u, .u, .u, .u, .u, .u, .u, .u, .u, .u, .u, .u, .u, .u, .u, .u, .u, .u, .u, .u, .u, .u, .u, .u, .u, .u, .u, .u, .u, .u, .u, .u, .u, .u, .u, .u, .u, .u, .u, .u, .u, .u, .u, .u, .u, .u]
def f_s_EgzPart_x0_2 (L0 : List Sc) (t1 : Int) (e : List Sc) : X × List AV := (.ret, enc f_s_EgzPart_g0_2 [.l e, .b false])
theorem f_s_EgzPart_p0 {R : Type} (L0 : List Sc) (t1 : Int) (s : Int) (kN : Int → Option R) (kA : Unit → Option R) (kB : List Sc → Option R) : f_s_EgzPart_k0 L0 t1 s kN kA kB = (f_s_EgzPart_r0 L0 t1 s).bind (Ro.el kN kA kB) := by
  simp only [f_s_EgzPart_k0, f_s_EgzPart_r0, brB, boB, someB, noneB, Ro.el]
theorem f_s_EgzPart_e0 (L0 : List Sc) (t1 : Int) (s : Int) : EC S0.E f_s_EgzPart_M (asL (noL)) (S0.kl 18) 0 (bodyOf Try.f18 0) (f_s_EgzPart_fr0 L0 t1 s) (done (S0.kl 18 0)) = f_s_EgzPart_k0 L0 t1 s (fun s => some (.norm, f_s_EgzPart_fr0 L0 t1 s)) (fun e => some (f_s_EgzPart_x0_1 L0 t1 e)) (fun e => some (f_s_EgzPart_x0_2 L0 t1 e)) := by kernel_rfl
theorem f_s_EgzPart_l0 (L0 : List Sc) (t1 : Int) : ∀ s r, loopL (f_s_EgzPart_r0 L0 t1) s = some r → LP S0 18 0 (bodyOf Try.f18 0) (f_s_EgzPart_fr0 L0 t1 s) = some (enX (f_s_EgzPart_x0_1 L0 t1) (f_s_EgzPart_x0_2 L0 t1) r) :=
  loop_true f_s_EgzPart_Mt (noL_true) f_s_EgzPart_o (fun _ h => by cases h) (fun _ h => by cases h) (fun s => (f_s_EgzPart_e0 L0 t1 s).trans (f_s_EgzPart_p0 L0 t1 s _ _ (fun e => some (f_s_EgzPart_x0_2 L0 t1 e))))
def f_s_EgzPart_t0 (σ : List AV) : Option (Bool × Bool × (X × List AV) × (X × List AV)) := match dec f_s_EgzPart_h0 σ with
  | some [.l L0, .i t1, .i t6] => some ((loopL (f_s_EgzPart_r0 L0 t1) t6).isSome, isOne (loopL (f_s_EgzPart_r0 L0 t1) t6), f_s_EgzPart_x0_1 L0 t1 (getOne () (loopL (f_s_EgzPart_r0 L0 t1) t6)), f_s_EgzPart_x0_2 L0 t1 (getTwo [] (loopL (f_s_EgzPart_r0 L0 t1) t6)))
  | _ => none
theorem f_s_EgzPart_tt0 : TTrue S0 18 Try.f18 0 f_s_EgzPart_t0 := by
  intro σ p r r' h
  unfold f_s_EgzPart_t0 at h
  split at h
  · rename_i hd
    rw [← dec_enc hd]
    exact row2 (f_s_EgzPart_l0 _ _ _) h
  · cases h
def f_s_EgzPart_h4 : List Sh := [.sl, .int .i64, .u, .u, .u, .u, .u, .int .i64, .int .i64, .own 3, .int .i64, .u, .u, .u, .u, .u, .u, .u, .u, .u, .u, .u, .u, .u, .u, .u, .u, .u, .u, .u, .u, .u, .u, .u, .u, .u, .u, .u, .u, .u, .u, .u, .u, .u, .u, .u, .u, .u, .u, .u, .u, .u, .u, .u, .u, .u, .u, .u, .u, .u, .u, .u, .u, .u, .u, .u, .u, .u, .u, .u, .u]
def f_s_EgzPart_fr4 (L0 : List Sc) (t1 : Int) (t7 : Int) (s : Int × List Sc × Int) : List AV := enc f_s_EgzPart_h4 [.l L0, .i t1, .i t7, .i s.1, .l s.2.1, .i s.2.2]
def f_s_EgzPart_g4_1 : List Sh := [.sl, .int .i64, .u, .u, .u, .u, .u, .int .i64, .int .i64, .own 3, .u, .u, .u, .u, .u, .u, .u, .u, .u, .u, .u, .u, .u, .u, .u, .u, .u, .u, .u, .u, .u, .u, .u, .u, .u, .u, .u, .u, .u, .u, .u, .u, .u, .u, .u, .u, .u, .u, .u, .u, .u, .u, .u, .u, .u, .u, .u, .u, .u, .u, .u, .u, .u, .u, .u, .u, .u, .u, .u, .u, .u]
def f_s_EgzPart_x4_1 (L0 : List Sc) (t1 : Int) (t7 : Int) (e : Int × List Sc) : X × List AV := (.out 4, enc f_s_EgzPart_g4_1 [.l L0, .i t1, .i t7, .i e.1, .l e.2])
def f_s_EgzPart_x4_2 (_ : List Sc) (_ : Int) (_ : Int) (_e : Unit) : X × List AV := (.ret, [])
theorem f_s_EgzPart_p4 {R : Type} (L0 : List Sc) (t1 : Int) (t7 : Int) (s : Int × List Sc × Int) (kN : Int × List Sc × Int → Option R) (kA : Int × List Sc → Option R) (kB : Unit → Option R) : f_s_EgzPart_k4 L0 t1 t7 s.1 s.2.1 s.2.2 kN kA = (f_s_EgzPart_r4 L0 t1 t7 s).bind (Ro.el kN kA kB) := by
  simp only [f_s_EgzPart_k4, f_s_EgzPart_r4, brB, someB, noneB, Ro.el]
theorem f_s_EgzPart_e4 (L0 : List Sc) (t1 : Int) (t7 : Int) (s : Int × List Sc × Int) : EC S0.E f_s_EgzPart_M (asL (addL 0 f_s_EgzPart_t0 (noL))) (S0.kl 18) 4 (bodyOf Try.f18 4) (f_s_EgzPart_fr4 L0 t1 t7 s) (done (S0.kl 18 4)) = f_s_EgzPart_k4 L0 t1 t7 s.1 s.2.1 s.2.2 (fun s => some (.norm, f_s_EgzPart_fr4 L0 t1 t7 s)) (fun e => some (f_s_EgzPart_x4_1 L0 t1 t7 e)) := by kernel_rfl
theorem f_s_EgzPart_l4 (L0 : List Sc) (t1 : Int) (t7 : Int) : ∀ s r, loopL (f_s_EgzPart_r4 L0 t1 t7) s = some r → LP S0 18 4 (bodyOf Try.f18 4) (f_s_EgzPart_fr4 L0 t1 t7 s) = some (enX (f_s_EgzPart_x4_1 L0 t1 t7) (f_s_EgzPart_x4_2 L0 t1 t7) r) :=
  loop_true f_s_EgzPart_Mt (addL_true f_s_EgzPart_tt0 (noL_true)) f_s_EgzPart_o (fun _ h => by cases h) (fun _ h => by cases h) (fun s => (f_s_EgzPart_e4 L0 t1 t7 s).trans (f_s_EgzPart_p4 L0 t1 t7 s _ _ (fun e => some (f_s_EgzPart_x4_2 L0 t1 t7 e))))
def f_s_EgzPart_t4 (σ : List AV) : Option (Bool × Bool × (X × List AV) × (X × List AV)) := match dec f_s_EgzPart_h4 σ with
  | some [.l L0, .i t1, .i t7, .i t8, .l t9, .i t10] => some (isOne (loopL (f_s_EgzPart_r4 L0 t1 t7) (t8, t9, t10)), true, f_s_EgzPart_x4_1 L0 t1 t7 (getOne (0, []) (loopL (f_s_EgzPart_r4 L0 t1 t7) (t8, t9, t10))), (.ret, []))
  | _ => none
theorem f_s_EgzPart_tt4 : TTrue S0 18 Try.f18 4 f_s_EgzPart_t4 := by
  intro σ p r r' h
  unfold f_s_EgzPart_t4 at h
  split at h
  · rename_i hd
    rw [← dec_enc hd]
    exact row1 (f_s_EgzPart_l4 _ _ _ _) h
  · cases h
def f_s_EgzPart_h2 : List Sh := [.sl, .int .i64, .u, .u, .u, .u, .u, .int .i64, .u, .u, .u, .u, .u, .u, .u, .u, .u, .u, .u, .u, .u, .u, .u, .u, .u, .u, .u, .u, .u, .u, .u, .u, .u, .u, .u, .u, .u, .u, .u, .u, .u, .u, .u, .u, .u, .u, .u, .u, .u, .u, .u, .u, .u, .u, .u, .u, .u, .u, .u, .u, .u, .u, .u, .u, .u, .u, .u, .u, .u, .u, .u]
def f_s_EgzPart_fr2 (L0 : List Sc) (t1 : Int) (s : Int) : List AV := enc f_s_EgzPart_h2 [.l L0, .i t1, .i s]
def f_s_EgzPart_g2_1 : List Sh := [.sl, .int .i64, .u, .u, .u, .u, .u, .int .i64, .u, .u, .u, .u, .u, .u, .u, .u, .u, .u, .u, .u, .u, .u, .u, .u, .u, .u, .u, .u, .u, .u, .u, .u, .u, .u, .u, .u, .u, .u, .u, .u, .u, .u, .u, .u, .u, .u, .u, .u, .u, .u, .u, .u, .u, .u, .u, .u, .u, .u, .u, .u, .u, .u, .u, .u, .u, .u, .u, .u, .u, .u, .u]
def f_s_EgzPart_x2_1 (L0 : List Sc) (t1 : Int) (e : Int) : X × List AV := (.out 2, enc f_s_EgzPart_g2_1 [.l L0, .i t1, .i e])
def f_s_EgzPart_g2_2 : List Sh := [.u, .u, .u, .u, .own 3, .boo, .u, .u, .u, .u, .u, .u, .u, .u, .u, .u, .u, .u, .u, .u, .u, .u, .u, .u, .u, .u, .u, .u, .u, .u, .u, .u, .u, .u, .u, .u, .u, .u, .u, .u, .u, .u, .u, .u, .u, .u, .u, .u, .u, .u, .u, .u, .u, .u, .u, .u, .u, .u, .u, .u, .u, .u, .u, .u, .u, .u, .u, .u, .u, .u, .u]
def f_s_EgzPart_x2_2 (L0 : List Sc) (t1 : Int) (e : List Sc) : X × List AV := (.ret, enc f_s_EgzPart_g2_2 [.l e, .b true])
theorem f_s_EgzPart_p2 {R : Type} (L0 : List Sc) (t1 : Int) (s : Int) (kN : Int → Option R) (kA : Int → Option R) (kB : List Sc → Option R) : f_s_EgzPart_k2 L0 t1 s kN kA kB = (f_s_EgzPart_r2 L0 t1 s).bind (Ro.el kN kA kB) := by
  simp only [f_s_EgzPart_k2, f_s_EgzPart_r2, brB, boB, bl1B, someB, noneB, Ro.el]
theorem f_s_EgzPart_e2 (L0 : List Sc) (t1 : Int) (s : Int) : EC S0.E f_s_EgzPart_M (asL (addL 4 f_s_EgzPart_t4 (addL 0 f_s_EgzPart_t0 (noL)))) (S0.kl 18) 2 (bodyOf Try.f18 2) (f_s_EgzPart_fr2 L0 t1 s) (done (S0.kl 18 2)) = f_s_EgzPart_k2 L0 t1 s (fun s => some (.norm, f_s_EgzPart_fr2 L0 t1 s)) (fun e => some (f_s_EgzPart_x2_1 L0 t1 e)) (fun e => some (f_s_EgzPart_x2_2 L0 t1 e)) := by kernel_rfl
theorem f_s_EgzPart_l2 (L0 : List Sc) (t1 : Int) : ∀ s r, loopL (f_s_EgzPart_r2 L0 t1) s = some r → LP S0 18 2 (bodyOf Try.f18 2) (f_s_EgzPart_fr2 L0 t1 s) = some (enX (f_s_EgzPart_x2_1 L0 t1) (f_s_EgzPart_x2_2 L0 t1) r) :=
  loop_true f_s_EgzPart_Mt (addL_true f_s_EgzPart_tt4 (addL_true f_s_EgzPart_tt0 (noL_true))) f_s_EgzPart_o (fun _ h => by cases h) (fun _ h => by cases h) (fun s => (f_s_EgzPart_e2 L0 t1 s).trans (f_s_EgzPart_p2 L0 t1 s _ _ (fun e => some (f_s_EgzPart_x2_2 L0 t1 e))))
def f_s_EgzPart_t2 (σ : List AV) : Option (Bool × Bool × (X × List AV) × (X × List AV)) := match dec f_s_EgzPart_h2 σ with
  | some [.l L0, .i t1, .i t7] => some ((loopL (f_s_EgzPart_r2 L0 t1) t7).isSome, isOne (loopL (f_s_EgzPart_r2 L0 t1) t7), f_s_EgzPart_x2_1 L0 t1 (getOne 0 (loopL (f_s_EgzPart_r2 L0 t1) t7)), f_s_EgzPart_x2_2 L0 t1 (getTwo [] (loopL (f_s_EgzPart_r2 L0 t1) t7)))
  | _ => none
theorem f_s_EgzPart_tt2 : TTrue S0 18 Try.f18 2 f_s_EgzPart_t2 := by
  intro σ p r r' h
  unfold f_s_EgzPart_t2 at h
  split at h
  · rename_i hd
    rw [← dec_enc hd]
    exact row2 (f_s_EgzPart_l2 _ _ _) h
  · cases h
theorem f_s_EgzPart_p {R : Type} (L0 : List Sc) (p1 : Int) (kR : List Sc × Bool → Option R) : f_s_EgzPart_k L0 p1 kR = (f_s_EgzPart L0 p1).bind kR := by
  simp only [f_s_EgzPart_k, f_s_EgzPart, brB, boB, blB, someB]
def f_s_EgzPart_en (r : List Sc × Bool) : List AV := enc [.own 3, .boo] [.l r.1, .b r.2]
theorem f_s_EgzPart_e (L0 : List Sc) (p1 : Int) : runFn S0.E f_s_EgzPart_M (asL (addL 2 f_s_EgzPart_t2 (addL 4 f_s_EgzPart_t4 (addL 0 f_s_EgzPart_t0 (noL))))) (S0.kl 18) Try.f18 (enc [.sl, .int .i64] [.l L0, .i p1]) = f_s_EgzPart_k L0 p1 (fun r => some (f_s_EgzPart_en r)) := by kernel_rfl
theorem f_s_EgzPart_ok (L0 : List Sc) (p1 : Int) (r : List Sc × Bool) (h : f_s_EgzPart L0 p1 = some r) : CL S0 18 (enc [.sl, .int .i64] [.l L0, .i p1]) = some (f_s_EgzPart_en r) :=
  fn_true (Fk := fun k => f_s_EgzPart_k L0 p1 k) (enc := f_s_EgzPart_en) Try.func18 rfl f_s_EgzPart_Mt (addL_true f_s_EgzPart_tt2 (addL_true f_s_EgzPart_tt4 (addL_true f_s_EgzPart_tt0 (noL_true)))) f_s_EgzPart_o (f_s_EgzPart_e L0 p1) (f_s_EgzPart_p L0 p1) h
def f_s_EgzPart_c (args : List AV) : Option (Bool × List AV) := match dec [.sl, .int .i64] args with
  | some [.l L0, .i p1] => some ((f_s_EgzPart L0 p1).isSome, f_s_EgzPart_en ((f_s_EgzPart L0 p1).getD ([], false)))
  | _ => none
theorem f_s_EgzPart_cc : CTrue S0 18 f_s_EgzPart_c := by
  intro args rs h
  unfold f_s_EgzPart_c at h
  split at h
  · rename_i hd
    rw [← dec_enc hd]
    exact rowC (f_s_EgzPart_ok _ _) h
  · cases h

def f_i_bits_M : Calling := noC
theorem f_i_bits_Mt : CallsTrue S0 f_i_bits_M := noC_true
theorem f_i_bits_o : loopsOnce Try.f35 = true := by kernel_rfl
def f_i_bits_h0 : List Sh := [.int .i64, .u, .u, .int .i64, .u, .u, .u, .u, .u, .u, .u, .u, .u]
def f_i_bits_fr0 (s : Int × Int) : List AV := enc f_i_bits_h0 [.i s.1, .i s.2]
def f_i_bits_g0_1 : List Sh := [.u, .u, .u, .int .i64, .u, .u, .u, .u, .u, .u, .u, .u, .u]
def f_i_bits_x0_1 (e : Int) : X × List AV := (.out 0, enc f_i_bits_g0_1 [.i e])
def f_i_bits_x0_2 (_e : Unit) : X × List AV := (.ret, [])
theorem f_i_bits_p0 {R : Type} (s : Int × Int) (kN : Int × Int → Option R) (kA : Int → Option R) (kB : Unit → Option R) : f_i_bits_k0 s.1 s.2 kN kA = (f_i_bits_r0 s).bind (Ro.el kN kA kB) := by
  simp only [f_i_bits_k0, f_i_bits_r0, brB, someB, Ro.el]
theorem f_i_bits_e0 (s : Int × Int) : EC S0.E f_i_bits_M (asL (noL)) (S0.kl 35) 0 (bodyOf Try.f35 0) (f_i_bits_fr0 s) (done (S0.kl 35 0)) = f_i_bits_k0 s.1 s.2 (fun s => some (.norm, f_i_bits_fr0 s)) (fun e => some (f_i_bits_x0_1 e)) := by kernel_rfl
theorem f_i_bits_l0 : ∀ s r, loopL (f_i_bits_r0) s = some r → LP S0 35 0 (bodyOf Try.f35 0) (f_i_bits_fr0 s) = some (enX (f_i_bits_x0_1) (f_i_bits_x0_2) r) :=
  loop_true f_i_bits_Mt (noL_true) f_i_bits_o (fun _ h => by cases h) (fun _ h => by cases h) (fun s => (f_i_bits_e0 s).trans (f_i_bits_p0 s _ _ (fun e => some (f_i_bits_x0_2 e))))
def f_i_bits_t0 (σ : List AV) : Option (Bool × Bool × (X × List AV) × (X × List AV)) := match dec f_i_bits_h0 σ with
  | some [.i a0, .i n3] => some (isOne (loopL (f_i_bits_r0) (a0, n3)), true, f_i_bits_x0_1 (getOne 0 (loopL (f_i_bits_r0) (a0, n3))), (.ret, []))
  | _ => none
theorem f_i_bits_tt0 : TTrue S0 35 Try.f35 0 f_i_bits_t0 := by
  intro σ p r r' h
  unfold f_i_bits_t0 at h
  split at h
  · rename_i hd
    rw [← dec_enc hd]
    exact row1 (f_i_bits_l0 _) h
  · cases h
theorem f_i_bits_p {R : Type} (a0 : Int) (kR : Int → Option R) : f_i_bits_k a0 kR = (f_i_bits a0).bind kR := by
  simp only [f_i_bits_k, f_i_bits, bl1B, someB]
def f_i_bits_en (r : Int) : List AV := enc [.int .i64] [.i r]
theorem f_i_bits_e (a0 : Int) : runFn S0.E f_i_bits_M (asL (addL 0 f_i_bits_t0 (noL))) (S0.kl 35) Try.f35 (enc [.int .i64] [.i a0]) = f_i_bits_k a0 (fun r => some (f_i_bits_en r)) := by kernel_rfl
theorem f_i_bits_ok (a0 : Int) (r : Int) (h : f_i_bits a0 = some r) : CL S0 35 (enc [.int .i64] [.i a0]) = some (f_i_bits_en r) :=
  fn_true (Fk := fun k => f_i_bits_k a0 k) (enc := f_i_bits_en) Try.func35 rfl f_i_bits_Mt (addL_true f_i_bits_tt0 (noL_true)) f_i_bits_o (f_i_bits_e a0) (f_i_bits_p a0) h
def f_i_bits_c (args : List AV) : Option (Bool × List AV) := match dec [.int .i64] args with
  | some [.i a0] => some ((f_i_bits a0).isSome, f_i_bits_en ((f_i_bits a0).getD 0))
  | _ => none
theorem f_i_bits_cc : CTrue S0 35 f_i_bits_c := by
  intro args rs h
  unfold f_i_bits_c at h
  split at h
  · rename_i hd
    rw [← dec_enc hd]
    exact rowC (f_i_bits_ok _) h
  · cases h

def f_i_in_M : Calling := noC
theorem f_i_in_Mt : CallsTrue S0 f_i_in_M := noC_true
theorem f_i_in_o : loopsOnce Try.f43 = true := by kernel_rfl
theorem f_i_in_p {R : Type} (a0 : Int) (x1 : Int) (kR : Bool → Option R) : f_i_in_k a0 x1 kR = (f_i_in a0 x1).bind kR := by
  simp only [f_i_in_k, f_i_in, brB, someB, noneB]
def f_i_in_en (r : Bool) : List AV := enc [.boo] [.b r]
theorem f_i_in_e (a0 : Int) (x1 : Int) : runFn S0.E f_i_in_M (asL (noL)) (S0.kl 43) Try.f43 (enc [.int .i64, .int .i64] [.i a0, .i x1]) = f_i_in_k a0 x1 (fun r => some (f_i_in_en r)) := by kernel_rfl
theorem f_i_in_ok (a0 : Int) (x1 : Int) (r : Bool) (h : f_i_in a0 x1 = some r) : CL S0 43 (enc [.int .i64, .int .i64] [.i a0, .i x1]) = some (f_i_in_en r) :=
  fn_true (Fk := fun k => f_i_in_k a0 x1 k) (enc := f_i_in_en) Try.func43 rfl f_i_in_Mt (noL_true) f_i_in_o (f_i_in_e a0 x1) (f_i_in_p a0 x1) h
def f_i_in_c (args : List AV) : Option (Bool × List AV) := match dec [.int .i64, .int .i64] args with
  | some [.i a0, .i x1] => some ((f_i_in a0 x1).isSome, f_i_in_en ((f_i_in a0 x1).getD false))
  | _ => none
theorem f_i_in_cc : CTrue S0 43 f_i_in_c := by
  intro args rs h
  unfold f_i_in_c at h
  split at h
  · rename_i hd
    rw [← dec_enc hd]
    exact rowC (f_i_in_ok _ _) h
  · cases h

def f_i_part_M : Calling := addC 43 f_i_in_c (noC)
theorem f_i_part_Mt : CallsTrue S0 f_i_part_M := addC_true f_i_in_cc (noC_true)
theorem f_i_part_o : loopsOnce Try.f36 = true := by kernel_rfl
def f_i_part_h0 : List Sh := [.u, .int .i64, .u, .u, .u, .own 3, .u, .u, .u, .sl, .int .i64, .int .i64, .u, .u, .u, .u, .u, .u, .u, .u, .u, .u, .u, .u, .u]
def f_i_part_fr0 (mask1 : Int) (t9 : List Sc) (t10 : Int) (s : List Sc × Int) : List AV := enc f_i_part_h0 [.i mask1, .l s.1, .l t9, .i t10, .i s.2]
def f_i_part_g0_1 : List Sh := [.u, .u, .u, .u, .u, .own 3, .u, .u, .u, .u, .u, .u, .u, .u, .u, .u, .u, .u, .u, .u, .u, .u, .u, .u, .u]
def f_i_part_x0_1 (mask1 : Int) (t9 : List Sc) (t10 : Int) (e : List Sc) : X × List AV := (.out 0, enc f_i_part_g0_1 [.l e])
def f_i_part_x0_2 (_ : Int) (_ : List Sc) (_ : Int) (_e : Unit) : X × List AV := (.ret, [])
theorem f_i_part_p0 {R : Type} (mask1 : Int) (t9 : List Sc) (t10 : Int) (s : List Sc × Int) (kN : List Sc × Int → Option R) (kA : List Sc → Option R) (kB : Unit → Option R) : f_i_part_k0 mask1 t9 t10 s.1 s.2 kN kA = (f_i_part_r0 mask1 t9 t10 s).bind (Ro.el kN kA kB) := by
  simp only [f_i_part_k0, f_i_part_r0, brB, boB, someB, noneB, Ro.el]
theorem f_i_part_e0 (mask1 : Int) (t9 : List Sc) (t10 : Int) (s : List Sc × Int) : EC S0.E f_i_part_M (asL (noL)) (S0.kl 36) 0 (bodyOf Try.f36 0) (f_i_part_fr0 mask1 t9 t10 s) (done (S0.kl 36 0)) = f_i_part_k0 mask1 t9 t10 s.1 s.2 (fun s => some (.norm, f_i_part_fr0 mask1 t9 t10 s)) (fun e => some (f_i_part_x0_1 mask1 t9 t10 e)) := by kernel_rfl
theorem f_i_part_l0 (mask1 : Int) (t9 : List Sc) (t10 : Int) : ∀ s r, loopL (f_i_part_r0 mask1 t9 t10) s = some r → LP S0 36 0 (bodyOf Try.f36 0) (f_i_part_fr0 mask1 t9 t10 s) = some (enX (f_i_part_x0_1 mask1 t9 t10) (f_i_part_x0_2 mask1 t9 t10) r) :=
  loop_true f_i_part_Mt (noL_true) f_i_part_o (fun _ h => by cases h) (fun _ h => by cases h) (fun s => (f_i_part_e0 mask1 t9 t10 s).trans (f_i_part_p0 mask1 t9 t10 s _ _ (fun e => some (f_i_part_x0_2 mask1 t9 t10 e))))
def f_i_part_t0 (σ : List AV) : Option (Bool × Bool × (X × List AV) × (X × List AV)) := match dec f_i_part_h0 σ with
  | some [.i mask1, .l out5, .l t9, .i t10, .i t11] => some (isOne (loopL (f_i_part_r0 mask1 t9 t10) (out5, t11)), true, f_i_part_x0_1 mask1 t9 t10 (getOne [] (loopL (f_i_part_r0 mask1 t9 t10) (out5, t11))), (.ret, []))
  | _ => none
theorem f_i_part_tt0 : TTrue S0 36 Try.f36 0 f_i_part_t0 := by
  intro σ p r r' h
  unfold f_i_part_t0 at h
  split at h
  · rename_i hd
    rw [← dec_enc hd]
    exact row1 (f_i_part_l0 _ _ _ _) h
  · cases h
theorem f_i_part_p {R : Type} (l0 : List Sc) (mask1 : Int) (kR : List Sc → Option R) : f_i_part_k l0 mask1 kR = (f_i_part l0 mask1).bind kR := by
  simp only [f_i_part_k, f_i_part, bl1B, someB]
def f_i_part_en (r : List Sc) : List AV := enc [.own 3] [.l r]
theorem f_i_part_e (l0 : List Sc) (mask1 : Int) : runFn S0.E f_i_part_M (asL (addL 0 f_i_part_t0 (noL))) (S0.kl 36) Try.f36 (enc [.sl, .int .i64] [.l l0, .i mask1]) = f_i_part_k l0 mask1 (fun r => some (f_i_part_en r)) := by kernel_rfl
theorem f_i_part_ok (l0 : List Sc) (mask1 : Int) (r : List Sc) (h : f_i_part l0 mask1 = some r) : CL S0 36 (enc [.sl, .int .i64] [.l l0, .i mask1]) = some (f_i_part_en r) :=
  fn_true (Fk := fun k => f_i_part_k l0 mask1 k) (enc := f_i_part_en) Try.func36 rfl f_i_part_Mt (addL_true f_i_part_tt0 (noL_true)) f_i_part_o (f_i_part_e l0 mask1) (f_i_part_p l0 mask1) h
def f_i_part_c (args : List AV) : Option (Bool × List AV) := match dec [.sl, .int .i64] args with
  | some [.l l0, .i mask1] => some ((f_i_part l0 mask1).isSome, f_i_part_en ((f_i_part l0 mask1).getD []))
  | _ => none
theorem f_i_part_cc : CTrue S0 36 f_i_part_c := by
  intro args rs h
  unfold f_i_part_c at h
  split at h
  · rename_i hd
    rw [← dec_enc hd]
    exact rowC (f_i_part_ok _ _) h
  · cases h

def f_i_EgzPart_M : Calling := addC 34 f_i_within_c (addC 35 f_i_bits_c (addC 36 f_i_part_c (noC)))
theorem f_i_EgzPart_Mt : CallsTrue S0 f_i_EgzPart_M := addC_true f_i_within_cc (addC_true f_i_bits_cc (addC_true f_i_part_cc (noC_true)))
theorem f_i_EgzPart_o : loopsOnce Try.f19 = true := by kernel_rfl
def f_i_EgzPart_h0 : List Sh := [.sl, .int .i64, .u, .u, .u, .u, .u, .u, .u, .u, .u, .u, .u, .u, .u, .u, .u, .u, .u, .u, .u, .u, .u, .u, .u, .sl, .int .i64, .int .i64, .u, .u, .u, .u, .u, .u, .u, .u, .u, .u, .u, .u, .u, .u, .u, .u, .u, .u, .u, .u, .u, .u, .u, .u, .u, .u, .u, .u, .u, .u, .u, .u, .u, .u, .u, .u, .u, .u, .u]
def f_i_EgzPart_fr0 (L0 : List Sc) (t1 : Int) (t25 : List Sc) (t26 : Int) (s : Int) : List AV := enc f_i_EgzPart_h0 [.l L0, .i t1, .l t25, .i t26, .i s]
def f_i_EgzPart_g0_1 : List Sh := [.sl, .int .i64, .u, .u, .u, .u, .u, .u, .u, .u, .u, .u, .u, .u, .u, .u, .u, .u, .u, .u, .u, .u, .u, .u, .u, .u, .u, .u, .u, .u, .u, .u, .u, .u, .u, .u, .u, .u, .u, .u, .u, .u, .u, .u, .u, .u, .u, .u, .u, .u, .u, .u, .u, .u, .u, .u, .u, .u, .u, .u, .u, .u, .u, .u, .u, .u, .u]
def f_i_EgzPart_x0_1 (L0 : List Sc) (t1 : Int) (t25 : List Sc) (t26 : Int) (e : Unit) : X × List AV := (.out 0, enc f_i_EgzPart_g0_1 [.l L0, .i t1])
def f_i_EgzPart_g0_2 : List Sh := [.u, .u, .u, .u, .own 3, .boo, .u, .u, .u, .u, .u, .u, .u, .u, .u, .u, .u, .u, .u, .u, .u, .u, .u, .u, .u, .u, .u, .u, .u, .u, .u, .u, .u, .u, .u, .u, .u, .u, .u, .u, .u, .u, .u, .u, .u, .u, .u, .u, .u, .u, .u, .u, .u, .u, .u, .u, .u, .u, .u, .u, .u, .u, .u, .u, .u, .u, .u]
def f_i_EgzPart_x0_2 (L0 : List Sc) (t1 : Int) (t25 : List Sc) (t26 : Int) (e : List Sc) : X × List AV := (.ret, enc f_i_EgzPart_g0_2 [.l e, .b false])
theorem f_i_EgzPart_p0 {R : Type} (L0 : List Sc) (t1 : Int) (t25 : List Sc) (t26 : Int) (s : Int) (kN : Int → Option R) (kA : Unit → Option R) (kB : List Sc → Option R) : f_i_EgzPart_k0 L0 t1 t25 t26 s kN kA kB = (f_i_EgzPart_r0 L0 t1 t25 t26 s).bind (Ro.el kN kA kB) := by
  simp only [f_i_EgzPart_k0, f_i_EgzPart_r0, brB, boB, someB, noneB, Ro.el]
theorem f_i_EgzPart_e0 (L0 : List Sc) (t1 : Int) (t25 : List Sc) (t26 : Int) (s : Int) : EC S0.E f_i_EgzPart_M (asL (noL)) (S0.kl 19) 0 (bodyOf Try.f19 0) (f_i_EgzPart_fr0 L0 t1 t25 t26 s) (done (S0.kl 19 0)) = f_i_EgzPart_k0 L0 t1 t25 t26 s (fun s => some (.norm, f_i_EgzPart_fr0 L0 t1 t25 t26 s)) (fun e => some (f_i_EgzPart_x0_1 L0 t1 t25 t26 e)) (fun e => some (f_i_EgzPart_x0_2 L0 t1 t25 t26 e)) := by kernel_rfl
theorem f_i_EgzPart_l0 (L0 : List Sc) (t1 : Int) (t25 : List Sc) (t26 : Int) : ∀ s r, loopL (f_i_EgzPart_r0 L0 t1 t25 t26) s = some r → LP S0 19 0 (bodyOf Try.f19 0) (f_i_EgzPart_fr0 L0 t1 t25 t26 s) = some (enX (f_i_EgzPart_x0_1 L0 t1 t25 t26) (f_i_EgzPart_x0_2 L0 t1 t25 t26) r) :=
  loop_true f_i_EgzPart_Mt (noL_true) f_i_EgzPart_o (fun _ h => by cases h) (fun _ h => by cases h) (fun s => (f_i_EgzPart_e0 L0 t1 t25 t26 s).trans (f_i_EgzPart_p0 L0 t1 t25 t26 s _ _ (fun e => some (f_i_EgzPart_x0_2 L0 t1 t25 t26 e))))
def f_i_EgzPart_t0 (σ : List AV) : Option (Bool × Bool × (X × List AV) × (X × List AV)) := match dec f_i_EgzPart_h0 σ with
  | some [.l L0, .i t1, .l t25, .i t26, .i t27] => some ((loopL (f_i_EgzPart_r0 L0 t1 t25 t26) t27).isSome, isOne (loopL (f_i_EgzPart_r0 L0 t1 t25 t26) t27), f_i_EgzPart_x0_1 L0 t1 t25 t26 (getOne () (loopL (f_i_EgzPart_r0 L0 t1 t25 t26) t27)), f_i_EgzPart_x0_2 L0 t1 t25 t26 (getTwo [] (loopL (f_i_EgzPart_r0 L0 t1 t25 t26) t27)))
  | _ => none
theorem f_i_EgzPart_tt0 : TTrue S0 19 Try.f19 0 f_i_EgzPart_t0 := by
  intro σ p r r' h
  unfold f_i_EgzPart_t0 at h
  split at h
  · rename_i hd
    rw [← dec_enc hd]
    exact row2 (f_i_EgzPart_l0 _ _ _ _ _) h
  · cases h
def f_i_EgzPart_h4 : List Sh := [.sl, .int .i64, .u, .u, .u, .u, .u, .u, .int .i64, .int .i64, .u, .u, .u, .u, .u, .u, .u, .u, .u, .u, .u, .u, .u, .u, .u, .u, .u, .u, .u, .u, .u, .u, .u, .u, .u, .u, .u, .u, .int .i64, .int .i64, .u, .u, .u, .u, .u, .u, .u, .u, .own 3, .int .i64, .int .i64, .u, .u, .u, .u, .u, .u, .u, .u, .u, .u, .u, .u, .u, .u, .u, .u]
def f_i_EgzPart_fr4 (L0 : List Sc) (t1 : Int) (t8 : Int) (t38 : Int) (t39 : Int) (t49 : Int) (s : Int × List Sc × Int) : List AV := enc f_i_EgzPart_h4 [.l L0, .i t1, .i t8, .i s.1, .i t38, .i t39, .l s.2.1, .i t49, .i s.2.2]
def f_i_EgzPart_g4_1 : List Sh := [.sl, .int .i64, .u, .u, .u, .u, .u, .u, .int .i64, .int .i64, .u, .u, .u, .u, .u, .u, .u, .u, .u, .u, .u, .u, .u, .u, .u, .u, .u, .u, .u, .u, .u, .u, .u, .u, .u, .u, .u, .u, .int .i64, .int .i64, .u, .u, .u, .u, .u, .u, .u, .u, .u, .u, .u, .u, .u, .u, .u, .u, .u, .u, .u, .u, .u, .u, .u, .u, .u, .u, .u]
def f_i_EgzPart_x4_1 (L0 : List Sc) (t1 : Int) (t8 : Int) (t38 : Int) (t39 : Int) (t49 : Int) (e : Int) : X × List AV := (.out 4, enc f_i_EgzPart_g4_1 [.l L0, .i t1, .i t8, .i e, .i t38, .i t39])
def f_i_EgzPart_x4_2 (_ : List Sc) (_ : Int) (_ : Int) (_ : Int) (_ : Int) (_ : Int) (_e : Unit) : X × List AV := (.ret, [])
theorem f_i_EgzPart_p4 {R : Type} (L0 : List Sc) (t1 : Int) (t8 : Int) (t38 : Int) (t39 : Int) (t49 : Int) (s : Int × List Sc × Int) (kN : Int × List Sc × Int → Option R) (kA : Int → Option R) (kB : Unit → Option R) : f_i_EgzPart_k4 L0 t1 t8 t38 t39 t49 s.1 s.2.1 s.2.2 kN kA = (f_i_EgzPart_r4 L0 t1 t8 t38 t39 t49 s).bind (Ro.el kN kA kB) := by
  simp only [f_i_EgzPart_k4, f_i_EgzPart_r4, brB, someB, noneB, Ro.el]
theorem f_i_EgzPart_e4 (L0 : List Sc) (t1 : Int) (t8 : Int) (t38 : Int) (t39 : Int) (t49 : Int) (s : Int × List Sc × Int) : EC S0.E f_i_EgzPart_M (asL (addL 0 f_i_EgzPart_t0 (noL))) (S0.kl 19) 4 (bodyOf Try.f19 4) (f_i_EgzPart_fr4 L0 t1 t8 t38 t39 t49 s) (done (S0.kl 19 4)) = f_i_EgzPart_k4 L0 t1 t8 t38 t39 t49 s.1 s.2.1 s.2.2 (fun s => some (.norm, f_i_EgzPart_fr4 L0 t1 t8 t38 t39 t49 s)) (fun e => some (f_i_EgzPart_x4_1 L0 t1 t8 t38 t39 t49 e)) := by kernel_rfl
theorem f_i_EgzPart_l4 (L0 : List Sc) (t1 : Int) (t8 : Int) (t38 : Int) (t39 : Int) (t49 : Int) : ∀ s r, loopL (f_i_EgzPart_r4 L0 t1 t8 t38 t39 t49) s = some r → LP S0 19 4 (bodyOf Try.f19 4) (f_i_EgzPart_fr4 L0 t1 t8 t38 t39 t49 s) = some (enX (f_i_EgzPart_x4_1 L0 t1 t8 t38 t39 t49) (f_i_EgzPart_x4_2 L0 t1 t8 t38 t39 t49) r) :=
  loop_true f_i_EgzPart_Mt (addL_true f_i_EgzPart_tt0 (noL_true)) f_i_EgzPart_o (fun _ h => by cases h) (fun _ h => by cases h) (fun s => (f_i_EgzPart_e4 L0 t1 t8 t38 t39 t49 s).trans (f_i_EgzPart_p4 L0 t1 t8 t38 t39 t49 s _ _ (fun e => some (f_i_EgzPart_x4_2 L0 t1 t8 t38 t39 t49 e))))
def f_i_EgzPart_t4 (σ : List AV) : Option (Bool × Bool × (X × List AV) × (X × List AV)) := match dec f_i_EgzPart_h4 σ with
  | some [.l L0, .i t1, .i t8, .i t9, .i t38, .i t39, .l t48, .i t49, .i t50] => some (isOne (loopL (f_i_EgzPart_r4 L0 t1 t8 t38 t39 t49) (t9, t48, t50)), true, f_i_EgzPart_x4_1 L0 t1 t8 t38 t39 t49 (getOne 0 (loopL (f_i_EgzPart_r4 L0 t1 t8 t38 t39 t49) (t9, t48, t50))), (.ret, []))
  | _ => none
theorem f_i_EgzPart_tt4 : TTrue S0 19 Try.f19 4 f_i_EgzPart_t4 := by
  intro σ p r r' h
  unfold f_i_EgzPart_t4 at h
  split at h
  · rename_i hd
    rw [← dec_enc hd]
    exact row1 (f_i_EgzPart_l4 _ _ _ _ _ _ _) h
  · cases h
def f_i_EgzPart_h2 : List Sh := [.sl, .int .i64, .u, .u, .u, .u, .u, .u, .u, .u, .u, .u, .u, .u, .u, .u, .u, .u, .u, .u, .u, .u, .u, .u, .u, .u, .u, .u, .u, .u, .u, .u, .u, .u, .u, .u, .u, .u, .int .i64, .int .i64, .u, .u, .u, .u, .u, .u, .u, .u, .u, .u, .u, .u, .u, .u, .u, .u, .u, .u, .u, .u, .u, .u, .u, .u, .u, .u, .u]
def f_i_EgzPart_fr2 (L0 : List Sc) (t1 : Int) (t38 : Int) (s : Int) : List AV := enc f_i_EgzPart_h2 [.l L0, .i t1, .i t38, .i s]
def f_i_EgzPart_g2_1 : List Sh := [.sl, .int .i64, .u, .u, .u, .u, .u, .u, .u, .u, .u, .u, .u, .u, .u, .u, .u, .u, .u, .u, .u, .u, .u, .u, .u, .u, .u, .u, .u, .u, .u, .u, .u, .u, .u, .u, .u, .u, .int .i64, .int .i64, .u, .u, .u, .u, .u, .u, .u, .u, .u, .u, .u, .u, .u, .u, .u, .u, .u, .u, .u, .u, .u, .u, .u, .u, .u, .u, .u]
def f_i_EgzPart_x2_1 (L0 : List Sc) (t1 : Int) (t38 : Int) (e : Int) : X × List AV := (.out 2, enc f_i_EgzPart_g2_1 [.l L0, .i t1, .i t38, .i e])
def f_i_EgzPart_g2_2 : List Sh := [.u, .u, .u, .u, .own 3, .boo, .u, .u, .u, .u, .u, .u, .u, .u, .u, .u, .u, .u, .u, .u, .u, .u, .u, .u, .u, .u, .u, .u, .u, .u, .u, .u, .u, .u, .u, .u, .u, .u, .u, .u, .u, .u, .u, .u, .u, .u, .u, .u, .u, .u, .u, .u, .u, .u, .u, .u, .u, .u, .u, .u, .u, .u, .u, .u, .u, .u, .u]
def f_i_EgzPart_x2_2 (L0 : List Sc) (t1 : Int) (t38 : Int) (e : List Sc) : X × List AV := (.ret, enc f_i_EgzPart_g2_2 [.l e, .b true])
theorem f_i_EgzPart_p2 {R : Type} (L0 : List Sc) (t1 : Int) (t38 : Int) (s : Int) (kN : Int → Option R) (kA : Int → Option R) (kB : List Sc → Option R) : f_i_EgzPart_k2 L0 t1 t38 s kN kA kB = (f_i_EgzPart_r2 L0 t1 t38 s).bind (Ro.el kN kA kB) := by
  simp only [f_i_EgzPart_k2, f_i_EgzPart_r2, brB, boB, bl1B, someB, noneB, Ro.el]
theorem f_i_EgzPart_e2 (L0 : List Sc) (t1 : Int) (t38 : Int) (s : Int) : EC S0.E f_i_EgzPart_M (asL (addL 4 f_i_EgzPart_t4 (addL 0 f_i_EgzPart_t0 (noL)))) (S0.kl 19) 2 (bodyOf Try.f19 2) (f_i_EgzPart_fr2 L0 t1 t38 s) (done (S0.kl 19 2)) = f_i_EgzPart_k2 L0 t1 t38 s (fun s => some (.norm, f_i_EgzPart_fr2 L0 t1 t38 s)) (fun e => some (f_i_EgzPart_x2_1 L0 t1 t38 e)) (fun e => some (f_i_EgzPart_x2_2 L0 t1 t38 e)) := by kernel_rfl
theorem f_i_EgzPart_l2 (L0 : List Sc) (t1 : Int) (t38 : Int) : ∀ s r, loopL (f_i_EgzPart_r2 L0 t1 t38) s = some r → LP S0 19 2 (bodyOf Try.f19 2) (f_i_EgzPart_fr2 L0 t1 t38 s) = some (enX (f_i_EgzPart_x2_1 L0 t1 t38) (f_i_EgzPart_x2_2 L0 t1 t38) r) :=
  loop_true f_i_EgzPart_Mt (addL_true f_i_EgzPart_tt4 (addL_true f_i_EgzPart_tt0 (noL_true))) f_i_EgzPart_o (fun _ h => by cases h) (fun _ h => by cases h) (fun s => (f_i_EgzPart_e2 L0 t1 t38 s).trans (f_i_EgzPart_p2 L0 t1 t38 s _ _ (fun e => some (f_i_EgzPart_x2_2 L0 t1 t38 e))))
def f_i_EgzPart_t2 (σ : List AV) : Option (Bool × Bool × (X × List AV) × (X × List AV)) := match dec f_i_EgzPart_h2 σ with
  | some [.l L0, .i t1, .i t38, .i t39] => some ((loopL (f_i_EgzPart_r2 L0 t1 t38) t39).isSome, isOne (loopL (f_i_EgzPart_r2 L0 t1 t38) t39), f_i_EgzPart_x2_1 L0 t1 t38 (getOne 0 (loopL (f_i_EgzPart_r2 L0 t1 t38) t39)), f_i_EgzPart_x2_2 L0 t1 t38 (getTwo [] (loopL (f_i_EgzPart_r2 L0 t1 t38) t39)))
  | _ => none
theorem f_i_EgzPart_tt2 : TTrue S0 19 Try.f19 2 f_i_EgzPart_t2 := by
  intro σ p r r' h
  unfold f_i_EgzPart_t2 at h
  split at h
  · rename_i hd
    rw [← dec_enc hd]
    exact row2 (f_i_EgzPart_l2 _ _ _ _) h
  · cases h
theorem f_i_EgzPart_p {R : Type} (L0 : List Sc) (p1 : Int) (kR : List Sc × Bool → Option R) : f_i_EgzPart_k L0 p1 kR = (f_i_EgzPart L0 p1).bind kR := by
  simp only [f_i_EgzPart_k, f_i_EgzPart, brB, boB, blB, someB, noneB]
def f_i_EgzPart_en (r : List Sc × Bool) : List AV := enc [.own 3, .boo] [.l r.1, .b r.2]
theorem f_i_EgzPart_e (L0 : List Sc) (p1 : Int) : runFn S0.E f_i_EgzPart_M (asL (addL 2 f_i_EgzPart_t2 (addL 4 f_i_EgzPart_t4 (addL 0 f_i_EgzPart_t0 (noL))))) (S0.kl 19) Try.f19 (enc [.sl, .int .i64] [.l L0, .i p1]) = f_i_EgzPart_k L0 p1 (fun r => some (f_i_EgzPart_en r)) := by kernel_rfl
theorem f_i_EgzPart_ok (L0 : List Sc) (p1 : Int) (r : List Sc × Bool) (h : f_i_EgzPart L0 p1 = some r) : CL S0 19 (enc [.sl, .int .i64] [.l L0, .i p1]) = some (f_i_EgzPart_en r) :=
  fn_true (Fk := fun k => f_i_EgzPart_k L0 p1 k) (enc := f_i_EgzPart_en) Try.func19 rfl f_i_EgzPart_Mt (addL_true f_i_EgzPart_tt2 (addL_true f_i_EgzPart_tt4 (addL_true f_i_EgzPart_tt0 (noL_true)))) f_i_EgzPart_o (f_i_EgzPart_e L0 p1) (f_i_EgzPart_p L0 p1) h
def f_i_EgzPart_c (args : List AV) : Option (Bool × List AV) := match dec [.sl, .int .i64] args with
  | some [.l L0, .i p1] => some ((f_i_EgzPart L0 p1).isSome, f_i_EgzPart_en ((f_i_EgzPart L0 p1).getD ([], false)))
  | _ => none
theorem f_i_EgzPart_cc : CTrue S0 19 f_i_EgzPart_c := by
  intro args rs h
  unfold f_i_EgzPart_c at h
  split at h
  · rename_i hd
    rw [← dec_enc hd]
    exact rowC (f_i_EgzPart_ok _ _) h
  · cases h

def f_s_OrderOf_M : Calling := addC 29 f_s_IsGroup_c (addC 30 f_s_l2Order_c (noC))
theorem f_s_OrderOf_Mt : CallsTrue S0 f_s_OrderOf_M := addC_true f_s_IsGroup_cc (addC_true f_s_l2Order_cc (noC_true))
theorem f_s_OrderOf_o : loopsOnce Try.f44 = true := by kernel_rfl
theorem f_s_OrderOf_p {R : Type} (g0 : List Sc) (kR : Int → Option R) : f_s_OrderOf_k g0 kR = (f_s_OrderOf g0).bind kR := by
  simp only [f_s_OrderOf_k, f_s_OrderOf, brB, boB, someB]
def f_s_OrderOf_en (r : Int) : List AV := enc [.int .i64] [.i r]
theorem f_s_OrderOf_e (g0 : List Sc) : runFn S0.E f_s_OrderOf_M (asL (noL)) (S0.kl 44) Try.f44 (enc [.gr] [.l g0]) = f_s_OrderOf_k g0 (fun r => some (f_s_OrderOf_en r)) := by kernel_rfl
theorem f_s_OrderOf_ok (g0 : List Sc) (r : Int) (h : f_s_OrderOf g0 = some r) : CL S0 44 (enc [.gr] [.l g0]) = some (f_s_OrderOf_en r) :=
  fn_true (Fk := fun k => f_s_OrderOf_k g0 k) (enc := f_s_OrderOf_en) Try.func44 rfl f_s_OrderOf_Mt (noL_true) f_s_OrderOf_o (f_s_OrderOf_e g0) (f_s_OrderOf_p g0) h
def f_s_OrderOf_c (args : List AV) : Option (Bool × List AV) := match dec [.gr] args with
  | some [.l g0] => some ((f_s_OrderOf g0).isSome, f_s_OrderOf_en ((f_s_OrderOf g0).getD 0))
  | _ => none
theorem f_s_OrderOf_cc : CTrue S0 44 f_s_OrderOf_c := by
  intro args rs h
  unfold f_s_OrderOf_c at h
  split at h
  · rename_i hd
    rw [← dec_enc hd]
    exact rowC (f_s_OrderOf_ok _) h
  · cases h

def f_s_l2Is_M : Calling := addC 44 f_s_OrderOf_c (noC)
theorem f_s_l2Is_Mt : CallsTrue S0 f_s_l2Is_M := addC_true f_s_OrderOf_cc (noC_true)
theorem f_s_l2Is_o : loopsOnce Try.f37 = true := by kernel_rfl
theorem f_s_l2Is_p {R : Type} (g0 : List Sc) (x1 : Int) (kR : Bool → Option R) : f_s_l2Is_k g0 x1 kR = (f_s_l2Is g0 x1).bind kR := by
  simp only [f_s_l2Is_k, f_s_l2Is, brB, boB, someB]
def f_s_l2Is_en (r : Bool) : List AV := enc [.boo] [.b r]
theorem f_s_l2Is_e (g0 : List Sc) (x1 : Int) : runFn S0.E f_s_l2Is_M (asL (noL)) (S0.kl 37) Try.f37 (enc [.gr, .int .i64] [.l g0, .i x1]) = f_s_l2Is_k g0 x1 (fun r => some (f_s_l2Is_en r)) := by kernel_rfl
theorem f_s_l2Is_ok (g0 : List Sc) (x1 : Int) (r : Bool) (h : f_s_l2Is g0 x1 = some r) : CL S0 37 (enc [.gr, .int .i64] [.l g0, .i x1]) = some (f_s_l2Is_en r) :=
  fn_true (Fk := fun k => f_s_l2Is_k g0 x1 k) (enc := f_s_l2Is_en) Try.func37 rfl f_s_l2Is_Mt (noL_true) f_s_l2Is_o (f_s_l2Is_e g0 x1) (f_s_l2Is_p g0 x1) h
def f_s_l2Is_c (args : List AV) : Option (Bool × List AV) := match dec [.gr, .int .i64] args with
  | some [.l g0, .i x1] => some ((f_s_l2Is g0 x1).isSome, f_s_l2Is_en ((f_s_l2Is g0 x1).getD false))
  | _ => none
theorem f_s_l2Is_cc : CTrue S0 37 f_s_l2Is_c := by
  intro args rs h
  unfold f_s_l2Is_c at h
  split at h
  · rename_i hd
    rw [← dec_enc hd]
    exact rowC (f_s_l2Is_ok _ _) h
  · cases h

def f_s_ImageOfMap_M : Calling := addC 37 f_s_l2Is_c (addC 29 f_s_IsGroup_c (noC))
theorem f_s_ImageOfMap_Mt : CallsTrue S0 f_s_ImageOfMap_M := addC_true f_s_l2Is_cc (addC_true f_s_IsGroup_cc (noC_true))
theorem f_s_ImageOfMap_o : loopsOnce Try.f22 = true := by kernel_rfl
def f_s_ImageOfMap_h0 : List Sh := [.u, .sl, .bp, .u, .u, .u, .int .i64, .int .i64, .u, .u, .u, .u, .u, .u, .u, .u, .u, .u, .u, .u, .u, .u, .u, .u, .u, .u, .u, .u, .u, .u, .u]
def f_s_ImageOfMap_fr0 (m1 : List Sc) (h2 : List Sc) (s : Int × Int) : List AV := enc f_s_ImageOfMap_h0 [.l m1, .l h2, .i s.1, .i s.2]
def f_s_ImageOfMap_g0_1 : List Sh := [.u, .u, .bp, .u, .u, .u, .int .i64, .u, .u, .u, .u, .u, .u, .u, .u, .u, .u, .u, .u, .u, .u, .u, .u, .u, .u, .u, .u, .u, .u, .u, .u]
def f_s_ImageOfMap_x0_1 (m1 : List Sc) (h2 : List Sc) (e : Int) : X × List AV := (.out 0, enc f_s_ImageOfMap_g0_1 [.l h2, .i e])
def f_s_ImageOfMap_g0_2 : List Sh := [.u, .u, .u, .u, .int .i64, .boo, .u, .u, .u, .u, .u, .u, .u, .u, .u, .u, .u, .u, .u, .u, .u, .u, .u, .u, .u, .u, .u, .u, .u, .u, .u]
def f_s_ImageOfMap_x0_2 (m1 : List Sc) (h2 : List Sc) (e : Unit) : X × List AV := (.ret, enc f_s_ImageOfMap_g0_2 [.i 0, .b false])
theorem f_s_ImageOfMap_p0 {R : Type} (m1 : List Sc) (h2 : List Sc) (s : Int × Int) (kN : Int × Int → Option R) (kA : Int → Option R) (kB : Unit → Option R) : f_s_ImageOfMap_k0 m1 h2 s.1 s.2 kN kA kB = (f_s_ImageOfMap_r0 m1 h2 s).bind (Ro.el kN kA kB) := by
  simp only [f_s_ImageOfMap_k0, f_s_ImageOfMap_r0, brB, boB, someB, noneB, Ro.el]
theorem f_s_ImageOfMap_e0 (m1 : List Sc) (h2 : List Sc) (s : Int × Int) : EC S0.E f_s_ImageOfMap_M (asL (noL)) (S0.kl 22) 0 (bodyOf Try.f22 0) (f_s_ImageOfMap_fr0 m1 h2 s) (done (S0.kl 22 0)) = f_s_ImageOfMap_k0 m1 h2 s.1 s.2 (fun s => some (.norm, f_s_ImageOfMap_fr0 m1 h2 s)) (fun e => some (f_s_ImageOfMap_x0_1 m1 h2 e)) (fun e => some (f_s_ImageOfMap_x0_2 m1 h2 e)) := by kernel_rfl
theorem f_s_ImageOfMap_l0 (m1 : List Sc) (h2 : List Sc) : ∀ s r, loopL (f_s_ImageOfMap_r0 m1 h2) s = some r → LP S0 22 0 (bodyOf Try.f22 0) (f_s_ImageOfMap_fr0 m1 h2 s) = some (enX (f_s_ImageOfMap_x0_1 m1 h2) (f_s_ImageOfMap_x0_2 m1 h2) r) :=
  loop_true f_s_ImageOfMap_Mt (noL_true) f_s_ImageOfMap_o (fun _ h => by cases h) (fun _ h => by cases h) (fun s => (f_s_ImageOfMap_e0 m1 h2 s).trans (f_s_ImageOfMap_p0 m1 h2 s _ _ (fun e => some (f_s_ImageOfMap_x0_2 m1 h2 e))))
def f_s_ImageOfMap_t0 (σ : List AV) : Option (Bool × Bool × (X × List AV) × (X × List AV)) := match dec f_s_ImageOfMap_h0 σ with
  | some [.l m1, .l h2, .i out6, .i i7] => some ((loopL (f_s_ImageOfMap_r0 m1 h2) (out6, i7)).isSome, isOne (loopL (f_s_ImageOfMap_r0 m1 h2) (out6, i7)), f_s_ImageOfMap_x0_1 m1 h2 (getOne 0 (loopL (f_s_ImageOfMap_r0 m1 h2) (out6, i7))), f_s_ImageOfMap_x0_2 m1 h2 (getTwo () (loopL (f_s_ImageOfMap_r0 m1 h2) (out6, i7))))
  | _ => none
theorem f_s_ImageOfMap_tt0 : TTrue S0 22 Try.f22 0 f_s_ImageOfMap_t0 := by
  intro σ p r r' h
  unfold f_s_ImageOfMap_t0 at h
  split at h
  · rename_i hd
    rw [← dec_enc hd]
    exact row2 (f_s_ImageOfMap_l0 _ _ _) h
  · cases h
theorem f_s_ImageOfMap_p {R : Type} (h0 : List Sc) (m1 : List Sc) (kR : Int × Bool → Option R) : f_s_ImageOfMap_k h0 m1 kR = (f_s_ImageOfMap h0 m1).bind kR := by
  simp only [f_s_ImageOfMap_k, f_s_ImageOfMap, boB, blB, someB]
def f_s_ImageOfMap_en (r : Int × Bool) : List AV := enc [.int .i64, .boo] [.i r.1, .b r.2]
theorem f_s_ImageOfMap_e (h0 : List Sc) (m1 : List Sc) : runFn S0.E f_s_ImageOfMap_M (asL (addL 0 f_s_ImageOfMap_t0 (noL))) (S0.kl 22) Try.f22 (enc [.gr, .sl] [.l h0, .l m1]) = f_s_ImageOfMap_k h0 m1 (fun r => some (f_s_ImageOfMap_en r)) := by kernel_rfl
theorem f_s_ImageOfMap_ok (h0 : List Sc) (m1 : List Sc) (r : Int × Bool) (h : f_s_ImageOfMap h0 m1 = some r) : CL S0 22 (enc [.gr, .sl] [.l h0, .l m1]) = some (f_s_ImageOfMap_en r) :=
  fn_true (Fk := fun k => f_s_ImageOfMap_k h0 m1 k) (enc := f_s_ImageOfMap_en) Try.func22 rfl f_s_ImageOfMap_Mt (addL_true f_s_ImageOfMap_tt0 (noL_true)) f_s_ImageOfMap_o (f_s_ImageOfMap_e h0 m1) (f_s_ImageOfMap_p h0 m1) h
def f_s_ImageOfMap_c (args : List AV) : Option (Bool × List AV) := match dec [.gr, .sl] args with
  | some [.l h0, .l m1] => some ((f_s_ImageOfMap h0 m1).isSome, f_s_ImageOfMap_en ((f_s_ImageOfMap h0 m1).getD (0, false)))
  | _ => none
theorem f_s_ImageOfMap_cc : CTrue S0 22 f_s_ImageOfMap_c := by
  intro args rs h
  unfold f_s_ImageOfMap_c at h
  split at h
  · rename_i hd
    rw [← dec_enc hd]
    exact rowC (f_s_ImageOfMap_ok _ _) h
  · cases h

def f_i_OrderOf_M : Calling := addC 31 f_i_IsGroup_c (noC)
theorem f_i_OrderOf_Mt : CallsTrue S0 f_i_OrderOf_M := addC_true f_i_IsGroup_cc (noC_true)
theorem f_i_OrderOf_o : loopsOnce Try.f45 = true := by kernel_rfl
def f_i_OrderOf_h0 : List Sh := [.u, .u, .u, .int .i64, .u, .u, .u, .u, .u, .u, .sl, .int .i64, .int .i64, .u, .u, .u, .u, .u, .u, .u, .u]
def f_i_OrderOf_fr0 (t10 : List Sc) (t11 : Int) (s : Int × Int) : List AV := enc f_i_OrderOf_h0 [.i s.1, .l t10, .i t11, .i s.2]
def f_i_OrderOf_g0_1 : List Sh := [.u, .u, .u, .int .i64, .u, .u, .u, .u, .u, .u, .u, .u, .u, .u, .u, .u, .u, .u, .u, .u, .u]
def f_i_OrderOf_x0_1 (t10 : List Sc) (t11 : Int) (e : Int) : X × List AV := (.out 0, enc f_i_OrderOf_g0_1 [.i e])
def f_i_OrderOf_x0_2 (_ : List Sc) (_ : Int) (_e : Unit) : X × List AV := (.ret, [])
theorem f_i_OrderOf_p0 {R : Type} (t10 : List Sc) (t11 : Int) (s : Int × Int) (kN : Int × Int → Option R) (kA : Int → Option R) (kB : Unit → Option R) : f_i_OrderOf_k0 t10 t11 s.1 s.2 kN kA = (f_i_OrderOf_r0 t10 t11 s).bind (Ro.el kN kA kB) := by
  simp only [f_i_OrderOf_k0, f_i_OrderOf_r0, brB, someB, noneB, Ro.el]
theorem f_i_OrderOf_e0 (t10 : List Sc) (t11 : Int) (s : Int × Int) : EC S0.E f_i_OrderOf_M (asL (noL)) (S0.kl 45) 0 (bodyOf Try.f45 0) (f_i_OrderOf_fr0 t10 t11 s) (done (S0.kl 45 0)) = f_i_OrderOf_k0 t10 t11 s.1 s.2 (fun s => some (.norm, f_i_OrderOf_fr0 t10 t11 s)) (fun e => some (f_i_OrderOf_x0_1 t10 t11 e)) := by kernel_rfl
theorem f_i_OrderOf_l0 (t10 : List Sc) (t11 : Int) : ∀ s r, loopL (f_i_OrderOf_r0 t10 t11) s = some r → LP S0 45 0 (bodyOf Try.f45 0) (f_i_OrderOf_fr0 t10 t11 s) = some (enX (f_i_OrderOf_x0_1 t10 t11) (f_i_OrderOf_x0_2 t10 t11) r) :=
  loop_true f_i_OrderOf_Mt (noL_true) f_i_OrderOf_o (fun _ h => by cases h) (fun _ h => by cases h) (fun s => (f_i_OrderOf_e0 t10 t11 s).trans (f_i_OrderOf_p0 t10 t11 s _ _ (fun e => some (f_i_OrderOf_x0_2 t10 t11 e))))
def f_i_OrderOf_t0 (σ : List AV) : Option (Bool × Bool × (X × List AV) × (X × List AV)) := match dec f_i_OrderOf_h0 σ with
  | some [.i n3, .l t10, .i t11, .i t12] => some (isOne (loopL (f_i_OrderOf_r0 t10 t11) (n3, t12)), true, f_i_OrderOf_x0_1 t10 t11 (getOne 0 (loopL (f_i_OrderOf_r0 t10 t11) (n3, t12))), (.ret, []))
  | _ => none
theorem f_i_OrderOf_tt0 : TTrue S0 45 Try.f45 0 f_i_OrderOf_t0 := by
  intro σ p r r' h
  unfold f_i_OrderOf_t0 at h
  split at h
  · rename_i hd
    rw [← dec_enc hd]
    exact row1 (f_i_OrderOf_l0 _ _ _) h
  · cases h
theorem f_i_OrderOf_p {R : Type} (g0 : List Sc) (kR : Int → Option R) : f_i_OrderOf_k g0 kR = (f_i_OrderOf g0).bind kR := by
  simp only [f_i_OrderOf_k, f_i_OrderOf, brB, boB, bl1B, someB]
def f_i_OrderOf_en (r : Int) : List AV := enc [.int .i64] [.i r]
theorem f_i_OrderOf_e (g0 : List Sc) : runFn S0.E f_i_OrderOf_M (asL (addL 0 f_i_OrderOf_t0 (noL))) (S0.kl 45) Try.f45 (enc [.gr] [.l g0]) = f_i_OrderOf_k g0 (fun r => some (f_i_OrderOf_en r)) := by kernel_rfl
theorem f_i_OrderOf_ok (g0 : List Sc) (r : Int) (h : f_i_OrderOf g0 = some r) : CL S0 45 (enc [.gr] [.l g0]) = some (f_i_OrderOf_en r) :=
  fn_true (Fk := fun k => f_i_OrderOf_k g0 k) (enc := f_i_OrderOf_en) Try.func45 rfl f_i_OrderOf_Mt (addL_true f_i_OrderOf_tt0 (noL_true)) f_i_OrderOf_o (f_i_OrderOf_e g0) (f_i_OrderOf_p g0) h
def f_i_OrderOf_c (args : List AV) : Option (Bool × List AV) := match dec [.gr] args with
  | some [.l g0] => some ((f_i_OrderOf g0).isSome, f_i_OrderOf_en ((f_i_OrderOf g0).getD 0))
  | _ => none
theorem f_i_OrderOf_cc : CTrue S0 45 f_i_OrderOf_c := by
  intro args rs h
  unfold f_i_OrderOf_c at h
  split at h
  · rename_i hd
    rw [← dec_enc hd]
    exact rowC (f_i_OrderOf_ok _) h
  · cases h

def f_i_Group_has_M : Calling := addC 45 f_i_OrderOf_c (addC 34 f_i_within_c (noC))
theorem f_i_Group_has_Mt : CallsTrue S0 f_i_Group_has_M := addC_true f_i_OrderOf_cc (addC_true f_i_within_cc (noC_true))
theorem f_i_Group_has_o : loopsOnce Try.f38 = true := by kernel_rfl
theorem f_i_Group_has_p {R : Type} (g0 : List Sc) (x1 : Int) (kR : Bool → Option R) : f_i_Group_has_k g0 x1 kR = (f_i_Group_has g0 x1).bind kR := by
  simp only [f_i_Group_has_k, f_i_Group_has, boB, someB]
def f_i_Group_has_en (r : Bool) : List AV := enc [.boo] [.b r]
theorem f_i_Group_has_e (g0 : List Sc) (x1 : Int) : runFn S0.E f_i_Group_has_M (asL (noL)) (S0.kl 38) Try.f38 (enc [.gr, .int .i64] [.l g0, .i x1]) = f_i_Group_has_k g0 x1 (fun r => some (f_i_Group_has_en r)) := by kernel_rfl
theorem f_i_Group_has_ok (g0 : List Sc) (x1 : Int) (r : Bool) (h : f_i_Group_has g0 x1 = some r) : CL S0 38 (enc [.gr, .int .i64] [.l g0, .i x1]) = some (f_i_Group_has_en r) :=
  fn_true (Fk := fun k => f_i_Group_has_k g0 x1 k) (enc := f_i_Group_has_en) Try.func38 rfl f_i_Group_has_Mt (noL_true) f_i_Group_has_o (f_i_Group_has_e g0 x1) (f_i_Group_has_p g0 x1) h
def f_i_Group_has_c (args : List AV) : Option (Bool × List AV) := match dec [.gr, .int .i64] args with
  | some [.l g0, .i x1] => some ((f_i_Group_has g0 x1).isSome, f_i_Group_has_en ((f_i_Group_has g0 x1).getD false))
  | _ => none
theorem f_i_Group_has_cc : CTrue S0 38 f_i_Group_has_c := by
  intro args rs h
  unfold f_i_Group_has_c at h
  split at h
  · rename_i hd
    rw [← dec_enc hd]
    exact rowC (f_i_Group_has_ok _ _) h
  · cases h

def f_i_ImageOfMap_M : Calling := addC 38 f_i_Group_has_c (addC 31 f_i_IsGroup_c (noC))
theorem f_i_ImageOfMap_Mt : CallsTrue S0 f_i_ImageOfMap_M := addC_true f_i_Group_has_cc (addC_true f_i_IsGroup_cc (noC_true))
theorem f_i_ImageOfMap_o : loopsOnce Try.f23 = true := by kernel_rfl
def f_i_ImageOfMap_h0 : List Sh := [.u, .u, .bp, .u, .u, .u, .int .i64, .u, .u, .sl, .int .i64, .int .i64, .u, .u, .u, .u, .u, .u, .u, .u, .u, .u, .u, .u, .u, .u, .u]
def f_i_ImageOfMap_fr0 (h2 : List Sc) (t9 : List Sc) (t10 : Int) (s : Int × Int) : List AV := enc f_i_ImageOfMap_h0 [.l h2, .i s.1, .l t9, .i t10, .i s.2]
def f_i_ImageOfMap_g0_1 : List Sh := [.u, .u, .bp, .u, .u, .u, .int .i64, .u, .u, .u, .u, .u, .u, .u, .u, .u, .u, .u, .u, .u, .u, .u, .u, .u, .u, .u, .u]
def f_i_ImageOfMap_x0_1 (h2 : List Sc) (t9 : List Sc) (t10 : Int) (e : Int) : X × List AV := (.out 0, enc f_i_ImageOfMap_g0_1 [.l h2, .i e])
def f_i_ImageOfMap_g0_2 : List Sh := [.u, .u, .u, .u, .int .i64, .boo, .u, .u, .u, .u, .u, .u, .u, .u, .u, .u, .u, .u, .u, .u, .u, .u, .u, .u, .u, .u, .u]
def f_i_ImageOfMap_x0_2 (h2 : List Sc) (t9 : List Sc) (t10 : Int) (e : Unit) : X × List AV := (.ret, enc f_i_ImageOfMap_g0_2 [.i 0, .b false])
theorem f_i_ImageOfMap_p0 {R : Type} (h2 : List Sc) (t9 : List Sc) (t10 : Int) (s : Int × Int) (kN : Int × Int → Option R) (kA : Int → Option R) (kB : Unit → Option R) : f_i_ImageOfMap_k0 h2 t9 t10 s.1 s.2 kN kA kB = (f_i_ImageOfMap_r0 h2 t9 t10 s).bind (Ro.el kN kA kB) := by
  simp only [f_i_ImageOfMap_k0, f_i_ImageOfMap_r0, brB, boB, someB, noneB, Ro.el]
theorem f_i_ImageOfMap_e0 (h2 : List Sc) (t9 : List Sc) (t10 : Int) (s : Int × Int) : EC S0.E f_i_ImageOfMap_M (asL (noL)) (S0.kl 23) 0 (bodyOf Try.f23 0) (f_i_ImageOfMap_fr0 h2 t9 t10 s) (done (S0.kl 23 0)) = f_i_ImageOfMap_k0 h2 t9 t10 s.1 s.2 (fun s => some (.norm, f_i_ImageOfMap_fr0 h2 t9 t10 s)) (fun e => some (f_i_ImageOfMap_x0_1 h2 t9 t10 e)) (fun e => some (f_i_ImageOfMap_x0_2 h2 t9 t10 e)) := by kernel_rfl
theorem f_i_ImageOfMap_l0 (h2 : List Sc) (t9 : List Sc) (t10 : Int) : ∀ s r, loopL (f_i_ImageOfMap_r0 h2 t9 t10) s = some r → LP S0 23 0 (bodyOf Try.f23 0) (f_i_ImageOfMap_fr0 h2 t9 t10 s) = some (enX (f_i_ImageOfMap_x0_1 h2 t9 t10) (f_i_ImageOfMap_x0_2 h2 t9 t10) r) :=
  loop_true f_i_ImageOfMap_Mt (noL_true) f_i_ImageOfMap_o (fun _ h => by cases h) (fun _ h => by cases h) (fun s => (f_i_ImageOfMap_e0 h2 t9 t10 s).trans (f_i_ImageOfMap_p0 h2 t9 t10 s _ _ (fun e => some (f_i_ImageOfMap_x0_2 h2 t9 t10 e))))
def f_i_ImageOfMap_t0 (σ : List AV) : Option (Bool × Bool × (X × List AV) × (X × List AV)) := match dec f_i_ImageOfMap_h0 σ with
  | some [.l h2, .i a6, .l t9, .i t10, .i t11] => some ((loopL (f_i_ImageOfMap_r0 h2 t9 t10) (a6, t11)).isSome, isOne (loopL (f_i_ImageOfMap_r0 h2 t9 t10) (a6, t11)), f_i_ImageOfMap_x0_1 h2 t9 t10 (getOne 0 (loopL (f_i_ImageOfMap_r0 h2 t9 t10) (a6, t11))), f_i_ImageOfMap_x0_2 h2 t9 t10 (getTwo () (loopL (f_i_ImageOfMap_r0 h2 t9 t10) (a6, t11))))
  | _ => none
theorem f_i_ImageOfMap_tt0 : TTrue S0 23 Try.f23 0 f_i_ImageOfMap_t0 := by
  intro σ p r r' h
  unfold f_i_ImageOfMap_t0 at h
  split at h
  · rename_i hd
    rw [← dec_enc hd]
    exact row2 (f_i_ImageOfMap_l0 _ _ _ _) h
  · cases h
theorem f_i_ImageOfMap_p {R : Type} (h0 : List Sc) (m1 : List Sc) (kR : Int × Bool → Option R) : f_i_ImageOfMap_k h0 m1 kR = (f_i_ImageOfMap h0 m1).bind kR := by
  simp only [f_i_ImageOfMap_k, f_i_ImageOfMap, boB, blB, someB]
def f_i_ImageOfMap_en (r : Int × Bool) : List AV := enc [.int .i64, .boo] [.i r.1, .b r.2]
theorem f_i_ImageOfMap_e (h0 : List Sc) (m1 : List Sc) : runFn S0.E f_i_ImageOfMap_M (asL (addL 0 f_i_ImageOfMap_t0 (noL))) (S0.kl 23) Try.f23 (enc [.gr, .sl] [.l h0, .l m1]) = f_i_ImageOfMap_k h0 m1 (fun r => some (f_i_ImageOfMap_en r)) := by kernel_rfl
theorem f_i_ImageOfMap_ok (h0 : List Sc) (m1 : List Sc) (r : Int × Bool) (h : f_i_ImageOfMap h0 m1 = some r) : CL S0 23 (enc [.gr, .sl] [.l h0, .l m1]) = some (f_i_ImageOfMap_en r) :=
  fn_true (Fk := fun k => f_i_ImageOfMap_k h0 m1 k) (enc := f_i_ImageOfMap_en) Try.func23 rfl f_i_ImageOfMap_Mt (addL_true f_i_ImageOfMap_tt0 (noL_true)) f_i_ImageOfMap_o (f_i_ImageOfMap_e h0 m1) (f_i_ImageOfMap_p h0 m1) h
def f_i_ImageOfMap_c (args : List AV) : Option (Bool × List AV) := match dec [.gr, .sl] args with
  | some [.l h0, .l m1] => some ((f_i_ImageOfMap h0 m1).isSome, f_i_ImageOfMap_en ((f_i_ImageOfMap h0 m1).getD (0, false)))
  | _ => none
theorem f_i_ImageOfMap_cc : CTrue S0 23 f_i_ImageOfMap_c := by
  intro args rs h
  unfold f_i_ImageOfMap_c at h
  split at h
  · rename_i hd
    rw [← dec_enc hd]
    exact rowC (f_i_ImageOfMap_ok _ _) h
  · cases h

def f_l_FnExactImageOfMap_M : Calling := addC 13 f_l_szGroup_c (addC 15 f_l_toGroup_c (addC 10 f_l_toIntS_c (addC 22 f_s_ImageOfMap_c (addC 23 f_i_ImageOfMap_c (addC 17 f_l_eqGroup_c (addC 12 f_l_eqIntS_c (noC)))))))
theorem f_l_FnExactImageOfMap_Mt : CallsTrue S0 f_l_FnExactImageOfMap_M := addC_true f_l_szGroup_cc (addC_true f_l_toGroup_cc (addC_true f_l_toIntS_cc (addC_true f_s_ImageOfMap_cc (addC_true f_i_ImageOfMap_cc (addC_true f_l_eqGroup_cc (addC_true f_l_eqIntS_cc (noC_true)))))))
theorem f_l_FnExactImageOfMap_o : loopsOnce Try.f6 = true := by kernel_rfl
theorem f_l_FnExactImageOfMap_p {R : Type} (aH0 : List Sc) (aM1 : List Sc) (kR : Bool → Option R) : f_l_FnExactImageOfMap_k aH0 aM1 kR = (f_l_FnExactImageOfMap aH0 aM1).bind kR := by
  simp only [f_l_FnExactImageOfMap_k, f_l_FnExactImageOfMap, brB, boB, someB, noneB]
def f_l_FnExactImageOfMap_en (r : Bool) : List AV := enc [.boo] [.b r]
theorem f_l_FnExactImageOfMap_e (aH0 : List Sc) (aM1 : List Sc) : runFn S0.E f_l_FnExactImageOfMap_M (asL (noL)) (S0.kl 6) Try.f6 (enc [.gr, .sl] [.l aH0, .l aM1]) = f_l_FnExactImageOfMap_k aH0 aM1 (fun r => some (f_l_FnExactImageOfMap_en r)) := by kernel_rfl
theorem f_l_FnExactImageOfMap_ok (aH0 : List Sc) (aM1 : List Sc) (r : Bool) (h : f_l_FnExactImageOfMap aH0 aM1 = some r) : CL S0 6 (enc [.gr, .sl] [.l aH0, .l aM1]) = some (f_l_FnExactImageOfMap_en r) :=
  fn_true (Fk := fun k => f_l_FnExactImageOfMap_k aH0 aM1 k) (enc := f_l_FnExactImageOfMap_en) Try.func6 rfl f_l_FnExactImageOfMap_Mt (noL_true) f_l_FnExactImageOfMap_o (f_l_FnExactImageOfMap_e aH0 aM1) (f_l_FnExactImageOfMap_p aH0 aM1) h
def f_l_FnExactImageOfMap_c (args : List AV) : Option (Bool × List AV) := match dec [.gr, .sl] args with
  | some [.l aH0, .l aM1] => some ((f_l_FnExactImageOfMap aH0 aM1).isSome, f_l_FnExactImageOfMap_en ((f_l_FnExactImageOfMap aH0 aM1).getD false))
  | _ => none
theorem f_l_FnExactImageOfMap_cc : CTrue S0 6 f_l_FnExactImageOfMap_c := by
  intro args rs h
  unfold f_l_FnExactImageOfMap_c at h
  split at h
  · rename_i hd
    rw [← dec_enc hd]
    exact rowC (f_l_FnExactImageOfMap_ok _ _) h
  · cases h

def f_s_l11Divisor_M : Calling := noC
theorem f_s_l11Divisor_Mt : CallsTrue S0 f_s_l11Divisor_M := noC_true
theorem f_s_l11Divisor_o : loopsOnce Try.f39 = true := by kernel_rfl
def f_s_l11Divisor_h0 : List Sh := [.int .i64, .int .i64, .u, .u, .u, .u, .u, .u, .u, .u, .u, .u, .u, .u]
def f_s_l11Divisor_fr0 (s : Int × Int) : List AV := enc f_s_l11Divisor_h0 [.i s.1, .i s.2]
def f_s_l11Divisor_g0_1 : List Sh := [.int .i64, .u, .u, .u, .u, .u, .u, .u, .u, .u, .u, .u, .u, .u]
def f_s_l11Divisor_x0_1 (e : Int) : X × List AV := (.out 0, enc f_s_l11Divisor_g0_1 [.i e])
def f_s_l11Divisor_x0_2 (_e : Unit) : X × List AV := (.ret, [])
theorem f_s_l11Divisor_p0 {R : Type} (s : Int × Int) (kN : Int × Int → Option R) (kA : Int → Option R) (kB : Unit → Option R) : f_s_l11Divisor_k0 s.1 s.2 kN kA = (f_s_l11Divisor_r0 s).bind (Ro.el kN kA kB) := by
  simp only [f_s_l11Divisor_k0, f_s_l11Divisor_r0, brB, someB, noneB, Ro.el]
theorem f_s_l11Divisor_e0 (s : Int × Int) : EC S0.E f_s_l11Divisor_M (asL (noL)) (S0.kl 39) 0 (bodyOf Try.f39 0) (f_s_l11Divisor_fr0 s) (done (S0.kl 39 0)) = f_s_l11Divisor_k0 s.1 s.2 (fun s => some (.norm, f_s_l11Divisor_fr0 s)) (fun e => some (f_s_l11Divisor_x0_1 e)) := by kernel_rfl
theorem f_s_l11Divisor_l0 : ∀ s r, loopL (f_s_l11Divisor_r0) s = some r → LP S0 39 0 (bodyOf Try.f39 0) (f_s_l11Divisor_fr0 s) = some (enX (f_s_l11Divisor_x0_1) (f_s_l11Divisor_x0_2) r) :=
  loop_true f_s_l11Divisor_Mt (noL_true) f_s_l11Divisor_o (fun _ h => by cases h) (fun _ h => by cases h) (fun s => (f_s_l11Divisor_e0 s).trans (f_s_l11Divisor_p0 s _ _ (fun e => some (f_s_l11Divisor_x0_2 e))))
def f_s_l11Divisor_t0 (σ : List AV) : Option (Bool × Bool × (X × List AV) × (X × List AV)) := match dec f_s_l11Divisor_h0 σ with
  | some [.i x0, .i y1] => some (isOne (loopL (f_s_l11Divisor_r0) (x0, y1)), true, f_s_l11Divisor_x0_1 (getOne 0 (loopL (f_s_l11Divisor_r0) (x0, y1))), (.ret, []))
  | _ => none
theorem f_s_l11Divisor_tt0 : TTrue S0 39 Try.f39 0 f_s_l11Divisor_t0 := by
  intro σ p r r' h
  unfold f_s_l11Divisor_t0 at h
  split at h
  · rename_i hd
    rw [← dec_enc hd]
    exact row1 (f_s_l11Divisor_l0 _) h
  · cases h
theorem f_s_l11Divisor_p {R : Type} (x0 : Int) (y1 : Int) (kR : Int → Option R) : f_s_l11Divisor_k x0 y1 kR = (f_s_l11Divisor x0 y1).bind kR := by
  simp only [f_s_l11Divisor_k, f_s_l11Divisor, bl1B, someB]
def f_s_l11Divisor_en (r : Int) : List AV := enc [.int .i64] [.i r]
theorem f_s_l11Divisor_e (x0 : Int) (y1 : Int) : runFn S0.E f_s_l11Divisor_M (asL (addL 0 f_s_l11Divisor_t0 (noL))) (S0.kl 39) Try.f39 (enc [.int .i64, .int .i64] [.i x0, .i y1]) = f_s_l11Divisor_k x0 y1 (fun r => some (f_s_l11Divisor_en r)) := by kernel_rfl
theorem f_s_l11Divisor_ok (x0 : Int) (y1 : Int) (r : Int) (h : f_s_l11Divisor x0 y1 = some r) : CL S0 39 (enc [.int .i64, .int .i64] [.i x0, .i y1]) = some (f_s_l11Divisor_en r) :=
  fn_true (Fk := fun k => f_s_l11Divisor_k x0 y1 k) (enc := f_s_l11Divisor_en) Try.func39 rfl f_s_l11Divisor_Mt (addL_true f_s_l11Divisor_tt0 (noL_true)) f_s_l11Divisor_o (f_s_l11Divisor_e x0 y1) (f_s_l11Divisor_p x0 y1) h
def f_s_l11Divisor_c (args : List AV) : Option (Bool × List AV) := match dec [.int .i64, .int .i64] args with
  | some [.i x0, .i y1] => some ((f_s_l11Divisor x0 y1).isSome, f_s_l11Divisor_en ((f_s_l11Divisor x0 y1).getD 0))
  | _ => none
theorem f_s_l11Divisor_cc : CTrue S0 39 f_s_l11Divisor_c := by
  intro args rs h
  unfold f_s_l11Divisor_c at h
  split at h
  · rename_i hd
    rw [← dec_enc hd]
    exact rowC (f_s_l11Divisor_ok _ _) h
  · cases h

def f_s_DavenportBound_M : Calling := addC 29 f_s_IsGroup_c (addC 39 f_s_l11Divisor_c (noC))
theorem f_s_DavenportBound_Mt : CallsTrue S0 f_s_DavenportBound_M := addC_true f_s_IsGroup_cc (addC_true f_s_l11Divisor_cc (noC_true))
theorem f_s_DavenportBound_o : loopsOnce Try.f24 = true := by kernel_rfl
def f_s_DavenportBound_h2 : List Sh := [.u, .u, .u, .own 3, .int .i64, .int .i64, .u, .u, .u, .u, .u, .u, .u, .u, .u, .u, .u, .u, .u, .u, .u, .u, .u, .u, .u, .u, .u, .u, .u, .u, .u, .u, .u, .u, .u, .u, .u, .u, .u, .u, .u, .u, .u, .u, .u, .u, .u, .u, .u, .u, .u, .u, .u, .u, .u, .u, .u, .u, .u, .u, .u, .u, .u, .u, .u, .u, .u, .u, .u, .u, .u, .u, .u]
def f_s_DavenportBound_fr2 (t4 : Int) (s : List Sc × Int) : List AV := enc f_s_DavenportBound_h2 [.l s.1, .i t4, .i s.2]
def f_s_DavenportBound_g2_1 : List Sh := [.u, .u, .u, .own 3, .int .i64, .u, .u, .u, .u, .u, .u, .u, .u, .u, .u, .u, .u, .u, .u, .u, .u, .u, .u, .u, .u, .u, .u, .u, .u, .u, .u, .u, .u, .u, .u, .u, .u, .u, .u, .u, .u, .u, .u, .u, .u, .u, .u, .u, .u, .u, .u, .u, .u, .u, .u, .u, .u, .u, .u, .u, .u, .u, .u, .u, .u, .u, .u, .u, .u, .u, .u, .u, .u]
def f_s_DavenportBound_x2_1 (t4 : Int) (e : List Sc) : X × List AV := (.out 2, enc f_s_DavenportBound_g2_1 [.l e, .i t4])
def f_s_DavenportBound_x2_2 (_ : Int) (_e : Unit) : X × List AV := (.ret, [])
theorem f_s_DavenportBound_p2 {R : Type} (t4 : Int) (s : List Sc × Int) (kN : List Sc × Int → Option R) (kA : List Sc → Option R) (kB : Unit → Option R) : f_s_DavenportBound_k2 t4 s.1 s.2 kN kA = (f_s_DavenportBound_r2 t4 s).bind (Ro.el kN kA kB) := by
  simp only [f_s_DavenportBound_k2, f_s_DavenportBound_r2, brB, boB, someB, noneB, Ro.el]
theorem f_s_DavenportBound_e2 (t4 : Int) (s : List Sc × Int) : EC S0.E f_s_DavenportBound_M (asL (noL)) (S0.kl 24) 2 (bodyOf Try.f24 2) (f_s_DavenportBound_fr2 t4 s) (done (S0.kl 24 2)) = f_s_DavenportBound_k2 t4 s.1 s.2 (fun s => some (.norm, f_s_DavenportBound_fr2 t4 s)) (fun e => some (f_s_DavenportBound_x2_1 t4 e)) := by kernel_rfl
theorem f_s_DavenportBound_l2 (t4 : Int) : ∀ s r, loopL (f_s_DavenportBound_r2 t4) s = some r → LP S0 24 2 (bodyOf Try.f24 2) (f_s_DavenportBound_fr2 t4 s) = some (enX (f_s_DavenportBound_x2_1 t4) (f_s_DavenportBound_x2_2 t4) r) :=
  loop_true f_s_DavenportBound_Mt (noL_true) f_s_DavenportBound_o (fun _ h => by cases h) (fun _ h => by cases h) (fun s => (f_s_DavenportBound_e2 t4 s).trans (f_s_DavenportBound_p2 t4 s _ _ (fun e => some (f_s_DavenportBound_x2_2 t4 e))))
def f_s_DavenportBound_t2 (σ : List AV) : Option (Bool × Bool × (X × List AV) × (X × List AV)) := match dec f_s_DavenportBound_h2 σ with
  | some [.l t3, .i t4, .i t5] => some (isOne (loopL (f_s_DavenportBound_r2 t4) (t3, t5)), true, f_s_DavenportBound_x2_1 t4 (getOne [] (loopL (f_s_DavenportBound_r2 t4) (t3, t5))), (.ret, []))
  | _ => none
theorem f_s_DavenportBound_tt2 : TTrue S0 24 Try.f24 2 f_s_DavenportBound_t2 := by
  intro σ p r r' h
  unfold f_s_DavenportBound_t2 at h
  split at h
  · rename_i hd
    rw [← dec_enc hd]
    exact row1 (f_s_DavenportBound_l2 _ _) h
  · cases h
def f_s_DavenportBound_h0 : List Sh := [.u, .u, .u, .own 3, .int .i64, .u, .u, .u, .u, .u, .u, .u, .u, .u, .u, .u, .u, .u, .u, .u, .u, .u, .u, .u, .u, .u, .u, .u, .u, .u, .u, .u, .u, .u, .u, .u, .u, .u, .u, .u, .u, .u, .u, .u, .u, .u, .u, .u, .u, .u, .u, .u, .u, .u, .u, .u, .u, .u, .u, .u, .u, .u, .u, .u, .u, .u, .u, .u, .u, .u, .u, .u, .u]
def f_s_DavenportBound_fr0 (s : List Sc × Int) : List AV := enc f_s_DavenportBound_h0 [.l s.1, .i s.2]
def f_s_DavenportBound_g0_1 : List Sh := [.u, .u, .u, .own 3, .int .i64, .u, .u, .u, .u, .u, .u, .u, .u, .u, .u, .u, .u, .u, .u, .u, .u, .u, .u, .u, .u, .u, .u, .u, .u, .u, .u, .u, .u, .u, .u, .u, .u, .u, .u, .u, .u, .u, .u, .u, .u, .u, .u, .u, .u, .u, .u, .u, .u, .u, .u, .u, .u, .u, .u, .u, .u, .u, .u, .u, .u, .u, .u, .u, .u, .u, .u, .u, .u]
def f_s_DavenportBound_x0_1 (e : List Sc × Int) : X × List AV := (.out 0, enc f_s_DavenportBound_g0_1 [.l e.1, .i e.2])
def f_s_DavenportBound_x0_2 (_e : Unit) : X × List AV := (.ret, [])
theorem f_s_DavenportBound_p0 {R : Type} (s : List Sc × Int) (kN : List Sc × Int → Option R) (kA : List Sc × Int → Option R) (kB : Unit → Option R) : f_s_DavenportBound_k0 s.1 s.2 kN kA = (f_s_DavenportBound_r0 s).bind (Ro.el kN kA kB) := by
  simp only [f_s_DavenportBound_k0, f_s_DavenportBound_r0, brB, bl1B, someB, Ro.el]
theorem f_s_DavenportBound_e0 (s : List Sc × Int) : EC S0.E f_s_DavenportBound_M (asL (addL 2 f_s_DavenportBound_t2 (noL))) (S0.kl 24) 0 (bodyOf Try.f24 0) (f_s_DavenportBound_fr0 s) (done (S0.kl 24 0)) = f_s_DavenportBound_k0 s.1 s.2 (fun s => some (.norm, f_s_DavenportBound_fr0 s)) (fun e => some (f_s_DavenportBound_x0_1 e)) := by kernel_rfl
theorem f_s_DavenportBound_l0 : ∀ s r, loopL (f_s_DavenportBound_r0) s = some r → LP S0 24 0 (bodyOf Try.f24 0) (f_s_DavenportBound_fr0 s) = some (enX (f_s_DavenportBound_x0_1) (f_s_DavenportBound_x0_2) r) :=
  loop_true f_s_DavenportBound_Mt (addL_true f_s_DavenportBound_tt2 (noL_true)) f_s_DavenportBound_o (fun _ h => by cases h) (fun _ h => by cases h) (fun s => (f_s_DavenportBound_e0 s).trans (f_s_DavenportBound_p0 s _ _ (fun e => some (f_s_DavenportBound_x0_2 e))))
def f_s_DavenportBound_t0 (σ : List AV) : Option (Bool × Bool × (X × List AV) × (X × List AV)) := match dec f_s_DavenportBound_h0 σ with
  | some [.l t3, .i t4] => some (isOne (loopL (f_s_DavenportBound_r0) (t3, t4)), true, f_s_DavenportBound_x0_1 (getOne ([], 0) (loopL (f_s_DavenportBound_r0) (t3, t4))), (.ret, []))
  | _ => none
theorem f_s_DavenportBound_tt0 : TTrue S0 24 Try.f24 0 f_s_DavenportBound_t0 := by
  intro σ p r r' h
  unfold f_s_DavenportBound_t0 at h
  split at h
  · rename_i hd
    rw [← dec_enc hd]
    exact row1 (f_s_DavenportBound_l0 _) h
  · cases h
def f_s_DavenportBound_h4 : List Sh := [.u, .u, .u, .own 3, .u, .u, .u, .u, .int .i64, .int .i64, .u, .u, .u, .u, .u, .u, .u, .u, .u, .u, .u, .u, .u, .u, .u, .u, .u, .u, .u, .u, .u, .u, .u, .u, .u, .u, .u, .u, .u, .u, .u, .u, .u, .u, .u, .u, .u, .u, .u, .u, .u, .u, .u, .u, .u, .u, .u, .u, .u, .u, .u, .u, .u, .u, .u, .u, .u, .u, .u, .u, .u, .u, .u]
def f_s_DavenportBound_fr4 (s : List Sc × Int × Int) : List AV := enc f_s_DavenportBound_h4 [.l s.1, .i s.2.1, .i s.2.2]
def f_s_DavenportBound_g4_1 : List Sh := [.u, .u, .u, .u, .u, .u, .u, .u, .int .i64, .u, .u, .u, .u, .u, .u, .u, .u, .u, .u, .u, .u, .u, .u, .u, .u, .u, .u, .u, .u, .u, .u, .u, .u, .u, .u, .u, .u, .u, .u, .u, .u, .u, .u, .u, .u, .u, .u, .u, .u, .u, .u, .u, .u, .u, .u, .u, .u, .u, .u, .u, .u, .u, .u, .u, .u, .u, .u, .u, .u, .u, .u, .u, .u]
def f_s_DavenportBound_x4_1 (e : Int) : X × List AV := (.out 4, enc f_s_DavenportBound_g4_1 [.i e])
def f_s_DavenportBound_x4_2 (_e : Unit) : X × List AV := (.ret, [])
theorem f_s_DavenportBound_p4 {R : Type} (s : List Sc × Int × Int) (kN : List Sc × Int × Int → Option R) (kA : Int → Option R) (kB : Unit → Option R) : f_s_DavenportBound_k4 s.1 s.2.1 s.2.2 kN kA = (f_s_DavenportBound_r4 s).bind (Ro.el kN kA kB) := by
  simp only [f_s_DavenportBound_k4, f_s_DavenportBound_r4, brB, someB, noneB, Ro.el]
theorem f_s_DavenportBound_e4 (s : List Sc × Int × Int) : EC S0.E f_s_DavenportBound_M (asL (addL 0 f_s_DavenportBound_t0 (addL 2 f_s_DavenportBound_t2 (noL)))) (S0.kl 24) 4 (bodyOf Try.f24 4) (f_s_DavenportBound_fr4 s) (done (S0.kl 24 4)) = f_s_DavenportBound_k4 s.1 s.2.1 s.2.2 (fun s => some (.norm, f_s_DavenportBound_fr4 s)) (fun e => some (f_s_DavenportBound_x4_1 e)) := by kernel_rfl
theorem f_s_DavenportBound_l4 : ∀ s r, loopL (f_s_DavenportBound_r4) s = some r → LP S0 24 4 (bodyOf Try.f24 4) (f_s_DavenportBound_fr4 s) = some (enX (f_s_DavenportBound_x4_1) (f_s_DavenportBound_x4_2) r) :=
  loop_true f_s_DavenportBound_Mt (addL_true f_s_DavenportBound_tt0 (addL_true f_s_DavenportBound_tt2 (noL_true))) f_s_DavenportBound_o (fun _ h => by cases h) (fun _ h => by cases h) (fun s => (f_s_DavenportBound_e4 s).trans (f_s_DavenportBound_p4 s _ _ (fun e => some (f_s_DavenportBound_x4_2 e))))
def f_s_DavenportBound_t4 (σ : List AV) : Option (Bool × Bool × (X × List AV) × (X × List AV)) := match dec f_s_DavenportBound_h4 σ with
  | some [.l t3, .i t8, .i t9] => some (isOne (loopL (f_s_DavenportBound_r4) (t3, t8, t9)), true, f_s_DavenportBound_x4_1 (getOne 0 (loopL (f_s_DavenportBound_r4) (t3, t8, t9))), (.ret, []))
  | _ => none
theorem f_s_DavenportBound_tt4 : TTrue S0 24 Try.f24 4 f_s_DavenportBound_t4 := by
  intro σ p r r' h
  unfold f_s_DavenportBound_t4 at h
  split at h
  · rename_i hd
    rw [← dec_enc hd]
    exact row1 (f_s_DavenportBound_l4 _) h
  · cases h
theorem f_s_DavenportBound_p {R : Type} (L0 : List Sc) (kR : Int → Option R) : f_s_DavenportBound_k L0 kR = (f_s_DavenportBound L0).bind kR := by
  simp only [f_s_DavenportBound_k, f_s_DavenportBound, brB, boB, bl1B, someB, noneB]
def f_s_DavenportBound_en (r : Int) : List AV := enc [.int .i64] [.i r]
theorem f_s_DavenportBound_e (L0 : List Sc) : runFn S0.E f_s_DavenportBound_M (asL (addL 4 f_s_DavenportBound_t4 (addL 0 f_s_DavenportBound_t0 (addL 2 f_s_DavenportBound_t2 (noL))))) (S0.kl 24) Try.f24 (enc [.gr] [.l L0]) = f_s_DavenportBound_k L0 (fun r => some (f_s_DavenportBound_en r)) := by kernel_rfl
theorem f_s_DavenportBound_ok (L0 : List Sc) (r : Int) (h : f_s_DavenportBound L0 = some r) : CL S0 24 (enc [.gr] [.l L0]) = some (f_s_DavenportBound_en r) :=
  fn_true (Fk := fun k => f_s_DavenportBound_k L0 k) (enc := f_s_DavenportBound_en) Try.func24 rfl f_s_DavenportBound_Mt (addL_true f_s_DavenportBound_tt4 (addL_true f_s_DavenportBound_tt0 (addL_true f_s_DavenportBound_tt2 (noL_true)))) f_s_DavenportBound_o (f_s_DavenportBound_e L0) (f_s_DavenportBound_p L0) h
def f_s_DavenportBound_c (args : List AV) : Option (Bool × List AV) := match dec [.gr] args with
  | some [.l L0] => some ((f_s_DavenportBound L0).isSome, f_s_DavenportBound_en ((f_s_DavenportBound L0).getD 0))
  | _ => none
theorem f_s_DavenportBound_cc : CTrue S0 24 f_s_DavenportBound_c := by
  intro args rs h
  unfold f_s_DavenportBound_c at h
  split at h
  · rename_i hd
    rw [← dec_enc hd]
    exact rowC (f_s_DavenportBound_ok _) h
  · cases h

def f_i_copyInts_M : Calling := noC
theorem f_i_copyInts_Mt : CallsTrue S0 f_i_copyInts_M := noC_true
theorem f_i_copyInts_o : loopsOnce Try.f40 = true := by kernel_rfl
theorem f_i_copyInts_p {R : Type} (l0 : List Sc) (kR : List Sc → Option R) : f_i_copyInts_k l0 kR = (f_i_copyInts l0).bind kR := by
  simp only [f_i_copyInts_k, f_i_copyInts, brB, someB, noneB]
def f_i_copyInts_en (r : List Sc) : List AV := enc [.own 3] [.l r]
theorem f_i_copyInts_e (l0 : List Sc) : runFn S0.E f_i_copyInts_M (asL (noL)) (S0.kl 40) Try.f40 (enc [.sl] [.l l0]) = f_i_copyInts_k l0 (fun r => some (f_i_copyInts_en r)) := by kernel_rfl
theorem f_i_copyInts_ok (l0 : List Sc) (r : List Sc) (h : f_i_copyInts l0 = some r) : CL S0 40 (enc [.sl] [.l l0]) = some (f_i_copyInts_en r) :=
  fn_true (Fk := fun k => f_i_copyInts_k l0 k) (enc := f_i_copyInts_en) Try.func40 rfl f_i_copyInts_Mt (noL_true) f_i_copyInts_o (f_i_copyInts_e l0) (f_i_copyInts_p l0) h
def f_i_copyInts_c (args : List AV) : Option (Bool × List AV) := match dec [.sl] args with
  | some [.l l0] => some ((f_i_copyInts l0).isSome, f_i_copyInts_en ((f_i_copyInts l0).getD []))
  | _ => none
theorem f_i_copyInts_cc : CTrue S0 40 f_i_copyInts_c := by
  intro args rs h
  unfold f_i_copyInts_c at h
  split at h
  · rename_i hd
    rw [← dec_enc hd]
    exact rowC (f_i_copyInts_ok _) h
  · cases h

def f_i_gcd_M : Calling := noC
theorem f_i_gcd_Mt : CallsTrue S0 f_i_gcd_M := noC_true
theorem f_i_gcd_o : loopsOnce Try.f41 = true := by kernel_rfl
def f_i_gcd_h0 : List Sh := [.int .i64, .int .i64, .u, .u, .u, .u, .u, .u, .u, .u, .u, .u]
def f_i_gcd_fr0 (s : Int × Int) : List AV := enc f_i_gcd_h0 [.i s.1, .i s.2]
def f_i_gcd_g0_1 : List Sh := [.int .i64, .u, .u, .u, .u, .u, .u, .u, .u, .u, .u, .u]
def f_i_gcd_x0_1 (e : Int) : X × List AV := (.out 0, enc f_i_gcd_g0_1 [.i e])
def f_i_gcd_x0_2 (_e : Unit) : X × List AV := (.ret, [])
theorem f_i_gcd_p0 {R : Type} (s : Int × Int) (kN : Int × Int → Option R) (kA : Int → Option R) (kB : Unit → Option R) : f_i_gcd_k0 s.1 s.2 kN kA = (f_i_gcd_r0 s).bind (Ro.el kN kA kB) := by
  simp only [f_i_gcd_k0, f_i_gcd_r0, brB, someB, noneB, Ro.el]
theorem f_i_gcd_e0 (s : Int × Int) : EC S0.E f_i_gcd_M (asL (noL)) (S0.kl 41) 0 (bodyOf Try.f41 0) (f_i_gcd_fr0 s) (done (S0.kl 41 0)) = f_i_gcd_k0 s.1 s.2 (fun s => some (.norm, f_i_gcd_fr0 s)) (fun e => some (f_i_gcd_x0_1 e)) := by kernel_rfl
theorem f_i_gcd_l0 : ∀ s r, loopL (f_i_gcd_r0) s = some r → LP S0 41 0 (bodyOf Try.f41 0) (f_i_gcd_fr0 s) = some (enX (f_i_gcd_x0_1) (f_i_gcd_x0_2) r) :=
  loop_true f_i_gcd_Mt (noL_true) f_i_gcd_o (fun _ h => by cases h) (fun _ h => by cases h) (fun s => (f_i_gcd_e0 s).trans (f_i_gcd_p0 s _ _ (fun e => some (f_i_gcd_x0_2 e))))
def f_i_gcd_t0 (σ : List AV) : Option (Bool × Bool × (X × List AV) × (X × List AV)) := match dec f_i_gcd_h0 σ with
  | some [.i a0, .i b1] => some (isOne (loopL (f_i_gcd_r0) (a0, b1)), true, f_i_gcd_x0_1 (getOne 0 (loopL (f_i_gcd_r0) (a0, b1))), (.ret, []))
  | _ => none
theorem f_i_gcd_tt0 : TTrue S0 41 Try.f41 0 f_i_gcd_t0 := by
  intro σ p r r' h
  unfold f_i_gcd_t0 at h
  split at h
  · rename_i hd
    rw [← dec_enc hd]
    exact row1 (f_i_gcd_l0 _) h
  · cases h
theorem f_i_gcd_p {R : Type} (a0 : Int) (b1 : Int) (kR : Int → Option R) : f_i_gcd_k a0 b1 kR = (f_i_gcd a0 b1).bind kR := by
  simp only [f_i_gcd_k, f_i_gcd, bl1B, someB]
def f_i_gcd_en (r : Int) : List AV := enc [.int .i64] [.i r]
theorem f_i_gcd_e (a0 : Int) (b1 : Int) : runFn S0.E f_i_gcd_M (asL (addL 0 f_i_gcd_t0 (noL))) (S0.kl 41) Try.f41 (enc [.int .i64, .int .i64] [.i a0, .i b1]) = f_i_gcd_k a0 b1 (fun r => some (f_i_gcd_en r)) := by kernel_rfl
theorem f_i_gcd_ok (a0 : Int) (b1 : Int) (r : Int) (h : f_i_gcd a0 b1 = some r) : CL S0 41 (enc [.int .i64, .int .i64] [.i a0, .i b1]) = some (f_i_gcd_en r) :=
  fn_true (Fk := fun k => f_i_gcd_k a0 b1 k) (enc := f_i_gcd_en) Try.func41 rfl f_i_gcd_Mt (addL_true f_i_gcd_tt0 (noL_true)) f_i_gcd_o (f_i_gcd_e a0 b1) (f_i_gcd_p a0 b1) h
def f_i_gcd_c (args : List AV) : Option (Bool × List AV) := match dec [.int .i64, .int .i64] args with
  | some [.i a0, .i b1] => some ((f_i_gcd a0 b1).isSome, f_i_gcd_en ((f_i_gcd a0 b1).getD 0))
  | _ => none
theorem f_i_gcd_cc : CTrue S0 41 f_i_gcd_c := by
  intro args rs h
  unfold f_i_gcd_c at h
  split at h
  · rename_i hd
    rw [← dec_enc hd]
    exact rowC (f_i_gcd_ok _ _) h
  · cases h

def f_i_DavenportBound_M : Calling := addC 31 f_i_IsGroup_c (addC 40 f_i_copyInts_c (addC 41 f_i_gcd_c (noC)))
theorem f_i_DavenportBound_Mt : CallsTrue S0 f_i_DavenportBound_M := addC_true f_i_IsGroup_cc (addC_true f_i_copyInts_cc (addC_true f_i_gcd_cc (noC_true)))
theorem f_i_DavenportBound_o : loopsOnce Try.f25 = true := by kernel_rfl
def f_i_DavenportBound_h2 : List Sh := [.u, .u, .u, .own 3, .int .i64, .int .i64, .u, .u, .u, .u, .u, .u, .u, .u, .u, .u, .u, .int .i64, .int .i64, .u, .u, .u, .u, .u, .u, .u, .u, .u, .u, .u, .u, .u, .u, .u, .u, .u, .u, .u, .u, .u, .u, .u, .u, .u, .u, .u, .u, .u, .u, .u, .u, .u, .u, .u, .u, .u, .u, .u, .u, .u, .u, .u, .u, .u, .u, .u, .u, .u, .u]
def f_i_DavenportBound_fr2 (t4 : Int) (t17 : Int) (t18 : Int) (s : List Sc × Int) : List AV := enc f_i_DavenportBound_h2 [.l s.1, .i t4, .i s.2, .i t17, .i t18]
def f_i_DavenportBound_g2_1 : List Sh := [.u, .u, .u, .own 3, .u, .u, .u, .u, .u, .u, .u, .u, .u, .u, .u, .u, .u, .int .i64, .int .i64, .u, .u, .u, .u, .u, .u, .u, .u, .u, .u, .u, .u, .u, .u, .u, .u, .u, .u, .u, .u, .u, .u, .u, .u, .u, .u, .u, .u, .u, .u, .u, .u, .u, .u, .u, .u, .u, .u, .u, .u, .u, .u, .u, .u, .u, .u, .u, .u, .u, .u]
def f_i_DavenportBound_x2_1 (t4 : Int) (t17 : Int) (t18 : Int) (e : List Sc) : X × List AV := (.out 2, enc f_i_DavenportBound_g2_1 [.l e, .i t17, .i t18])
def f_i_DavenportBound_x2_2 (_ : Int) (_ : Int) (_ : Int) (_e : Unit) : X × List AV := (.ret, [])
theorem f_i_DavenportBound_p2 {R : Type} (t4 : Int) (t17 : Int) (t18 : Int) (s : List Sc × Int) (kN : List Sc × Int → Option R) (kA : List Sc → Option R) (kB : Unit → Option R) : f_i_DavenportBound_k2 t4 t17 t18 s.1 s.2 kN kA = (f_i_DavenportBound_r2 t4 t17 t18 s).bind (Ro.el kN kA kB) := by
  simp only [f_i_DavenportBound_k2, f_i_DavenportBound_r2, brB, boB, someB, noneB, Ro.el]
theorem f_i_DavenportBound_e2 (t4 : Int) (t17 : Int) (t18 : Int) (s : List Sc × Int) : EC S0.E f_i_DavenportBound_M (asL (noL)) (S0.kl 25) 2 (bodyOf Try.f25 2) (f_i_DavenportBound_fr2 t4 t17 t18 s) (done (S0.kl 25 2)) = f_i_DavenportBound_k2 t4 t17 t18 s.1 s.2 (fun s => some (.norm, f_i_DavenportBound_fr2 t4 t17 t18 s)) (fun e => some (f_i_DavenportBound_x2_1 t4 t17 t18 e)) := by kernel_rfl
theorem f_i_DavenportBound_l2 (t4 : Int) (t17 : Int) (t18 : Int) : ∀ s r, loopL (f_i_DavenportBound_r2 t4 t17 t18) s = some r → LP S0 25 2 (bodyOf Try.f25 2) (f_i_DavenportBound_fr2 t4 t17 t18 s) = some (enX (f_i_DavenportBound_x2_1 t4 t17 t18) (f_i_DavenportBound_x2_2 t4 t17 t18) r) :=
  loop_true f_i_DavenportBound_Mt (noL_true) f_i_DavenportBound_o (fun _ h => by cases h) (fun _ h => by cases h) (fun s => (f_i_DavenportBound_e2 t4 t17 t18 s).trans (f_i_DavenportBound_p2 t4 t17 t18 s _ _ (fun e => some (f_i_DavenportBound_x2_2 t4 t17 t18 e))))
def f_i_DavenportBound_t2 (σ : List AV) : Option (Bool × Bool × (X × List AV) × (X × List AV)) := match dec f_i_DavenportBound_h2 σ with
  | some [.l t3, .i t4, .i t5, .i t17, .i t18] => some (isOne (loopL (f_i_DavenportBound_r2 t4 t17 t18) (t3, t5)), true, f_i_DavenportBound_x2_1 t4 t17 t18 (getOne [] (loopL (f_i_DavenportBound_r2 t4 t17 t18) (t3, t5))), (.ret, []))
  | _ => none
theorem f_i_DavenportBound_tt2 : TTrue S0 25 Try.f25 2 f_i_DavenportBound_t2 := by
  intro σ p r r' h
  unfold f_i_DavenportBound_t2 at h
  split at h
  · rename_i hd
    rw [← dec_enc hd]
    exact row1 (f_i_DavenportBound_l2 _ _ _ _) h
  · cases h
def f_i_DavenportBound_h0 : List Sh := [.u, .u, .u, .own 3, .u, .u, .u, .u, .u, .u, .u, .u, .u, .u, .u, .u, .u, .int .i64, .int .i64, .u, .u, .u, .u, .u, .u, .u, .u, .u, .u, .u, .u, .u, .u, .u, .u, .u, .u, .u, .u, .u, .u, .u, .u, .u, .u, .u, .u, .u, .u, .u, .u, .u, .u, .u, .u, .u, .u, .u, .u, .u, .u, .u, .u, .u, .u, .u, .u, .u, .u]
def f_i_DavenportBound_fr0 (t17 : Int) (s : List Sc × Int) : List AV := enc f_i_DavenportBound_h0 [.l s.1, .i t17, .i s.2]
def f_i_DavenportBound_g0_1 : List Sh := [.u, .u, .u, .own 3, .u, .u, .u, .u, .u, .u, .u, .u, .u, .u, .u, .u, .u, .int .i64, .int .i64, .u, .u, .u, .u, .u, .u, .u, .u, .u, .u, .u, .u, .u, .u, .u, .u, .u, .u, .u, .u, .u, .u, .u, .u, .u, .u, .u, .u, .u, .u, .u, .u, .u, .u, .u, .u, .u, .u, .u, .u, .u, .u, .u, .u, .u, .u, .u, .u, .u, .u]
def f_i_DavenportBound_x0_1 (t17 : Int) (e : List Sc × Int) : X × List AV := (.out 0, enc f_i_DavenportBound_g0_1 [.l e.1, .i t17, .i e.2])
def f_i_DavenportBound_x0_2 (_ : Int) (_e : Unit) : X × List AV := (.ret, [])
theorem f_i_DavenportBound_p0 {R : Type} (t17 : Int) (s : List Sc × Int) (kN : List Sc × Int → Option R) (kA : List Sc × Int → Option R) (kB : Unit → Option R) : f_i_DavenportBound_k0 t17 s.1 s.2 kN kA = (f_i_DavenportBound_r0 t17 s).bind (Ro.el kN kA kB) := by
  simp only [f_i_DavenportBound_k0, f_i_DavenportBound_r0, brB, bl1B, someB, Ro.el]
theorem f_i_DavenportBound_e0 (t17 : Int) (s : List Sc × Int) : EC S0.E f_i_DavenportBound_M (asL (addL 2 f_i_DavenportBound_t2 (noL))) (S0.kl 25) 0 (bodyOf Try.f25 0) (f_i_DavenportBound_fr0 t17 s) (done (S0.kl 25 0)) = f_i_DavenportBound_k0 t17 s.1 s.2 (fun s => some (.norm, f_i_DavenportBound_fr0 t17 s)) (fun e => some (f_i_DavenportBound_x0_1 t17 e)) := by kernel_rfl
theorem f_i_DavenportBound_l0 (t17 : Int) : ∀ s r, loopL (f_i_DavenportBound_r0 t17) s = some r → LP S0 25 0 (bodyOf Try.f25 0) (f_i_DavenportBound_fr0 t17 s) = some (enX (f_i_DavenportBound_x0_1 t17) (f_i_DavenportBound_x0_2 t17) r) :=
  loop_true f_i_DavenportBound_Mt (addL_true f_i_DavenportBound_tt2 (noL_true)) f_i_DavenportBound_o (fun _ h => by cases h) (fun _ h => by cases h) (fun s => (f_i_DavenportBound_e0 t17 s).trans (f_i_DavenportBound_p0 t17 s _ _ (fun e => some (f_i_DavenportBound_x0_2 t17 e))))
def f_i_DavenportBound_t0 (σ : List AV) : Option (Bool × Bool × (X × List AV) × (X × List AV)) := match dec f_i_DavenportBound_h0 σ with
  | some [.l t3, .i t17, .i t18] => some (isOne (loopL (f_i_DavenportBound_r0 t17) (t3, t18)), true, f_i_DavenportBound_x0_1 t17 (getOne ([], 0) (loopL (f_i_DavenportBound_r0 t17) (t3, t18))), (.ret, []))
  | _ => none
theorem f_i_DavenportBound_tt0 : TTrue S0 25 Try.f25 0 f_i_DavenportBound_t0 := by
  intro σ p r r' h
  unfold f_i_DavenportBound_t0 at h
  split at h
  · rename_i hd
    rw [← dec_enc hd]
    exact row1 (f_i_DavenportBound_l0 _ _) h
  · cases h
def f_i_DavenportBound_h4 : List Sh := [.u, .u, .u, .own 3, .u, .u, .u, .int .i64, .u, .u, .u, .u, .u, .u, .u, .u, .u, .u, .u, .u, .u, .u, .u, .u, .u, .u, .u, .u, .u, .u, .u, .u, .u, .u, .u, .u, .u, .u, .u, .u, .u, .u, .u, .u, .u, .u, .u, .u, .u, .u, .u, .u, .u, .u, .u, .u, .u, .al 3, .int .i64, .int .i64, .u, .u, .u, .u, .u, .u, .u, .u, .u]
def f_i_DavenportBound_fr4 (t58 : Int) (s : List Sc × Int × Int) : List AV := enc f_i_DavenportBound_h4 [.l s.1, .i s.2.1, .i t58, .i s.2.2]
def f_i_DavenportBound_g4_1 : List Sh := [.u, .u, .u, .own 3, .u, .u, .u, .int .i64, .u, .u, .u, .u, .u, .u, .u, .u, .u, .u, .u, .u, .u, .u, .u, .u, .u, .u, .u, .u, .u, .u, .u, .u, .u, .u, .u, .u, .u, .u, .u, .u, .u, .u, .u, .u, .u, .u, .u, .u, .u, .u, .u, .u, .u, .u, .u, .u, .u, .u, .u, .u, .u, .u, .u, .u, .u, .u, .u, .u, .u]
def f_i_DavenportBound_x4_1 (t58 : Int) (e : List Sc × Int) : X × List AV := (.out 4, enc f_i_DavenportBound_g4_1 [.l e.1, .i e.2])
def f_i_DavenportBound_x4_2 (_ : Int) (_e : Unit) : X × List AV := (.ret, [])
theorem f_i_DavenportBound_p4 {R : Type} (t58 : Int) (s : List Sc × Int × Int) (kN : List Sc × Int × Int → Option R) (kA : List Sc × Int → Option R) (kB : Unit → Option R) : f_i_DavenportBound_k4 t58 s.1 s.2.1 s.2.2 kN kA = (f_i_DavenportBound_r4 t58 s).bind (Ro.el kN kA kB) := by
  simp only [f_i_DavenportBound_k4, f_i_DavenportBound_r4, brB, someB, noneB, Ro.el]
theorem f_i_DavenportBound_e4 (t58 : Int) (s : List Sc × Int × Int) : EC S0.E f_i_DavenportBound_M (asL (addL 0 f_i_DavenportBound_t0 (addL 2 f_i_DavenportBound_t2 (noL)))) (S0.kl 25) 4 (bodyOf Try.f25 4) (f_i_DavenportBound_fr4 t58 s) (done (S0.kl 25 4)) = f_i_DavenportBound_k4 t58 s.1 s.2.1 s.2.2 (fun s => some (.norm, f_i_DavenportBound_fr4 t58 s)) (fun e => some (f_i_DavenportBound_x4_1 t58 e)) := by kernel_rfl
theorem f_i_DavenportBound_l4 (t58 : Int) : ∀ s r, loopL (f_i_DavenportBound_r4 t58) s = some r → LP S0 25 4 (bodyOf Try.f25 4) (f_i_DavenportBound_fr4 t58 s) = some (enX (f_i_DavenportBound_x4_1 t58) (f_i_DavenportBound_x4_2 t58) r) :=
  loop_true f_i_DavenportBound_Mt (addL_true f_i_DavenportBound_tt0 (addL_true f_i_DavenportBound_tt2 (noL_true))) f_i_DavenportBound_o (fun _ h => by cases h) (fun _ h => by cases h) (fun s => (f_i_DavenportBound_e4 t58 s).trans (f_i_DavenportBound_p4 t58 s _ _ (fun e => some (f_i_DavenportBound_x4_2 t58 e))))
def f_i_DavenportBound_t4 (σ : List AV) : Option (Bool × Bool × (X × List AV) × (X × List AV)) := match dec f_i_DavenportBound_h4 σ with
  | some [.l t3, .i t7, .i t58, .i t59] => some (isOne (loopL (f_i_DavenportBound_r4 t58) (t3, t7, t59)), true, f_i_DavenportBound_x4_1 t58 (getOne ([], 0) (loopL (f_i_DavenportBound_r4 t58) (t3, t7, t59))), (.ret, []))
  | _ => none
theorem f_i_DavenportBound_tt4 : TTrue S0 25 Try.f25 4 f_i_DavenportBound_t4 := by
  intro σ p r r' h
  unfold f_i_DavenportBound_t4 at h
  split at h
  · rename_i hd
    rw [← dec_enc hd]
    exact row1 (f_i_DavenportBound_l4 _ _) h
  · cases h
theorem f_i_DavenportBound_p {R : Type} (L0 : List Sc) (kR : Int → Option R) : f_i_DavenportBound_k L0 kR = (f_i_DavenportBound L0).bind kR := by
  simp only [f_i_DavenportBound_k, f_i_DavenportBound, brB, boB, bl1B, someB]
def f_i_DavenportBound_en (r : Int) : List AV := enc [.int .i64] [.i r]
theorem f_i_DavenportBound_e (L0 : List Sc) : runFn S0.E f_i_DavenportBound_M (asL (addL 4 f_i_DavenportBound_t4 (addL 0 f_i_DavenportBound_t0 (addL 2 f_i_DavenportBound_t2 (noL))))) (S0.kl 25) Try.f25 (enc [.gr] [.l L0]) = f_i_DavenportBound_k L0 (fun r => some (f_i_DavenportBound_en r)) := by kernel_rfl
theorem f_i_DavenportBound_ok (L0 : List Sc) (r : Int) (h : f_i_DavenportBound L0 = some r) : CL S0 25 (enc [.gr] [.l L0]) = some (f_i_DavenportBound_en r) :=
  fn_true (Fk := fun k => f_i_DavenportBound_k L0 k) (enc := f_i_DavenportBound_en) Try.func25 rfl f_i_DavenportBound_Mt (addL_true f_i_DavenportBound_tt4 (addL_true f_i_DavenportBound_tt0 (addL_true f_i_DavenportBound_tt2 (noL_true)))) f_i_DavenportBound_o (f_i_DavenportBound_e L0) (f_i_DavenportBound_p L0) h
def f_i_DavenportBound_c (args : List AV) : Option (Bool × List AV) := match dec [.gr] args with
  | some [.l L0] => some ((f_i_DavenportBound L0).isSome, f_i_DavenportBound_en ((f_i_DavenportBound L0).getD 0))
  | _ => none
theorem f_i_DavenportBound_cc : CTrue S0 25 f_i_DavenportBound_c := by
  intro args rs h
  unfold f_i_DavenportBound_c at h
  split at h
  · rename_i hd
    rw [← dec_enc hd]
    exact rowC (f_i_DavenportBound_ok _) h
  · cases h

def f_l_FnExactDavenportBound_M : Calling := addC 13 f_l_szGroup_c (addC 15 f_l_toGroup_c (addC 24 f_s_DavenportBound_c (addC 25 f_i_DavenportBound_c (addC 17 f_l_eqGroup_c (noC)))))
theorem f_l_FnExactDavenportBound_Mt : CallsTrue S0 f_l_FnExactDavenportBound_M := addC_true f_l_szGroup_cc (addC_true f_l_toGroup_cc (addC_true f_s_DavenportBound_cc (addC_true f_i_DavenportBound_cc (addC_true f_l_eqGroup_cc (noC_true)))))
theorem f_l_FnExactDavenportBound_o : loopsOnce Try.f7 = true := by kernel_rfl
theorem f_l_FnExactDavenportBound_p {R : Type} (aG0 : List Sc) (kR : Bool → Option R) : f_l_FnExactDavenportBound_k aG0 kR = (f_l_FnExactDavenportBound aG0).bind kR := by
  simp only [f_l_FnExactDavenportBound_k, f_l_FnExactDavenportBound, brB, boB, someB, noneB]
def f_l_FnExactDavenportBound_en (r : Bool) : List AV := enc [.boo] [.b r]
theorem f_l_FnExactDavenportBound_e (aG0 : List Sc) : runFn S0.E f_l_FnExactDavenportBound_M (asL (noL)) (S0.kl 7) Try.f7 (enc [.gr] [.l aG0]) = f_l_FnExactDavenportBound_k aG0 (fun r => some (f_l_FnExactDavenportBound_en r)) := by kernel_rfl
theorem f_l_FnExactDavenportBound_ok (aG0 : List Sc) (r : Bool) (h : f_l_FnExactDavenportBound aG0 = some r) : CL S0 7 (enc [.gr] [.l aG0]) = some (f_l_FnExactDavenportBound_en r) :=
  fn_true (Fk := fun k => f_l_FnExactDavenportBound_k aG0 k) (enc := f_l_FnExactDavenportBound_en) Try.func7 rfl f_l_FnExactDavenportBound_Mt (noL_true) f_l_FnExactDavenportBound_o (f_l_FnExactDavenportBound_e aG0) (f_l_FnExactDavenportBound_p aG0) h
def f_l_FnExactDavenportBound_c (args : List AV) : Option (Bool × List AV) := match dec [.gr] args with
  | some [.l aG0] => some ((f_l_FnExactDavenportBound aG0).isSome, f_l_FnExactDavenportBound_en ((f_l_FnExactDavenportBound aG0).getD false))
  | _ => none
theorem f_l_FnExactDavenportBound_cc : CTrue S0 7 f_l_FnExactDavenportBound_c := by
  intro args rs h
  unfold f_l_FnExactDavenportBound_c at h
  split at h
  · rename_i hd
    rw [← dec_enc hd]
    exact rowC (f_l_FnExactDavenportBound_ok _) h
  · cases h

def f_s_IsSequence_M : Calling := addC 37 f_s_l2Is_c (addC 29 f_s_IsGroup_c (noC))
theorem f_s_IsSequence_Mt : CallsTrue S0 f_s_IsSequence_M := addC_true f_s_l2Is_cc (addC_true f_s_IsGroup_cc (noC_true))
theorem f_s_IsSequence_o : loopsOnce Try.f26 = true := by kernel_rfl
def f_s_IsSequence_h0 : List Sh := [.u, .sl, .bp, .u, .u, .int .i64, .u, .u, .u, .u, .u, .u, .u, .u, .u, .u, .u, .u, .u, .u, .u, .u, .u, .u, .u, .u, .u, .u, .u, .u, .u, .u, .u, .u, .u, .u, .u, .u, .u, .u, .u, .u]
def f_s_IsSequence_fr0 (l1 : List Sc) (g2 : List Sc) (s : Int) : List AV := enc f_s_IsSequence_h0 [.l l1, .l g2, .i s]
def f_s_IsSequence_g0_1 : List Sh := [.u, .sl, .bp, .u, .u, .u, .u, .u, .u, .u, .u, .u, .u, .u, .u, .u, .u, .u, .u, .u, .u, .u, .u, .u, .u, .u, .u, .u, .u, .u, .u, .u, .u, .u, .u, .u, .u, .u, .u, .u, .u, .u]
def f_s_IsSequence_x0_1 (l1 : List Sc) (g2 : List Sc) (e : Unit) : X × List AV := (.out 0, enc f_s_IsSequence_g0_1 [.l l1, .l g2])
def f_s_IsSequence_g0_2 : List Sh := [.u, .u, .u, .u, .boo, .u, .u, .u, .u, .u, .u, .u, .u, .u, .u, .u, .u, .u, .u, .u, .u, .u, .u, .u, .u, .u, .u, .u, .u, .u, .u, .u, .u, .u, .u, .u, .u, .u, .u, .u, .u, .u]
def f_s_IsSequence_x0_2 (l1 : List Sc) (g2 : List Sc) (e : Unit) : X × List AV := (.ret, enc f_s_IsSequence_g0_2 [.b false])
theorem f_s_IsSequence_p0 {R : Type} (l1 : List Sc) (g2 : List Sc) (s : Int) (kN : Int → Option R) (kA : Unit → Option R) (kB : Unit → Option R) : f_s_IsSequence_k0 l1 g2 s kN kA kB = (f_s_IsSequence_r0 l1 g2 s).bind (Ro.el kN kA kB) := by
  simp only [f_s_IsSequence_k0, f_s_IsSequence_r0, brB, boB, someB, noneB, Ro.el]
theorem f_s_IsSequence_e0 (l1 : List Sc) (g2 : List Sc) (s : Int) : EC S0.E f_s_IsSequence_M (asL (noL)) (S0.kl 26) 0 (bodyOf Try.f26 0) (f_s_IsSequence_fr0 l1 g2 s) (done (S0.kl 26 0)) = f_s_IsSequence_k0 l1 g2 s (fun s => some (.norm, f_s_IsSequence_fr0 l1 g2 s)) (fun e => some (f_s_IsSequence_x0_1 l1 g2 e)) (fun e => some (f_s_IsSequence_x0_2 l1 g2 e)) := by kernel_rfl
theorem f_s_IsSequence_l0 (l1 : List Sc) (g2 : List Sc) : ∀ s r, loopL (f_s_IsSequence_r0 l1 g2) s = some r → LP S0 26 0 (bodyOf Try.f26 0) (f_s_IsSequence_fr0 l1 g2 s) = some (enX (f_s_IsSequence_x0_1 l1 g2) (f_s_IsSequence_x0_2 l1 g2) r) :=
  loop_true f_s_IsSequence_Mt (noL_true) f_s_IsSequence_o (fun _ h => by cases h) (fun _ h => by cases h) (fun s => (f_s_IsSequence_e0 l1 g2 s).trans (f_s_IsSequence_p0 l1 g2 s _ _ (fun e => some (f_s_IsSequence_x0_2 l1 g2 e))))
def f_s_IsSequence_t0 (σ : List AV) : Option (Bool × Bool × (X × List AV) × (X × List AV)) := match dec f_s_IsSequence_h0 σ with
  | some [.l l1, .l g2, .i i5] => some ((loopL (f_s_IsSequence_r0 l1 g2) i5).isSome, isOne (loopL (f_s_IsSequence_r0 l1 g2) i5), f_s_IsSequence_x0_1 l1 g2 (getOne () (loopL (f_s_IsSequence_r0 l1 g2) i5)), f_s_IsSequence_x0_2 l1 g2 (getTwo () (loopL (f_s_IsSequence_r0 l1 g2) i5)))
  | _ => none
theorem f_s_IsSequence_tt0 : TTrue S0 26 Try.f26 0 f_s_IsSequence_t0 := by
  intro σ p r r' h
  unfold f_s_IsSequence_t0 at h
  split at h
  · rename_i hd
    rw [← dec_enc hd]
    exact row2 (f_s_IsSequence_l0 _ _ _) h
  · cases h
theorem f_s_IsSequence_p {R : Type} (g0 : List Sc) (l1 : List Sc) (kR : Bool → Option R) : f_s_IsSequence_k g0 l1 kR = (f_s_IsSequence g0 l1).bind kR := by
  simp only [f_s_IsSequence_k, f_s_IsSequence, brB, boB, blB, someB]
def f_s_IsSequence_en (r : Bool) : List AV := enc [.boo] [.b r]
theorem f_s_IsSequence_e (g0 : List Sc) (l1 : List Sc) : runFn S0.E f_s_IsSequence_M (asL (addL 0 f_s_IsSequence_t0 (noL))) (S0.kl 26) Try.f26 (enc [.gr, .sl] [.l g0, .l l1]) = f_s_IsSequence_k g0 l1 (fun r => some (f_s_IsSequence_en r)) := by kernel_rfl
theorem f_s_IsSequence_ok (g0 : List Sc) (l1 : List Sc) (r : Bool) (h : f_s_IsSequence g0 l1 = some r) : CL S0 26 (enc [.gr, .sl] [.l g0, .l l1]) = some (f_s_IsSequence_en r) :=
  fn_true (Fk := fun k => f_s_IsSequence_k g0 l1 k) (enc := f_s_IsSequence_en) Try.func26 rfl f_s_IsSequence_Mt (addL_true f_s_IsSequence_tt0 (noL_true)) f_s_IsSequence_o (f_s_IsSequence_e g0 l1) (f_s_IsSequence_p g0 l1) h
def f_s_IsSequence_c (args : List AV) : Option (Bool × List AV) := match dec [.gr, .sl] args with
  | some [.l g0, .l l1] => some ((f_s_IsSequence g0 l1).isSome, f_s_IsSequence_en ((f_s_IsSequence g0 l1).getD false))
  | _ => none
theorem f_s_IsSequence_cc : CTrue S0 26 f_s_IsSequence_c := by
  intro args rs h
  unfold f_s_IsSequence_c at h
  split at h
  · rename_i hd
    rw [← dec_enc hd]
    exact rowC (f_s_IsSequence_ok _ _) h
  · cases h

def f_cmp_isNaN_M : Calling := noC
theorem f_cmp_isNaN_Mt : CallsTrue S0 f_cmp_isNaN_M := noC_true
theorem f_cmp_isNaN_o : loopsOnce Try.f47 = true := by kernel_rfl
theorem f_cmp_isNaN_p {R : Type} (x0 : Int) (kR : Bool → Option R) : f_cmp_isNaN_k x0 kR = (f_cmp_isNaN x0).bind kR := by
  simp only [f_cmp_isNaN_k, f_cmp_isNaN, someB]
def f_cmp_isNaN_en (r : Bool) : List AV := enc [.boo] [.b r]
theorem f_cmp_isNaN_e (x0 : Int) : runFn S0.E f_cmp_isNaN_M (asL (noL)) (S0.kl 47) Try.f47 (enc [.int .i64] [.i x0]) = f_cmp_isNaN_k x0 (fun r => some (f_cmp_isNaN_en r)) := by kernel_rfl
theorem f_cmp_isNaN_ok (x0 : Int) (r : Bool) (h : f_cmp_isNaN x0 = some r) : CL S0 47 (enc [.int .i64] [.i x0]) = some (f_cmp_isNaN_en r) :=
  fn_true (Fk := fun k => f_cmp_isNaN_k x0 k) (enc := f_cmp_isNaN_en) Try.func47 rfl f_cmp_isNaN_Mt (noL_true) f_cmp_isNaN_o (f_cmp_isNaN_e x0) (f_cmp_isNaN_p x0) h
def f_cmp_isNaN_c (args : List AV) : Option (Bool × List AV) := match dec [.int .i64] args with
  | some [.i x0] => some ((f_cmp_isNaN x0).isSome, f_cmp_isNaN_en ((f_cmp_isNaN x0).getD false))
  | _ => none
theorem f_cmp_isNaN_cc : CTrue S0 47 f_cmp_isNaN_c := by
  intro args rs h
  unfold f_cmp_isNaN_c at h
  split at h
  · rename_i hd
    rw [← dec_enc hd]
    exact rowC (f_cmp_isNaN_ok _) h
  · cases h

def f_cmp_Less_M : Calling := addC 47 f_cmp_isNaN_c (noC)
theorem f_cmp_Less_Mt : CallsTrue S0 f_cmp_Less_M := addC_true f_cmp_isNaN_cc (noC_true)
theorem f_cmp_Less_o : loopsOnce Try.f46 = true := by kernel_rfl
theorem f_cmp_Less_p {R : Type} (x0 : Int) (y1 : Int) (kR : Bool → Option R) : f_cmp_Less_k x0 y1 kR = (f_cmp_Less x0 y1).bind kR := by
  simp only [f_cmp_Less_k, f_cmp_Less, brB, boB, someB]
def f_cmp_Less_en (r : Bool) : List AV := enc [.boo] [.b r]
theorem f_cmp_Less_e (x0 : Int) (y1 : Int) : runFn S0.E f_cmp_Less_M (asL (noL)) (S0.kl 46) Try.f46 (enc [.int .i64, .int .i64] [.i x0, .i y1]) = f_cmp_Less_k x0 y1 (fun r => some (f_cmp_Less_en r)) := by kernel_rfl
theorem f_cmp_Less_ok (x0 : Int) (y1 : Int) (r : Bool) (h : f_cmp_Less x0 y1 = some r) : CL S0 46 (enc [.int .i64, .int .i64] [.i x0, .i y1]) = some (f_cmp_Less_en r) :=
  fn_true (Fk := fun k => f_cmp_Less_k x0 y1 k) (enc := f_cmp_Less_en) Try.func46 rfl f_cmp_Less_Mt (noL_true) f_cmp_Less_o (f_cmp_Less_e x0 y1) (f_cmp_Less_p x0 y1) h
def f_cmp_Less_c (args : List AV) : Option (Bool × List AV) := match dec [.int .i64, .int .i64] args with
  | some [.i x0, .i y1] => some ((f_cmp_Less x0 y1).isSome, f_cmp_Less_en ((f_cmp_Less x0 y1).getD false))
  | _ => none
theorem f_cmp_Less_cc : CTrue S0 46 f_cmp_Less_c := by
  intro args rs h
  unfold f_cmp_Less_c at h
  split at h
  · rename_i hd
    rw [← dec_enc hd]
    exact rowC (f_cmp_Less_ok _ _) h
  · cases h

def f_slices_IsSorted_M : Calling := addC 46 f_cmp_Less_c (noC)
theorem f_slices_IsSorted_Mt : CallsTrue S0 f_slices_IsSorted_M := addC_true f_cmp_Less_cc (noC_true)
theorem f_slices_IsSorted_o : loopsOnce Try.f42 = true := by kernel_rfl
def f_slices_IsSorted_h0 : List Sh := [.sl, .u, .u, .int .i64, .u, .u, .u, .u, .u, .u, .u, .u, .u, .u, .u, .u, .u, .u, .u, .u, .u]
def f_slices_IsSorted_fr0 (x0 : List Sc) (s : Int) : List AV := enc f_slices_IsSorted_h0 [.l x0, .i s]
def f_slices_IsSorted_g0_1 : List Sh := [.u, .u, .u, .u, .u, .u, .u, .u, .u, .u, .u, .u, .u, .u, .u, .u, .u, .u, .u, .u, .u]
def f_slices_IsSorted_x0_1 (x0 : List Sc) (e : Unit) : X × List AV := (.out 0, enc f_slices_IsSorted_g0_1 [])
def f_slices_IsSorted_g0_2 : List Sh := [.u, .u, .boo, .u, .u, .u, .u, .u, .u, .u, .u, .u, .u, .u, .u, .u, .u, .u, .u, .u, .u]
def f_slices_IsSorted_x0_2 (x0 : List Sc) (e : Unit) : X × List AV := (.ret, enc f_slices_IsSorted_g0_2 [.b false])
theorem f_slices_IsSorted_p0 {R : Type} (x0 : List Sc) (s : Int) (kN : Int → Option R) (kA : Unit → Option R) (kB : Unit → Option R) : f_slices_IsSorted_k0 x0 s kN kA kB = (f_slices_IsSorted_r0 x0 s).bind (Ro.el kN kA kB) := by
  simp only [f_slices_IsSorted_k0, f_slices_IsSorted_r0, brB, boB, someB, noneB, Ro.el]
theorem f_slices_IsSorted_e0 (x0 : List Sc) (s : Int) : EC S0.E f_slices_IsSorted_M (asL (noL)) (S0.kl 42) 0 (bodyOf Try.f42 0) (f_slices_IsSorted_fr0 x0 s) (done (S0.kl 42 0)) = f_slices_IsSorted_k0 x0 s (fun s => some (.norm, f_slices_IsSorted_fr0 x0 s)) (fun e => some (f_slices_IsSorted_x0_1 x0 e)) (fun e => some (f_slices_IsSorted_x0_2 x0 e)) := by kernel_rfl
theorem f_slices_IsSorted_l0 (x0 : List Sc) : ∀ s r, loopL (f_slices_IsSorted_r0 x0) s = some r → LP S0 42 0 (bodyOf Try.f42 0) (f_slices_IsSorted_fr0 x0 s) = some (enX (f_slices_IsSorted_x0_1 x0) (f_slices_IsSorted_x0_2 x0) r) :=
  loop_true f_slices_IsSorted_Mt (noL_true) f_slices_IsSorted_o (fun _ h => by cases h) (fun _ h => by cases h) (fun s => (f_slices_IsSorted_e0 x0 s).trans (f_slices_IsSorted_p0 x0 s _ _ (fun e => some (f_slices_IsSorted_x0_2 x0 e))))
def f_slices_IsSorted_t0 (σ : List AV) : Option (Bool × Bool × (X × List AV) × (X × List AV)) := match dec f_slices_IsSorted_h0 σ with
  | some [.l x0, .i i3] => some ((loopL (f_slices_IsSorted_r0 x0) i3).isSome, isOne (loopL (f_slices_IsSorted_r0 x0) i3), f_slices_IsSorted_x0_1 x0 (getOne () (loopL (f_slices_IsSorted_r0 x0) i3)), f_slices_IsSorted_x0_2 x0 (getTwo () (loopL (f_slices_IsSorted_r0 x0) i3)))
  | _ => none
theorem f_slices_IsSorted_tt0 : TTrue S0 42 Try.f42 0 f_slices_IsSorted_t0 := by
  intro σ p r r' h
  unfold f_slices_IsSorted_t0 at h
  split at h
  · rename_i hd
    rw [← dec_enc hd]
    exact row2 (f_slices_IsSorted_l0 _ _) h
  · cases h
theorem f_slices_IsSorted_p {R : Type} (x0 : List Sc) (kR : Bool → Option R) : f_slices_IsSorted_k x0 kR = (f_slices_IsSorted x0).bind kR := by
  simp only [f_slices_IsSorted_k, f_slices_IsSorted, blB, someB]
def f_slices_IsSorted_en (r : Bool) : List AV := enc [.boo] [.b r]
theorem f_slices_IsSorted_e (x0 : List Sc) : runFn S0.E f_slices_IsSorted_M (asL (addL 0 f_slices_IsSorted_t0 (noL))) (S0.kl 42) Try.f42 (enc [.sl] [.l x0]) = f_slices_IsSorted_k x0 (fun r => some (f_slices_IsSorted_en r)) := by kernel_rfl
theorem f_slices_IsSorted_ok (x0 : List Sc) (r : Bool) (h : f_slices_IsSorted x0 = some r) : CL S0 42 (enc [.sl] [.l x0]) = some (f_slices_IsSorted_en r) :=
  fn_true (Fk := fun k => f_slices_IsSorted_k x0 k) (enc := f_slices_IsSorted_en) Try.func42 rfl f_slices_IsSorted_Mt (addL_true f_slices_IsSorted_tt0 (noL_true)) f_slices_IsSorted_o (f_slices_IsSorted_e x0) (f_slices_IsSorted_p x0) h
def f_slices_IsSorted_c (args : List AV) : Option (Bool × List AV) := match dec [.sl] args with
  | some [.l x0] => some ((f_slices_IsSorted x0).isSome, f_slices_IsSorted_en ((f_slices_IsSorted x0).getD false))
  | _ => none
theorem f_slices_IsSorted_cc : CTrue S0 42 f_slices_IsSorted_c := by
  intro args rs h
  unfold f_slices_IsSorted_c at h
  split at h
  · rename_i hd
    rw [← dec_enc hd]
    exact rowC (f_slices_IsSorted_ok _) h
  · cases h

def f_i_IsSequence_M : Calling := addC 38 f_i_Group_has_c (addC 31 f_i_IsGroup_c (addC 42 f_slices_IsSorted_c (noC)))
theorem f_i_IsSequence_Mt : CallsTrue S0 f_i_IsSequence_M := addC_true f_i_Group_has_cc (addC_true f_i_IsGroup_cc (addC_true f_slices_IsSorted_cc (noC_true)))
theorem f_i_IsSequence_o : loopsOnce Try.f27 = true := by kernel_rfl
def f_i_IsSequence_h0 : List Sh := [.u, .sl, .bp, .u, .u, .u, .u, .sl, .int .i64, .int .i64, .u, .u, .u, .u, .u, .u, .u, .u, .u, .u, .u, .u, .u, .u, .u, .u, .u, .u, .u]
def f_i_IsSequence_fr0 (l1 : List Sc) (g2 : List Sc) (t7 : List Sc) (t8 : Int) (s : Int) : List AV := enc f_i_IsSequence_h0 [.l l1, .l g2, .l t7, .i t8, .i s]
def f_i_IsSequence_g0_1 : List Sh := [.u, .sl, .bp, .u, .u, .u, .u, .u, .u, .u, .u, .u, .u, .u, .u, .u, .u, .u, .u, .u, .u, .u, .u, .u, .u, .u, .u, .u, .u]
def f_i_IsSequence_x0_1 (l1 : List Sc) (g2 : List Sc) (t7 : List Sc) (t8 : Int) (e : Unit) : X × List AV := (.out 0, enc f_i_IsSequence_g0_1 [.l l1, .l g2])
def f_i_IsSequence_g0_2 : List Sh := [.u, .u, .u, .u, .boo, .u, .u, .u, .u, .u, .u, .u, .u, .u, .u, .u, .u, .u, .u, .u, .u, .u, .u, .u, .u, .u, .u, .u, .u]
def f_i_IsSequence_x0_2 (l1 : List Sc) (g2 : List Sc) (t7 : List Sc) (t8 : Int) (e : Unit) : X × List AV := (.ret, enc f_i_IsSequence_g0_2 [.b false])
theorem f_i_IsSequence_p0 {R : Type} (l1 : List Sc) (g2 : List Sc) (t7 : List Sc) (t8 : Int) (s : Int) (kN : Int → Option R) (kA : Unit → Option R) (kB : Unit → Option R) : f_i_IsSequence_k0 l1 g2 t7 t8 s kN kA kB = (f_i_IsSequence_r0 l1 g2 t7 t8 s).bind (Ro.el kN kA kB) := by
  simp only [f_i_IsSequence_k0, f_i_IsSequence_r0, brB, boB, someB, noneB, Ro.el]
theorem f_i_IsSequence_e0 (l1 : List Sc) (g2 : List Sc) (t7 : List Sc) (t8 : Int) (s : Int) : EC S0.E f_i_IsSequence_M (asL (noL)) (S0.kl 27) 0 (bodyOf Try.f27 0) (f_i_IsSequence_fr0 l1 g2 t7 t8 s) (done (S0.kl 27 0)) = f_i_IsSequence_k0 l1 g2 t7 t8 s (fun s => some (.norm, f_i_IsSequence_fr0 l1 g2 t7 t8 s)) (fun e => some (f_i_IsSequence_x0_1 l1 g2 t7 t8 e)) (fun e => some (f_i_IsSequence_x0_2 l1 g2 t7 t8 e)) := by kernel_rfl
theorem f_i_IsSequence_l0 (l1 : List Sc) (g2 : List Sc) (t7 : List Sc) (t8 : Int) : ∀ s r, loopL (f_i_IsSequence_r0 l1 g2 t7 t8) s = some r → LP S0 27 0 (bodyOf Try.f27 0) (f_i_IsSequence_fr0 l1 g2 t7 t8 s) = some (enX (f_i_IsSequence_x0_1 l1 g2 t7 t8) (f_i_IsSequence_x0_2 l1 g2 t7 t8) r) :=
  loop_true f_i_IsSequence_Mt (noL_true) f_i_IsSequence_o (fun _ h => by cases h) (fun _ h => by cases h) (fun s => (f_i_IsSequence_e0 l1 g2 t7 t8 s).trans (f_i_IsSequence_p0 l1 g2 t7 t8 s _ _ (fun e => some (f_i_IsSequence_x0_2 l1 g2 t7 t8 e))))
def f_i_IsSequence_t0 (σ : List AV) : Option (Bool × Bool × (X × List AV) × (X × List AV)) := match dec f_i_IsSequence_h0 σ with
  | some [.l l1, .l g2, .l t7, .i t8, .i t9] => some ((loopL (f_i_IsSequence_r0 l1 g2 t7 t8) t9).isSome, isOne (loopL (f_i_IsSequence_r0 l1 g2 t7 t8) t9), f_i_IsSequence_x0_1 l1 g2 t7 t8 (getOne () (loopL (f_i_IsSequence_r0 l1 g2 t7 t8) t9)), f_i_IsSequence_x0_2 l1 g2 t7 t8 (getTwo () (loopL (f_i_IsSequence_r0 l1 g2 t7 t8) t9)))
  | _ => none
theorem f_i_IsSequence_tt0 : TTrue S0 27 Try.f27 0 f_i_IsSequence_t0 := by
  intro σ p r r' h
  unfold f_i_IsSequence_t0 at h
  split at h
  · rename_i hd
    rw [← dec_enc hd]
    exact row2 (f_i_IsSequence_l0 _ _ _ _ _) h
  · cases h
theorem f_i_IsSequence_p {R : Type} (g0 : List Sc) (l1 : List Sc) (kR : Bool → Option R) : f_i_IsSequence_k g0 l1 kR = (f_i_IsSequence g0 l1).bind kR := by
  simp only [f_i_IsSequence_k, f_i_IsSequence, brB, boB, blB, someB]
def f_i_IsSequence_en (r : Bool) : List AV := enc [.boo] [.b r]
theorem f_i_IsSequence_e (g0 : List Sc) (l1 : List Sc) : runFn S0.E f_i_IsSequence_M (asL (addL 0 f_i_IsSequence_t0 (noL))) (S0.kl 27) Try.f27 (enc [.gr, .sl] [.l g0, .l l1]) = f_i_IsSequence_k g0 l1 (fun r => some (f_i_IsSequence_en r)) := by kernel_rfl
theorem f_i_IsSequence_ok (g0 : List Sc) (l1 : List Sc) (r : Bool) (h : f_i_IsSequence g0 l1 = some r) : CL S0 27 (enc [.gr, .sl] [.l g0, .l l1]) = some (f_i_IsSequence_en r) :=
  fn_true (Fk := fun k => f_i_IsSequence_k g0 l1 k) (enc := f_i_IsSequence_en) Try.func27 rfl f_i_IsSequence_Mt (addL_true f_i_IsSequence_tt0 (noL_true)) f_i_IsSequence_o (f_i_IsSequence_e g0 l1) (f_i_IsSequence_p g0 l1) h
def f_i_IsSequence_c (args : List AV) : Option (Bool × List AV) := match dec [.gr, .sl] args with
  | some [.l g0, .l l1] => some ((f_i_IsSequence g0 l1).isSome, f_i_IsSequence_en ((f_i_IsSequence g0 l1).getD false))
  | _ => none
theorem f_i_IsSequence_cc : CTrue S0 27 f_i_IsSequence_c := by
  intro args rs h
  unfold f_i_IsSequence_c at h
  split at h
  · rename_i hd
    rw [← dec_enc hd]
    exact rowC (f_i_IsSequence_ok _ _) h
  · cases h

def f_l_FnExactIsSequence_M : Calling := addC 13 f_l_szGroup_c (addC 15 f_l_toGroup_c (addC 10 f_l_toIntS_c (addC 26 f_s_IsSequence_c (addC 27 f_i_IsSequence_c (addC 17 f_l_eqGroup_c (addC 12 f_l_eqIntS_c (noC)))))))
theorem f_l_FnExactIsSequence_Mt : CallsTrue S0 f_l_FnExactIsSequence_M := addC_true f_l_szGroup_cc (addC_true f_l_toGroup_cc (addC_true f_l_toIntS_cc (addC_true f_s_IsSequence_cc (addC_true f_i_IsSequence_cc (addC_true f_l_eqGroup_cc (addC_true f_l_eqIntS_cc (noC_true)))))))
theorem f_l_FnExactIsSequence_o : loopsOnce Try.f8 = true := by kernel_rfl
theorem f_l_FnExactIsSequence_p {R : Type} (aG0 : List Sc) (aL1 : List Sc) (kR : Bool → Option R) : f_l_FnExactIsSequence_k aG0 aL1 kR = (f_l_FnExactIsSequence aG0 aL1).bind kR := by
  simp only [f_l_FnExactIsSequence_k, f_l_FnExactIsSequence, brB, boB, someB, noneB]
def f_l_FnExactIsSequence_en (r : Bool) : List AV := enc [.boo] [.b r]
theorem f_l_FnExactIsSequence_e (aG0 : List Sc) (aL1 : List Sc) : runFn S0.E f_l_FnExactIsSequence_M (asL (noL)) (S0.kl 8) Try.f8 (enc [.gr, .sl] [.l aG0, .l aL1]) = f_l_FnExactIsSequence_k aG0 aL1 (fun r => some (f_l_FnExactIsSequence_en r)) := by kernel_rfl
theorem f_l_FnExactIsSequence_ok (aG0 : List Sc) (aL1 : List Sc) (r : Bool) (h : f_l_FnExactIsSequence aG0 aL1 = some r) : CL S0 8 (enc [.gr, .sl] [.l aG0, .l aL1]) = some (f_l_FnExactIsSequence_en r) :=
  fn_true (Fk := fun k => f_l_FnExactIsSequence_k aG0 aL1 k) (enc := f_l_FnExactIsSequence_en) Try.func8 rfl f_l_FnExactIsSequence_Mt (noL_true) f_l_FnExactIsSequence_o (f_l_FnExactIsSequence_e aG0 aL1) (f_l_FnExactIsSequence_p aG0 aL1) h
def f_l_FnExactIsSequence_c (args : List AV) : Option (Bool × List AV) := match dec [.gr, .sl] args with
  | some [.l aG0, .l aL1] => some ((f_l_FnExactIsSequence aG0 aL1).isSome, f_l_FnExactIsSequence_en ((f_l_FnExactIsSequence aG0 aL1).getD false))
  | _ => none
theorem f_l_FnExactIsSequence_cc : CTrue S0 8 f_l_FnExactIsSequence_c := by
  intro args rs h
  unfold f_l_FnExactIsSequence_c at h
  split at h
  · rename_i hd
    rw [← dec_enc hd]
    exact rowC (f_l_FnExactIsSequence_ok _ _) h
  · cases h

def f_l_heldIntS_M : Calling := noC
theorem f_l_heldIntS_Mt : CallsTrue S0 f_l_heldIntS_M := noC_true
theorem f_l_heldIntS_o : loopsOnce Try.f21 = true := by kernel_rfl
def f_l_heldIntS_h0 : List Sh := [.sl, .int .i64, .u, .u, .u, .int .i64, .u, .u, .u, .u, .u, .u, .u, .u, .u, .u, .u, .u, .u, .u, .u]
def f_l_heldIntS_fr0 (a0 : List Sc) (s : Int × Int) : List AV := enc f_l_heldIntS_h0 [.l a0, .i s.1, .i s.2]
def f_l_heldIntS_g0_1 : List Sh := [.u, .int .i64, .u, .u, .u, .u, .u, .u, .u, .u, .u, .u, .u, .u, .u, .u, .u, .u, .u, .u, .u]
def f_l_heldIntS_x0_1 (a0 : List Sc) (e : Int) : X × List AV := (.out 0, enc f_l_heldIntS_g0_1 [.i e])
def f_l_heldIntS_g0_2 : List Sh := [.u, .u, .u, .u, .int .i64, .u, .u, .u, .u, .u, .u, .u, .u, .u, .u, .u, .u, .u, .u, .u, .u]
def f_l_heldIntS_x0_2 (a0 : List Sc) (e : Unit) : X × List AV := (.ret, enc f_l_heldIntS_g0_2 [.i (-1)])
theorem f_l_heldIntS_p0 {R : Type} (a0 : List Sc) (s : Int × Int) (kN : Int × Int → Option R) (kA : Int → Option R) (kB : Unit → Option R) : f_l_heldIntS_k0 a0 s.1 s.2 kN kA kB = (f_l_heldIntS_r0 a0 s).bind (Ro.el kN kA kB) := by
  simp only [f_l_heldIntS_k0, f_l_heldIntS_r0, brB, someB, noneB, Ro.el]
theorem f_l_heldIntS_e0 (a0 : List Sc) (s : Int × Int) : EC S0.E f_l_heldIntS_M (asL (noL)) (S0.kl 21) 0 (bodyOf Try.f21 0) (f_l_heldIntS_fr0 a0 s) (done (S0.kl 21 0)) = f_l_heldIntS_k0 a0 s.1 s.2 (fun s => some (.norm, f_l_heldIntS_fr0 a0 s)) (fun e => some (f_l_heldIntS_x0_1 a0 e)) (fun e => some (f_l_heldIntS_x0_2 a0 e)) := by kernel_rfl
theorem f_l_heldIntS_l0 (a0 : List Sc) : ∀ s r, loopL (f_l_heldIntS_r0 a0) s = some r → LP S0 21 0 (bodyOf Try.f21 0) (f_l_heldIntS_fr0 a0 s) = some (enX (f_l_heldIntS_x0_1 a0) (f_l_heldIntS_x0_2 a0) r) :=
  loop_true f_l_heldIntS_Mt (noL_true) f_l_heldIntS_o (fun _ h => by cases h) (fun _ h => by cases h) (fun s => (f_l_heldIntS_e0 a0 s).trans (f_l_heldIntS_p0 a0 s _ _ (fun e => some (f_l_heldIntS_x0_2 a0 e))))
def f_l_heldIntS_t0 (σ : List AV) : Option (Bool × Bool × (X × List AV) × (X × List AV)) := match dec f_l_heldIntS_h0 σ with
  | some [.l a0, .i k1, .i i5] => some ((loopL (f_l_heldIntS_r0 a0) (k1, i5)).isSome, isOne (loopL (f_l_heldIntS_r0 a0) (k1, i5)), f_l_heldIntS_x0_1 a0 (getOne 0 (loopL (f_l_heldIntS_r0 a0) (k1, i5))), f_l_heldIntS_x0_2 a0 (getTwo () (loopL (f_l_heldIntS_r0 a0) (k1, i5))))
  | _ => none
theorem f_l_heldIntS_tt0 : TTrue S0 21 Try.f21 0 f_l_heldIntS_t0 := by
  intro σ p r r' h
  unfold f_l_heldIntS_t0 at h
  split at h
  · rename_i hd
    rw [← dec_enc hd]
    exact row2 (f_l_heldIntS_l0 _ _) h
  · cases h
theorem f_l_heldIntS_p {R : Type} (a0 : List Sc) (k1 : Int) (kR : Int → Option R) : f_l_heldIntS_k a0 k1 kR = (f_l_heldIntS a0 k1).bind kR := by
  simp only [f_l_heldIntS_k, f_l_heldIntS, blB, someB]
def f_l_heldIntS_en (r : Int) : List AV := enc [.int .i64] [.i r]
theorem f_l_heldIntS_e (a0 : List Sc) (k1 : Int) : runFn S0.E f_l_heldIntS_M (asL (addL 0 f_l_heldIntS_t0 (noL))) (S0.kl 21) Try.f21 (enc [.sl, .int .i64] [.l a0, .i k1]) = f_l_heldIntS_k a0 k1 (fun r => some (f_l_heldIntS_en r)) := by kernel_rfl
theorem f_l_heldIntS_ok (a0 : List Sc) (k1 : Int) (r : Int) (h : f_l_heldIntS a0 k1 = some r) : CL S0 21 (enc [.sl, .int .i64] [.l a0, .i k1]) = some (f_l_heldIntS_en r) :=
  fn_true (Fk := fun k => f_l_heldIntS_k a0 k1 k) (enc := f_l_heldIntS_en) Try.func21 rfl f_l_heldIntS_Mt (addL_true f_l_heldIntS_tt0 (noL_true)) f_l_heldIntS_o (f_l_heldIntS_e a0 k1) (f_l_heldIntS_p a0 k1) h
def f_l_heldIntS_c (args : List AV) : Option (Bool × List AV) := match dec [.sl, .int .i64] args with
  | some [.l a0, .i k1] => some ((f_l_heldIntS a0 k1).isSome, f_l_heldIntS_en ((f_l_heldIntS a0 k1).getD 0))
  | _ => none
theorem f_l_heldIntS_cc : CTrue S0 21 f_l_heldIntS_c := by
  intro args rs h
  unfold f_l_heldIntS_c at h
  split at h
  · rename_i hd
    rw [← dec_enc hd]
    exact rowC (f_l_heldIntS_ok _ _) h
  · cases h
end
end Go.Proofs.Ytppgjmdncffecaa
