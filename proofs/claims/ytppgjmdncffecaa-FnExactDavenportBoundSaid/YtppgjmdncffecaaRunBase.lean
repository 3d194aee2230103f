/-
  That the program computes just that (printed by gen.py).
-/
import Derived.Test.YtppgjmdncffecaaSetBase
set_option linter.unusedVariables false
namespace Go.Proofs.Ytppgjmdncffecaa.Base
open Go Ev
noncomputable section
def f_l_toIntS_M : Calling := noC
theorem f_l_toIntS_Mt : CallsTrue B0 f_l_toIntS_M := noC_true
theorem f_l_toIntS_o : loopsOnce Try.f10 = true := by kernel_rfl
def f_l_toIntS_h0 : List Sh := [.sl, .u, .u, .own 3, .int .i64, .u, .u, .u, .u, .u, .u, .u, .u, .u, .u, .u, .u, .u, .u, .u, .u, .u]
def f_l_toIntS_fr0 (a0 : List Sc) (s : List Sc × Int) : List AV := enc f_l_toIntS_h0 [.l a0, .l s.1, .i s.2]
def f_l_toIntS_g0_1 : List Sh := [.u, .u, .u, .own 3, .u, .u, .u, .u, .u, .u, .u, .u, .u, .u, .u, .u, .u, .u, .u, .u, .u, .u]
def f_l_toIntS_x0_1 (a0 : List Sc) (e : List Sc) : X × List AV := (.out 0, enc f_l_toIntS_g0_1 [.l e])
def f_l_toIntS_x0_2 (_ : List Sc) (_e : Unit) : X × List AV := (.ret, [])
theorem f_l_toIntS_p0 {R : Type} (a0 : List Sc) (s : List Sc × Int) (kN : List Sc × Int → Option R) (kA : List Sc → Option R) (kB : Unit → Option R) : f_l_toIntS_k0 a0 s.1 s.2 kN kA = (f_l_toIntS_r0 a0 s).bind (Ro.el kN kA kB) := by
  simp only [f_l_toIntS_k0, f_l_toIntS_r0, brB, someB, noneB, Ro.el]
theorem f_l_toIntS_e0 (a0 : List Sc) (s : List Sc × Int) : EC B0.E f_l_toIntS_M (asL (noL)) (B0.kl 10) 0 (bodyOf Try.f10 0) (f_l_toIntS_fr0 a0 s) (done (B0.kl 10 0)) = f_l_toIntS_k0 a0 s.1 s.2 (fun s => some (.norm, f_l_toIntS_fr0 a0 s)) (fun e => some (f_l_toIntS_x0_1 a0 e)) := by kernel_rfl
theorem f_l_toIntS_l0 (a0 : List Sc) : ∀ s r, loopL (f_l_toIntS_r0 a0) s = some r → LP B0 10 0 (bodyOf Try.f10 0) (f_l_toIntS_fr0 a0 s) = some (enX (f_l_toIntS_x0_1 a0) (f_l_toIntS_x0_2 a0) r) :=
  loop_true f_l_toIntS_Mt (noL_true) f_l_toIntS_o (fun _ h => by cases h) (fun _ h => by cases h) (fun s => (f_l_toIntS_e0 a0 s).trans (f_l_toIntS_p0 a0 s _ _ (fun e => some (f_l_toIntS_x0_2 a0 e))))
def f_l_toIntS_t0 (σ : List AV) : Option (Bool × Bool × (X × List AV) × (X × List AV)) := match dec f_l_toIntS_h0 σ with
  | some [.l a0, .l out3, .i i4] => some (isOne (loopL (f_l_toIntS_r0 a0) (out3, i4)), true, f_l_toIntS_x0_1 a0 (getOne [] (loopL (f_l_toIntS_r0 a0) (out3, i4))), (.ret, []))
  | _ => none
theorem f_l_toIntS_tt0 : TTrue B0 10 Try.f10 0 f_l_toIntS_t0 := by
  intro σ p r r' h
  unfold f_l_toIntS_t0 at h
  split at h
  · rename_i hd
    rw [← dec_enc hd]
    exact row1 (f_l_toIntS_l0 _ _) h
  · cases h
theorem f_l_toIntS_p {R : Type} (a0 : List Sc) (kR : List Sc → Option R) : f_l_toIntS_k a0 kR = (f_l_toIntS a0).bind kR := by
  simp only [f_l_toIntS_k, f_l_toIntS, brB, bl1B, someB, noneB]
def f_l_toIntS_en (r : List Sc) : List AV := enc [.own 3] [.l r]
theorem f_l_toIntS_e (a0 : List Sc) : runFn B0.E f_l_toIntS_M (asL (addL 0 f_l_toIntS_t0 (noL))) (B0.kl 10) Try.f10 (enc [.sl] [.l a0]) = f_l_toIntS_k a0 (fun r => some (f_l_toIntS_en r)) := by kernel_rfl
theorem f_l_toIntS_ok (a0 : List Sc) (r : List Sc) (h : f_l_toIntS a0 = some r) : CL B0 10 (enc [.sl] [.l a0]) = some (f_l_toIntS_en r) :=
  fn_true (Fk := fun k => f_l_toIntS_k a0 k) (enc := f_l_toIntS_en) Try.func10 rfl f_l_toIntS_Mt (addL_true f_l_toIntS_tt0 (noL_true)) f_l_toIntS_o (f_l_toIntS_e a0) (f_l_toIntS_p a0) h
def f_l_toIntS_c (args : List AV) : Option (Bool × List AV) := match dec [.sl] args with
  | some [.l a0] => some ((f_l_toIntS a0).isSome, f_l_toIntS_en ((f_l_toIntS a0).getD []))
  | _ => none
theorem f_l_toIntS_cc : CTrue B0 10 f_l_toIntS_c := by
  intro args rs h
  unfold f_l_toIntS_c at h
  split at h
  · rename_i hd
    rw [← dec_enc hd]
    exact rowC (f_l_toIntS_ok _) h
  · cases h
end
end Go.Proofs.Ytppgjmdncffecaa.Base
