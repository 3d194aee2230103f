/-
  That the program computes just that (printed by gen.py).
-/
import Derived.Test.YtipbknonljjagaaSet
set_option linter.unusedVariables false
namespace Go.Proofs.Ytipbknonljjagaa
open Go Ev
noncomputable section
def f_l_szIntS_M : Calling := noC
theorem f_l_szIntS_Mt : CallsTrue S0 f_l_szIntS_M := noC_true
theorem f_l_szIntS_o : loopsOnce Try.f38 = true := by kernel_rfl
theorem f_l_szIntS_p {R : Type} (a0 : List Sc) (left1 : Int) (kR : Int → Option R) : f_l_szIntS_k a0 left1 kR = (f_l_szIntS a0 left1).bind kR := by
  simp only [f_l_szIntS_k, f_l_szIntS, brB, someB]
def f_l_szIntS_en (r : Int) : List AV := enc [.int .i64] [.i r]
theorem f_l_szIntS_e (a0 : List Sc) (left1 : Int) : runFn S0.E f_l_szIntS_M (asL (noL)) (S0.kl 38) Try.f38 (enc [.sl, .int .i64] [.l a0, .i left1]) = f_l_szIntS_k a0 left1 (fun r => some (f_l_szIntS_en r)) := by kernel_rfl
theorem f_l_szIntS_ok (a0 : List Sc) (left1 : Int) (r : Int) (h : f_l_szIntS a0 left1 = some r) : CL S0 38 (enc [.sl, .int .i64] [.l a0, .i left1]) = some (f_l_szIntS_en r) :=
  fn_true (Fk := fun k => f_l_szIntS_k a0 left1 k) (enc := f_l_szIntS_en) Try.func38 rfl f_l_szIntS_Mt (noL_true) f_l_szIntS_o (f_l_szIntS_e a0 left1) (f_l_szIntS_p a0 left1) h
def f_l_szIntS_c (args : List AV) : Option (Bool × List AV) := match dec [.sl, .int .i64] args with
  | some [.l a0, .i left1] => some ((f_l_szIntS a0 left1).isSome, f_l_szIntS_en ((f_l_szIntS a0 left1).getD 0))
  | _ => none
theorem f_l_szIntS_cc : CTrue S0 38 f_l_szIntS_c := by
  intro args rs h
  unfold f_l_szIntS_c at h
  split at h
  · rename_i hd
    rw [← dec_enc hd]
    exact rowC (f_l_szIntS_ok _ _) h
  · cases h

def f_l_szGroup_M : Calling := addC 38 f_l_szIntS_c (noC)
theorem f_l_szGroup_Mt : CallsTrue S0 f_l_szGroup_M := addC_true f_l_szIntS_cc (noC_true)
theorem f_l_szGroup_o : loopsOnce Try.f13 = true := by kernel_rfl
theorem f_l_szGroup_p {R : Type} (a0 : List Sc) (left1 : Int) (kR : Int → Option R) : f_l_szGroup_k a0 left1 kR = (f_l_szGroup a0 left1).bind kR := by
  simp only [f_l_szGroup_k, f_l_szGroup, brB, boB, someB]
def f_l_szGroup_en (r : Int) : List AV := enc [.int .i64] [.i r]
theorem f_l_szGroup_e (a0 : List Sc) (left1 : Int) : runFn S0.E f_l_szGroup_M (asL (noL)) (S0.kl 13) Try.f13 (enc [.gr, .int .i64] [.l a0, .i left1]) = f_l_szGroup_k a0 left1 (fun r => some (f_l_szGroup_en r)) := by kernel_rfl
theorem f_l_szGroup_ok (a0 : List Sc) (left1 : Int) (r : Int) (h : f_l_szGroup a0 left1 = some r) : CL S0 13 (enc [.gr, .int .i64] [.l a0, .i left1]) = some (f_l_szGroup_en r) :=
  fn_true (Fk := fun k => f_l_szGroup_k a0 left1 k) (enc := f_l_szGroup_en) Try.func13 rfl f_l_szGroup_Mt (noL_true) f_l_szGroup_o (f_l_szGroup_e a0 left1) (f_l_szGroup_p a0 left1) h
def f_l_szGroup_c (args : List AV) : Option (Bool × List AV) := match dec [.gr, .int .i64] args with
  | some [.l a0, .i left1] => some ((f_l_szGroup a0 left1).isSome, f_l_szGroup_en ((f_l_szGroup a0 left1).getD 0))
  | _ => none
theorem f_l_szGroup_cc : CTrue S0 13 f_l_szGroup_c := by
  intro args rs h
  unfold f_l_szGroup_c at h
  split at h
  · rename_i hd
    rw [← dec_enc hd]
    exact rowC (f_l_szGroup_ok _ _) h
  · cases h

def f_l_toIntS_M : Calling := noC
theorem f_l_toIntS_Mt : CallsTrue S0 f_l_toIntS_M := noC_true
theorem f_l_toIntS_o : loopsOnce Try.f16 = true := by kernel_rfl
def f_l_toIntS_h0 : List Sh := [.sl, .u, .u, .own 3, .int .i64, .u, .u, .u, .u, .u, .u, .u, .u, .u, .u, .u, .u, .u, .u, .u, .u, .u]
def f_l_toIntS_fr0 (a0 : List Sc) (s : List Sc × Int) : List AV := enc f_l_toIntS_h0 [.l a0, .l s.1, .i s.2]
def f_l_toIntS_g0_1 : List Sh := [.u, .u, .u, .own 3, .u, .u, .u, .u, .u, .u, .u, .u, .u, .u, .u, .u, .u, .u, .u, .u, .u, .u]
def f_l_toIntS_x0_1 (a0 : List Sc) (e : List Sc) : X × List AV := (.out 0, enc f_l_toIntS_g0_1 [.l e])
def f_l_toIntS_x0_2 (_ : List Sc) (_e : Unit) : X × List AV := (.ret, [])
theorem f_l_toIntS_p0 {R : Type} (a0 : List Sc) (s : List Sc × Int) (kN : List Sc × Int → Option R) (kA : List Sc → Option R) (kB : Unit → Option R) : f_l_toIntS_k0 a0 s.1 s.2 kN kA = (f_l_toIntS_r0 a0 s).bind (Ro.el kN kA kB) := by
  simp only [f_l_toIntS_k0, f_l_toIntS_r0, brB, someB, noneB, Ro.el]
theorem f_l_toIntS_e0 (a0 : List Sc) (s : List Sc × Int) : EC S0.E f_l_toIntS_M (asL (noL)) (S0.kl 16) 0 (bodyOf Try.f16 0) (f_l_toIntS_fr0 a0 s) (done (S0.kl 16 0)) = f_l_toIntS_k0 a0 s.1 s.2 (fun s => some (.norm, f_l_toIntS_fr0 a0 s)) (fun e => some (f_l_toIntS_x0_1 a0 e)) := by kernel_rfl
theorem f_l_toIntS_l0 (a0 : List Sc) : ∀ s r, loopL (f_l_toIntS_r0 a0) s = some r → LP S0 16 0 (bodyOf Try.f16 0) (f_l_toIntS_fr0 a0 s) = some (enX (f_l_toIntS_x0_1 a0) (f_l_toIntS_x0_2 a0) r) :=
  loop_true f_l_toIntS_Mt (noL_true) f_l_toIntS_o (fun _ h => by cases h) (fun _ h => by cases h) (fun s => (f_l_toIntS_e0 a0 s).trans (f_l_toIntS_p0 a0 s _ _ (fun e => some (f_l_toIntS_x0_2 a0 e))))
def f_l_toIntS_t0 (σ : List AV) : Option (Bool × Bool × (X × List AV) × (X × List AV)) := match dec f_l_toIntS_h0 σ with
  | some [.l a0, .l out3, .i i4] => some (isOne (loopL (f_l_toIntS_r0 a0) (out3, i4)), true, f_l_toIntS_x0_1 a0 (getOne [] (loopL (f_l_toIntS_r0 a0) (out3, i4))), (.ret, []))
  | _ => none
theorem f_l_toIntS_tt0 : TTrue S0 16 Try.f16 0 f_l_toIntS_t0 := by
  intro σ p r r' h
  unfold f_l_toIntS_t0 at h
  split at h
  · rename_i hd
    rw [← dec_enc hd]
    exact row1 (f_l_toIntS_l0 _ _) h
  · cases h
theorem f_l_toIntS_p {R : Type} (a0 : List Sc) (kR : List Sc → Option R) : f_l_toIntS_k a0 kR = (f_l_toIntS a0).bind kR := by
  simp only [f_l_toIntS_k, f_l_toIntS, brB, bl1B, someB, noneB]
def f_l_toIntS_en (r : List Sc) : List AV := enc [.own 3] [.l r]
theorem f_l_toIntS_e (a0 : List Sc) : runFn S0.E f_l_toIntS_M (asL (addL 0 f_l_toIntS_t0 (noL))) (S0.kl 16) Try.f16 (enc [.sl] [.l a0]) = f_l_toIntS_k a0 (fun r => some (f_l_toIntS_en r)) := by kernel_rfl
theorem f_l_toIntS_ok (a0 : List Sc) (r : List Sc) (h : f_l_toIntS a0 = some r) : CL S0 16 (enc [.sl] [.l a0]) = some (f_l_toIntS_en r) :=
  fn_true (Fk := fun k => f_l_toIntS_k a0 k) (enc := f_l_toIntS_en) Try.func16 rfl f_l_toIntS_Mt (addL_true f_l_toIntS_tt0 (noL_true)) f_l_toIntS_o (f_l_toIntS_e a0) (f_l_toIntS_p a0) h
def f_l_toIntS_c (args : List AV) : Option (Bool × List AV) := match dec [.sl] args with
  | some [.l a0] => some ((f_l_toIntS a0).isSome, f_l_toIntS_en ((f_l_toIntS a0).getD []))
  | _ => none
theorem f_l_toIntS_cc : CTrue S0 16 f_l_toIntS_c := by
  intro args rs h
  unfold f_l_toIntS_c at h
  split at h
  · rename_i hd
    rw [← dec_enc hd]
    exact rowC (f_l_toIntS_ok _) h
  · cases h

def f_s_l1In_M : Calling := noC
theorem f_s_l1In_Mt : CallsTrue S0 f_s_l1In_M := noC_true
theorem f_s_l1In_o : loopsOnce Try.f56 = true := by kernel_rfl
theorem f_s_l1In_p {R : Type} (x0 : Int) (low1 : Int) (high2 : Int) (kR : Bool → Option R) : f_s_l1In_k x0 low1 high2 kR = (f_s_l1In x0 low1 high2).bind kR := by
  simp only [f_s_l1In_k, f_s_l1In, brB, someB]
def f_s_l1In_en (r : Bool) : List AV := enc [.boo] [.b r]
theorem f_s_l1In_e (x0 : Int) (low1 : Int) (high2 : Int) : runFn S0.E f_s_l1In_M (asL (noL)) (S0.kl 56) Try.f56 (enc [.int .i64, .int .i64, .int .i64] [.i x0, .i low1, .i high2]) = f_s_l1In_k x0 low1 high2 (fun r => some (f_s_l1In_en r)) := by kernel_rfl
theorem f_s_l1In_ok (x0 : Int) (low1 : Int) (high2 : Int) (r : Bool) (h : f_s_l1In x0 low1 high2 = some r) : CL S0 56 (enc [.int .i64, .int .i64, .int .i64] [.i x0, .i low1, .i high2]) = some (f_s_l1In_en r) :=
  fn_true (Fk := fun k => f_s_l1In_k x0 low1 high2 k) (enc := f_s_l1In_en) Try.func56 rfl f_s_l1In_Mt (noL_true) f_s_l1In_o (f_s_l1In_e x0 low1 high2) (f_s_l1In_p x0 low1 high2) h
def f_s_l1In_c (args : List AV) : Option (Bool × List AV) := match dec [.int .i64, .int .i64, .int .i64] args with
  | some [.i x0, .i low1, .i high2] => some ((f_s_l1In x0 low1 high2).isSome, f_s_l1In_en ((f_s_l1In x0 low1 high2).getD false))
  | _ => none
theorem f_s_l1In_cc : CTrue S0 56 f_s_l1In_c := by
  intro args rs h
  unfold f_s_l1In_c at h
  split at h
  · rename_i hd
    rw [← dec_enc hd]
    exact rowC (f_s_l1In_ok _ _ _) h
  · cases h

def f_s_IsGroup_M : Calling := addC 56 f_s_l1In_c (noC)
theorem f_s_IsGroup_Mt : CallsTrue S0 f_s_IsGroup_M := addC_true f_s_l1In_cc (noC_true)
theorem f_s_IsGroup_o : loopsOnce Try.f66 = true := by kernel_rfl
def f_s_IsGroup_h0 : List Sh := [.u, .bp, .u, .int .i64, .int .i64, .u, .u, .u, .u, .u, .u, .u, .u, .u, .u, .u, .u, .u, .u, .u, .u, .u, .u, .u, .u, .u, .u, .u, .u, .u, .u, .u]
def f_s_IsGroup_fr0 (g1 : List Sc) (s : Int × Int) : List AV := enc f_s_IsGroup_h0 [.l g1, .i s.1, .i s.2]
def f_s_IsGroup_g0_1 : List Sh := [.u, .u, .u, .int .i64, .u, .u, .u, .u, .u, .u, .u, .u, .u, .u, .u, .u, .u, .u, .u, .u, .u, .u, .u, .u, .u, .u, .u, .u, .u, .u, .u, .u]
def f_s_IsGroup_x0_1 (g1 : List Sc) (e : Int) : X × List AV := (.out 0, enc f_s_IsGroup_g0_1 [.i e])
def f_s_IsGroup_g0_2 : List Sh := [.u, .u, .boo, .u, .u, .u, .u, .u, .u, .u, .u, .u, .u, .u, .u, .u, .u, .u, .u, .u, .u, .u, .u, .u, .u, .u, .u, .u, .u, .u, .u, .u]
def f_s_IsGroup_x0_2 (g1 : List Sc) (e : Unit) : X × List AV := (.ret, enc f_s_IsGroup_g0_2 [.b false])
theorem f_s_IsGroup_p0 {R : Type} (g1 : List Sc) (s : Int × Int) (kN : Int × Int → Option R) (kA : Int → Option R) (kB : Unit → Option R) : f_s_IsGroup_k0 g1 s.1 s.2 kN kA kB = (f_s_IsGroup_r0 g1 s).bind (Ro.el kN kA kB) := by
  simp only [f_s_IsGroup_k0, f_s_IsGroup_r0, brB, boB, someB, noneB, Ro.el]
theorem f_s_IsGroup_e0 (g1 : List Sc) (s : Int × Int) : EC S0.E f_s_IsGroup_M (asL (noL)) (S0.kl 66) 0 (bodyOf Try.f66 0) (f_s_IsGroup_fr0 g1 s) (done (S0.kl 66 0)) = f_s_IsGroup_k0 g1 s.1 s.2 (fun s => some (.norm, f_s_IsGroup_fr0 g1 s)) (fun e => some (f_s_IsGroup_x0_1 g1 e)) (fun e => some (f_s_IsGroup_x0_2 g1 e)) := by kernel_rfl
theorem f_s_IsGroup_l0 (g1 : List Sc) : ∀ s r, loopL (f_s_IsGroup_r0 g1) s = some r → LP S0 66 0 (bodyOf Try.f66 0) (f_s_IsGroup_fr0 g1 s) = some (enX (f_s_IsGroup_x0_1 g1) (f_s_IsGroup_x0_2 g1) r) :=
  loop_true f_s_IsGroup_Mt (noL_true) f_s_IsGroup_o (fun _ h => by cases h) (fun _ h => by cases h) (fun s => (f_s_IsGroup_e0 g1 s).trans (f_s_IsGroup_p0 g1 s _ _ (fun e => some (f_s_IsGroup_x0_2 g1 e))))
def f_s_IsGroup_t0 (σ : List AV) : Option (Bool × Bool × (X × List AV) × (X × List AV)) := match dec f_s_IsGroup_h0 σ with
  | some [.l g1, .i n3, .i i4] => some ((loopL (f_s_IsGroup_r0 g1) (n3, i4)).isSome, isOne (loopL (f_s_IsGroup_r0 g1) (n3, i4)), f_s_IsGroup_x0_1 g1 (getOne 0 (loopL (f_s_IsGroup_r0 g1) (n3, i4))), f_s_IsGroup_x0_2 g1 (getTwo () (loopL (f_s_IsGroup_r0 g1) (n3, i4))))
  | _ => none
theorem f_s_IsGroup_tt0 : TTrue S0 66 Try.f66 0 f_s_IsGroup_t0 := by
  intro σ p r r' h
  unfold f_s_IsGroup_t0 at h
  split at h
  · rename_i hd
    rw [← dec_enc hd]
    exact row2 (f_s_IsGroup_l0 _ _) h
  · cases h
theorem f_s_IsGroup_p {R : Type} (g0 : List Sc) (kR : Bool → Option R) : f_s_IsGroup_k g0 kR = (f_s_IsGroup g0).bind kR := by
  simp only [f_s_IsGroup_k, f_s_IsGroup, blB, someB]
def f_s_IsGroup_en (r : Bool) : List AV := enc [.boo] [.b r]
theorem f_s_IsGroup_e (g0 : List Sc) : runFn S0.E f_s_IsGroup_M (asL (addL 0 f_s_IsGroup_t0 (noL))) (S0.kl 66) Try.f66 (enc [.gr] [.l g0]) = f_s_IsGroup_k g0 (fun r => some (f_s_IsGroup_en r)) := by kernel_rfl
theorem f_s_IsGroup_ok (g0 : List Sc) (r : Bool) (h : f_s_IsGroup g0 = some r) : CL S0 66 (enc [.gr] [.l g0]) = some (f_s_IsGroup_en r) :=
  fn_true (Fk := fun k => f_s_IsGroup_k g0 k) (enc := f_s_IsGroup_en) Try.func66 rfl f_s_IsGroup_Mt (addL_true f_s_IsGroup_tt0 (noL_true)) f_s_IsGroup_o (f_s_IsGroup_e g0) (f_s_IsGroup_p g0) h
def f_s_IsGroup_c (args : List AV) : Option (Bool × List AV) := match dec [.gr] args with
  | some [.l g0] => some ((f_s_IsGroup g0).isSome, f_s_IsGroup_en ((f_s_IsGroup g0).getD false))
  | _ => none
theorem f_s_IsGroup_cc : CTrue S0 66 f_s_IsGroup_c := by
  intro args rs h
  unfold f_s_IsGroup_c at h
  split at h
  · rename_i hd
    rw [← dec_enc hd]
    exact rowC (f_s_IsGroup_ok _) h
  · cases h

def f_s_l2Order_M : Calling := noC
theorem f_s_l2Order_Mt : CallsTrue S0 f_s_l2Order_M := noC_true
theorem f_s_l2Order_o : loopsOnce Try.f54 = true := by kernel_rfl
def f_s_l2Order_h0 : List Sh := [.u, .bp, .u, .int .i64, .int .i64, .u, .u, .u, .u, .u, .u, .u, .u, .u, .u, .u, .u, .u, .u, .u]
def f_s_l2Order_fr0 (g1 : List Sc) (s : Int × Int) : List AV := enc f_s_l2Order_h0 [.l g1, .i s.1, .i s.2]
def f_s_l2Order_g0_1 : List Sh := [.u, .u, .u, .int .i64, .u, .u, .u, .u, .u, .u, .u, .u, .u, .u, .u, .u, .u, .u, .u, .u]
def f_s_l2Order_x0_1 (g1 : List Sc) (e : Int) : X × List AV := (.out 0, enc f_s_l2Order_g0_1 [.i e])
def f_s_l2Order_x0_2 (_ : List Sc) (_e : Unit) : X × List AV := (.ret, [])
theorem f_s_l2Order_p0 {R : Type} (g1 : List Sc) (s : Int × Int) (kN : Int × Int → Option R) (kA : Int → Option R) (kB : Unit → Option R) : f_s_l2Order_k0 g1 s.1 s.2 kN kA = (f_s_l2Order_r0 g1 s).bind (Ro.el kN kA kB) := by
  simp only [f_s_l2Order_k0, f_s_l2Order_r0, brB, someB, noneB, Ro.el]
theorem f_s_l2Order_e0 (g1 : List Sc) (s : Int × Int) : EC S0.E f_s_l2Order_M (asL (noL)) (S0.kl 54) 0 (bodyOf Try.f54 0) (f_s_l2Order_fr0 g1 s) (done (S0.kl 54 0)) = f_s_l2Order_k0 g1 s.1 s.2 (fun s => some (.norm, f_s_l2Order_fr0 g1 s)) (fun e => some (f_s_l2Order_x0_1 g1 e)) := by kernel_rfl
theorem f_s_l2Order_l0 (g1 : List Sc) : ∀ s r, loopL (f_s_l2Order_r0 g1) s = some r → LP S0 54 0 (bodyOf Try.f54 0) (f_s_l2Order_fr0 g1 s) = some (enX (f_s_l2Order_x0_1 g1) (f_s_l2Order_x0_2 g1) r) :=
  loop_true f_s_l2Order_Mt (noL_true) f_s_l2Order_o (fun _ h => by cases h) (fun _ h => by cases h) (fun s => (f_s_l2Order_e0 g1 s).trans (f_s_l2Order_p0 g1 s _ _ (fun e => some (f_s_l2Order_x0_2 g1 e))))
def f_s_l2Order_t0 (σ : List AV) : Option (Bool × Bool × (X × List AV) × (X × List AV)) := match dec f_s_l2Order_h0 σ with
  | some [.l g1, .i n3, .i i4] => some (isOne (loopL (f_s_l2Order_r0 g1) (n3, i4)), true, f_s_l2Order_x0_1 g1 (getOne 0 (loopL (f_s_l2Order_r0 g1) (n3, i4))), (.ret, []))
  | _ => none
theorem f_s_l2Order_tt0 : TTrue S0 54 Try.f54 0 f_s_l2Order_t0 := by
  intro σ p r r' h
  unfold f_s_l2Order_t0 at h
  split at h
  · rename_i hd
    rw [← dec_enc hd]
    exact row1 (f_s_l2Order_l0 _ _) h
  · cases h
theorem f_s_l2Order_p {R : Type} (g0 : List Sc) (kR : Int → Option R) : f_s_l2Order_k g0 kR = (f_s_l2Order g0).bind kR := by
  simp only [f_s_l2Order_k, f_s_l2Order, bl1B, someB]
def f_s_l2Order_en (r : Int) : List AV := enc [.int .i64] [.i r]
theorem f_s_l2Order_e (g0 : List Sc) : runFn S0.E f_s_l2Order_M (asL (addL 0 f_s_l2Order_t0 (noL))) (S0.kl 54) Try.f54 (enc [.gr] [.l g0]) = f_s_l2Order_k g0 (fun r => some (f_s_l2Order_en r)) := by kernel_rfl
theorem f_s_l2Order_ok (g0 : List Sc) (r : Int) (h : f_s_l2Order g0 = some r) : CL S0 54 (enc [.gr] [.l g0]) = some (f_s_l2Order_en r) :=
  fn_true (Fk := fun k => f_s_l2Order_k g0 k) (enc := f_s_l2Order_en) Try.func54 rfl f_s_l2Order_Mt (addL_true f_s_l2Order_tt0 (noL_true)) f_s_l2Order_o (f_s_l2Order_e g0) (f_s_l2Order_p g0) h
def f_s_l2Order_c (args : List AV) : Option (Bool × List AV) := match dec [.gr] args with
  | some [.l g0] => some ((f_s_l2Order g0).isSome, f_s_l2Order_en ((f_s_l2Order g0).getD 0))
  | _ => none
theorem f_s_l2Order_cc : CTrue S0 54 f_s_l2Order_c := by
  intro args rs h
  unfold f_s_l2Order_c at h
  split at h
  · rename_i hd
    rw [← dec_enc hd]
    exact rowC (f_s_l2Order_ok _) h
  · cases h

def f_s_OrderOf_M : Calling := addC 66 f_s_IsGroup_c (addC 54 f_s_l2Order_c (noC))
theorem f_s_OrderOf_Mt : CallsTrue S0 f_s_OrderOf_M := addC_true f_s_IsGroup_cc (addC_true f_s_l2Order_cc (noC_true))
theorem f_s_OrderOf_o : loopsOnce Try.f77 = true := by kernel_rfl
theorem f_s_OrderOf_p {R : Type} (g0 : List Sc) (kR : Int → Option R) : f_s_OrderOf_k g0 kR = (f_s_OrderOf g0).bind kR := by
  simp only [f_s_OrderOf_k, f_s_OrderOf, brB, boB, someB]
def f_s_OrderOf_en (r : Int) : List AV := enc [.int .i64] [.i r]
theorem f_s_OrderOf_e (g0 : List Sc) : runFn S0.E f_s_OrderOf_M (asL (noL)) (S0.kl 77) Try.f77 (enc [.gr] [.l g0]) = f_s_OrderOf_k g0 (fun r => some (f_s_OrderOf_en r)) := by kernel_rfl
theorem f_s_OrderOf_ok (g0 : List Sc) (r : Int) (h : f_s_OrderOf g0 = some r) : CL S0 77 (enc [.gr] [.l g0]) = some (f_s_OrderOf_en r) :=
  fn_true (Fk := fun k => f_s_OrderOf_k g0 k) (enc := f_s_OrderOf_en) Try.func77 rfl f_s_OrderOf_Mt (noL_true) f_s_OrderOf_o (f_s_OrderOf_e g0) (f_s_OrderOf_p g0) h
def f_s_OrderOf_c (args : List AV) : Option (Bool × List AV) := match dec [.gr] args with
  | some [.l g0] => some ((f_s_OrderOf g0).isSome, f_s_OrderOf_en ((f_s_OrderOf g0).getD 0))
  | _ => none
theorem f_s_OrderOf_cc : CTrue S0 77 f_s_OrderOf_c := by
  intro args rs h
  unfold f_s_OrderOf_c at h
  split at h
  · rename_i hd
    rw [← dec_enc hd]
    exact rowC (f_s_OrderOf_ok _) h
  · cases h

def f_s_l2Is_M : Calling := addC 77 f_s_OrderOf_c (noC)
theorem f_s_l2Is_Mt : CallsTrue S0 f_s_l2Is_M := addC_true f_s_OrderOf_cc (noC_true)
theorem f_s_l2Is_o : loopsOnce Try.f65 = true := by kernel_rfl
theorem f_s_l2Is_p {R : Type} (g0 : List Sc) (x1 : Int) (kR : Bool → Option R) : f_s_l2Is_k g0 x1 kR = (f_s_l2Is g0 x1).bind kR := by
  simp only [f_s_l2Is_k, f_s_l2Is, brB, boB, someB]
def f_s_l2Is_en (r : Bool) : List AV := enc [.boo] [.b r]
theorem f_s_l2Is_e (g0 : List Sc) (x1 : Int) : runFn S0.E f_s_l2Is_M (asL (noL)) (S0.kl 65) Try.f65 (enc [.gr, .int .i64] [.l g0, .i x1]) = f_s_l2Is_k g0 x1 (fun r => some (f_s_l2Is_en r)) := by kernel_rfl
theorem f_s_l2Is_ok (g0 : List Sc) (x1 : Int) (r : Bool) (h : f_s_l2Is g0 x1 = some r) : CL S0 65 (enc [.gr, .int .i64] [.l g0, .i x1]) = some (f_s_l2Is_en r) :=
  fn_true (Fk := fun k => f_s_l2Is_k g0 x1 k) (enc := f_s_l2Is_en) Try.func65 rfl f_s_l2Is_Mt (noL_true) f_s_l2Is_o (f_s_l2Is_e g0 x1) (f_s_l2Is_p g0 x1) h
def f_s_l2Is_c (args : List AV) : Option (Bool × List AV) := match dec [.gr, .int .i64] args with
  | some [.l g0, .i x1] => some ((f_s_l2Is g0 x1).isSome, f_s_l2Is_en ((f_s_l2Is g0 x1).getD false))
  | _ => none
theorem f_s_l2Is_cc : CTrue S0 65 f_s_l2Is_c := by
  intro args rs h
  unfold f_s_l2Is_c at h
  split at h
  · rename_i hd
    rw [← dec_enc hd]
    exact rowC (f_s_l2Is_ok _ _) h
  · cases h

def f_s_IsSequence_M : Calling := addC 65 f_s_l2Is_c (addC 66 f_s_IsGroup_c (noC))
theorem f_s_IsSequence_Mt : CallsTrue S0 f_s_IsSequence_M := addC_true f_s_l2Is_cc (addC_true f_s_IsGroup_cc (noC_true))
theorem f_s_IsSequence_o : loopsOnce Try.f39 = true := by kernel_rfl
def f_s_IsSequence_h0 : List Sh := [.u, .sl, .bp, .u, .u, .int .i64, .u, .u, .u, .u, .u, .u, .u, .u, .u, .u, .u, .u, .u, .u, .u, .u, .u, .u, .u, .u, .u, .u, .u, .u, .u, .u, .u, .u, .u, .u, .u, .u, .u, .u, .u, .u]
def f_s_IsSequence_fr0 (l1 : List Sc) (g2 : List Sc) (s : Int) : List AV := enc f_s_IsSequence_h0 [.l l1, .l g2, .i s]
def f_s_IsSequence_g0_1 : List Sh := [.u, .sl, .bp, .u, .u, .u, .u, .u, .u, .u, .u, .u, .u, .u, .u, .u, .u, .u, .u, .u, .u, .u, .u, .u, .u, .u, .u, .u, .u, .u, .u, .u, .u, .u, .u, .u, .u, .u, .u, .u, .u, .u]
def f_s_IsSequence_x0_1 (l1 : List Sc) (g2 : List Sc) (e : Unit) : X × List AV := (.out 0, enc f_s_IsSequence_g0_1 [.l l1, .l g2])
def f_s_IsSequence_g0_2 : List Sh := [.u, .u, .u, .u, .boo, .u, .u, .u, .u, .u, .u, .u, .u, .u, .u, .u, .u, .u, .u, .u, .u, .u, .u, .u, .u, .u, .u, .u, .u, .u, .u, .u, .u, .u, .u, .u, .u, .u, .u, .u, .u, .u]
def f_s_IsSequence_x0_2 (l1 : List Sc) (g2 : List Sc) (e : Unit) : X × List AV := (.ret, enc f_s_IsSequence_g0_2 [.b false])
theorem f_s_IsSequence_p0 {R : Type} (l1 : List Sc) (g2 : List Sc) (s : Int) (kN : Int → Option R) (kA : Unit → Option R) (kB : Unit → Option R) : f_s_IsSequence_k0 l1 g2 s kN kA kB = (f_s_IsSequence_r0 l1 g2 s).bind (Ro.el kN kA kB) := by
  simp only [f_s_IsSequence_k0, f_s_IsSequence_r0, brB, boB, someB, noneB, Ro.el]
theorem f_s_IsSequence_e0 (l1 : List Sc) (g2 : List Sc) (s : Int) : EC S0.E f_s_IsSequence_M (asL (noL)) (S0.kl 39) 0 (bodyOf Try.f39 0) (f_s_IsSequence_fr0 l1 g2 s) (done (S0.kl 39 0)) = f_s_IsSequence_k0 l1 g2 s (fun s => some (.norm, f_s_IsSequence_fr0 l1 g2 s)) (fun e => some (f_s_IsSequence_x0_1 l1 g2 e)) (fun e => some (f_s_IsSequence_x0_2 l1 g2 e)) := by kernel_rfl
theorem f_s_IsSequence_l0 (l1 : List Sc) (g2 : List Sc) : ∀ s r, loopL (f_s_IsSequence_r0 l1 g2) s = some r → LP S0 39 0 (bodyOf Try.f39 0) (f_s_IsSequence_fr0 l1 g2 s) = some (enX (f_s_IsSequence_x0_1 l1 g2) (f_s_IsSequence_x0_2 l1 g2) r) :=
  loop_true f_s_IsSequence_Mt (noL_true) f_s_IsSequence_o (fun _ h => by cases h) (fun _ h => by cases h) (fun s => (f_s_IsSequence_e0 l1 g2 s).trans (f_s_IsSequence_p0 l1 g2 s _ _ (fun e => some (f_s_IsSequence_x0_2 l1 g2 e))))
def f_s_IsSequence_t0 (σ : List AV) : Option (Bool × Bool × (X × List AV) × (X × List AV)) := match dec f_s_IsSequence_h0 σ with
  | some [.l l1, .l g2, .i i5] => some ((loopL (f_s_IsSequence_r0 l1 g2) i5).isSome, isOne (loopL (f_s_IsSequence_r0 l1 g2) i5), f_s_IsSequence_x0_1 l1 g2 (getOne () (loopL (f_s_IsSequence_r0 l1 g2) i5)), f_s_IsSequence_x0_2 l1 g2 (getTwo () (loopL (f_s_IsSequence_r0 l1 g2) i5)))
  | _ => none
theorem f_s_IsSequence_tt0 : TTrue S0 39 Try.f39 0 f_s_IsSequence_t0 := by
  intro σ p r r' h
  unfold f_s_IsSequence_t0 at h
  split at h
  · rename_i hd
    rw [← dec_enc hd]
    exact row2 (f_s_IsSequence_l0 _ _ _) h
  · cases h
theorem f_s_IsSequence_p {R : Type} (g0 : List Sc) (l1 : List Sc) (kR : Bool → Option R) : f_s_IsSequence_k g0 l1 kR = (f_s_IsSequence g0 l1).bind kR := by
  simp only [f_s_IsSequence_k, f_s_IsSequence, brB, boB, blB, someB]
def f_s_IsSequence_en (r : Bool) : List AV := enc [.boo] [.b r]
theorem f_s_IsSequence_e (g0 : List Sc) (l1 : List Sc) : runFn S0.E f_s_IsSequence_M (asL (addL 0 f_s_IsSequence_t0 (noL))) (S0.kl 39) Try.f39 (enc [.gr, .sl] [.l g0, .l l1]) = f_s_IsSequence_k g0 l1 (fun r => some (f_s_IsSequence_en r)) := by kernel_rfl
theorem f_s_IsSequence_ok (g0 : List Sc) (l1 : List Sc) (r : Bool) (h : f_s_IsSequence g0 l1 = some r) : CL S0 39 (enc [.gr, .sl] [.l g0, .l l1]) = some (f_s_IsSequence_en r) :=
  fn_true (Fk := fun k => f_s_IsSequence_k g0 l1 k) (enc := f_s_IsSequence_en) Try.func39 rfl f_s_IsSequence_Mt (addL_true f_s_IsSequence_tt0 (noL_true)) f_s_IsSequence_o (f_s_IsSequence_e g0 l1) (f_s_IsSequence_p g0 l1) h
def f_s_IsSequence_c (args : List AV) : Option (Bool × List AV) := match dec [.gr, .sl] args with
  | some [.l g0, .l l1] => some ((f_s_IsSequence g0 l1).isSome, f_s_IsSequence_en ((f_s_IsSequence g0 l1).getD false))
  | _ => none
theorem f_s_IsSequence_cc : CTrue S0 39 f_s_IsSequence_c := by
  intro args rs h
  unfold f_s_IsSequence_c at h
  split at h
  · rename_i hd
    rw [← dec_enc hd]
    exact rowC (f_s_IsSequence_ok _ _) h
  · cases h

def f_s_l2Add_M : Calling := noC
theorem f_s_l2Add_Mt : CallsTrue S0 f_s_l2Add_M := noC_true
theorem f_s_l2Add_o : loopsOnce Try.f67 = true := by kernel_rfl
def f_s_l2Add_h0 : List Sh := [.u, .int .i64, .int .i64, .bp, .u, .u, .u, .int .i64, .int .i64, .int .i64, .u, .u, .u, .u, .u, .u, .u, .u, .u, .u, .u, .u, .u, .u, .u, .u, .u, .u, .u, .u, .u, .u, .u, .u, .u, .u, .u, .u, .u, .u, .u, .u, .u, .u, .u, .u]
def f_s_l2Add_fr0 (g3 : List Sc) (s : Int × Int × Int × Int × Int) : List AV := enc f_s_l2Add_h0 [.i s.1, .i s.2.1, .l g3, .i s.2.2.1, .i s.2.2.2.1, .i s.2.2.2.2]
def f_s_l2Add_g0_1 : List Sh := [.u, .u, .u, .u, .u, .u, .u, .int .i64, .u, .u, .u, .u, .u, .u, .u, .u, .u, .u, .u, .u, .u, .u, .u, .u, .u, .u, .u, .u, .u, .u, .u, .u, .u, .u, .u, .u, .u, .u, .u, .u, .u, .u, .u, .u, .u, .u]
def f_s_l2Add_x0_1 (g3 : List Sc) (e : Int) : X × List AV := (.out 0, enc f_s_l2Add_g0_1 [.i e])
def f_s_l2Add_x0_2 (_ : List Sc) (_e : Unit) : X × List AV := (.ret, [])
theorem f_s_l2Add_p0 {R : Type} (g3 : List Sc) (s : Int × Int × Int × Int × Int) (kN : Int × Int × Int × Int × Int → Option R) (kA : Int → Option R) (kB : Unit → Option R) : f_s_l2Add_k0 g3 s.1 s.2.1 s.2.2.1 s.2.2.2.1 s.2.2.2.2 kN kA = (f_s_l2Add_r0 g3 s).bind (Ro.el kN kA kB) := by
  simp only [f_s_l2Add_k0, f_s_l2Add_r0, brB, someB, noneB, Ro.el]
theorem f_s_l2Add_e0 (g3 : List Sc) (s : Int × Int × Int × Int × Int) : EC S0.E f_s_l2Add_M (asL (noL)) (S0.kl 67) 0 (bodyOf Try.f67 0) (f_s_l2Add_fr0 g3 s) (done (S0.kl 67 0)) = f_s_l2Add_k0 g3 s.1 s.2.1 s.2.2.1 s.2.2.2.1 s.2.2.2.2 (fun s => some (.norm, f_s_l2Add_fr0 g3 s)) (fun e => some (f_s_l2Add_x0_1 g3 e)) := by kernel_rfl
theorem f_s_l2Add_l0 (g3 : List Sc) : ∀ s r, loopL (f_s_l2Add_r0 g3) s = some r → LP S0 67 0 (bodyOf Try.f67 0) (f_s_l2Add_fr0 g3 s) = some (enX (f_s_l2Add_x0_1 g3) (f_s_l2Add_x0_2 g3) r) :=
  loop_true f_s_l2Add_Mt (noL_true) f_s_l2Add_o (fun _ h => by cases h) (fun _ h => by cases h) (fun s => (f_s_l2Add_e0 g3 s).trans (f_s_l2Add_p0 g3 s _ _ (fun e => some (f_s_l2Add_x0_2 g3 e))))
def f_s_l2Add_t0 (σ : List AV) : Option (Bool × Bool × (X × List AV) × (X × List AV)) := match dec f_s_l2Add_h0 σ with
  | some [.i x1, .i y2, .l g3, .i z7, .i step8, .i i9] => some (isOne (loopL (f_s_l2Add_r0 g3) (x1, y2, z7, step8, i9)), true, f_s_l2Add_x0_1 g3 (getOne 0 (loopL (f_s_l2Add_r0 g3) (x1, y2, z7, step8, i9))), (.ret, []))
  | _ => none
theorem f_s_l2Add_tt0 : TTrue S0 67 Try.f67 0 f_s_l2Add_t0 := by
  intro σ p r r' h
  unfold f_s_l2Add_t0 at h
  split at h
  · rename_i hd
    rw [← dec_enc hd]
    exact row1 (f_s_l2Add_l0 _ _) h
  · cases h
theorem f_s_l2Add_p {R : Type} (g0 : List Sc) (x1 : Int) (y2 : Int) (kR : Int → Option R) : f_s_l2Add_k g0 x1 y2 kR = (f_s_l2Add g0 x1 y2).bind kR := by
  simp only [f_s_l2Add_k, f_s_l2Add, bl1B, someB]
def f_s_l2Add_en (r : Int) : List AV := enc [.int .i64] [.i r]
theorem f_s_l2Add_e (g0 : List Sc) (x1 : Int) (y2 : Int) : runFn S0.E f_s_l2Add_M (asL (addL 0 f_s_l2Add_t0 (noL))) (S0.kl 67) Try.f67 (enc [.gr, .int .i64, .int .i64] [.l g0, .i x1, .i y2]) = f_s_l2Add_k g0 x1 y2 (fun r => some (f_s_l2Add_en r)) := by kernel_rfl
theorem f_s_l2Add_ok (g0 : List Sc) (x1 : Int) (y2 : Int) (r : Int) (h : f_s_l2Add g0 x1 y2 = some r) : CL S0 67 (enc [.gr, .int .i64, .int .i64] [.l g0, .i x1, .i y2]) = some (f_s_l2Add_en r) :=
  fn_true (Fk := fun k => f_s_l2Add_k g0 x1 y2 k) (enc := f_s_l2Add_en) Try.func67 rfl f_s_l2Add_Mt (addL_true f_s_l2Add_tt0 (noL_true)) f_s_l2Add_o (f_s_l2Add_e g0 x1 y2) (f_s_l2Add_p g0 x1 y2) h
def f_s_l2Add_c (args : List AV) : Option (Bool × List AV) := match dec [.gr, .int .i64, .int .i64] args with
  | some [.l g0, .i x1, .i y2] => some ((f_s_l2Add g0 x1 y2).isSome, f_s_l2Add_en ((f_s_l2Add g0 x1 y2).getD 0))
  | _ => none
theorem f_s_l2Add_cc : CTrue S0 67 f_s_l2Add_c := by
  intro args rs h
  unfold f_s_l2Add_c at h
  split at h
  · rename_i hd
    rw [← dec_enc hd]
    exact rowC (f_s_l2Add_ok _ _ _) h
  · cases h

def f_s_l16Sum_M : Calling := addC 67 f_s_l2Add_c (noC)
theorem f_s_l16Sum_Mt : CallsTrue S0 f_s_l16Sum_M := addC_true f_s_l2Add_cc (noC_true)
theorem f_s_l16Sum_o : loopsOnce Try.f40 = true := by kernel_rfl
def f_s_l16Sum_h0 : List Sh := [.u, .sl, .bp, .u, .u, .int .i64, .int .i64, .u, .u, .u, .u, .u, .u, .u, .u, .u, .u, .u, .u, .u, .u]
def f_s_l16Sum_fr0 (l1 : List Sc) (g2 : List Sc) (s : Int × Int) : List AV := enc f_s_l16Sum_h0 [.l l1, .l g2, .i s.1, .i s.2]
def f_s_l16Sum_g0_1 : List Sh := [.u, .u, .u, .u, .u, .int .i64, .u, .u, .u, .u, .u, .u, .u, .u, .u, .u, .u, .u, .u, .u, .u]
def f_s_l16Sum_x0_1 (l1 : List Sc) (g2 : List Sc) (e : Int) : X × List AV := (.out 0, enc f_s_l16Sum_g0_1 [.i e])
def f_s_l16Sum_x0_2 (_ : List Sc) (_ : List Sc) (_e : Unit) : X × List AV := (.ret, [])
theorem f_s_l16Sum_p0 {R : Type} (l1 : List Sc) (g2 : List Sc) (s : Int × Int) (kN : Int × Int → Option R) (kA : Int → Option R) (kB : Unit → Option R) : f_s_l16Sum_k0 l1 g2 s.1 s.2 kN kA = (f_s_l16Sum_r0 l1 g2 s).bind (Ro.el kN kA kB) := by
  simp only [f_s_l16Sum_k0, f_s_l16Sum_r0, brB, boB, someB, noneB, Ro.el]
theorem f_s_l16Sum_e0 (l1 : List Sc) (g2 : List Sc) (s : Int × Int) : EC S0.E f_s_l16Sum_M (asL (noL)) (S0.kl 40) 0 (bodyOf Try.f40 0) (f_s_l16Sum_fr0 l1 g2 s) (done (S0.kl 40 0)) = f_s_l16Sum_k0 l1 g2 s.1 s.2 (fun s => some (.norm, f_s_l16Sum_fr0 l1 g2 s)) (fun e => some (f_s_l16Sum_x0_1 l1 g2 e)) := by kernel_rfl
theorem f_s_l16Sum_l0 (l1 : List Sc) (g2 : List Sc) : ∀ s r, loopL (f_s_l16Sum_r0 l1 g2) s = some r → LP S0 40 0 (bodyOf Try.f40 0) (f_s_l16Sum_fr0 l1 g2 s) = some (enX (f_s_l16Sum_x0_1 l1 g2) (f_s_l16Sum_x0_2 l1 g2) r) :=
  loop_true f_s_l16Sum_Mt (noL_true) f_s_l16Sum_o (fun _ h => by cases h) (fun _ h => by cases h) (fun s => (f_s_l16Sum_e0 l1 g2 s).trans (f_s_l16Sum_p0 l1 g2 s _ _ (fun e => some (f_s_l16Sum_x0_2 l1 g2 e))))
def f_s_l16Sum_t0 (σ : List AV) : Option (Bool × Bool × (X × List AV) × (X × List AV)) := match dec f_s_l16Sum_h0 σ with
  | some [.l l1, .l g2, .i z5, .i i6] => some (isOne (loopL (f_s_l16Sum_r0 l1 g2) (z5, i6)), true, f_s_l16Sum_x0_1 l1 g2 (getOne 0 (loopL (f_s_l16Sum_r0 l1 g2) (z5, i6))), (.ret, []))
  | _ => none
theorem f_s_l16Sum_tt0 : TTrue S0 40 Try.f40 0 f_s_l16Sum_t0 := by
  intro σ p r r' h
  unfold f_s_l16Sum_t0 at h
  split at h
  · rename_i hd
    rw [← dec_enc hd]
    exact row1 (f_s_l16Sum_l0 _ _ _) h
  · cases h
theorem f_s_l16Sum_p {R : Type} (g0 : List Sc) (l1 : List Sc) (kR : Int → Option R) : f_s_l16Sum_k g0 l1 kR = (f_s_l16Sum g0 l1).bind kR := by
  simp only [f_s_l16Sum_k, f_s_l16Sum, bl1B, someB]
def f_s_l16Sum_en (r : Int) : List AV := enc [.int .i64] [.i r]
theorem f_s_l16Sum_e (g0 : List Sc) (l1 : List Sc) : runFn S0.E f_s_l16Sum_M (asL (addL 0 f_s_l16Sum_t0 (noL))) (S0.kl 40) Try.f40 (enc [.gr, .sl] [.l g0, .l l1]) = f_s_l16Sum_k g0 l1 (fun r => some (f_s_l16Sum_en r)) := by kernel_rfl
theorem f_s_l16Sum_ok (g0 : List Sc) (l1 : List Sc) (r : Int) (h : f_s_l16Sum g0 l1 = some r) : CL S0 40 (enc [.gr, .sl] [.l g0, .l l1]) = some (f_s_l16Sum_en r) :=
  fn_true (Fk := fun k => f_s_l16Sum_k g0 l1 k) (enc := f_s_l16Sum_en) Try.func40 rfl f_s_l16Sum_Mt (addL_true f_s_l16Sum_tt0 (noL_true)) f_s_l16Sum_o (f_s_l16Sum_e g0 l1) (f_s_l16Sum_p g0 l1) h
def f_s_l16Sum_c (args : List AV) : Option (Bool × List AV) := match dec [.gr, .sl] args with
  | some [.l g0, .l l1] => some ((f_s_l16Sum g0 l1).isSome, f_s_l16Sum_en ((f_s_l16Sum g0 l1).getD 0))
  | _ => none
theorem f_s_l16Sum_cc : CTrue S0 40 f_s_l16Sum_c := by
  intro args rs h
  unfold f_s_l16Sum_c at h
  split at h
  · rename_i hd
    rw [← dec_enc hd]
    exact rowC (f_s_l16Sum_ok _ _) h
  · cases h

def f_s_IsZeroSum_M : Calling := addC 39 f_s_IsSequence_c (addC 40 f_s_l16Sum_c (noC))
theorem f_s_IsZeroSum_Mt : CallsTrue S0 f_s_IsZeroSum_M := addC_true f_s_IsSequence_cc (addC_true f_s_l16Sum_cc (noC_true))
theorem f_s_IsZeroSum_o : loopsOnce Try.f14 = true := by kernel_rfl
theorem f_s_IsZeroSum_p {R : Type} (g0 : List Sc) (l1 : List Sc) (kR : Bool → Option R) : f_s_IsZeroSum_k g0 l1 kR = (f_s_IsZeroSum g0 l1).bind kR := by
  simp only [f_s_IsZeroSum_k, f_s_IsZeroSum, brB, boB, someB]
def f_s_IsZeroSum_en (r : Bool) : List AV := enc [.boo] [.b r]
theorem f_s_IsZeroSum_e (g0 : List Sc) (l1 : List Sc) : runFn S0.E f_s_IsZeroSum_M (asL (noL)) (S0.kl 14) Try.f14 (enc [.gr, .sl] [.l g0, .l l1]) = f_s_IsZeroSum_k g0 l1 (fun r => some (f_s_IsZeroSum_en r)) := by kernel_rfl
theorem f_s_IsZeroSum_ok (g0 : List Sc) (l1 : List Sc) (r : Bool) (h : f_s_IsZeroSum g0 l1 = some r) : CL S0 14 (enc [.gr, .sl] [.l g0, .l l1]) = some (f_s_IsZeroSum_en r) :=
  fn_true (Fk := fun k => f_s_IsZeroSum_k g0 l1 k) (enc := f_s_IsZeroSum_en) Try.func14 rfl f_s_IsZeroSum_Mt (noL_true) f_s_IsZeroSum_o (f_s_IsZeroSum_e g0 l1) (f_s_IsZeroSum_p g0 l1) h
def f_s_IsZeroSum_c (args : List AV) : Option (Bool × List AV) := match dec [.gr, .sl] args with
  | some [.l g0, .l l1] => some ((f_s_IsZeroSum g0 l1).isSome, f_s_IsZeroSum_en ((f_s_IsZeroSum g0 l1).getD false))
  | _ => none
theorem f_s_IsZeroSum_cc : CTrue S0 14 f_s_IsZeroSum_c := by
  intro args rs h
  unfold f_s_IsZeroSum_c at h
  split at h
  · rename_i hd
    rw [← dec_enc hd]
    exact rowC (f_s_IsZeroSum_ok _ _) h
  · cases h

def f_i_within_M : Calling := noC
theorem f_i_within_Mt : CallsTrue S0 f_i_within_M := noC_true
theorem f_i_within_o : loopsOnce Try.f58 = true := by kernel_rfl
theorem f_i_within_p {R : Type} (x0 : Int) (lo1 : Int) (hi2 : Int) (kR : Bool → Option R) : f_i_within_k x0 lo1 hi2 kR = (f_i_within x0 lo1 hi2).bind kR := by
  simp only [f_i_within_k, f_i_within, brB, someB]
def f_i_within_en (r : Bool) : List AV := enc [.boo] [.b r]
theorem f_i_within_e (x0 : Int) (lo1 : Int) (hi2 : Int) : runFn S0.E f_i_within_M (asL (noL)) (S0.kl 58) Try.f58 (enc [.int .i64, .int .i64, .int .i64] [.i x0, .i lo1, .i hi2]) = f_i_within_k x0 lo1 hi2 (fun r => some (f_i_within_en r)) := by kernel_rfl
theorem f_i_within_ok (x0 : Int) (lo1 : Int) (hi2 : Int) (r : Bool) (h : f_i_within x0 lo1 hi2 = some r) : CL S0 58 (enc [.int .i64, .int .i64, .int .i64] [.i x0, .i lo1, .i hi2]) = some (f_i_within_en r) :=
  fn_true (Fk := fun k => f_i_within_k x0 lo1 hi2 k) (enc := f_i_within_en) Try.func58 rfl f_i_within_Mt (noL_true) f_i_within_o (f_i_within_e x0 lo1 hi2) (f_i_within_p x0 lo1 hi2) h
def f_i_within_c (args : List AV) : Option (Bool × List AV) := match dec [.int .i64, .int .i64, .int .i64] args with
  | some [.i x0, .i lo1, .i hi2] => some ((f_i_within x0 lo1 hi2).isSome, f_i_within_en ((f_i_within x0 lo1 hi2).getD false))
  | _ => none
theorem f_i_within_cc : CTrue S0 58 f_i_within_c := by
  intro args rs h
  unfold f_i_within_c at h
  split at h
  · rename_i hd
    rw [← dec_enc hd]
    exact rowC (f_i_within_ok _ _ _) h
  · cases h

def f_i_IsGroup_M : Calling := addC 58 f_i_within_c (noC)
theorem f_i_IsGroup_Mt : CallsTrue S0 f_i_IsGroup_M := addC_true f_i_within_cc (noC_true)
theorem f_i_IsGroup_o : loopsOnce Try.f69 = true := by kernel_rfl
def f_i_IsGroup_h0 : List Sh := [.u, .u, .u, .int .i64, .u, .u, .u, .u, .u, .u, .u, .sl, .int .i64, .int .i64, .u, .u, .u, .u, .u, .u, .u, .u, .u, .u, .u, .u]
def f_i_IsGroup_fr0 (t11 : List Sc) (t12 : Int) (s : Int × Int) : List AV := enc f_i_IsGroup_h0 [.i s.1, .l t11, .i t12, .i s.2]
def f_i_IsGroup_g0_1 : List Sh := [.u, .u, .u, .int .i64, .u, .u, .u, .u, .u, .u, .u, .u, .u, .u, .u, .u, .u, .u, .u, .u, .u, .u, .u, .u, .u, .u]
def f_i_IsGroup_x0_1 (t11 : List Sc) (t12 : Int) (e : Int) : X × List AV := (.out 0, enc f_i_IsGroup_g0_1 [.i e])
def f_i_IsGroup_g0_2 : List Sh := [.u, .u, .boo, .u, .u, .u, .u, .u, .u, .u, .u, .u, .u, .u, .u, .u, .u, .u, .u, .u, .u, .u, .u, .u, .u, .u]
def f_i_IsGroup_x0_2 (t11 : List Sc) (t12 : Int) (e : Unit) : X × List AV := (.ret, enc f_i_IsGroup_g0_2 [.b false])
theorem f_i_IsGroup_p0 {R : Type} (t11 : List Sc) (t12 : Int) (s : Int × Int) (kN : Int × Int → Option R) (kA : Int → Option R) (kB : Unit → Option R) : f_i_IsGroup_k0 t11 t12 s.1 s.2 kN kA kB = (f_i_IsGroup_r0 t11 t12 s).bind (Ro.el kN kA kB) := by
  simp only [f_i_IsGroup_k0, f_i_IsGroup_r0, brB, boB, someB, noneB, Ro.el]
theorem f_i_IsGroup_e0 (t11 : List Sc) (t12 : Int) (s : Int × Int) : EC S0.E f_i_IsGroup_M (asL (noL)) (S0.kl 69) 0 (bodyOf Try.f69 0) (f_i_IsGroup_fr0 t11 t12 s) (done (S0.kl 69 0)) = f_i_IsGroup_k0 t11 t12 s.1 s.2 (fun s => some (.norm, f_i_IsGroup_fr0 t11 t12 s)) (fun e => some (f_i_IsGroup_x0_1 t11 t12 e)) (fun e => some (f_i_IsGroup_x0_2 t11 t12 e)) := by kernel_rfl
theorem f_i_IsGroup_l0 (t11 : List Sc) (t12 : Int) : ∀ s r, loopL (f_i_IsGroup_r0 t11 t12) s = some r → LP S0 69 0 (bodyOf Try.f69 0) (f_i_IsGroup_fr0 t11 t12 s) = some (enX (f_i_IsGroup_x0_1 t11 t12) (f_i_IsGroup_x0_2 t11 t12) r) :=
  loop_true f_i_IsGroup_Mt (noL_true) f_i_IsGroup_o (fun _ h => by cases h) (fun _ h => by cases h) (fun s => (f_i_IsGroup_e0 t11 t12 s).trans (f_i_IsGroup_p0 t11 t12 s _ _ (fun e => some (f_i_IsGroup_x0_2 t11 t12 e))))
def f_i_IsGroup_t0 (σ : List AV) : Option (Bool × Bool × (X × List AV) × (X × List AV)) := match dec f_i_IsGroup_h0 σ with
  | some [.i n3, .l t11, .i t12, .i t13] => some ((loopL (f_i_IsGroup_r0 t11 t12) (n3, t13)).isSome, isOne (loopL (f_i_IsGroup_r0 t11 t12) (n3, t13)), f_i_IsGroup_x0_1 t11 t12 (getOne 0 (loopL (f_i_IsGroup_r0 t11 t12) (n3, t13))), f_i_IsGroup_x0_2 t11 t12 (getTwo () (loopL (f_i_IsGroup_r0 t11 t12) (n3, t13))))
  | _ => none
theorem f_i_IsGroup_tt0 : TTrue S0 69 Try.f69 0 f_i_IsGroup_t0 := by
  intro σ p r r' h
  unfold f_i_IsGroup_t0 at h
  split at h
  · rename_i hd
    rw [← dec_enc hd]
    exact row2 (f_i_IsGroup_l0 _ _ _) h
  · cases h
theorem f_i_IsGroup_p {R : Type} (g0 : List Sc) (kR : Bool → Option R) : f_i_IsGroup_k g0 kR = (f_i_IsGroup g0).bind kR := by
  simp only [f_i_IsGroup_k, f_i_IsGroup, brB, blB, someB]
def f_i_IsGroup_en (r : Bool) : List AV := enc [.boo] [.b r]
theorem f_i_IsGroup_e (g0 : List Sc) : runFn S0.E f_i_IsGroup_M (asL (addL 0 f_i_IsGroup_t0 (noL))) (S0.kl 69) Try.f69 (enc [.gr] [.l g0]) = f_i_IsGroup_k g0 (fun r => some (f_i_IsGroup_en r)) := by kernel_rfl
theorem f_i_IsGroup_ok (g0 : List Sc) (r : Bool) (h : f_i_IsGroup g0 = some r) : CL S0 69 (enc [.gr] [.l g0]) = some (f_i_IsGroup_en r) :=
  fn_true (Fk := fun k => f_i_IsGroup_k g0 k) (enc := f_i_IsGroup_en) Try.func69 rfl f_i_IsGroup_Mt (addL_true f_i_IsGroup_tt0 (noL_true)) f_i_IsGroup_o (f_i_IsGroup_e g0) (f_i_IsGroup_p g0) h
def f_i_IsGroup_c (args : List AV) : Option (Bool × List AV) := match dec [.gr] args with
  | some [.l g0] => some ((f_i_IsGroup g0).isSome, f_i_IsGroup_en ((f_i_IsGroup g0).getD false))
  | _ => none
theorem f_i_IsGroup_cc : CTrue S0 69 f_i_IsGroup_c := by
  intro args rs h
  unfold f_i_IsGroup_c at h
  split at h
  · rename_i hd
    rw [← dec_enc hd]
    exact rowC (f_i_IsGroup_ok _) h
  · cases h

def f_i_OrderOf_M : Calling := addC 69 f_i_IsGroup_c (noC)
theorem f_i_OrderOf_Mt : CallsTrue S0 f_i_OrderOf_M := addC_true f_i_IsGroup_cc (noC_true)
theorem f_i_OrderOf_o : loopsOnce Try.f72 = true := by kernel_rfl
def f_i_OrderOf_h0 : List Sh := [.u, .u, .u, .int .i64, .u, .u, .u, .u, .u, .u, .sl, .int .i64, .int .i64, .u, .u, .u, .u, .u, .u, .u, .u]
def f_i_OrderOf_fr0 (t10 : List Sc) (t11 : Int) (s : Int × Int) : List AV := enc f_i_OrderOf_h0 [.i s.1, .l t10, .i t11, .i s.2]
def f_i_OrderOf_g0_1 : List Sh := [.u, .u, .u, .int .i64, .u, .u, .u, .u, .u, .u, .u, .u, .u, .u, .u, .u, .u, .u, .u, .u, .u]
def f_i_OrderOf_x0_1 (t10 : List Sc) (t11 : Int) (e : Int) : X × List AV := (.out 0, enc f_i_OrderOf_g0_1 [.i e])
def f_i_OrderOf_x0_2 (_ : List Sc) (_ : Int) (_e : Unit) : X × List AV := (.ret, [])
theorem f_i_OrderOf_p0 {R : Type} (t10 : List Sc) (t11 : Int) (s : Int × Int) (kN : Int × Int → Option R) (kA : Int → Option R) (kB : Unit → Option R) : f_i_OrderOf_k0 t10 t11 s.1 s.2 kN kA = (f_i_OrderOf_r0 t10 t11 s).bind (Ro.el kN kA kB) := by
  simp only [f_i_OrderOf_k0, f_i_OrderOf_r0, brB, someB, noneB, Ro.el]
theorem f_i_OrderOf_e0 (t10 : List Sc) (t11 : Int) (s : Int × Int) : EC S0.E f_i_OrderOf_M (asL (noL)) (S0.kl 72) 0 (bodyOf Try.f72 0) (f_i_OrderOf_fr0 t10 t11 s) (done (S0.kl 72 0)) = f_i_OrderOf_k0 t10 t11 s.1 s.2 (fun s => some (.norm, f_i_OrderOf_fr0 t10 t11 s)) (fun e => some (f_i_OrderOf_x0_1 t10 t11 e)) := by kernel_rfl
theorem f_i_OrderOf_l0 (t10 : List Sc) (t11 : Int) : ∀ s r, loopL (f_i_OrderOf_r0 t10 t11) s = some r → LP S0 72 0 (bodyOf Try.f72 0) (f_i_OrderOf_fr0 t10 t11 s) = some (enX (f_i_OrderOf_x0_1 t10 t11) (f_i_OrderOf_x0_2 t10 t11) r) :=
  loop_true f_i_OrderOf_Mt (noL_true) f_i_OrderOf_o (fun _ h => by cases h) (fun _ h => by cases h) (fun s => (f_i_OrderOf_e0 t10 t11 s).trans (f_i_OrderOf_p0 t10 t11 s _ _ (fun e => some (f_i_OrderOf_x0_2 t10 t11 e))))
def f_i_OrderOf_t0 (σ : List AV) : Option (Bool × Bool × (X × List AV) × (X × List AV)) := match dec f_i_OrderOf_h0 σ with
  | some [.i n3, .l t10, .i t11, .i t12] => some (isOne (loopL (f_i_OrderOf_r0 t10 t11) (n3, t12)), true, f_i_OrderOf_x0_1 t10 t11 (getOne 0 (loopL (f_i_OrderOf_r0 t10 t11) (n3, t12))), (.ret, []))
  | _ => none
theorem f_i_OrderOf_tt0 : TTrue S0 72 Try.f72 0 f_i_OrderOf_t0 := by
  intro σ p r r' h
  unfold f_i_OrderOf_t0 at h
  split at h
  · rename_i hd
    rw [← dec_enc hd]
    exact row1 (f_i_OrderOf_l0 _ _ _) h
  · cases h
theorem f_i_OrderOf_p {R : Type} (g0 : List Sc) (kR : Int → Option R) : f_i_OrderOf_k g0 kR = (f_i_OrderOf g0).bind kR := by
  simp only [f_i_OrderOf_k, f_i_OrderOf, brB, boB, bl1B, someB]
def f_i_OrderOf_en (r : Int) : List AV := enc [.int .i64] [.i r]
theorem f_i_OrderOf_e (g0 : List Sc) : runFn S0.E f_i_OrderOf_M (asL (addL 0 f_i_OrderOf_t0 (noL))) (S0.kl 72) Try.f72 (enc [.gr] [.l g0]) = f_i_OrderOf_k g0 (fun r => some (f_i_OrderOf_en r)) := by kernel_rfl
theorem f_i_OrderOf_ok (g0 : List Sc) (r : Int) (h : f_i_OrderOf g0 = some r) : CL S0 72 (enc [.gr] [.l g0]) = some (f_i_OrderOf_en r) :=
  fn_true (Fk := fun k => f_i_OrderOf_k g0 k) (enc := f_i_OrderOf_en) Try.func72 rfl f_i_OrderOf_Mt (addL_true f_i_OrderOf_tt0 (noL_true)) f_i_OrderOf_o (f_i_OrderOf_e g0) (f_i_OrderOf_p g0) h
def f_i_OrderOf_c (args : List AV) : Option (Bool × List AV) := match dec [.gr] args with
  | some [.l g0] => some ((f_i_OrderOf g0).isSome, f_i_OrderOf_en ((f_i_OrderOf g0).getD 0))
  | _ => none
theorem f_i_OrderOf_cc : CTrue S0 72 f_i_OrderOf_c := by
  intro args rs h
  unfold f_i_OrderOf_c at h
  split at h
  · rename_i hd
    rw [← dec_enc hd]
    exact rowC (f_i_OrderOf_ok _) h
  · cases h

def f_i_Group_has_M : Calling := addC 72 f_i_OrderOf_c (addC 58 f_i_within_c (noC))
theorem f_i_Group_has_Mt : CallsTrue S0 f_i_Group_has_M := addC_true f_i_OrderOf_cc (addC_true f_i_within_cc (noC_true))
theorem f_i_Group_has_o : loopsOnce Try.f68 = true := by kernel_rfl
theorem f_i_Group_has_p {R : Type} (g0 : List Sc) (x1 : Int) (kR : Bool → Option R) : f_i_Group_has_k g0 x1 kR = (f_i_Group_has g0 x1).bind kR := by
  simp only [f_i_Group_has_k, f_i_Group_has, boB, someB]
def f_i_Group_has_en (r : Bool) : List AV := enc [.boo] [.b r]
theorem f_i_Group_has_e (g0 : List Sc) (x1 : Int) : runFn S0.E f_i_Group_has_M (asL (noL)) (S0.kl 68) Try.f68 (enc [.gr, .int .i64] [.l g0, .i x1]) = f_i_Group_has_k g0 x1 (fun r => some (f_i_Group_has_en r)) := by kernel_rfl
theorem f_i_Group_has_ok (g0 : List Sc) (x1 : Int) (r : Bool) (h : f_i_Group_has g0 x1 = some r) : CL S0 68 (enc [.gr, .int .i64] [.l g0, .i x1]) = some (f_i_Group_has_en r) :=
  fn_true (Fk := fun k => f_i_Group_has_k g0 x1 k) (enc := f_i_Group_has_en) Try.func68 rfl f_i_Group_has_Mt (noL_true) f_i_Group_has_o (f_i_Group_has_e g0 x1) (f_i_Group_has_p g0 x1) h
def f_i_Group_has_c (args : List AV) : Option (Bool × List AV) := match dec [.gr, .int .i64] args with
  | some [.l g0, .i x1] => some ((f_i_Group_has g0 x1).isSome, f_i_Group_has_en ((f_i_Group_has g0 x1).getD false))
  | _ => none
theorem f_i_Group_has_cc : CTrue S0 68 f_i_Group_has_c := by
  intro args rs h
  unfold f_i_Group_has_c at h
  split at h
  · rename_i hd
    rw [← dec_enc hd]
    exact rowC (f_i_Group_has_ok _ _) h
  · cases h

def f_cmp_isNaN_M : Calling := noC
theorem f_cmp_isNaN_Mt : CallsTrue S0 f_cmp_isNaN_M := noC_true
theorem f_cmp_isNaN_o : loopsOnce Try.f79 = true := by kernel_rfl
theorem f_cmp_isNaN_p {R : Type} (x0 : Int) (kR : Bool → Option R) : f_cmp_isNaN_k x0 kR = (f_cmp_isNaN x0).bind kR := by
  simp only [f_cmp_isNaN_k, f_cmp_isNaN, someB]
def f_cmp_isNaN_en (r : Bool) : List AV := enc [.boo] [.b r]
theorem f_cmp_isNaN_e (x0 : Int) : runFn S0.E f_cmp_isNaN_M (asL (noL)) (S0.kl 79) Try.f79 (enc [.int .i64] [.i x0]) = f_cmp_isNaN_k x0 (fun r => some (f_cmp_isNaN_en r)) := by kernel_rfl
theorem f_cmp_isNaN_ok (x0 : Int) (r : Bool) (h : f_cmp_isNaN x0 = some r) : CL S0 79 (enc [.int .i64] [.i x0]) = some (f_cmp_isNaN_en r) :=
  fn_true (Fk := fun k => f_cmp_isNaN_k x0 k) (enc := f_cmp_isNaN_en) Try.func79 rfl f_cmp_isNaN_Mt (noL_true) f_cmp_isNaN_o (f_cmp_isNaN_e x0) (f_cmp_isNaN_p x0) h
def f_cmp_isNaN_c (args : List AV) : Option (Bool × List AV) := match dec [.int .i64] args with
  | some [.i x0] => some ((f_cmp_isNaN x0).isSome, f_cmp_isNaN_en ((f_cmp_isNaN x0).getD false))
  | _ => none
theorem f_cmp_isNaN_cc : CTrue S0 79 f_cmp_isNaN_c := by
  intro args rs h
  unfold f_cmp_isNaN_c at h
  split at h
  · rename_i hd
    rw [← dec_enc hd]
    exact rowC (f_cmp_isNaN_ok _) h
  · cases h

def f_cmp_Less_M : Calling := addC 79 f_cmp_isNaN_c (noC)
theorem f_cmp_Less_Mt : CallsTrue S0 f_cmp_Less_M := addC_true f_cmp_isNaN_cc (noC_true)
theorem f_cmp_Less_o : loopsOnce Try.f78 = true := by kernel_rfl
theorem f_cmp_Less_p {R : Type} (x0 : Int) (y1 : Int) (kR : Bool → Option R) : f_cmp_Less_k x0 y1 kR = (f_cmp_Less x0 y1).bind kR := by
  simp only [f_cmp_Less_k, f_cmp_Less, brB, boB, someB]
def f_cmp_Less_en (r : Bool) : List AV := enc [.boo] [.b r]
theorem f_cmp_Less_e (x0 : Int) (y1 : Int) : runFn S0.E f_cmp_Less_M (asL (noL)) (S0.kl 78) Try.f78 (enc [.int .i64, .int .i64] [.i x0, .i y1]) = f_cmp_Less_k x0 y1 (fun r => some (f_cmp_Less_en r)) := by kernel_rfl
theorem f_cmp_Less_ok (x0 : Int) (y1 : Int) (r : Bool) (h : f_cmp_Less x0 y1 = some r) : CL S0 78 (enc [.int .i64, .int .i64] [.i x0, .i y1]) = some (f_cmp_Less_en r) :=
  fn_true (Fk := fun k => f_cmp_Less_k x0 y1 k) (enc := f_cmp_Less_en) Try.func78 rfl f_cmp_Less_Mt (noL_true) f_cmp_Less_o (f_cmp_Less_e x0 y1) (f_cmp_Less_p x0 y1) h
def f_cmp_Less_c (args : List AV) : Option (Bool × List AV) := match dec [.int .i64, .int .i64] args with
  | some [.i x0, .i y1] => some ((f_cmp_Less x0 y1).isSome, f_cmp_Less_en ((f_cmp_Less x0 y1).getD false))
  | _ => none
theorem f_cmp_Less_cc : CTrue S0 78 f_cmp_Less_c := by
  intro args rs h
  unfold f_cmp_Less_c at h
  split at h
  · rename_i hd
    rw [← dec_enc hd]
    exact rowC (f_cmp_Less_ok _ _) h
  · cases h

def f_slices_IsSorted_M : Calling := addC 78 f_cmp_Less_c (noC)
theorem f_slices_IsSorted_Mt : CallsTrue S0 f_slices_IsSorted_M := addC_true f_cmp_Less_cc (noC_true)
theorem f_slices_IsSorted_o : loopsOnce Try.f70 = true := by kernel_rfl
def f_slices_IsSorted_h0 : List Sh := [.sl, .u, .u, .int .i64, .u, .u, .u, .u, .u, .u, .u, .u, .u, .u, .u, .u, .u, .u, .u, .u, .u]
def f_slices_IsSorted_fr0 (x0 : List Sc) (s : Int) : List AV := enc f_slices_IsSorted_h0 [.l x0, .i s]
def f_slices_IsSorted_g0_1 : List Sh := [.u, .u, .u, .u, .u, .u, .u, .u, .u, .u, .u, .u, .u, .u, .u, .u, .u, .u, .u, .u, .u]
def f_slices_IsSorted_x0_1 (x0 : List Sc) (e : Unit) : X × List AV := (.out 0, enc f_slices_IsSorted_g0_1 [])
def f_slices_IsSorted_g0_2 : List Sh := [.u, .u, .boo, .u, .u, .u, .u, .u, .u, .u, .u, .u, .u, .u, .u, .u, .u, .u, .u, .u, .u]
def f_slices_IsSorted_x0_2 (x0 : List Sc) (e : Unit) : X × List AV := (.ret, enc f_slices_IsSorted_g0_2 [.b false])
theorem f_slices_IsSorted_p0 {R : Type} (x0 : List Sc) (s : Int) (kN : Int → Option R) (kA : Unit → Option R) (kB : Unit → Option R) : f_slices_IsSorted_k0 x0 s kN kA kB = (f_slices_IsSorted_r0 x0 s).bind (Ro.el kN kA kB) := by
  simp only [f_slices_IsSorted_k0, f_slices_IsSorted_r0, brB, boB, someB, noneB, Ro.el]
theorem f_slices_IsSorted_e0 (x0 : List Sc) (s : Int) : EC S0.E f_slices_IsSorted_M (asL (noL)) (S0.kl 70) 0 (bodyOf Try.f70 0) (f_slices_IsSorted_fr0 x0 s) (done (S0.kl 70 0)) = f_slices_IsSorted_k0 x0 s (fun s => some (.norm, f_slices_IsSorted_fr0 x0 s)) (fun e => some (f_slices_IsSorted_x0_1 x0 e)) (fun e => some (f_slices_IsSorted_x0_2 x0 e)) := by kernel_rfl
theorem f_slices_IsSorted_l0 (x0 : List Sc) : ∀ s r, loopL (f_slices_IsSorted_r0 x0) s = some r → LP S0 70 0 (bodyOf Try.f70 0) (f_slices_IsSorted_fr0 x0 s) = some (enX (f_slices_IsSorted_x0_1 x0) (f_slices_IsSorted_x0_2 x0) r) :=
  loop_true f_slices_IsSorted_Mt (noL_true) f_slices_IsSorted_o (fun _ h => by cases h) (fun _ h => by cases h) (fun s => (f_slices_IsSorted_e0 x0 s).trans (f_slices_IsSorted_p0 x0 s _ _ (fun e => some (f_slices_IsSorted_x0_2 x0 e))))
def f_slices_IsSorted_t0 (σ : List AV) : Option (Bool × Bool × (X × List AV) × (X × List AV)) := match dec f_slices_IsSorted_h0 σ with
  | some [.l x0, .i i3] => some ((loopL (f_slices_IsSorted_r0 x0) i3).isSome, isOne (loopL (f_slices_IsSorted_r0 x0) i3), f_slices_IsSorted_x0_1 x0 (getOne () (loopL (f_slices_IsSorted_r0 x0) i3)), f_slices_IsSorted_x0_2 x0 (getTwo () (loopL (f_slices_IsSorted_r0 x0) i3)))
  | _ => none
theorem f_slices_IsSorted_tt0 : TTrue S0 70 Try.f70 0 f_slices_IsSorted_t0 := by
  intro σ p r r' h
  unfold f_slices_IsSorted_t0 at h
  split at h
  · rename_i hd
    rw [← dec_enc hd]
    exact row2 (f_slices_IsSorted_l0 _ _) h
  · cases h
theorem f_slices_IsSorted_p {R : Type} (x0 : List Sc) (kR : Bool → Option R) : f_slices_IsSorted_k x0 kR = (f_slices_IsSorted x0).bind kR := by
  simp only [f_slices_IsSorted_k, f_slices_IsSorted, blB, someB]
def f_slices_IsSorted_en (r : Bool) : List AV := enc [.boo] [.b r]
theorem f_slices_IsSorted_e (x0 : List Sc) : runFn S0.E f_slices_IsSorted_M (asL (addL 0 f_slices_IsSorted_t0 (noL))) (S0.kl 70) Try.f70 (enc [.sl] [.l x0]) = f_slices_IsSorted_k x0 (fun r => some (f_slices_IsSorted_en r)) := by kernel_rfl
theorem f_slices_IsSorted_ok (x0 : List Sc) (r : Bool) (h : f_slices_IsSorted x0 = some r) : CL S0 70 (enc [.sl] [.l x0]) = some (f_slices_IsSorted_en r) :=
  fn_true (Fk := fun k => f_slices_IsSorted_k x0 k) (enc := f_slices_IsSorted_en) Try.func70 rfl f_slices_IsSorted_Mt (addL_true f_slices_IsSorted_tt0 (noL_true)) f_slices_IsSorted_o (f_slices_IsSorted_e x0) (f_slices_IsSorted_p x0) h
def f_slices_IsSorted_c (args : List AV) : Option (Bool × List AV) := match dec [.sl] args with
  | some [.l x0] => some ((f_slices_IsSorted x0).isSome, f_slices_IsSorted_en ((f_slices_IsSorted x0).getD false))
  | _ => none
theorem f_slices_IsSorted_cc : CTrue S0 70 f_slices_IsSorted_c := by
  intro args rs h
  unfold f_slices_IsSorted_c at h
  split at h
  · rename_i hd
    rw [← dec_enc hd]
    exact rowC (f_slices_IsSorted_ok _) h
  · cases h

def f_i_IsSequence_M : Calling := addC 68 f_i_Group_has_c (addC 69 f_i_IsGroup_c (addC 70 f_slices_IsSorted_c (noC)))
theorem f_i_IsSequence_Mt : CallsTrue S0 f_i_IsSequence_M := addC_true f_i_Group_has_cc (addC_true f_i_IsGroup_cc (addC_true f_slices_IsSorted_cc (noC_true)))
theorem f_i_IsSequence_o : loopsOnce Try.f41 = true := by kernel_rfl
def f_i_IsSequence_h0 : List Sh := [.u, .sl, .bp, .u, .u, .u, .u, .sl, .int .i64, .int .i64, .u, .u, .u, .u, .u, .u, .u, .u, .u, .u, .u, .u, .u, .u, .u, .u, .u, .u, .u]
def f_i_IsSequence_fr0 (l1 : List Sc) (g2 : List Sc) (t7 : List Sc) (t8 : Int) (s : Int) : List AV := enc f_i_IsSequence_h0 [.l l1, .l g2, .l t7, .i t8, .i s]
def f_i_IsSequence_g0_1 : List Sh := [.u, .sl, .bp, .u, .u, .u, .u, .u, .u, .u, .u, .u, .u, .u, .u, .u, .u, .u, .u, .u, .u, .u, .u, .u, .u, .u, .u, .u, .u]
def f_i_IsSequence_x0_1 (l1 : List Sc) (g2 : List Sc) (t7 : List Sc) (t8 : Int) (e : Unit) : X × List AV := (.out 0, enc f_i_IsSequence_g0_1 [.l l1, .l g2])
def f_i_IsSequence_g0_2 : List Sh := [.u, .u, .u, .u, .boo, .u, .u, .u, .u, .u, .u, .u, .u, .u, .u, .u, .u, .u, .u, .u, .u, .u, .u, .u, .u, .u, .u, .u, .u]
def f_i_IsSequence_x0_2 (l1 : List Sc) (g2 : List Sc) (t7 : List Sc) (t8 : Int) (e : Unit) : X × List AV := (.ret, enc f_i_IsSequence_g0_2 [.b false])
theorem f_i_IsSequence_p0 {R : Type} (l1 : List Sc) (g2 : List Sc) (t7 : List Sc) (t8 : Int) (s : Int) (kN : Int → Option R) (kA : Unit → Option R) (kB : Unit → Option R) : f_i_IsSequence_k0 l1 g2 t7 t8 s kN kA kB = (f_i_IsSequence_r0 l1 g2 t7 t8 s).bind (Ro.el kN kA kB) := by
  simp only [f_i_IsSequence_k0, f_i_IsSequence_r0, brB, boB, someB, noneB, Ro.el]
theorem f_i_IsSequence_e0 (l1 : List Sc) (g2 : List Sc) (t7 : List Sc) (t8 : Int) (s : Int) : EC S0.E f_i_IsSequence_M (asL (noL)) (S0.kl 41) 0 (bodyOf Try.f41 0) (f_i_IsSequence_fr0 l1 g2 t7 t8 s) (done (S0.kl 41 0)) = f_i_IsSequence_k0 l1 g2 t7 t8 s (fun s => some (.norm, f_i_IsSequence_fr0 l1 g2 t7 t8 s)) (fun e => some (f_i_IsSequence_x0_1 l1 g2 t7 t8 e)) (fun e => some (f_i_IsSequence_x0_2 l1 g2 t7 t8 e)) := by kernel_rfl
theorem f_i_IsSequence_l0 (l1 : List Sc) (g2 : List Sc) (t7 : List Sc) (t8 : Int) : ∀ s r, loopL (f_i_IsSequence_r0 l1 g2 t7 t8) s = some r → LP S0 41 0 (bodyOf Try.f41 0) (f_i_IsSequence_fr0 l1 g2 t7 t8 s) = some (enX (f_i_IsSequence_x0_1 l1 g2 t7 t8) (f_i_IsSequence_x0_2 l1 g2 t7 t8) r) :=
  loop_true f_i_IsSequence_Mt (noL_true) f_i_IsSequence_o (fun _ h => by cases h) (fun _ h => by cases h) (fun s => (f_i_IsSequence_e0 l1 g2 t7 t8 s).trans (f_i_IsSequence_p0 l1 g2 t7 t8 s _ _ (fun e => some (f_i_IsSequence_x0_2 l1 g2 t7 t8 e))))
def f_i_IsSequence_t0 (σ : List AV) : Option (Bool × Bool × (X × List AV) × (X × List AV)) := match dec f_i_IsSequence_h0 σ with
  | some [.l l1, .l g2, .l t7, .i t8, .i t9] => some ((loopL (f_i_IsSequence_r0 l1 g2 t7 t8) t9).isSome, isOne (loopL (f_i_IsSequence_r0 l1 g2 t7 t8) t9), f_i_IsSequence_x0_1 l1 g2 t7 t8 (getOne () (loopL (f_i_IsSequence_r0 l1 g2 t7 t8) t9)), f_i_IsSequence_x0_2 l1 g2 t7 t8 (getTwo () (loopL (f_i_IsSequence_r0 l1 g2 t7 t8) t9)))
  | _ => none
theorem f_i_IsSequence_tt0 : TTrue S0 41 Try.f41 0 f_i_IsSequence_t0 := by
  intro σ p r r' h
  unfold f_i_IsSequence_t0 at h
  split at h
  · rename_i hd
    rw [← dec_enc hd]
    exact row2 (f_i_IsSequence_l0 _ _ _ _ _) h
  · cases h
theorem f_i_IsSequence_p {R : Type} (g0 : List Sc) (l1 : List Sc) (kR : Bool → Option R) : f_i_IsSequence_k g0 l1 kR = (f_i_IsSequence g0 l1).bind kR := by
  simp only [f_i_IsSequence_k, f_i_IsSequence, brB, boB, blB, someB]
def f_i_IsSequence_en (r : Bool) : List AV := enc [.boo] [.b r]
theorem f_i_IsSequence_e (g0 : List Sc) (l1 : List Sc) : runFn S0.E f_i_IsSequence_M (asL (addL 0 f_i_IsSequence_t0 (noL))) (S0.kl 41) Try.f41 (enc [.gr, .sl] [.l g0, .l l1]) = f_i_IsSequence_k g0 l1 (fun r => some (f_i_IsSequence_en r)) := by kernel_rfl
theorem f_i_IsSequence_ok (g0 : List Sc) (l1 : List Sc) (r : Bool) (h : f_i_IsSequence g0 l1 = some r) : CL S0 41 (enc [.gr, .sl] [.l g0, .l l1]) = some (f_i_IsSequence_en r) :=
  fn_true (Fk := fun k => f_i_IsSequence_k g0 l1 k) (enc := f_i_IsSequence_en) Try.func41 rfl f_i_IsSequence_Mt (addL_true f_i_IsSequence_tt0 (noL_true)) f_i_IsSequence_o (f_i_IsSequence_e g0 l1) (f_i_IsSequence_p g0 l1) h
def f_i_IsSequence_c (args : List AV) : Option (Bool × List AV) := match dec [.gr, .sl] args with
  | some [.l g0, .l l1] => some ((f_i_IsSequence g0 l1).isSome, f_i_IsSequence_en ((f_i_IsSequence g0 l1).getD false))
  | _ => none
theorem f_i_IsSequence_cc : CTrue S0 41 f_i_IsSequence_c := by
  intro args rs h
  unfold f_i_IsSequence_c at h
  split at h
  · rename_i hd
    rw [← dec_enc hd]
    exact rowC (f_i_IsSequence_ok _ _) h
  · cases h

def f_i_Group_add_M : Calling := noC
theorem f_i_Group_add_Mt : CallsTrue S0 f_i_Group_add_M := noC_true
theorem f_i_Group_add_o : loopsOnce Try.f71 = true := by kernel_rfl
def f_i_Group_add_h0 : List Sh := [.u, .int .i64, .int .i64, .u, .u, .u, .u, .int .i64, .int .i64, .u, .u, .u, .sl, .int .i64, .int .i64, .u, .u, .u, .u, .u, .u, .u, .u, .u, .u, .u, .u, .u, .u, .u, .u, .u, .u, .u, .u, .u, .u, .u, .u, .u, .u, .u]
def f_i_Group_add_fr0 (t12 : List Sc) (t13 : Int) (s : Int × Int × Int × Int × Int) : List AV := enc f_i_Group_add_h0 [.i s.1, .i s.2.1, .i s.2.2.1, .i s.2.2.2.1, .l t12, .i t13, .i s.2.2.2.2]
def f_i_Group_add_g0_1 : List Sh := [.u, .u, .u, .u, .u, .u, .u, .int .i64, .u, .u, .u, .u, .u, .u, .u, .u, .u, .u, .u, .u, .u, .u, .u, .u, .u, .u, .u, .u, .u, .u, .u, .u, .u, .u, .u, .u, .u, .u, .u, .u, .u, .u]
def f_i_Group_add_x0_1 (t12 : List Sc) (t13 : Int) (e : Int) : X × List AV := (.out 0, enc f_i_Group_add_g0_1 [.i e])
def f_i_Group_add_x0_2 (_ : List Sc) (_ : Int) (_e : Unit) : X × List AV := (.ret, [])
theorem f_i_Group_add_p0 {R : Type} (t12 : List Sc) (t13 : Int) (s : Int × Int × Int × Int × Int) (kN : Int × Int × Int × Int × Int → Option R) (kA : Int → Option R) (kB : Unit → Option R) : f_i_Group_add_k0 t12 t13 s.1 s.2.1 s.2.2.1 s.2.2.2.1 s.2.2.2.2 kN kA = (f_i_Group_add_r0 t12 t13 s).bind (Ro.el kN kA kB) := by
  simp only [f_i_Group_add_k0, f_i_Group_add_r0, brB, someB, noneB, Ro.el]
theorem f_i_Group_add_e0 (t12 : List Sc) (t13 : Int) (s : Int × Int × Int × Int × Int) : EC S0.E f_i_Group_add_M (asL (noL)) (S0.kl 71) 0 (bodyOf Try.f71 0) (f_i_Group_add_fr0 t12 t13 s) (done (S0.kl 71 0)) = f_i_Group_add_k0 t12 t13 s.1 s.2.1 s.2.2.1 s.2.2.2.1 s.2.2.2.2 (fun s => some (.norm, f_i_Group_add_fr0 t12 t13 s)) (fun e => some (f_i_Group_add_x0_1 t12 t13 e)) := by kernel_rfl
theorem f_i_Group_add_l0 (t12 : List Sc) (t13 : Int) : ∀ s r, loopL (f_i_Group_add_r0 t12 t13) s = some r → LP S0 71 0 (bodyOf Try.f71 0) (f_i_Group_add_fr0 t12 t13 s) = some (enX (f_i_Group_add_x0_1 t12 t13) (f_i_Group_add_x0_2 t12 t13) r) :=
  loop_true f_i_Group_add_Mt (noL_true) f_i_Group_add_o (fun _ h => by cases h) (fun _ h => by cases h) (fun s => (f_i_Group_add_e0 t12 t13 s).trans (f_i_Group_add_p0 t12 t13 s _ _ (fun e => some (f_i_Group_add_x0_2 t12 t13 e))))
def f_i_Group_add_t0 (σ : List AV) : Option (Bool × Bool × (X × List AV) × (X × List AV)) := match dec f_i_Group_add_h0 σ with
  | some [.i x1, .i y2, .i sum7, .i unit8, .l t12, .i t13, .i t14] => some (isOne (loopL (f_i_Group_add_r0 t12 t13) (x1, y2, sum7, unit8, t14)), true, f_i_Group_add_x0_1 t12 t13 (getOne 0 (loopL (f_i_Group_add_r0 t12 t13) (x1, y2, sum7, unit8, t14))), (.ret, []))
  | _ => none
theorem f_i_Group_add_tt0 : TTrue S0 71 Try.f71 0 f_i_Group_add_t0 := by
  intro σ p r r' h
  unfold f_i_Group_add_t0 at h
  split at h
  · rename_i hd
    rw [← dec_enc hd]
    exact row1 (f_i_Group_add_l0 _ _ _) h
  · cases h
theorem f_i_Group_add_p {R : Type} (g0 : List Sc) (x1 : Int) (y2 : Int) (kR : Int → Option R) : f_i_Group_add_k g0 x1 y2 kR = (f_i_Group_add g0 x1 y2).bind kR := by
  simp only [f_i_Group_add_k, f_i_Group_add, bl1B, someB]
def f_i_Group_add_en (r : Int) : List AV := enc [.int .i64] [.i r]
theorem f_i_Group_add_e (g0 : List Sc) (x1 : Int) (y2 : Int) : runFn S0.E f_i_Group_add_M (asL (addL 0 f_i_Group_add_t0 (noL))) (S0.kl 71) Try.f71 (enc [.gr, .int .i64, .int .i64] [.l g0, .i x1, .i y2]) = f_i_Group_add_k g0 x1 y2 (fun r => some (f_i_Group_add_en r)) := by kernel_rfl
theorem f_i_Group_add_ok (g0 : List Sc) (x1 : Int) (y2 : Int) (r : Int) (h : f_i_Group_add g0 x1 y2 = some r) : CL S0 71 (enc [.gr, .int .i64, .int .i64] [.l g0, .i x1, .i y2]) = some (f_i_Group_add_en r) :=
  fn_true (Fk := fun k => f_i_Group_add_k g0 x1 y2 k) (enc := f_i_Group_add_en) Try.func71 rfl f_i_Group_add_Mt (addL_true f_i_Group_add_tt0 (noL_true)) f_i_Group_add_o (f_i_Group_add_e g0 x1 y2) (f_i_Group_add_p g0 x1 y2) h
def f_i_Group_add_c (args : List AV) : Option (Bool × List AV) := match dec [.gr, .int .i64, .int .i64] args with
  | some [.l g0, .i x1, .i y2] => some ((f_i_Group_add g0 x1 y2).isSome, f_i_Group_add_en ((f_i_Group_add g0 x1 y2).getD 0))
  | _ => none
theorem f_i_Group_add_cc : CTrue S0 71 f_i_Group_add_c := by
  intro args rs h
  unfold f_i_Group_add_c at h
  split at h
  · rename_i hd
    rw [← dec_enc hd]
    exact rowC (f_i_Group_add_ok _ _ _) h
  · cases h

def f_i_Group_total_M : Calling := addC 71 f_i_Group_add_c (noC)
theorem f_i_Group_total_Mt : CallsTrue S0 f_i_Group_total_M := addC_true f_i_Group_add_cc (noC_true)
theorem f_i_Group_total_o : loopsOnce Try.f42 = true := by kernel_rfl
def f_i_Group_total_h0 : List Sh := [.u, .u, .bp, .u, .u, .int .i64, .u, .u, .sl, .int .i64, .int .i64, .u, .u, .u, .u, .u, .u, .u, .u, .u]
def f_i_Group_total_fr0 (g2 : List Sc) (t8 : List Sc) (t9 : Int) (s : Int × Int) : List AV := enc f_i_Group_total_h0 [.l g2, .i s.1, .l t8, .i t9, .i s.2]
def f_i_Group_total_g0_1 : List Sh := [.u, .u, .u, .u, .u, .int .i64, .u, .u, .u, .u, .u, .u, .u, .u, .u, .u, .u, .u, .u, .u]
def f_i_Group_total_x0_1 (g2 : List Sc) (t8 : List Sc) (t9 : Int) (e : Int) : X × List AV := (.out 0, enc f_i_Group_total_g0_1 [.i e])
def f_i_Group_total_x0_2 (_ : List Sc) (_ : List Sc) (_ : Int) (_e : Unit) : X × List AV := (.ret, [])
theorem f_i_Group_total_p0 {R : Type} (g2 : List Sc) (t8 : List Sc) (t9 : Int) (s : Int × Int) (kN : Int × Int → Option R) (kA : Int → Option R) (kB : Unit → Option R) : f_i_Group_total_k0 g2 t8 t9 s.1 s.2 kN kA = (f_i_Group_total_r0 g2 t8 t9 s).bind (Ro.el kN kA kB) := by
  simp only [f_i_Group_total_k0, f_i_Group_total_r0, brB, boB, someB, noneB, Ro.el]
theorem f_i_Group_total_e0 (g2 : List Sc) (t8 : List Sc) (t9 : Int) (s : Int × Int) : EC S0.E f_i_Group_total_M (asL (noL)) (S0.kl 42) 0 (bodyOf Try.f42 0) (f_i_Group_total_fr0 g2 t8 t9 s) (done (S0.kl 42 0)) = f_i_Group_total_k0 g2 t8 t9 s.1 s.2 (fun s => some (.norm, f_i_Group_total_fr0 g2 t8 t9 s)) (fun e => some (f_i_Group_total_x0_1 g2 t8 t9 e)) := by kernel_rfl
theorem f_i_Group_total_l0 (g2 : List Sc) (t8 : List Sc) (t9 : Int) : ∀ s r, loopL (f_i_Group_total_r0 g2 t8 t9) s = some r → LP S0 42 0 (bodyOf Try.f42 0) (f_i_Group_total_fr0 g2 t8 t9 s) = some (enX (f_i_Group_total_x0_1 g2 t8 t9) (f_i_Group_total_x0_2 g2 t8 t9) r) :=
  loop_true f_i_Group_total_Mt (noL_true) f_i_Group_total_o (fun _ h => by cases h) (fun _ h => by cases h) (fun s => (f_i_Group_total_e0 g2 t8 t9 s).trans (f_i_Group_total_p0 g2 t8 t9 s _ _ (fun e => some (f_i_Group_total_x0_2 g2 t8 t9 e))))
def f_i_Group_total_t0 (σ : List AV) : Option (Bool × Bool × (X × List AV) × (X × List AV)) := match dec f_i_Group_total_h0 σ with
  | some [.l g2, .i s5, .l t8, .i t9, .i t10] => some (isOne (loopL (f_i_Group_total_r0 g2 t8 t9) (s5, t10)), true, f_i_Group_total_x0_1 g2 t8 t9 (getOne 0 (loopL (f_i_Group_total_r0 g2 t8 t9) (s5, t10))), (.ret, []))
  | _ => none
theorem f_i_Group_total_tt0 : TTrue S0 42 Try.f42 0 f_i_Group_total_t0 := by
  intro σ p r r' h
  unfold f_i_Group_total_t0 at h
  split at h
  · rename_i hd
    rw [← dec_enc hd]
    exact row1 (f_i_Group_total_l0 _ _ _ _) h
  · cases h
theorem f_i_Group_total_p {R : Type} (g0 : List Sc) (l1 : List Sc) (kR : Int → Option R) : f_i_Group_total_k g0 l1 kR = (f_i_Group_total g0 l1).bind kR := by
  simp only [f_i_Group_total_k, f_i_Group_total, bl1B, someB]
def f_i_Group_total_en (r : Int) : List AV := enc [.int .i64] [.i r]
theorem f_i_Group_total_e (g0 : List Sc) (l1 : List Sc) : runFn S0.E f_i_Group_total_M (asL (addL 0 f_i_Group_total_t0 (noL))) (S0.kl 42) Try.f42 (enc [.gr, .sl] [.l g0, .l l1]) = f_i_Group_total_k g0 l1 (fun r => some (f_i_Group_total_en r)) := by kernel_rfl
theorem f_i_Group_total_ok (g0 : List Sc) (l1 : List Sc) (r : Int) (h : f_i_Group_total g0 l1 = some r) : CL S0 42 (enc [.gr, .sl] [.l g0, .l l1]) = some (f_i_Group_total_en r) :=
  fn_true (Fk := fun k => f_i_Group_total_k g0 l1 k) (enc := f_i_Group_total_en) Try.func42 rfl f_i_Group_total_Mt (addL_true f_i_Group_total_tt0 (noL_true)) f_i_Group_total_o (f_i_Group_total_e g0 l1) (f_i_Group_total_p g0 l1) h
def f_i_Group_total_c (args : List AV) : Option (Bool × List AV) := match dec [.gr, .sl] args with
  | some [.l g0, .l l1] => some ((f_i_Group_total g0 l1).isSome, f_i_Group_total_en ((f_i_Group_total g0 l1).getD 0))
  | _ => none
theorem f_i_Group_total_cc : CTrue S0 42 f_i_Group_total_c := by
  intro args rs h
  unfold f_i_Group_total_c at h
  split at h
  · rename_i hd
    rw [← dec_enc hd]
    exact rowC (f_i_Group_total_ok _ _) h
  · cases h

def f_i_IsZeroSum_M : Calling := addC 41 f_i_IsSequence_c (addC 42 f_i_Group_total_c (noC))
theorem f_i_IsZeroSum_Mt : CallsTrue S0 f_i_IsZeroSum_M := addC_true f_i_IsSequence_cc (addC_true f_i_Group_total_cc (noC_true))
theorem f_i_IsZeroSum_o : loopsOnce Try.f17 = true := by kernel_rfl
theorem f_i_IsZeroSum_p {R : Type} (g0 : List Sc) (l1 : List Sc) (kR : Bool → Option R) : f_i_IsZeroSum_k g0 l1 kR = (f_i_IsZeroSum g0 l1).bind kR := by
  simp only [f_i_IsZeroSum_k, f_i_IsZeroSum, brB, boB, someB]
def f_i_IsZeroSum_en (r : Bool) : List AV := enc [.boo] [.b r]
theorem f_i_IsZeroSum_e (g0 : List Sc) (l1 : List Sc) : runFn S0.E f_i_IsZeroSum_M (asL (noL)) (S0.kl 17) Try.f17 (enc [.gr, .sl] [.l g0, .l l1]) = f_i_IsZeroSum_k g0 l1 (fun r => some (f_i_IsZeroSum_en r)) := by kernel_rfl
theorem f_i_IsZeroSum_ok (g0 : List Sc) (l1 : List Sc) (r : Bool) (h : f_i_IsZeroSum g0 l1 = some r) : CL S0 17 (enc [.gr, .sl] [.l g0, .l l1]) = some (f_i_IsZeroSum_en r) :=
  fn_true (Fk := fun k => f_i_IsZeroSum_k g0 l1 k) (enc := f_i_IsZeroSum_en) Try.func17 rfl f_i_IsZeroSum_Mt (noL_true) f_i_IsZeroSum_o (f_i_IsZeroSum_e g0 l1) (f_i_IsZeroSum_p g0 l1) h
def f_i_IsZeroSum_c (args : List AV) : Option (Bool × List AV) := match dec [.gr, .sl] args with
  | some [.l g0, .l l1] => some ((f_i_IsZeroSum g0 l1).isSome, f_i_IsZeroSum_en ((f_i_IsZeroSum g0 l1).getD false))
  | _ => none
theorem f_i_IsZeroSum_cc : CTrue S0 17 f_i_IsZeroSum_c := by
  intro args rs h
  unfold f_i_IsZeroSum_c at h
  split at h
  · rename_i hd
    rw [← dec_enc hd]
    exact rowC (f_i_IsZeroSum_ok _ _) h
  · cases h

def f_l_eqIntS_M : Calling := noC
theorem f_l_eqIntS_Mt : CallsTrue S0 f_l_eqIntS_M := noC_true
theorem f_l_eqIntS_o : loopsOnce Try.f19 = true := by kernel_rfl
def f_l_eqIntS_h0 : List Sh := [.sl, .sl, .u, .u, .u, .int .i64, .u, .u, .u, .u, .u, .u, .u, .u, .u, .u, .u, .u, .u, .u, .u, .u, .u, .u, .u, .u]
def f_l_eqIntS_fr0 (a0 : List Sc) (b1 : List Sc) (s : Int) : List AV := enc f_l_eqIntS_h0 [.l a0, .l b1, .i s]
def f_l_eqIntS_g0_1 : List Sh := [.u, .u, .u, .u, .u, .u, .u, .u, .u, .u, .u, .u, .u, .u, .u, .u, .u, .u, .u, .u, .u, .u, .u, .u, .u, .u]
def f_l_eqIntS_x0_1 (a0 : List Sc) (b1 : List Sc) (e : Unit) : X × List AV := (.out 0, enc f_l_eqIntS_g0_1 [])
def f_l_eqIntS_g0_2 : List Sh := [.u, .u, .u, .u, .boo, .u, .u, .u, .u, .u, .u, .u, .u, .u, .u, .u, .u, .u, .u, .u, .u, .u, .u, .u, .u, .u]
def f_l_eqIntS_x0_2 (a0 : List Sc) (b1 : List Sc) (e : Unit) : X × List AV := (.ret, enc f_l_eqIntS_g0_2 [.b false])
theorem f_l_eqIntS_p0 {R : Type} (a0 : List Sc) (b1 : List Sc) (s : Int) (kN : Int → Option R) (kA : Unit → Option R) (kB : Unit → Option R) : f_l_eqIntS_k0 a0 b1 s kN kA kB = (f_l_eqIntS_r0 a0 b1 s).bind (Ro.el kN kA kB) := by
  simp only [f_l_eqIntS_k0, f_l_eqIntS_r0, brB, someB, noneB, Ro.el]
theorem f_l_eqIntS_e0 (a0 : List Sc) (b1 : List Sc) (s : Int) : EC S0.E f_l_eqIntS_M (asL (noL)) (S0.kl 19) 0 (bodyOf Try.f19 0) (f_l_eqIntS_fr0 a0 b1 s) (done (S0.kl 19 0)) = f_l_eqIntS_k0 a0 b1 s (fun s => some (.norm, f_l_eqIntS_fr0 a0 b1 s)) (fun e => some (f_l_eqIntS_x0_1 a0 b1 e)) (fun e => some (f_l_eqIntS_x0_2 a0 b1 e)) := by kernel_rfl
theorem f_l_eqIntS_l0 (a0 : List Sc) (b1 : List Sc) : ∀ s r, loopL (f_l_eqIntS_r0 a0 b1) s = some r → LP S0 19 0 (bodyOf Try.f19 0) (f_l_eqIntS_fr0 a0 b1 s) = some (enX (f_l_eqIntS_x0_1 a0 b1) (f_l_eqIntS_x0_2 a0 b1) r) :=
  loop_true f_l_eqIntS_Mt (noL_true) f_l_eqIntS_o (fun _ h => by cases h) (fun _ h => by cases h) (fun s => (f_l_eqIntS_e0 a0 b1 s).trans (f_l_eqIntS_p0 a0 b1 s _ _ (fun e => some (f_l_eqIntS_x0_2 a0 b1 e))))
def f_l_eqIntS_t0 (σ : List AV) : Option (Bool × Bool × (X × List AV) × (X × List AV)) := match dec f_l_eqIntS_h0 σ with
  | some [.l a0, .l b1, .i i5] => some ((loopL (f_l_eqIntS_r0 a0 b1) i5).isSome, isOne (loopL (f_l_eqIntS_r0 a0 b1) i5), f_l_eqIntS_x0_1 a0 b1 (getOne () (loopL (f_l_eqIntS_r0 a0 b1) i5)), f_l_eqIntS_x0_2 a0 b1 (getTwo () (loopL (f_l_eqIntS_r0 a0 b1) i5)))
  | _ => none
theorem f_l_eqIntS_tt0 : TTrue S0 19 Try.f19 0 f_l_eqIntS_t0 := by
  intro σ p r r' h
  unfold f_l_eqIntS_t0 at h
  split at h
  · rename_i hd
    rw [← dec_enc hd]
    exact row2 (f_l_eqIntS_l0 _ _ _) h
  · cases h
theorem f_l_eqIntS_p {R : Type} (a0 : List Sc) (b1 : List Sc) (kR : Bool → Option R) : f_l_eqIntS_k a0 b1 kR = (f_l_eqIntS a0 b1).bind kR := by
  simp only [f_l_eqIntS_k, f_l_eqIntS, brB, blB, someB]
def f_l_eqIntS_en (r : Bool) : List AV := enc [.boo] [.b r]
theorem f_l_eqIntS_e (a0 : List Sc) (b1 : List Sc) : runFn S0.E f_l_eqIntS_M (asL (addL 0 f_l_eqIntS_t0 (noL))) (S0.kl 19) Try.f19 (enc [.sl, .sl] [.l a0, .l b1]) = f_l_eqIntS_k a0 b1 (fun r => some (f_l_eqIntS_en r)) := by kernel_rfl
theorem f_l_eqIntS_ok (a0 : List Sc) (b1 : List Sc) (r : Bool) (h : f_l_eqIntS a0 b1 = some r) : CL S0 19 (enc [.sl, .sl] [.l a0, .l b1]) = some (f_l_eqIntS_en r) :=
  fn_true (Fk := fun k => f_l_eqIntS_k a0 b1 k) (enc := f_l_eqIntS_en) Try.func19 rfl f_l_eqIntS_Mt (addL_true f_l_eqIntS_tt0 (noL_true)) f_l_eqIntS_o (f_l_eqIntS_e a0 b1) (f_l_eqIntS_p a0 b1) h
def f_l_eqIntS_c (args : List AV) : Option (Bool × List AV) := match dec [.sl, .sl] args with
  | some [.l a0, .l b1] => some ((f_l_eqIntS a0 b1).isSome, f_l_eqIntS_en ((f_l_eqIntS a0 b1).getD false))
  | _ => none
theorem f_l_eqIntS_cc : CTrue S0 19 f_l_eqIntS_c := by
  intro args rs h
  unfold f_l_eqIntS_c at h
  split at h
  · rename_i hd
    rw [← dec_enc hd]
    exact rowC (f_l_eqIntS_ok _ _) h
  · cases h

def f_l_eqGroup_M : Calling := addC 19 f_l_eqIntS_c (noC)
theorem f_l_eqGroup_Mt : CallsTrue S0 f_l_eqGroup_M := addC_true f_l_eqIntS_cc (noC_true)
theorem f_l_eqGroup_o : loopsOnce Try.f18 = true := by kernel_rfl
theorem f_l_eqGroup_p {R : Type} (a0 : List Sc) (b1 : List Sc) (kR : Bool → Option R) : f_l_eqGroup_k a0 b1 kR = (f_l_eqGroup a0 b1).bind kR := by
  simp only [f_l_eqGroup_k, f_l_eqGroup, brB, boB, someB]
def f_l_eqGroup_en (r : Bool) : List AV := enc [.boo] [.b r]
theorem f_l_eqGroup_e (a0 : List Sc) (b1 : List Sc) : runFn S0.E f_l_eqGroup_M (asL (noL)) (S0.kl 18) Try.f18 (enc [.gr, .gr] [.l a0, .l b1]) = f_l_eqGroup_k a0 b1 (fun r => some (f_l_eqGroup_en r)) := by kernel_rfl
theorem f_l_eqGroup_ok (a0 : List Sc) (b1 : List Sc) (r : Bool) (h : f_l_eqGroup a0 b1 = some r) : CL S0 18 (enc [.gr, .gr] [.l a0, .l b1]) = some (f_l_eqGroup_en r) :=
  fn_true (Fk := fun k => f_l_eqGroup_k a0 b1 k) (enc := f_l_eqGroup_en) Try.func18 rfl f_l_eqGroup_Mt (noL_true) f_l_eqGroup_o (f_l_eqGroup_e a0 b1) (f_l_eqGroup_p a0 b1) h
def f_l_eqGroup_c (args : List AV) : Option (Bool × List AV) := match dec [.gr, .gr] args with
  | some [.l a0, .l b1] => some ((f_l_eqGroup a0 b1).isSome, f_l_eqGroup_en ((f_l_eqGroup a0 b1).getD false))
  | _ => none
theorem f_l_eqGroup_cc : CTrue S0 18 f_l_eqGroup_c := by
  intro args rs h
  unfold f_l_eqGroup_c at h
  split at h
  · rename_i hd
    rw [← dec_enc hd]
    exact rowC (f_l_eqGroup_ok _ _) h
  · cases h

def f_l_FnExactIsZeroSum_M : Calling := addC 13 f_l_szGroup_c (addC 15 f_l_toGroup_c (addC 16 f_l_toIntS_c (addC 14 f_s_IsZeroSum_c (addC 17 f_i_IsZeroSum_c (addC 18 f_l_eqGroup_c (addC 19 f_l_eqIntS_c (noC)))))))
theorem f_l_FnExactIsZeroSum_Mt : CallsTrue S0 f_l_FnExactIsZeroSum_M := addC_true f_l_szGroup_cc (addC_true f_l_toGroup_cc (addC_true f_l_toIntS_cc (addC_true f_s_IsZeroSum_cc (addC_true f_i_IsZeroSum_cc (addC_true f_l_eqGroup_cc (addC_true f_l_eqIntS_cc (noC_true)))))))
theorem f_l_FnExactIsZeroSum_o : loopsOnce Try.f3 = true := by kernel_rfl
theorem f_l_FnExactIsZeroSum_p {R : Type} (aG0 : List Sc) (aL1 : List Sc) (kR : Bool → Option R) : f_l_FnExactIsZeroSum_k aG0 aL1 kR = (f_l_FnExactIsZeroSum aG0 aL1).bind kR := by
  simp only [f_l_FnExactIsZeroSum_k, f_l_FnExactIsZeroSum, brB, boB, someB, noneB]
def f_l_FnExactIsZeroSum_en (r : Bool) : List AV := enc [.boo] [.b r]
theorem f_l_FnExactIsZeroSum_e (aG0 : List Sc) (aL1 : List Sc) : runFn S0.E f_l_FnExactIsZeroSum_M (asL (noL)) (S0.kl 3) Try.f3 (enc [.gr, .sl] [.l aG0, .l aL1]) = f_l_FnExactIsZeroSum_k aG0 aL1 (fun r => some (f_l_FnExactIsZeroSum_en r)) := by kernel_rfl
theorem f_l_FnExactIsZeroSum_ok (aG0 : List Sc) (aL1 : List Sc) (r : Bool) (h : f_l_FnExactIsZeroSum aG0 aL1 = some r) : CL S0 3 (enc [.gr, .sl] [.l aG0, .l aL1]) = some (f_l_FnExactIsZeroSum_en r) :=
  fn_true (Fk := fun k => f_l_FnExactIsZeroSum_k aG0 aL1 k) (enc := f_l_FnExactIsZeroSum_en) Try.func3 rfl f_l_FnExactIsZeroSum_Mt (noL_true) f_l_FnExactIsZeroSum_o (f_l_FnExactIsZeroSum_e aG0 aL1) (f_l_FnExactIsZeroSum_p aG0 aL1) h
def f_l_FnExactIsZeroSum_c (args : List AV) : Option (Bool × List AV) := match dec [.gr, .sl] args with
  | some [.l aG0, .l aL1] => some ((f_l_FnExactIsZeroSum aG0 aL1).isSome, f_l_FnExactIsZeroSum_en ((f_l_FnExactIsZeroSum aG0 aL1).getD false))
  | _ => none
theorem f_l_FnExactIsZeroSum_cc : CTrue S0 3 f_l_FnExactIsZeroSum_c := by
  intro args rs h
  unfold f_l_FnExactIsZeroSum_c at h
  split at h
  · rename_i hd
    rw [← dec_enc hd]
    exact rowC (f_l_FnExactIsZeroSum_ok _ _) h
  · cases h

def f_s_IsSet_M : Calling := addC 66 f_s_IsGroup_c (addC 54 f_s_l2Order_c (addC 56 f_s_l1In_c (noC)))
theorem f_s_IsSet_Mt : CallsTrue S0 f_s_IsSet_M := addC_true f_s_IsGroup_cc (addC_true f_s_l2Order_cc (addC_true f_s_l1In_cc (noC_true)))
theorem f_s_IsSet_o : loopsOnce Try.f43 = true := by kernel_rfl
theorem f_s_IsSet_p {R : Type} (g0 : List Sc) (a1 : Int) (kR : Bool → Option R) : f_s_IsSet_k g0 a1 kR = (f_s_IsSet g0 a1).bind kR := by
  simp only [f_s_IsSet_k, f_s_IsSet, brB, boB, someB, noneB]
def f_s_IsSet_en (r : Bool) : List AV := enc [.boo] [.b r]
theorem f_s_IsSet_e (g0 : List Sc) (a1 : Int) : runFn S0.E f_s_IsSet_M (asL (noL)) (S0.kl 43) Try.f43 (enc [.gr, .int .i64] [.l g0, .i a1]) = f_s_IsSet_k g0 a1 (fun r => some (f_s_IsSet_en r)) := by kernel_rfl
theorem f_s_IsSet_ok (g0 : List Sc) (a1 : Int) (r : Bool) (h : f_s_IsSet g0 a1 = some r) : CL S0 43 (enc [.gr, .int .i64] [.l g0, .i a1]) = some (f_s_IsSet_en r) :=
  fn_true (Fk := fun k => f_s_IsSet_k g0 a1 k) (enc := f_s_IsSet_en) Try.func43 rfl f_s_IsSet_Mt (noL_true) f_s_IsSet_o (f_s_IsSet_e g0 a1) (f_s_IsSet_p g0 a1) h
def f_s_IsSet_c (args : List AV) : Option (Bool × List AV) := match dec [.gr, .int .i64] args with
  | some [.l g0, .i a1] => some ((f_s_IsSet g0 a1).isSome, f_s_IsSet_en ((f_s_IsSet g0 a1).getD false))
  | _ => none
theorem f_s_IsSet_cc : CTrue S0 43 f_s_IsSet_c := by
  intro args rs h
  unfold f_s_IsSet_c at h
  split at h
  · rename_i hd
    rw [← dec_enc hd]
    exact rowC (f_s_IsSet_ok _ _) h
  · cases h

def f_s_l3List_M : Calling := noC
theorem f_s_l3List_Mt : CallsTrue S0 f_s_l3List_M := noC_true
theorem f_s_l3List_o : loopsOnce Try.f75 = true := by kernel_rfl
def f_s_l3List_h0 : List Sh := [.u, .u, .u, .own 3, .int .i64, .int .i64, .u, .u, .u, .u, .u, .u, .u, .u, .u, .u, .u, .u, .u, .u, .u, .u]
def f_s_l3List_fr0 (s : List Sc × Int × Int) : List AV := enc f_s_l3List_h0 [.l s.1, .i s.2.1, .i s.2.2]
def f_s_l3List_g0_1 : List Sh := [.u, .u, .u, .own 3, .u, .u, .u, .u, .u, .u, .u, .u, .u, .u, .u, .u, .u, .u, .u, .u, .u, .u]
def f_s_l3List_x0_1 (e : List Sc) : X × List AV := (.out 0, enc f_s_l3List_g0_1 [.l e])
def f_s_l3List_x0_2 (_e : Unit) : X × List AV := (.ret, [])
theorem f_s_l3List_p0 {R : Type} (s : List Sc × Int × Int) (kN : List Sc × Int × Int → Option R) (kA : List Sc → Option R) (kB : Unit → Option R) : f_s_l3List_k0 s.1 s.2.1 s.2.2 kN kA = (f_s_l3List_r0 s).bind (Ro.el kN kA kB) := by
  simp only [f_s_l3List_k0, f_s_l3List_r0, brB, someB, noneB, Ro.el]
theorem f_s_l3List_e0 (s : List Sc × Int × Int) : EC S0.E f_s_l3List_M (asL (noL)) (S0.kl 75) 0 (bodyOf Try.f75 0) (f_s_l3List_fr0 s) (done (S0.kl 75 0)) = f_s_l3List_k0 s.1 s.2.1 s.2.2 (fun s => some (.norm, f_s_l3List_fr0 s)) (fun e => some (f_s_l3List_x0_1 e)) := by kernel_rfl
theorem f_s_l3List_l0 : ∀ s r, loopL (f_s_l3List_r0) s = some r → LP S0 75 0 (bodyOf Try.f75 0) (f_s_l3List_fr0 s) = some (enX (f_s_l3List_x0_1) (f_s_l3List_x0_2) r) :=
  loop_true f_s_l3List_Mt (noL_true) f_s_l3List_o (fun _ h => by cases h) (fun _ h => by cases h) (fun s => (f_s_l3List_e0 s).trans (f_s_l3List_p0 s _ _ (fun e => some (f_s_l3List_x0_2 e))))
def f_s_l3List_t0 (σ : List AV) : Option (Bool × Bool × (X × List AV) × (X × List AV)) := match dec f_s_l3List_h0 σ with
  | some [.l out3, .i i4, .i x5] => some (isOne (loopL (f_s_l3List_r0) (out3, i4, x5)), true, f_s_l3List_x0_1 (getOne [] (loopL (f_s_l3List_r0) (out3, i4, x5))), (.ret, []))
  | _ => none
theorem f_s_l3List_tt0 : TTrue S0 75 Try.f75 0 f_s_l3List_t0 := by
  intro σ p r r' h
  unfold f_s_l3List_t0 at h
  split at h
  · rename_i hd
    rw [← dec_enc hd]
    exact row1 (f_s_l3List_l0 _) h
  · cases h
theorem f_s_l3List_p {R : Type} (a0 : Int) (kR : List Sc → Option R) : f_s_l3List_k a0 kR = (f_s_l3List a0).bind kR := by
  simp only [f_s_l3List_k, f_s_l3List, bl1B, someB]
def f_s_l3List_en (r : List Sc) : List AV := enc [.own 3] [.l r]
theorem f_s_l3List_e (a0 : Int) : runFn S0.E f_s_l3List_M (asL (addL 0 f_s_l3List_t0 (noL))) (S0.kl 75) Try.f75 (enc [.int .i64] [.i a0]) = f_s_l3List_k a0 (fun r => some (f_s_l3List_en r)) := by kernel_rfl
theorem f_s_l3List_ok (a0 : Int) (r : List Sc) (h : f_s_l3List a0 = some r) : CL S0 75 (enc [.int .i64] [.i a0]) = some (f_s_l3List_en r) :=
  fn_true (Fk := fun k => f_s_l3List_k a0 k) (enc := f_s_l3List_en) Try.func75 rfl f_s_l3List_Mt (addL_true f_s_l3List_tt0 (noL_true)) f_s_l3List_o (f_s_l3List_e a0) (f_s_l3List_p a0) h
def f_s_l3List_c (args : List AV) : Option (Bool × List AV) := match dec [.int .i64] args with
  | some [.i a0] => some ((f_s_l3List a0).isSome, f_s_l3List_en ((f_s_l3List a0).getD []))
  | _ => none
theorem f_s_l3List_cc : CTrue S0 75 f_s_l3List_c := by
  intro args rs h
  unfold f_s_l3List_c at h
  split at h
  · rename_i hd
    rw [← dec_enc hd]
    exact rowC (f_s_l3List_ok _) h
  · cases h

def f_s_l3Shift_M : Calling := addC 75 f_s_l3List_c (addC 67 f_s_l2Add_c (noC))
theorem f_s_l3Shift_Mt : CallsTrue S0 f_s_l3Shift_M := addC_true f_s_l3List_cc (addC_true f_s_l2Add_cc (noC_true))
theorem f_s_l3Shift_o : loopsOnce Try.f57 = true := by kernel_rfl
def f_s_l3Shift_h0 : List Sh := [.u, .u, .int .i64, .bp, .u, .u, .u, .int .i64, .own 3, .int .i64, .u, .u, .u, .u, .u, .u, .u, .u, .u, .u, .u, .u, .u, .u, .u, .u, .u, .u, .u]
def f_s_l3Shift_fr0 (x2 : Int) (g3 : List Sc) (s : Int × List Sc × Int) : List AV := enc f_s_l3Shift_h0 [.i x2, .l g3, .i s.1, .l s.2.1, .i s.2.2]
def f_s_l3Shift_g0_1 : List Sh := [.u, .u, .u, .u, .u, .u, .u, .int .i64, .u, .u, .u, .u, .u, .u, .u, .u, .u, .u, .u, .u, .u, .u, .u, .u, .u, .u, .u, .u, .u]
def f_s_l3Shift_x0_1 (x2 : Int) (g3 : List Sc) (e : Int) : X × List AV := (.out 0, enc f_s_l3Shift_g0_1 [.i e])
def f_s_l3Shift_x0_2 (_ : Int) (_ : List Sc) (_e : Unit) : X × List AV := (.ret, [])
theorem f_s_l3Shift_p0 {R : Type} (x2 : Int) (g3 : List Sc) (s : Int × List Sc × Int) (kN : Int × List Sc × Int → Option R) (kA : Int → Option R) (kB : Unit → Option R) : f_s_l3Shift_k0 x2 g3 s.1 s.2.1 s.2.2 kN kA = (f_s_l3Shift_r0 x2 g3 s).bind (Ro.el kN kA kB) := by
  simp only [f_s_l3Shift_k0, f_s_l3Shift_r0, brB, boB, someB, noneB, Ro.el]
theorem f_s_l3Shift_e0 (x2 : Int) (g3 : List Sc) (s : Int × List Sc × Int) : EC S0.E f_s_l3Shift_M (asL (noL)) (S0.kl 57) 0 (bodyOf Try.f57 0) (f_s_l3Shift_fr0 x2 g3 s) (done (S0.kl 57 0)) = f_s_l3Shift_k0 x2 g3 s.1 s.2.1 s.2.2 (fun s => some (.norm, f_s_l3Shift_fr0 x2 g3 s)) (fun e => some (f_s_l3Shift_x0_1 x2 g3 e)) := by kernel_rfl
theorem f_s_l3Shift_l0 (x2 : Int) (g3 : List Sc) : ∀ s r, loopL (f_s_l3Shift_r0 x2 g3) s = some r → LP S0 57 0 (bodyOf Try.f57 0) (f_s_l3Shift_fr0 x2 g3 s) = some (enX (f_s_l3Shift_x0_1 x2 g3) (f_s_l3Shift_x0_2 x2 g3) r) :=
  loop_true f_s_l3Shift_Mt (noL_true) f_s_l3Shift_o (fun _ h => by cases h) (fun _ h => by cases h) (fun s => (f_s_l3Shift_e0 x2 g3 s).trans (f_s_l3Shift_p0 x2 g3 s _ _ (fun e => some (f_s_l3Shift_x0_2 x2 g3 e))))
def f_s_l3Shift_t0 (σ : List AV) : Option (Bool × Bool × (X × List AV) × (X × List AV)) := match dec f_s_l3Shift_h0 σ with
  | some [.i x2, .l g3, .i out7, .l l8, .i i9] => some (isOne (loopL (f_s_l3Shift_r0 x2 g3) (out7, l8, i9)), true, f_s_l3Shift_x0_1 x2 g3 (getOne 0 (loopL (f_s_l3Shift_r0 x2 g3) (out7, l8, i9))), (.ret, []))
  | _ => none
theorem f_s_l3Shift_tt0 : TTrue S0 57 Try.f57 0 f_s_l3Shift_t0 := by
  intro σ p r r' h
  unfold f_s_l3Shift_t0 at h
  split at h
  · rename_i hd
    rw [← dec_enc hd]
    exact row1 (f_s_l3Shift_l0 _ _ _) h
  · cases h
theorem f_s_l3Shift_p {R : Type} (g0 : List Sc) (a1 : Int) (x2 : Int) (kR : Int → Option R) : f_s_l3Shift_k g0 a1 x2 kR = (f_s_l3Shift g0 a1 x2).bind kR := by
  simp only [f_s_l3Shift_k, f_s_l3Shift, boB, bl1B, someB]
def f_s_l3Shift_en (r : Int) : List AV := enc [.int .i64] [.i r]
theorem f_s_l3Shift_e (g0 : List Sc) (a1 : Int) (x2 : Int) : runFn S0.E f_s_l3Shift_M (asL (addL 0 f_s_l3Shift_t0 (noL))) (S0.kl 57) Try.f57 (enc [.gr, .int .i64, .int .i64] [.l g0, .i a1, .i x2]) = f_s_l3Shift_k g0 a1 x2 (fun r => some (f_s_l3Shift_en r)) := by kernel_rfl
theorem f_s_l3Shift_ok (g0 : List Sc) (a1 : Int) (x2 : Int) (r : Int) (h : f_s_l3Shift g0 a1 x2 = some r) : CL S0 57 (enc [.gr, .int .i64, .int .i64] [.l g0, .i a1, .i x2]) = some (f_s_l3Shift_en r) :=
  fn_true (Fk := fun k => f_s_l3Shift_k g0 a1 x2 k) (enc := f_s_l3Shift_en) Try.func57 rfl f_s_l3Shift_Mt (addL_true f_s_l3Shift_tt0 (noL_true)) f_s_l3Shift_o (f_s_l3Shift_e g0 a1 x2) (f_s_l3Shift_p g0 a1 x2) h
def f_s_l3Shift_c (args : List AV) : Option (Bool × List AV) := match dec [.gr, .int .i64, .int .i64] args with
  | some [.l g0, .i a1, .i x2] => some ((f_s_l3Shift g0 a1 x2).isSome, f_s_l3Shift_en ((f_s_l3Shift g0 a1 x2).getD 0))
  | _ => none
theorem f_s_l3Shift_cc : CTrue S0 57 f_s_l3Shift_c := by
  intro args rs h
  unfold f_s_l3Shift_c at h
  split at h
  · rename_i hd
    rw [← dec_enc hd]
    exact rowC (f_s_l3Shift_ok _ _ _) h
  · cases h

def f_s_l4Sum_M : Calling := addC 75 f_s_l3List_c (addC 57 f_s_l3Shift_c (noC))
theorem f_s_l4Sum_Mt : CallsTrue S0 f_s_l4Sum_M := addC_true f_s_l3List_cc (addC_true f_s_l3Shift_cc (noC_true))
theorem f_s_l4Sum_o : loopsOnce Try.f51 = true := by kernel_rfl
def f_s_l4Sum_h0 : List Sh := [.u, .int .i64, .u, .bp, .u, .u, .u, .int .i64, .own 3, .int .i64, .u, .u, .u, .u, .u, .u, .u, .u, .u, .u, .u, .u, .u, .u, .u, .u, .u, .u]
def f_s_l4Sum_fr0 (a1 : Int) (g3 : List Sc) (s : Int × List Sc × Int) : List AV := enc f_s_l4Sum_h0 [.i a1, .l g3, .i s.1, .l s.2.1, .i s.2.2]
def f_s_l4Sum_g0_1 : List Sh := [.u, .u, .u, .u, .u, .u, .u, .int .i64, .u, .u, .u, .u, .u, .u, .u, .u, .u, .u, .u, .u, .u, .u, .u, .u, .u, .u, .u, .u]
def f_s_l4Sum_x0_1 (a1 : Int) (g3 : List Sc) (e : Int) : X × List AV := (.out 0, enc f_s_l4Sum_g0_1 [.i e])
def f_s_l4Sum_x0_2 (_ : Int) (_ : List Sc) (_e : Unit) : X × List AV := (.ret, [])
theorem f_s_l4Sum_p0 {R : Type} (a1 : Int) (g3 : List Sc) (s : Int × List Sc × Int) (kN : Int × List Sc × Int → Option R) (kA : Int → Option R) (kB : Unit → Option R) : f_s_l4Sum_k0 a1 g3 s.1 s.2.1 s.2.2 kN kA = (f_s_l4Sum_r0 a1 g3 s).bind (Ro.el kN kA kB) := by
  simp only [f_s_l4Sum_k0, f_s_l4Sum_r0, brB, boB, someB, noneB, Ro.el]
theorem f_s_l4Sum_e0 (a1 : Int) (g3 : List Sc) (s : Int × List Sc × Int) : EC S0.E f_s_l4Sum_M (asL (noL)) (S0.kl 51) 0 (bodyOf Try.f51 0) (f_s_l4Sum_fr0 a1 g3 s) (done (S0.kl 51 0)) = f_s_l4Sum_k0 a1 g3 s.1 s.2.1 s.2.2 (fun s => some (.norm, f_s_l4Sum_fr0 a1 g3 s)) (fun e => some (f_s_l4Sum_x0_1 a1 g3 e)) := by kernel_rfl
theorem f_s_l4Sum_l0 (a1 : Int) (g3 : List Sc) : ∀ s r, loopL (f_s_l4Sum_r0 a1 g3) s = some r → LP S0 51 0 (bodyOf Try.f51 0) (f_s_l4Sum_fr0 a1 g3 s) = some (enX (f_s_l4Sum_x0_1 a1 g3) (f_s_l4Sum_x0_2 a1 g3) r) :=
  loop_true f_s_l4Sum_Mt (noL_true) f_s_l4Sum_o (fun _ h => by cases h) (fun _ h => by cases h) (fun s => (f_s_l4Sum_e0 a1 g3 s).trans (f_s_l4Sum_p0 a1 g3 s _ _ (fun e => some (f_s_l4Sum_x0_2 a1 g3 e))))
def f_s_l4Sum_t0 (σ : List AV) : Option (Bool × Bool × (X × List AV) × (X × List AV)) := match dec f_s_l4Sum_h0 σ with
  | some [.i a1, .l g3, .i out7, .l l8, .i i9] => some (isOne (loopL (f_s_l4Sum_r0 a1 g3) (out7, l8, i9)), true, f_s_l4Sum_x0_1 a1 g3 (getOne 0 (loopL (f_s_l4Sum_r0 a1 g3) (out7, l8, i9))), (.ret, []))
  | _ => none
theorem f_s_l4Sum_tt0 : TTrue S0 51 Try.f51 0 f_s_l4Sum_t0 := by
  intro σ p r r' h
  unfold f_s_l4Sum_t0 at h
  split at h
  · rename_i hd
    rw [← dec_enc hd]
    exact row1 (f_s_l4Sum_l0 _ _ _) h
  · cases h
theorem f_s_l4Sum_p {R : Type} (g0 : List Sc) (a1 : Int) (b2 : Int) (kR : Int → Option R) : f_s_l4Sum_k g0 a1 b2 kR = (f_s_l4Sum g0 a1 b2).bind kR := by
  simp only [f_s_l4Sum_k, f_s_l4Sum, boB, bl1B, someB]
def f_s_l4Sum_en (r : Int) : List AV := enc [.int .i64] [.i r]
theorem f_s_l4Sum_e (g0 : List Sc) (a1 : Int) (b2 : Int) : runFn S0.E f_s_l4Sum_M (asL (addL 0 f_s_l4Sum_t0 (noL))) (S0.kl 51) Try.f51 (enc [.gr, .int .i64, .int .i64] [.l g0, .i a1, .i b2]) = f_s_l4Sum_k g0 a1 b2 (fun r => some (f_s_l4Sum_en r)) := by kernel_rfl
theorem f_s_l4Sum_ok (g0 : List Sc) (a1 : Int) (b2 : Int) (r : Int) (h : f_s_l4Sum g0 a1 b2 = some r) : CL S0 51 (enc [.gr, .int .i64, .int .i64] [.l g0, .i a1, .i b2]) = some (f_s_l4Sum_en r) :=
  fn_true (Fk := fun k => f_s_l4Sum_k g0 a1 b2 k) (enc := f_s_l4Sum_en) Try.func51 rfl f_s_l4Sum_Mt (addL_true f_s_l4Sum_tt0 (noL_true)) f_s_l4Sum_o (f_s_l4Sum_e g0 a1 b2) (f_s_l4Sum_p g0 a1 b2) h
def f_s_l4Sum_c (args : List AV) : Option (Bool × List AV) := match dec [.gr, .int .i64, .int .i64] args with
  | some [.l g0, .i a1, .i b2] => some ((f_s_l4Sum g0 a1 b2).isSome, f_s_l4Sum_en ((f_s_l4Sum g0 a1 b2).getD 0))
  | _ => none
theorem f_s_l4Sum_cc : CTrue S0 51 f_s_l4Sum_c := by
  intro args rs h
  unfold f_s_l4Sum_c at h
  split at h
  · rename_i hd
    rw [← dec_enc hd]
    exact rowC (f_s_l4Sum_ok _ _ _) h
  · cases h

def f_s_l21Free_M : Calling := addC 51 f_s_l4Sum_c (noC)
theorem f_s_l21Free_Mt : CallsTrue S0 f_s_l21Free_M := addC_true f_s_l4Sum_cc (noC_true)
theorem f_s_l21Free_o : loopsOnce Try.f44 = true := by kernel_rfl
theorem f_s_l21Free_p {R : Type} (g0 : List Sc) (a1 : Int) (kR : Bool → Option R) : f_s_l21Free_k g0 a1 kR = (f_s_l21Free g0 a1).bind kR := by
  simp only [f_s_l21Free_k, f_s_l21Free, boB, someB]
def f_s_l21Free_en (r : Bool) : List AV := enc [.boo] [.b r]
theorem f_s_l21Free_e (g0 : List Sc) (a1 : Int) : runFn S0.E f_s_l21Free_M (asL (noL)) (S0.kl 44) Try.f44 (enc [.gr, .int .i64] [.l g0, .i a1]) = f_s_l21Free_k g0 a1 (fun r => some (f_s_l21Free_en r)) := by kernel_rfl
theorem f_s_l21Free_ok (g0 : List Sc) (a1 : Int) (r : Bool) (h : f_s_l21Free g0 a1 = some r) : CL S0 44 (enc [.gr, .int .i64] [.l g0, .i a1]) = some (f_s_l21Free_en r) :=
  fn_true (Fk := fun k => f_s_l21Free_k g0 a1 k) (enc := f_s_l21Free_en) Try.func44 rfl f_s_l21Free_Mt (noL_true) f_s_l21Free_o (f_s_l21Free_e g0 a1) (f_s_l21Free_p g0 a1) h
def f_s_l21Free_c (args : List AV) : Option (Bool × List AV) := match dec [.gr, .int .i64] args with
  | some [.l g0, .i a1] => some ((f_s_l21Free g0 a1).isSome, f_s_l21Free_en ((f_s_l21Free g0 a1).getD false))
  | _ => none
theorem f_s_l21Free_cc : CTrue S0 44 f_s_l21Free_c := by
  intro args rs h
  unfold f_s_l21Free_c at h
  split at h
  · rename_i hd
    rw [← dec_enc hd]
    exact rowC (f_s_l21Free_ok _ _) h
  · cases h

def f_s_IsSumFree_M : Calling := addC 43 f_s_IsSet_c (addC 44 f_s_l21Free_c (noC))
theorem f_s_IsSumFree_Mt : CallsTrue S0 f_s_IsSumFree_M := addC_true f_s_IsSet_cc (addC_true f_s_l21Free_cc (noC_true))
theorem f_s_IsSumFree_o : loopsOnce Try.f20 = true := by kernel_rfl
theorem f_s_IsSumFree_p {R : Type} (g0 : List Sc) (a1 : Int) (kR : Bool → Option R) : f_s_IsSumFree_k g0 a1 kR = (f_s_IsSumFree g0 a1).bind kR := by
  simp only [f_s_IsSumFree_k, f_s_IsSumFree, brB, boB, someB]
def f_s_IsSumFree_en (r : Bool) : List AV := enc [.boo] [.b r]
theorem f_s_IsSumFree_e (g0 : List Sc) (a1 : Int) : runFn S0.E f_s_IsSumFree_M (asL (noL)) (S0.kl 20) Try.f20 (enc [.gr, .int .i64] [.l g0, .i a1]) = f_s_IsSumFree_k g0 a1 (fun r => some (f_s_IsSumFree_en r)) := by kernel_rfl
theorem f_s_IsSumFree_ok (g0 : List Sc) (a1 : Int) (r : Bool) (h : f_s_IsSumFree g0 a1 = some r) : CL S0 20 (enc [.gr, .int .i64] [.l g0, .i a1]) = some (f_s_IsSumFree_en r) :=
  fn_true (Fk := fun k => f_s_IsSumFree_k g0 a1 k) (enc := f_s_IsSumFree_en) Try.func20 rfl f_s_IsSumFree_Mt (noL_true) f_s_IsSumFree_o (f_s_IsSumFree_e g0 a1) (f_s_IsSumFree_p g0 a1) h
def f_s_IsSumFree_c (args : List AV) : Option (Bool × List AV) := match dec [.gr, .int .i64] args with
  | some [.l g0, .i a1] => some ((f_s_IsSumFree g0 a1).isSome, f_s_IsSumFree_en ((f_s_IsSumFree g0 a1).getD false))
  | _ => none
theorem f_s_IsSumFree_cc : CTrue S0 20 f_s_IsSumFree_c := by
  intro args rs h
  unfold f_s_IsSumFree_c at h
  split at h
  · rename_i hd
    rw [← dec_enc hd]
    exact rowC (f_s_IsSumFree_ok _ _) h
  · cases h

def f_i_IsSet_M : Calling := addC 69 f_i_IsGroup_c (addC 72 f_i_OrderOf_c (noC))
theorem f_i_IsSet_Mt : CallsTrue S0 f_i_IsSet_M := addC_true f_i_IsGroup_cc (addC_true f_i_OrderOf_cc (noC_true))
theorem f_i_IsSet_o : loopsOnce Try.f45 = true := by kernel_rfl
theorem f_i_IsSet_p {R : Type} (g0 : List Sc) (a1 : Int) (kR : Bool → Option R) : f_i_IsSet_k g0 a1 kR = (f_i_IsSet g0 a1).bind kR := by
  simp only [f_i_IsSet_k, f_i_IsSet, brB, boB, someB, noneB]
def f_i_IsSet_en (r : Bool) : List AV := enc [.boo] [.b r]
theorem f_i_IsSet_e (g0 : List Sc) (a1 : Int) : runFn S0.E f_i_IsSet_M (asL (noL)) (S0.kl 45) Try.f45 (enc [.gr, .int .i64] [.l g0, .i a1]) = f_i_IsSet_k g0 a1 (fun r => some (f_i_IsSet_en r)) := by kernel_rfl
theorem f_i_IsSet_ok (g0 : List Sc) (a1 : Int) (r : Bool) (h : f_i_IsSet g0 a1 = some r) : CL S0 45 (enc [.gr, .int .i64] [.l g0, .i a1]) = some (f_i_IsSet_en r) :=
  fn_true (Fk := fun k => f_i_IsSet_k g0 a1 k) (enc := f_i_IsSet_en) Try.func45 rfl f_i_IsSet_Mt (noL_true) f_i_IsSet_o (f_i_IsSet_e g0 a1) (f_i_IsSet_p g0 a1) h
def f_i_IsSet_c (args : List AV) : Option (Bool × List AV) := match dec [.gr, .int .i64] args with
  | some [.l g0, .i a1] => some ((f_i_IsSet g0 a1).isSome, f_i_IsSet_en ((f_i_IsSet g0 a1).getD false))
  | _ => none
theorem f_i_IsSet_cc : CTrue S0 45 f_i_IsSet_c := by
  intro args rs h
  unfold f_i_IsSet_c at h
  split at h
  · rename_i hd
    rw [← dec_enc hd]
    exact rowC (f_i_IsSet_ok _ _) h
  · cases h

def f_i_members_M : Calling := noC
theorem f_i_members_Mt : CallsTrue S0 f_i_members_M := noC_true
theorem f_i_members_o : loopsOnce Try.f73 = true := by kernel_rfl
def f_i_members_h0 : List Sh := [.int .i64, .u, .u, .own 3, .int .i64, .u, .u, .u, .u, .u, .u, .u, .u, .u, .u, .u, .u, .u, .u, .u, .u, .u]
def f_i_members_fr0 (a0 : Int) (s : List Sc × Int) : List AV := enc f_i_members_h0 [.i a0, .l s.1, .i s.2]
def f_i_members_g0_1 : List Sh := [.u, .u, .u, .own 3, .u, .u, .u, .u, .u, .u, .u, .u, .u, .u, .u, .u, .u, .u, .u, .u, .u, .u]
def f_i_members_x0_1 (a0 : Int) (e : List Sc) : X × List AV := (.out 0, enc f_i_members_g0_1 [.l e])
def f_i_members_x0_2 (_ : Int) (_e : Unit) : X × List AV := (.ret, [])
theorem f_i_members_p0 {R : Type} (a0 : Int) (s : List Sc × Int) (kN : List Sc × Int → Option R) (kA : List Sc → Option R) (kB : Unit → Option R) : f_i_members_k0 a0 s.1 s.2 kN kA = (f_i_members_r0 a0 s).bind (Ro.el kN kA kB) := by
  simp only [f_i_members_k0, f_i_members_r0, brB, someB, noneB, Ro.el]
theorem f_i_members_e0 (a0 : Int) (s : List Sc × Int) : EC S0.E f_i_members_M (asL (noL)) (S0.kl 73) 0 (bodyOf Try.f73 0) (f_i_members_fr0 a0 s) (done (S0.kl 73 0)) = f_i_members_k0 a0 s.1 s.2 (fun s => some (.norm, f_i_members_fr0 a0 s)) (fun e => some (f_i_members_x0_1 a0 e)) := by kernel_rfl
theorem f_i_members_l0 (a0 : Int) : ∀ s r, loopL (f_i_members_r0 a0) s = some r → LP S0 73 0 (bodyOf Try.f73 0) (f_i_members_fr0 a0 s) = some (enX (f_i_members_x0_1 a0) (f_i_members_x0_2 a0) r) :=
  loop_true f_i_members_Mt (noL_true) f_i_members_o (fun _ h => by cases h) (fun _ h => by cases h) (fun s => (f_i_members_e0 a0 s).trans (f_i_members_p0 a0 s _ _ (fun e => some (f_i_members_x0_2 a0 e))))
def f_i_members_t0 (σ : List AV) : Option (Bool × Bool × (X × List AV) × (X × List AV)) := match dec f_i_members_h0 σ with
  | some [.i a0, .l out3, .i x4] => some (isOne (loopL (f_i_members_r0 a0) (out3, x4)), true, f_i_members_x0_1 a0 (getOne [] (loopL (f_i_members_r0 a0) (out3, x4))), (.ret, []))
  | _ => none
theorem f_i_members_tt0 : TTrue S0 73 Try.f73 0 f_i_members_t0 := by
  intro σ p r r' h
  unfold f_i_members_t0 at h
  split at h
  · rename_i hd
    rw [← dec_enc hd]
    exact row1 (f_i_members_l0 _ _) h
  · cases h
theorem f_i_members_p {R : Type} (a0 : Int) (kR : List Sc → Option R) : f_i_members_k a0 kR = (f_i_members a0).bind kR := by
  simp only [f_i_members_k, f_i_members, bl1B, someB]
def f_i_members_en (r : List Sc) : List AV := enc [.own 3] [.l r]
theorem f_i_members_e (a0 : Int) : runFn S0.E f_i_members_M (asL (addL 0 f_i_members_t0 (noL))) (S0.kl 73) Try.f73 (enc [.int .i64] [.i a0]) = f_i_members_k a0 (fun r => some (f_i_members_en r)) := by kernel_rfl
theorem f_i_members_ok (a0 : Int) (r : List Sc) (h : f_i_members a0 = some r) : CL S0 73 (enc [.int .i64] [.i a0]) = some (f_i_members_en r) :=
  fn_true (Fk := fun k => f_i_members_k a0 k) (enc := f_i_members_en) Try.func73 rfl f_i_members_Mt (addL_true f_i_members_tt0 (noL_true)) f_i_members_o (f_i_members_e a0) (f_i_members_p a0) h
def f_i_members_c (args : List AV) : Option (Bool × List AV) := match dec [.int .i64] args with
  | some [.i a0] => some ((f_i_members a0).isSome, f_i_members_en ((f_i_members a0).getD []))
  | _ => none
theorem f_i_members_cc : CTrue S0 73 f_i_members_c := by
  intro args rs h
  unfold f_i_members_c at h
  split at h
  · rename_i hd
    rw [← dec_enc hd]
    exact rowC (f_i_members_ok _) h
  · cases h

def f_i_Group_shift_M : Calling := addC 71 f_i_Group_add_c (noC)
theorem f_i_Group_shift_Mt : CallsTrue S0 f_i_Group_shift_M := addC_true f_i_Group_add_cc (noC_true)
theorem f_i_Group_shift_o : loopsOnce Try.f74 = true := by kernel_rfl
def f_i_Group_shift_h0 : List Sh := [.u, .int .i64, .int .i64, .bp, .u, .u, .u, .int .i64, .int .i64, .u, .u, .u, .u, .u, .u, .u, .u, .u, .u, .u, .u, .u, .u, .u, .u, .u, .u, .u]
def f_i_Group_shift_fr0 (a1 : Int) (x2 : Int) (g3 : List Sc) (s : Int × Int) : List AV := enc f_i_Group_shift_h0 [.i a1, .i x2, .l g3, .i s.1, .i s.2]
def f_i_Group_shift_g0_1 : List Sh := [.u, .u, .u, .u, .u, .u, .u, .int .i64, .u, .u, .u, .u, .u, .u, .u, .u, .u, .u, .u, .u, .u, .u, .u, .u, .u, .u, .u, .u]
def f_i_Group_shift_x0_1 (a1 : Int) (x2 : Int) (g3 : List Sc) (e : Int) : X × List AV := (.out 0, enc f_i_Group_shift_g0_1 [.i e])
def f_i_Group_shift_x0_2 (_ : Int) (_ : Int) (_ : List Sc) (_e : Unit) : X × List AV := (.ret, [])
theorem f_i_Group_shift_p0 {R : Type} (a1 : Int) (x2 : Int) (g3 : List Sc) (s : Int × Int) (kN : Int × Int → Option R) (kA : Int → Option R) (kB : Unit → Option R) : f_i_Group_shift_k0 a1 x2 g3 s.1 s.2 kN kA = (f_i_Group_shift_r0 a1 x2 g3 s).bind (Ro.el kN kA kB) := by
  simp only [f_i_Group_shift_k0, f_i_Group_shift_r0, brB, boB, someB, noneB, Ro.el]
theorem f_i_Group_shift_e0 (a1 : Int) (x2 : Int) (g3 : List Sc) (s : Int × Int) : EC S0.E f_i_Group_shift_M (asL (noL)) (S0.kl 74) 0 (bodyOf Try.f74 0) (f_i_Group_shift_fr0 a1 x2 g3 s) (done (S0.kl 74 0)) = f_i_Group_shift_k0 a1 x2 g3 s.1 s.2 (fun s => some (.norm, f_i_Group_shift_fr0 a1 x2 g3 s)) (fun e => some (f_i_Group_shift_x0_1 a1 x2 g3 e)) := by kernel_rfl
theorem f_i_Group_shift_l0 (a1 : Int) (x2 : Int) (g3 : List Sc) : ∀ s r, loopL (f_i_Group_shift_r0 a1 x2 g3) s = some r → LP S0 74 0 (bodyOf Try.f74 0) (f_i_Group_shift_fr0 a1 x2 g3 s) = some (enX (f_i_Group_shift_x0_1 a1 x2 g3) (f_i_Group_shift_x0_2 a1 x2 g3) r) :=
  loop_true f_i_Group_shift_Mt (noL_true) f_i_Group_shift_o (fun _ h => by cases h) (fun _ h => by cases h) (fun s => (f_i_Group_shift_e0 a1 x2 g3 s).trans (f_i_Group_shift_p0 a1 x2 g3 s _ _ (fun e => some (f_i_Group_shift_x0_2 a1 x2 g3 e))))
def f_i_Group_shift_t0 (σ : List AV) : Option (Bool × Bool × (X × List AV) × (X × List AV)) := match dec f_i_Group_shift_h0 σ with
  | some [.i a1, .i x2, .l g3, .i out7, .i y8] => some (isOne (loopL (f_i_Group_shift_r0 a1 x2 g3) (out7, y8)), true, f_i_Group_shift_x0_1 a1 x2 g3 (getOne 0 (loopL (f_i_Group_shift_r0 a1 x2 g3) (out7, y8))), (.ret, []))
  | _ => none
theorem f_i_Group_shift_tt0 : TTrue S0 74 Try.f74 0 f_i_Group_shift_t0 := by
  intro σ p r r' h
  unfold f_i_Group_shift_t0 at h
  split at h
  · rename_i hd
    rw [← dec_enc hd]
    exact row1 (f_i_Group_shift_l0 _ _ _ _) h
  · cases h
theorem f_i_Group_shift_p {R : Type} (g0 : List Sc) (a1 : Int) (x2 : Int) (kR : Int → Option R) : f_i_Group_shift_k g0 a1 x2 kR = (f_i_Group_shift g0 a1 x2).bind kR := by
  simp only [f_i_Group_shift_k, f_i_Group_shift, bl1B, someB]
def f_i_Group_shift_en (r : Int) : List AV := enc [.int .i64] [.i r]
theorem f_i_Group_shift_e (g0 : List Sc) (a1 : Int) (x2 : Int) : runFn S0.E f_i_Group_shift_M (asL (addL 0 f_i_Group_shift_t0 (noL))) (S0.kl 74) Try.f74 (enc [.gr, .int .i64, .int .i64] [.l g0, .i a1, .i x2]) = f_i_Group_shift_k g0 a1 x2 (fun r => some (f_i_Group_shift_en r)) := by kernel_rfl
theorem f_i_Group_shift_ok (g0 : List Sc) (a1 : Int) (x2 : Int) (r : Int) (h : f_i_Group_shift g0 a1 x2 = some r) : CL S0 74 (enc [.gr, .int .i64, .int .i64] [.l g0, .i a1, .i x2]) = some (f_i_Group_shift_en r) :=
  fn_true (Fk := fun k => f_i_Group_shift_k g0 a1 x2 k) (enc := f_i_Group_shift_en) Try.func74 rfl f_i_Group_shift_Mt (addL_true f_i_Group_shift_tt0 (noL_true)) f_i_Group_shift_o (f_i_Group_shift_e g0 a1 x2) (f_i_Group_shift_p g0 a1 x2) h
def f_i_Group_shift_c (args : List AV) : Option (Bool × List AV) := match dec [.gr, .int .i64, .int .i64] args with
  | some [.l g0, .i a1, .i x2] => some ((f_i_Group_shift g0 a1 x2).isSome, f_i_Group_shift_en ((f_i_Group_shift g0 a1 x2).getD 0))
  | _ => none
theorem f_i_Group_shift_cc : CTrue S0 74 f_i_Group_shift_c := by
  intro args rs h
  unfold f_i_Group_shift_c at h
  split at h
  · rename_i hd
    rw [← dec_enc hd]
    exact rowC (f_i_Group_shift_ok _ _ _) h
  · cases h

def f_i_Group_sum_M : Calling := addC 73 f_i_members_c (addC 74 f_i_Group_shift_c (noC))
theorem f_i_Group_sum_Mt : CallsTrue S0 f_i_Group_sum_M := addC_true f_i_members_cc (addC_true f_i_Group_shift_cc (noC_true))
theorem f_i_Group_sum_o : loopsOnce Try.f46 = true := by kernel_rfl
def f_i_Group_sum_h0 : List Sh := [.u, .u, .int .i64, .bp, .u, .u, .u, .int .i64, .u, .u, .u, .own 3, .int .i64, .int .i64, .u, .u, .u, .u, .u, .u, .u, .u, .u, .u, .u]
def f_i_Group_sum_fr0 (b2 : Int) (g3 : List Sc) (t12 : Int) (s : Int × List Sc × Int) : List AV := enc f_i_Group_sum_h0 [.i b2, .l g3, .i s.1, .l s.2.1, .i t12, .i s.2.2]
def f_i_Group_sum_g0_1 : List Sh := [.u, .u, .u, .u, .u, .u, .u, .int .i64, .u, .u, .u, .u, .u, .u, .u, .u, .u, .u, .u, .u, .u, .u, .u, .u, .u]
def f_i_Group_sum_x0_1 (b2 : Int) (g3 : List Sc) (t12 : Int) (e : Int) : X × List AV := (.out 0, enc f_i_Group_sum_g0_1 [.i e])
def f_i_Group_sum_x0_2 (_ : Int) (_ : List Sc) (_ : Int) (_e : Unit) : X × List AV := (.ret, [])
theorem f_i_Group_sum_p0 {R : Type} (b2 : Int) (g3 : List Sc) (t12 : Int) (s : Int × List Sc × Int) (kN : Int × List Sc × Int → Option R) (kA : Int → Option R) (kB : Unit → Option R) : f_i_Group_sum_k0 b2 g3 t12 s.1 s.2.1 s.2.2 kN kA = (f_i_Group_sum_r0 b2 g3 t12 s).bind (Ro.el kN kA kB) := by
  simp only [f_i_Group_sum_k0, f_i_Group_sum_r0, brB, boB, someB, noneB, Ro.el]
theorem f_i_Group_sum_e0 (b2 : Int) (g3 : List Sc) (t12 : Int) (s : Int × List Sc × Int) : EC S0.E f_i_Group_sum_M (asL (noL)) (S0.kl 46) 0 (bodyOf Try.f46 0) (f_i_Group_sum_fr0 b2 g3 t12 s) (done (S0.kl 46 0)) = f_i_Group_sum_k0 b2 g3 t12 s.1 s.2.1 s.2.2 (fun s => some (.norm, f_i_Group_sum_fr0 b2 g3 t12 s)) (fun e => some (f_i_Group_sum_x0_1 b2 g3 t12 e)) := by kernel_rfl
theorem f_i_Group_sum_l0 (b2 : Int) (g3 : List Sc) (t12 : Int) : ∀ s r, loopL (f_i_Group_sum_r0 b2 g3 t12) s = some r → LP S0 46 0 (bodyOf Try.f46 0) (f_i_Group_sum_fr0 b2 g3 t12 s) = some (enX (f_i_Group_sum_x0_1 b2 g3 t12) (f_i_Group_sum_x0_2 b2 g3 t12) r) :=
  loop_true f_i_Group_sum_Mt (noL_true) f_i_Group_sum_o (fun _ h => by cases h) (fun _ h => by cases h) (fun s => (f_i_Group_sum_e0 b2 g3 t12 s).trans (f_i_Group_sum_p0 b2 g3 t12 s _ _ (fun e => some (f_i_Group_sum_x0_2 b2 g3 t12 e))))
def f_i_Group_sum_t0 (σ : List AV) : Option (Bool × Bool × (X × List AV) × (X × List AV)) := match dec f_i_Group_sum_h0 σ with
  | some [.i b2, .l g3, .i out7, .l t11, .i t12, .i t13] => some (isOne (loopL (f_i_Group_sum_r0 b2 g3 t12) (out7, t11, t13)), true, f_i_Group_sum_x0_1 b2 g3 t12 (getOne 0 (loopL (f_i_Group_sum_r0 b2 g3 t12) (out7, t11, t13))), (.ret, []))
  | _ => none
theorem f_i_Group_sum_tt0 : TTrue S0 46 Try.f46 0 f_i_Group_sum_t0 := by
  intro σ p r r' h
  unfold f_i_Group_sum_t0 at h
  split at h
  · rename_i hd
    rw [← dec_enc hd]
    exact row1 (f_i_Group_sum_l0 _ _ _ _) h
  · cases h
theorem f_i_Group_sum_p {R : Type} (g0 : List Sc) (a1 : Int) (b2 : Int) (kR : Int → Option R) : f_i_Group_sum_k g0 a1 b2 kR = (f_i_Group_sum g0 a1 b2).bind kR := by
  simp only [f_i_Group_sum_k, f_i_Group_sum, boB, bl1B, someB]
def f_i_Group_sum_en (r : Int) : List AV := enc [.int .i64] [.i r]
theorem f_i_Group_sum_e (g0 : List Sc) (a1 : Int) (b2 : Int) : runFn S0.E f_i_Group_sum_M (asL (addL 0 f_i_Group_sum_t0 (noL))) (S0.kl 46) Try.f46 (enc [.gr, .int .i64, .int .i64] [.l g0, .i a1, .i b2]) = f_i_Group_sum_k g0 a1 b2 (fun r => some (f_i_Group_sum_en r)) := by kernel_rfl
theorem f_i_Group_sum_ok (g0 : List Sc) (a1 : Int) (b2 : Int) (r : Int) (h : f_i_Group_sum g0 a1 b2 = some r) : CL S0 46 (enc [.gr, .int .i64, .int .i64] [.l g0, .i a1, .i b2]) = some (f_i_Group_sum_en r) :=
  fn_true (Fk := fun k => f_i_Group_sum_k g0 a1 b2 k) (enc := f_i_Group_sum_en) Try.func46 rfl f_i_Group_sum_Mt (addL_true f_i_Group_sum_tt0 (noL_true)) f_i_Group_sum_o (f_i_Group_sum_e g0 a1 b2) (f_i_Group_sum_p g0 a1 b2) h
def f_i_Group_sum_c (args : List AV) : Option (Bool × List AV) := match dec [.gr, .int .i64, .int .i64] args with
  | some [.l g0, .i a1, .i b2] => some ((f_i_Group_sum g0 a1 b2).isSome, f_i_Group_sum_en ((f_i_Group_sum g0 a1 b2).getD 0))
  | _ => none
theorem f_i_Group_sum_cc : CTrue S0 46 f_i_Group_sum_c := by
  intro args rs h
  unfold f_i_Group_sum_c at h
  split at h
  · rename_i hd
    rw [← dec_enc hd]
    exact rowC (f_i_Group_sum_ok _ _ _) h
  · cases h

def f_i_IsSumFree_M : Calling := addC 45 f_i_IsSet_c (addC 46 f_i_Group_sum_c (noC))
theorem f_i_IsSumFree_Mt : CallsTrue S0 f_i_IsSumFree_M := addC_true f_i_IsSet_cc (addC_true f_i_Group_sum_cc (noC_true))
theorem f_i_IsSumFree_o : loopsOnce Try.f21 = true := by kernel_rfl
theorem f_i_IsSumFree_p {R : Type} (g0 : List Sc) (a1 : Int) (kR : Bool → Option R) : f_i_IsSumFree_k g0 a1 kR = (f_i_IsSumFree g0 a1).bind kR := by
  simp only [f_i_IsSumFree_k, f_i_IsSumFree, brB, boB, someB]
def f_i_IsSumFree_en (r : Bool) : List AV := enc [.boo] [.b r]
theorem f_i_IsSumFree_e (g0 : List Sc) (a1 : Int) : runFn S0.E f_i_IsSumFree_M (asL (noL)) (S0.kl 21) Try.f21 (enc [.gr, .int .i64] [.l g0, .i a1]) = f_i_IsSumFree_k g0 a1 (fun r => some (f_i_IsSumFree_en r)) := by kernel_rfl
theorem f_i_IsSumFree_ok (g0 : List Sc) (a1 : Int) (r : Bool) (h : f_i_IsSumFree g0 a1 = some r) : CL S0 21 (enc [.gr, .int .i64] [.l g0, .i a1]) = some (f_i_IsSumFree_en r) :=
  fn_true (Fk := fun k => f_i_IsSumFree_k g0 a1 k) (enc := f_i_IsSumFree_en) Try.func21 rfl f_i_IsSumFree_Mt (noL_true) f_i_IsSumFree_o (f_i_IsSumFree_e g0 a1) (f_i_IsSumFree_p g0 a1) h
def f_i_IsSumFree_c (args : List AV) : Option (Bool × List AV) := match dec [.gr, .int .i64] args with
  | some [.l g0, .i a1] => some ((f_i_IsSumFree g0 a1).isSome, f_i_IsSumFree_en ((f_i_IsSumFree g0 a1).getD false))
  | _ => none
theorem f_i_IsSumFree_cc : CTrue S0 21 f_i_IsSumFree_c := by
  intro args rs h
  unfold f_i_IsSumFree_c at h
  split at h
  · rename_i hd
    rw [← dec_enc hd]
    exact rowC (f_i_IsSumFree_ok _ _) h
  · cases h

def f_l_FnExactIsSumFree_M : Calling := addC 13 f_l_szGroup_c (addC 15 f_l_toGroup_c (addC 20 f_s_IsSumFree_c (addC 21 f_i_IsSumFree_c (addC 18 f_l_eqGroup_c (noC)))))
theorem f_l_FnExactIsSumFree_Mt : CallsTrue S0 f_l_FnExactIsSumFree_M := addC_true f_l_szGroup_cc (addC_true f_l_toGroup_cc (addC_true f_s_IsSumFree_cc (addC_true f_i_IsSumFree_cc (addC_true f_l_eqGroup_cc (noC_true)))))
theorem f_l_FnExactIsSumFree_o : loopsOnce Try.f4 = true := by kernel_rfl
theorem f_l_FnExactIsSumFree_p {R : Type} (aG0 : List Sc) (aA1 : Int) (kR : Bool → Option R) : f_l_FnExactIsSumFree_k aG0 aA1 kR = (f_l_FnExactIsSumFree aG0 aA1).bind kR := by
  simp only [f_l_FnExactIsSumFree_k, f_l_FnExactIsSumFree, brB, boB, someB, noneB]
def f_l_FnExactIsSumFree_en (r : Bool) : List AV := enc [.boo] [.b r]
theorem f_l_FnExactIsSumFree_e (aG0 : List Sc) (aA1 : Int) : runFn S0.E f_l_FnExactIsSumFree_M (asL (noL)) (S0.kl 4) Try.f4 (enc [.gr, .int .i64] [.l aG0, .i aA1]) = f_l_FnExactIsSumFree_k aG0 aA1 (fun r => some (f_l_FnExactIsSumFree_en r)) := by kernel_rfl
theorem f_l_FnExactIsSumFree_ok (aG0 : List Sc) (aA1 : Int) (r : Bool) (h : f_l_FnExactIsSumFree aG0 aA1 = some r) : CL S0 4 (enc [.gr, .int .i64] [.l aG0, .i aA1]) = some (f_l_FnExactIsSumFree_en r) :=
  fn_true (Fk := fun k => f_l_FnExactIsSumFree_k aG0 aA1 k) (enc := f_l_FnExactIsSumFree_en) Try.func4 rfl f_l_FnExactIsSumFree_Mt (noL_true) f_l_FnExactIsSumFree_o (f_l_FnExactIsSumFree_e aG0 aA1) (f_l_FnExactIsSumFree_p aG0 aA1) h
def f_l_FnExactIsSumFree_c (args : List AV) : Option (Bool × List AV) := match dec [.gr, .int .i64] args with
  | some [.l aG0, .i aA1] => some ((f_l_FnExactIsSumFree aG0 aA1).isSome, f_l_FnExactIsSumFree_en ((f_l_FnExactIsSumFree aG0 aA1).getD false))
  | _ => none
theorem f_l_FnExactIsSumFree_cc : CTrue S0 4 f_l_FnExactIsSumFree_c := by
  intro args rs h
  unfold f_l_FnExactIsSumFree_c at h
  split at h
  · rename_i hd
    rw [← dec_enc hd]
    exact rowC (f_l_FnExactIsSumFree_ok _ _) h
  · cases h

def f_s_SumOfSequence_M : Calling := addC 39 f_s_IsSequence_c (addC 40 f_s_l16Sum_c (noC))
theorem f_s_SumOfSequence_Mt : CallsTrue S0 f_s_SumOfSequence_M := addC_true f_s_IsSequence_cc (addC_true f_s_l16Sum_cc (noC_true))
theorem f_s_SumOfSequence_o : loopsOnce Try.f22 = true := by kernel_rfl
theorem f_s_SumOfSequence_p {R : Type} (g0 : List Sc) (l1 : List Sc) (kR : Int → Option R) : f_s_SumOfSequence_k g0 l1 kR = (f_s_SumOfSequence g0 l1).bind kR := by
  simp only [f_s_SumOfSequence_k, f_s_SumOfSequence, brB, boB, someB]
def f_s_SumOfSequence_en (r : Int) : List AV := enc [.int .i64] [.i r]
theorem f_s_SumOfSequence_e (g0 : List Sc) (l1 : List Sc) : runFn S0.E f_s_SumOfSequence_M (asL (noL)) (S0.kl 22) Try.f22 (enc [.gr, .sl] [.l g0, .l l1]) = f_s_SumOfSequence_k g0 l1 (fun r => some (f_s_SumOfSequence_en r)) := by kernel_rfl
theorem f_s_SumOfSequence_ok (g0 : List Sc) (l1 : List Sc) (r : Int) (h : f_s_SumOfSequence g0 l1 = some r) : CL S0 22 (enc [.gr, .sl] [.l g0, .l l1]) = some (f_s_SumOfSequence_en r) :=
  fn_true (Fk := fun k => f_s_SumOfSequence_k g0 l1 k) (enc := f_s_SumOfSequence_en) Try.func22 rfl f_s_SumOfSequence_Mt (noL_true) f_s_SumOfSequence_o (f_s_SumOfSequence_e g0 l1) (f_s_SumOfSequence_p g0 l1) h
def f_s_SumOfSequence_c (args : List AV) : Option (Bool × List AV) := match dec [.gr, .sl] args with
  | some [.l g0, .l l1] => some ((f_s_SumOfSequence g0 l1).isSome, f_s_SumOfSequence_en ((f_s_SumOfSequence g0 l1).getD 0))
  | _ => none
theorem f_s_SumOfSequence_cc : CTrue S0 22 f_s_SumOfSequence_c := by
  intro args rs h
  unfold f_s_SumOfSequence_c at h
  split at h
  · rename_i hd
    rw [← dec_enc hd]
    exact rowC (f_s_SumOfSequence_ok _ _) h
  · cases h

def f_i_SumOfSequence_M : Calling := addC 41 f_i_IsSequence_c (addC 42 f_i_Group_total_c (noC))
theorem f_i_SumOfSequence_Mt : CallsTrue S0 f_i_SumOfSequence_M := addC_true f_i_IsSequence_cc (addC_true f_i_Group_total_cc (noC_true))
theorem f_i_SumOfSequence_o : loopsOnce Try.f23 = true := by kernel_rfl
theorem f_i_SumOfSequence_p {R : Type} (g0 : List Sc) (l1 : List Sc) (kR : Int → Option R) : f_i_SumOfSequence_k g0 l1 kR = (f_i_SumOfSequence g0 l1).bind kR := by
  simp only [f_i_SumOfSequence_k, f_i_SumOfSequence, brB, boB, someB]
def f_i_SumOfSequence_en (r : Int) : List AV := enc [.int .i64] [.i r]
theorem f_i_SumOfSequence_e (g0 : List Sc) (l1 : List Sc) : runFn S0.E f_i_SumOfSequence_M (asL (noL)) (S0.kl 23) Try.f23 (enc [.gr, .sl] [.l g0, .l l1]) = f_i_SumOfSequence_k g0 l1 (fun r => some (f_i_SumOfSequence_en r)) := by kernel_rfl
theorem f_i_SumOfSequence_ok (g0 : List Sc) (l1 : List Sc) (r : Int) (h : f_i_SumOfSequence g0 l1 = some r) : CL S0 23 (enc [.gr, .sl] [.l g0, .l l1]) = some (f_i_SumOfSequence_en r) :=
  fn_true (Fk := fun k => f_i_SumOfSequence_k g0 l1 k) (enc := f_i_SumOfSequence_en) Try.func23 rfl f_i_SumOfSequence_Mt (noL_true) f_i_SumOfSequence_o (f_i_SumOfSequence_e g0 l1) (f_i_SumOfSequence_p g0 l1) h
def f_i_SumOfSequence_c (args : List AV) : Option (Bool × List AV) := match dec [.gr, .sl] args with
  | some [.l g0, .l l1] => some ((f_i_SumOfSequence g0 l1).isSome, f_i_SumOfSequence_en ((f_i_SumOfSequence g0 l1).getD 0))
  | _ => none
theorem f_i_SumOfSequence_cc : CTrue S0 23 f_i_SumOfSequence_c := by
  intro args rs h
  unfold f_i_SumOfSequence_c at h
  split at h
  · rename_i hd
    rw [← dec_enc hd]
    exact rowC (f_i_SumOfSequence_ok _ _) h
  · cases h

def f_l_FnExactSumOfSequence_M : Calling := addC 13 f_l_szGroup_c (addC 15 f_l_toGroup_c (addC 16 f_l_toIntS_c (addC 22 f_s_SumOfSequence_c (addC 23 f_i_SumOfSequence_c (addC 18 f_l_eqGroup_c (addC 19 f_l_eqIntS_c (noC)))))))
theorem f_l_FnExactSumOfSequence_Mt : CallsTrue S0 f_l_FnExactSumOfSequence_M := addC_true f_l_szGroup_cc (addC_true f_l_toGroup_cc (addC_true f_l_toIntS_cc (addC_true f_s_SumOfSequence_cc (addC_true f_i_SumOfSequence_cc (addC_true f_l_eqGroup_cc (addC_true f_l_eqIntS_cc (noC_true)))))))
theorem f_l_FnExactSumOfSequence_o : loopsOnce Try.f5 = true := by kernel_rfl
theorem f_l_FnExactSumOfSequence_p {R : Type} (aG0 : List Sc) (aL1 : List Sc) (kR : Bool → Option R) : f_l_FnExactSumOfSequence_k aG0 aL1 kR = (f_l_FnExactSumOfSequence aG0 aL1).bind kR := by
  simp only [f_l_FnExactSumOfSequence_k, f_l_FnExactSumOfSequence, brB, boB, someB, noneB]
def f_l_FnExactSumOfSequence_en (r : Bool) : List AV := enc [.boo] [.b r]
theorem f_l_FnExactSumOfSequence_e (aG0 : List Sc) (aL1 : List Sc) : runFn S0.E f_l_FnExactSumOfSequence_M (asL (noL)) (S0.kl 5) Try.f5 (enc [.gr, .sl] [.l aG0, .l aL1]) = f_l_FnExactSumOfSequence_k aG0 aL1 (fun r => some (f_l_FnExactSumOfSequence_en r)) := by kernel_rfl
theorem f_l_FnExactSumOfSequence_ok (aG0 : List Sc) (aL1 : List Sc) (r : Bool) (h : f_l_FnExactSumOfSequence aG0 aL1 = some r) : CL S0 5 (enc [.gr, .sl] [.l aG0, .l aL1]) = some (f_l_FnExactSumOfSequence_en r) :=
  fn_true (Fk := fun k => f_l_FnExactSumOfSequence_k aG0 aL1 k) (enc := f_l_FnExactSumOfSequence_en) Try.func5 rfl f_l_FnExactSumOfSequence_Mt (noL_true) f_l_FnExactSumOfSequence_o (f_l_FnExactSumOfSequence_e aG0 aL1) (f_l_FnExactSumOfSequence_p aG0 aL1) h
def f_l_FnExactSumOfSequence_c (args : List AV) : Option (Bool × List AV) := match dec [.gr, .sl] args with
  | some [.l aG0, .l aL1] => some ((f_l_FnExactSumOfSequence aG0 aL1).isSome, f_l_FnExactSumOfSequence_en ((f_l_FnExactSumOfSequence aG0 aL1).getD false))
  | _ => none
theorem f_l_FnExactSumOfSequence_cc : CTrue S0 5 f_l_FnExactSumOfSequence_c := by
  intro args rs h
  unfold f_l_FnExactSumOfSequence_c at h
  split at h
  · rename_i hd
    rw [← dec_enc hd]
    exact rowC (f_l_FnExactSumOfSequence_ok _ _) h
  · cases h

def f_s_l16Subsums_M : Calling := addC 57 f_s_l3Shift_c (noC)
theorem f_s_l16Subsums_Mt : CallsTrue S0 f_s_l16Subsums_M := addC_true f_s_l3Shift_cc (noC_true)
theorem f_s_l16Subsums_o : loopsOnce Try.f47 = true := by kernel_rfl
def f_s_l16Subsums_h0 : List Sh := [.u, .sl, .bp, .u, .u, .int .i64, .int .i64, .u, .u, .u, .u, .u, .u, .u, .u, .u, .u, .u, .u, .u, .u, .u, .u, .u, .u, .u, .u, .u, .u]
def f_s_l16Subsums_fr0 (l1 : List Sc) (g2 : List Sc) (s : Int × Int) : List AV := enc f_s_l16Subsums_h0 [.l l1, .l g2, .i s.1, .i s.2]
def f_s_l16Subsums_g0_1 : List Sh := [.u, .u, .u, .u, .u, .int .i64, .u, .u, .u, .u, .u, .u, .u, .u, .u, .u, .u, .u, .u, .u, .u, .u, .u, .u, .u, .u, .u, .u, .u]
def f_s_l16Subsums_x0_1 (l1 : List Sc) (g2 : List Sc) (e : Int) : X × List AV := (.out 0, enc f_s_l16Subsums_g0_1 [.i e])
def f_s_l16Subsums_x0_2 (_ : List Sc) (_ : List Sc) (_e : Unit) : X × List AV := (.ret, [])
theorem f_s_l16Subsums_p0 {R : Type} (l1 : List Sc) (g2 : List Sc) (s : Int × Int) (kN : Int × Int → Option R) (kA : Int → Option R) (kB : Unit → Option R) : f_s_l16Subsums_k0 l1 g2 s.1 s.2 kN kA = (f_s_l16Subsums_r0 l1 g2 s).bind (Ro.el kN kA kB) := by
  simp only [f_s_l16Subsums_k0, f_s_l16Subsums_r0, brB, boB, someB, noneB, Ro.el]
theorem f_s_l16Subsums_e0 (l1 : List Sc) (g2 : List Sc) (s : Int × Int) : EC S0.E f_s_l16Subsums_M (asL (noL)) (S0.kl 47) 0 (bodyOf Try.f47 0) (f_s_l16Subsums_fr0 l1 g2 s) (done (S0.kl 47 0)) = f_s_l16Subsums_k0 l1 g2 s.1 s.2 (fun s => some (.norm, f_s_l16Subsums_fr0 l1 g2 s)) (fun e => some (f_s_l16Subsums_x0_1 l1 g2 e)) := by kernel_rfl
theorem f_s_l16Subsums_l0 (l1 : List Sc) (g2 : List Sc) : ∀ s r, loopL (f_s_l16Subsums_r0 l1 g2) s = some r → LP S0 47 0 (bodyOf Try.f47 0) (f_s_l16Subsums_fr0 l1 g2 s) = some (enX (f_s_l16Subsums_x0_1 l1 g2) (f_s_l16Subsums_x0_2 l1 g2) r) :=
  loop_true f_s_l16Subsums_Mt (noL_true) f_s_l16Subsums_o (fun _ h => by cases h) (fun _ h => by cases h) (fun s => (f_s_l16Subsums_e0 l1 g2 s).trans (f_s_l16Subsums_p0 l1 g2 s _ _ (fun e => some (f_s_l16Subsums_x0_2 l1 g2 e))))
def f_s_l16Subsums_t0 (σ : List AV) : Option (Bool × Bool × (X × List AV) × (X × List AV)) := match dec f_s_l16Subsums_h0 σ with
  | some [.l l1, .l g2, .i out5, .i i6] => some (isOne (loopL (f_s_l16Subsums_r0 l1 g2) (out5, i6)), true, f_s_l16Subsums_x0_1 l1 g2 (getOne 0 (loopL (f_s_l16Subsums_r0 l1 g2) (out5, i6))), (.ret, []))
  | _ => none
theorem f_s_l16Subsums_tt0 : TTrue S0 47 Try.f47 0 f_s_l16Subsums_t0 := by
  intro σ p r r' h
  unfold f_s_l16Subsums_t0 at h
  split at h
  · rename_i hd
    rw [← dec_enc hd]
    exact row1 (f_s_l16Subsums_l0 _ _ _) h
  · cases h
theorem f_s_l16Subsums_p {R : Type} (g0 : List Sc) (l1 : List Sc) (kR : Int → Option R) : f_s_l16Subsums_k g0 l1 kR = (f_s_l16Subsums g0 l1).bind kR := by
  simp only [f_s_l16Subsums_k, f_s_l16Subsums, bl1B, someB]
def f_s_l16Subsums_en (r : Int) : List AV := enc [.int .i64] [.i r]
theorem f_s_l16Subsums_e (g0 : List Sc) (l1 : List Sc) : runFn S0.E f_s_l16Subsums_M (asL (addL 0 f_s_l16Subsums_t0 (noL))) (S0.kl 47) Try.f47 (enc [.gr, .sl] [.l g0, .l l1]) = f_s_l16Subsums_k g0 l1 (fun r => some (f_s_l16Subsums_en r)) := by kernel_rfl
theorem f_s_l16Subsums_ok (g0 : List Sc) (l1 : List Sc) (r : Int) (h : f_s_l16Subsums g0 l1 = some r) : CL S0 47 (enc [.gr, .sl] [.l g0, .l l1]) = some (f_s_l16Subsums_en r) :=
  fn_true (Fk := fun k => f_s_l16Subsums_k g0 l1 k) (enc := f_s_l16Subsums_en) Try.func47 rfl f_s_l16Subsums_Mt (addL_true f_s_l16Subsums_tt0 (noL_true)) f_s_l16Subsums_o (f_s_l16Subsums_e g0 l1) (f_s_l16Subsums_p g0 l1) h
def f_s_l16Subsums_c (args : List AV) : Option (Bool × List AV) := match dec [.gr, .sl] args with
  | some [.l g0, .l l1] => some ((f_s_l16Subsums g0 l1).isSome, f_s_l16Subsums_en ((f_s_l16Subsums g0 l1).getD 0))
  | _ => none
theorem f_s_l16Subsums_cc : CTrue S0 47 f_s_l16Subsums_c := by
  intro args rs h
  unfold f_s_l16Subsums_c at h
  split at h
  · rename_i hd
    rw [← dec_enc hd]
    exact rowC (f_s_l16Subsums_ok _ _) h
  · cases h

def f_s_IsZeroFree_M : Calling := addC 39 f_s_IsSequence_c (addC 47 f_s_l16Subsums_c (noC))
theorem f_s_IsZeroFree_Mt : CallsTrue S0 f_s_IsZeroFree_M := addC_true f_s_IsSequence_cc (addC_true f_s_l16Subsums_cc (noC_true))
theorem f_s_IsZeroFree_o : loopsOnce Try.f24 = true := by kernel_rfl
theorem f_s_IsZeroFree_p {R : Type} (g0 : List Sc) (l1 : List Sc) (kR : Bool → Option R) : f_s_IsZeroFree_k g0 l1 kR = (f_s_IsZeroFree g0 l1).bind kR := by
  simp only [f_s_IsZeroFree_k, f_s_IsZeroFree, brB, boB, someB]
def f_s_IsZeroFree_en (r : Bool) : List AV := enc [.boo] [.b r]
theorem f_s_IsZeroFree_e (g0 : List Sc) (l1 : List Sc) : runFn S0.E f_s_IsZeroFree_M (asL (noL)) (S0.kl 24) Try.f24 (enc [.gr, .sl] [.l g0, .l l1]) = f_s_IsZeroFree_k g0 l1 (fun r => some (f_s_IsZeroFree_en r)) := by kernel_rfl
theorem f_s_IsZeroFree_ok (g0 : List Sc) (l1 : List Sc) (r : Bool) (h : f_s_IsZeroFree g0 l1 = some r) : CL S0 24 (enc [.gr, .sl] [.l g0, .l l1]) = some (f_s_IsZeroFree_en r) :=
  fn_true (Fk := fun k => f_s_IsZeroFree_k g0 l1 k) (enc := f_s_IsZeroFree_en) Try.func24 rfl f_s_IsZeroFree_Mt (noL_true) f_s_IsZeroFree_o (f_s_IsZeroFree_e g0 l1) (f_s_IsZeroFree_p g0 l1) h
def f_s_IsZeroFree_c (args : List AV) : Option (Bool × List AV) := match dec [.gr, .sl] args with
  | some [.l g0, .l l1] => some ((f_s_IsZeroFree g0 l1).isSome, f_s_IsZeroFree_en ((f_s_IsZeroFree g0 l1).getD false))
  | _ => none
theorem f_s_IsZeroFree_cc : CTrue S0 24 f_s_IsZeroFree_c := by
  intro args rs h
  unfold f_s_IsZeroFree_c at h
  split at h
  · rename_i hd
    rw [← dec_enc hd]
    exact rowC (f_s_IsZeroFree_ok _ _) h
  · cases h

def f_i_Group_subsums_M : Calling := addC 74 f_i_Group_shift_c (noC)
theorem f_i_Group_subsums_Mt : CallsTrue S0 f_i_Group_subsums_M := addC_true f_i_Group_shift_cc (noC_true)
theorem f_i_Group_subsums_o : loopsOnce Try.f49 = true := by kernel_rfl
def f_i_Group_subsums_h0 : List Sh := [.u, .u, .bp, .u, .u, .int .i64, .u, .u, .sl, .int .i64, .int .i64, .u, .u, .u, .u, .u, .u, .u, .u, .u, .u, .u, .u, .u, .u]
def f_i_Group_subsums_fr0 (g2 : List Sc) (t8 : List Sc) (t9 : Int) (s : Int × Int) : List AV := enc f_i_Group_subsums_h0 [.l g2, .i s.1, .l t8, .i t9, .i s.2]
def f_i_Group_subsums_g0_1 : List Sh := [.u, .u, .u, .u, .u, .int .i64, .u, .u, .u, .u, .u, .u, .u, .u, .u, .u, .u, .u, .u, .u, .u, .u, .u, .u, .u]
def f_i_Group_subsums_x0_1 (g2 : List Sc) (t8 : List Sc) (t9 : Int) (e : Int) : X × List AV := (.out 0, enc f_i_Group_subsums_g0_1 [.i e])
def f_i_Group_subsums_x0_2 (_ : List Sc) (_ : List Sc) (_ : Int) (_e : Unit) : X × List AV := (.ret, [])
theorem f_i_Group_subsums_p0 {R : Type} (g2 : List Sc) (t8 : List Sc) (t9 : Int) (s : Int × Int) (kN : Int × Int → Option R) (kA : Int → Option R) (kB : Unit → Option R) : f_i_Group_subsums_k0 g2 t8 t9 s.1 s.2 kN kA = (f_i_Group_subsums_r0 g2 t8 t9 s).bind (Ro.el kN kA kB) := by
  simp only [f_i_Group_subsums_k0, f_i_Group_subsums_r0, brB, boB, someB, noneB, Ro.el]
theorem f_i_Group_subsums_e0 (g2 : List Sc) (t8 : List Sc) (t9 : Int) (s : Int × Int) : EC S0.E f_i_Group_subsums_M (asL (noL)) (S0.kl 49) 0 (bodyOf Try.f49 0) (f_i_Group_subsums_fr0 g2 t8 t9 s) (done (S0.kl 49 0)) = f_i_Group_subsums_k0 g2 t8 t9 s.1 s.2 (fun s => some (.norm, f_i_Group_subsums_fr0 g2 t8 t9 s)) (fun e => some (f_i_Group_subsums_x0_1 g2 t8 t9 e)) := by kernel_rfl
theorem f_i_Group_subsums_l0 (g2 : List Sc) (t8 : List Sc) (t9 : Int) : ∀ s r, loopL (f_i_Group_subsums_r0 g2 t8 t9) s = some r → LP S0 49 0 (bodyOf Try.f49 0) (f_i_Group_subsums_fr0 g2 t8 t9 s) = some (enX (f_i_Group_subsums_x0_1 g2 t8 t9) (f_i_Group_subsums_x0_2 g2 t8 t9) r) :=
  loop_true f_i_Group_subsums_Mt (noL_true) f_i_Group_subsums_o (fun _ h => by cases h) (fun _ h => by cases h) (fun s => (f_i_Group_subsums_e0 g2 t8 t9 s).trans (f_i_Group_subsums_p0 g2 t8 t9 s _ _ (fun e => some (f_i_Group_subsums_x0_2 g2 t8 t9 e))))
def f_i_Group_subsums_t0 (σ : List AV) : Option (Bool × Bool × (X × List AV) × (X × List AV)) := match dec f_i_Group_subsums_h0 σ with
  | some [.l g2, .i out5, .l t8, .i t9, .i t10] => some (isOne (loopL (f_i_Group_subsums_r0 g2 t8 t9) (out5, t10)), true, f_i_Group_subsums_x0_1 g2 t8 t9 (getOne 0 (loopL (f_i_Group_subsums_r0 g2 t8 t9) (out5, t10))), (.ret, []))
  | _ => none
theorem f_i_Group_subsums_tt0 : TTrue S0 49 Try.f49 0 f_i_Group_subsums_t0 := by
  intro σ p r r' h
  unfold f_i_Group_subsums_t0 at h
  split at h
  · rename_i hd
    rw [← dec_enc hd]
    exact row1 (f_i_Group_subsums_l0 _ _ _ _) h
  · cases h
theorem f_i_Group_subsums_p {R : Type} (g0 : List Sc) (l1 : List Sc) (kR : Int → Option R) : f_i_Group_subsums_k g0 l1 kR = (f_i_Group_subsums g0 l1).bind kR := by
  simp only [f_i_Group_subsums_k, f_i_Group_subsums, bl1B, someB]
def f_i_Group_subsums_en (r : Int) : List AV := enc [.int .i64] [.i r]
theorem f_i_Group_subsums_e (g0 : List Sc) (l1 : List Sc) : runFn S0.E f_i_Group_subsums_M (asL (addL 0 f_i_Group_subsums_t0 (noL))) (S0.kl 49) Try.f49 (enc [.gr, .sl] [.l g0, .l l1]) = f_i_Group_subsums_k g0 l1 (fun r => some (f_i_Group_subsums_en r)) := by kernel_rfl
theorem f_i_Group_subsums_ok (g0 : List Sc) (l1 : List Sc) (r : Int) (h : f_i_Group_subsums g0 l1 = some r) : CL S0 49 (enc [.gr, .sl] [.l g0, .l l1]) = some (f_i_Group_subsums_en r) :=
  fn_true (Fk := fun k => f_i_Group_subsums_k g0 l1 k) (enc := f_i_Group_subsums_en) Try.func49 rfl f_i_Group_subsums_Mt (addL_true f_i_Group_subsums_tt0 (noL_true)) f_i_Group_subsums_o (f_i_Group_subsums_e g0 l1) (f_i_Group_subsums_p g0 l1) h
def f_i_Group_subsums_c (args : List AV) : Option (Bool × List AV) := match dec [.gr, .sl] args with
  | some [.l g0, .l l1] => some ((f_i_Group_subsums g0 l1).isSome, f_i_Group_subsums_en ((f_i_Group_subsums g0 l1).getD 0))
  | _ => none
theorem f_i_Group_subsums_cc : CTrue S0 49 f_i_Group_subsums_c := by
  intro args rs h
  unfold f_i_Group_subsums_c at h
  split at h
  · rename_i hd
    rw [← dec_enc hd]
    exact rowC (f_i_Group_subsums_ok _ _) h
  · cases h

def f_i_in_M : Calling := noC
theorem f_i_in_Mt : CallsTrue S0 f_i_in_M := noC_true
theorem f_i_in_o : loopsOnce Try.f48 = true := by kernel_rfl
theorem f_i_in_p {R : Type} (a0 : Int) (x1 : Int) (kR : Bool → Option R) : f_i_in_k a0 x1 kR = (f_i_in a0 x1).bind kR := by
  simp only [f_i_in_k, f_i_in, brB, someB, noneB]
def f_i_in_en (r : Bool) : List AV := enc [.boo] [.b r]
theorem f_i_in_e (a0 : Int) (x1 : Int) : runFn S0.E f_i_in_M (asL (noL)) (S0.kl 48) Try.f48 (enc [.int .i64, .int .i64] [.i a0, .i x1]) = f_i_in_k a0 x1 (fun r => some (f_i_in_en r)) := by kernel_rfl
theorem f_i_in_ok (a0 : Int) (x1 : Int) (r : Bool) (h : f_i_in a0 x1 = some r) : CL S0 48 (enc [.int .i64, .int .i64] [.i a0, .i x1]) = some (f_i_in_en r) :=
  fn_true (Fk := fun k => f_i_in_k a0 x1 k) (enc := f_i_in_en) Try.func48 rfl f_i_in_Mt (noL_true) f_i_in_o (f_i_in_e a0 x1) (f_i_in_p a0 x1) h
def f_i_in_c (args : List AV) : Option (Bool × List AV) := match dec [.int .i64, .int .i64] args with
  | some [.i a0, .i x1] => some ((f_i_in a0 x1).isSome, f_i_in_en ((f_i_in a0 x1).getD false))
  | _ => none
theorem f_i_in_cc : CTrue S0 48 f_i_in_c := by
  intro args rs h
  unfold f_i_in_c at h
  split at h
  · rename_i hd
    rw [← dec_enc hd]
    exact rowC (f_i_in_ok _ _) h
  · cases h

def f_i_IsZeroFree_M : Calling := addC 41 f_i_IsSequence_c (addC 49 f_i_Group_subsums_c (addC 48 f_i_in_c (noC)))
theorem f_i_IsZeroFree_Mt : CallsTrue S0 f_i_IsZeroFree_M := addC_true f_i_IsSequence_cc (addC_true f_i_Group_subsums_cc (addC_true f_i_in_cc (noC_true)))
theorem f_i_IsZeroFree_o : loopsOnce Try.f25 = true := by kernel_rfl
theorem f_i_IsZeroFree_p {R : Type} (g0 : List Sc) (l1 : List Sc) (kR : Bool → Option R) : f_i_IsZeroFree_k g0 l1 kR = (f_i_IsZeroFree g0 l1).bind kR := by
  simp only [f_i_IsZeroFree_k, f_i_IsZeroFree, brB, boB, someB]
def f_i_IsZeroFree_en (r : Bool) : List AV := enc [.boo] [.b r]
theorem f_i_IsZeroFree_e (g0 : List Sc) (l1 : List Sc) : runFn S0.E f_i_IsZeroFree_M (asL (noL)) (S0.kl 25) Try.f25 (enc [.gr, .sl] [.l g0, .l l1]) = f_i_IsZeroFree_k g0 l1 (fun r => some (f_i_IsZeroFree_en r)) := by kernel_rfl
theorem f_i_IsZeroFree_ok (g0 : List Sc) (l1 : List Sc) (r : Bool) (h : f_i_IsZeroFree g0 l1 = some r) : CL S0 25 (enc [.gr, .sl] [.l g0, .l l1]) = some (f_i_IsZeroFree_en r) :=
  fn_true (Fk := fun k => f_i_IsZeroFree_k g0 l1 k) (enc := f_i_IsZeroFree_en) Try.func25 rfl f_i_IsZeroFree_Mt (noL_true) f_i_IsZeroFree_o (f_i_IsZeroFree_e g0 l1) (f_i_IsZeroFree_p g0 l1) h
def f_i_IsZeroFree_c (args : List AV) : Option (Bool × List AV) := match dec [.gr, .sl] args with
  | some [.l g0, .l l1] => some ((f_i_IsZeroFree g0 l1).isSome, f_i_IsZeroFree_en ((f_i_IsZeroFree g0 l1).getD false))
  | _ => none
theorem f_i_IsZeroFree_cc : CTrue S0 25 f_i_IsZeroFree_c := by
  intro args rs h
  unfold f_i_IsZeroFree_c at h
  split at h
  · rename_i hd
    rw [← dec_enc hd]
    exact rowC (f_i_IsZeroFree_ok _ _) h
  · cases h

def f_l_FnExactIsZeroFree_M : Calling := addC 13 f_l_szGroup_c (addC 15 f_l_toGroup_c (addC 16 f_l_toIntS_c (addC 24 f_s_IsZeroFree_c (addC 25 f_i_IsZeroFree_c (addC 18 f_l_eqGroup_c (addC 19 f_l_eqIntS_c (noC)))))))
theorem f_l_FnExactIsZeroFree_Mt : CallsTrue S0 f_l_FnExactIsZeroFree_M := addC_true f_l_szGroup_cc (addC_true f_l_toGroup_cc (addC_true f_l_toIntS_cc (addC_true f_s_IsZeroFree_cc (addC_true f_i_IsZeroFree_cc (addC_true f_l_eqGroup_cc (addC_true f_l_eqIntS_cc (noC_true)))))))
theorem f_l_FnExactIsZeroFree_o : loopsOnce Try.f6 = true := by kernel_rfl
theorem f_l_FnExactIsZeroFree_p {R : Type} (aG0 : List Sc) (aL1 : List Sc) (kR : Bool → Option R) : f_l_FnExactIsZeroFree_k aG0 aL1 kR = (f_l_FnExactIsZeroFree aG0 aL1).bind kR := by
  simp only [f_l_FnExactIsZeroFree_k, f_l_FnExactIsZeroFree, brB, boB, someB, noneB]
def f_l_FnExactIsZeroFree_en (r : Bool) : List AV := enc [.boo] [.b r]
theorem f_l_FnExactIsZeroFree_e (aG0 : List Sc) (aL1 : List Sc) : runFn S0.E f_l_FnExactIsZeroFree_M (asL (noL)) (S0.kl 6) Try.f6 (enc [.gr, .sl] [.l aG0, .l aL1]) = f_l_FnExactIsZeroFree_k aG0 aL1 (fun r => some (f_l_FnExactIsZeroFree_en r)) := by kernel_rfl
theorem f_l_FnExactIsZeroFree_ok (aG0 : List Sc) (aL1 : List Sc) (r : Bool) (h : f_l_FnExactIsZeroFree aG0 aL1 = some r) : CL S0 6 (enc [.gr, .sl] [.l aG0, .l aL1]) = some (f_l_FnExactIsZeroFree_en r) :=
  fn_true (Fk := fun k => f_l_FnExactIsZeroFree_k aG0 aL1 k) (enc := f_l_FnExactIsZeroFree_en) Try.func6 rfl f_l_FnExactIsZeroFree_Mt (noL_true) f_l_FnExactIsZeroFree_o (f_l_FnExactIsZeroFree_e aG0 aL1) (f_l_FnExactIsZeroFree_p aG0 aL1) h
def f_l_FnExactIsZeroFree_c (args : List AV) : Option (Bool × List AV) := match dec [.gr, .sl] args with
  | some [.l aG0, .l aL1] => some ((f_l_FnExactIsZeroFree aG0 aL1).isSome, f_l_FnExactIsZeroFree_en ((f_l_FnExactIsZeroFree aG0 aL1).getD false))
  | _ => none
theorem f_l_FnExactIsZeroFree_cc : CTrue S0 6 f_l_FnExactIsZeroFree_c := by
  intro args rs h
  unfold f_l_FnExactIsZeroFree_c at h
  split at h
  · rename_i hd
    rw [← dec_enc hd]
    exact rowC (f_l_FnExactIsZeroFree_ok _ _) h
  · cases h

def f_s_l3Bits_M : Calling := noC
theorem f_s_l3Bits_Mt : CallsTrue S0 f_s_l3Bits_M := noC_true
theorem f_s_l3Bits_o : loopsOnce Try.f50 = true := by kernel_rfl
def f_s_l3Bits_h0 : List Sh := [.u, .u, .u, .int .i64, .int .i64, .u, .u, .u, .u, .u, .u, .u, .u, .u, .u]
def f_s_l3Bits_fr0 (s : Int × Int) : List AV := enc f_s_l3Bits_h0 [.i s.1, .i s.2]
def f_s_l3Bits_g0_1 : List Sh := [.u, .u, .u, .int .i64, .u, .u, .u, .u, .u, .u, .u, .u, .u, .u, .u]
def f_s_l3Bits_x0_1 (e : Int) : X × List AV := (.out 0, enc f_s_l3Bits_g0_1 [.i e])
def f_s_l3Bits_x0_2 (_e : Unit) : X × List AV := (.ret, [])
theorem f_s_l3Bits_p0 {R : Type} (s : Int × Int) (kN : Int × Int → Option R) (kA : Int → Option R) (kB : Unit → Option R) : f_s_l3Bits_k0 s.1 s.2 kN kA = (f_s_l3Bits_r0 s).bind (Ro.el kN kA kB) := by
  simp only [f_s_l3Bits_k0, f_s_l3Bits_r0, brB, someB, Ro.el]
theorem f_s_l3Bits_e0 (s : Int × Int) : EC S0.E f_s_l3Bits_M (asL (noL)) (S0.kl 50) 0 (bodyOf Try.f50 0) (f_s_l3Bits_fr0 s) (done (S0.kl 50 0)) = f_s_l3Bits_k0 s.1 s.2 (fun s => some (.norm, f_s_l3Bits_fr0 s)) (fun e => some (f_s_l3Bits_x0_1 e)) := by kernel_rfl
theorem f_s_l3Bits_l0 : ∀ s r, loopL (f_s_l3Bits_r0) s = some r → LP S0 50 0 (bodyOf Try.f50 0) (f_s_l3Bits_fr0 s) = some (enX (f_s_l3Bits_x0_1) (f_s_l3Bits_x0_2) r) :=
  loop_true f_s_l3Bits_Mt (noL_true) f_s_l3Bits_o (fun _ h => by cases h) (fun _ h => by cases h) (fun s => (f_s_l3Bits_e0 s).trans (f_s_l3Bits_p0 s _ _ (fun e => some (f_s_l3Bits_x0_2 e))))
def f_s_l3Bits_t0 (σ : List AV) : Option (Bool × Bool × (X × List AV) × (X × List AV)) := match dec f_s_l3Bits_h0 σ with
  | some [.i n3, .i x4] => some (isOne (loopL (f_s_l3Bits_r0) (n3, x4)), true, f_s_l3Bits_x0_1 (getOne 0 (loopL (f_s_l3Bits_r0) (n3, x4))), (.ret, []))
  | _ => none
theorem f_s_l3Bits_tt0 : TTrue S0 50 Try.f50 0 f_s_l3Bits_t0 := by
  intro σ p r r' h
  unfold f_s_l3Bits_t0 at h
  split at h
  · rename_i hd
    rw [← dec_enc hd]
    exact row1 (f_s_l3Bits_l0 _) h
  · cases h
theorem f_s_l3Bits_p {R : Type} (a0 : Int) (kR : Int → Option R) : f_s_l3Bits_k a0 kR = (f_s_l3Bits a0).bind kR := by
  simp only [f_s_l3Bits_k, f_s_l3Bits, bl1B, someB]
def f_s_l3Bits_en (r : Int) : List AV := enc [.int .i64] [.i r]
theorem f_s_l3Bits_e (a0 : Int) : runFn S0.E f_s_l3Bits_M (asL (addL 0 f_s_l3Bits_t0 (noL))) (S0.kl 50) Try.f50 (enc [.int .i64] [.i a0]) = f_s_l3Bits_k a0 (fun r => some (f_s_l3Bits_en r)) := by kernel_rfl
theorem f_s_l3Bits_ok (a0 : Int) (r : Int) (h : f_s_l3Bits a0 = some r) : CL S0 50 (enc [.int .i64] [.i a0]) = some (f_s_l3Bits_en r) :=
  fn_true (Fk := fun k => f_s_l3Bits_k a0 k) (enc := f_s_l3Bits_en) Try.func50 rfl f_s_l3Bits_Mt (addL_true f_s_l3Bits_tt0 (noL_true)) f_s_l3Bits_o (f_s_l3Bits_e a0) (f_s_l3Bits_p a0) h
def f_s_l3Bits_c (args : List AV) : Option (Bool × List AV) := match dec [.int .i64] args with
  | some [.i a0] => some ((f_s_l3Bits a0).isSome, f_s_l3Bits_en ((f_s_l3Bits a0).getD 0))
  | _ => none
theorem f_s_l3Bits_cc : CTrue S0 50 f_s_l3Bits_c := by
  intro args rs h
  unfold f_s_l3Bits_c at h
  split at h
  · rename_i hd
    rw [← dec_enc hd]
    exact rowC (f_s_l3Bits_ok _) h
  · cases h

def f_s_IsDirect_M : Calling := addC 43 f_s_IsSet_c (addC 51 f_s_l4Sum_c (addC 50 f_s_l3Bits_c (noC)))
theorem f_s_IsDirect_Mt : CallsTrue S0 f_s_IsDirect_M := addC_true f_s_IsSet_cc (addC_true f_s_l4Sum_cc (addC_true f_s_l3Bits_cc (noC_true)))
theorem f_s_IsDirect_o : loopsOnce Try.f26 = true := by kernel_rfl
theorem f_s_IsDirect_p {R : Type} (g0 : List Sc) (a1 : Int) (b2 : Int) (kR : Bool → Option R) : f_s_IsDirect_k g0 a1 b2 kR = (f_s_IsDirect g0 a1 b2).bind kR := by
  simp only [f_s_IsDirect_k, f_s_IsDirect, brB, boB, someB]
def f_s_IsDirect_en (r : Bool) : List AV := enc [.boo] [.b r]
theorem f_s_IsDirect_e (g0 : List Sc) (a1 : Int) (b2 : Int) : runFn S0.E f_s_IsDirect_M (asL (noL)) (S0.kl 26) Try.f26 (enc [.gr, .int .i64, .int .i64] [.l g0, .i a1, .i b2]) = f_s_IsDirect_k g0 a1 b2 (fun r => some (f_s_IsDirect_en r)) := by kernel_rfl
theorem f_s_IsDirect_ok (g0 : List Sc) (a1 : Int) (b2 : Int) (r : Bool) (h : f_s_IsDirect g0 a1 b2 = some r) : CL S0 26 (enc [.gr, .int .i64, .int .i64] [.l g0, .i a1, .i b2]) = some (f_s_IsDirect_en r) :=
  fn_true (Fk := fun k => f_s_IsDirect_k g0 a1 b2 k) (enc := f_s_IsDirect_en) Try.func26 rfl f_s_IsDirect_Mt (noL_true) f_s_IsDirect_o (f_s_IsDirect_e g0 a1 b2) (f_s_IsDirect_p g0 a1 b2) h
def f_s_IsDirect_c (args : List AV) : Option (Bool × List AV) := match dec [.gr, .int .i64, .int .i64] args with
  | some [.l g0, .i a1, .i b2] => some ((f_s_IsDirect g0 a1 b2).isSome, f_s_IsDirect_en ((f_s_IsDirect g0 a1 b2).getD false))
  | _ => none
theorem f_s_IsDirect_cc : CTrue S0 26 f_s_IsDirect_c := by
  intro args rs h
  unfold f_s_IsDirect_c at h
  split at h
  · rename_i hd
    rw [← dec_enc hd]
    exact rowC (f_s_IsDirect_ok _ _ _) h
  · cases h

def f_i_areSets_M : Calling := addC 45 f_i_IsSet_c (addC 69 f_i_IsGroup_c (noC))
theorem f_i_areSets_Mt : CallsTrue S0 f_i_areSets_M := addC_true f_i_IsSet_cc (addC_true f_i_IsGroup_cc (noC_true))
theorem f_i_areSets_o : loopsOnce Try.f52 = true := by kernel_rfl
def f_i_areSets_h0 : List Sh := [.u, .u, .bp, .u, .u, .u, .u, .sl, .int .i64, .int .i64, .u, .u, .u, .u, .u, .u, .u, .u, .u, .u]
def f_i_areSets_fr0 (g2 : List Sc) (t7 : List Sc) (t8 : Int) (s : Int) : List AV := enc f_i_areSets_h0 [.l g2, .l t7, .i t8, .i s]
def f_i_areSets_g0_1 : List Sh := [.u, .u, .bp, .u, .u, .u, .u, .u, .u, .u, .u, .u, .u, .u, .u, .u, .u, .u, .u, .u]
def f_i_areSets_x0_1 (g2 : List Sc) (t7 : List Sc) (t8 : Int) (e : Unit) : X × List AV := (.out 0, enc f_i_areSets_g0_1 [.l g2])
def f_i_areSets_g0_2 : List Sh := [.u, .u, .u, .u, .boo, .u, .u, .u, .u, .u, .u, .u, .u, .u, .u, .u, .u, .u, .u, .u]
def f_i_areSets_x0_2 (g2 : List Sc) (t7 : List Sc) (t8 : Int) (e : Unit) : X × List AV := (.ret, enc f_i_areSets_g0_2 [.b false])
theorem f_i_areSets_p0 {R : Type} (g2 : List Sc) (t7 : List Sc) (t8 : Int) (s : Int) (kN : Int → Option R) (kA : Unit → Option R) (kB : Unit → Option R) : f_i_areSets_k0 g2 t7 t8 s kN kA kB = (f_i_areSets_r0 g2 t7 t8 s).bind (Ro.el kN kA kB) := by
  simp only [f_i_areSets_k0, f_i_areSets_r0, brB, boB, someB, noneB, Ro.el]
theorem f_i_areSets_e0 (g2 : List Sc) (t7 : List Sc) (t8 : Int) (s : Int) : EC S0.E f_i_areSets_M (asL (noL)) (S0.kl 52) 0 (bodyOf Try.f52 0) (f_i_areSets_fr0 g2 t7 t8 s) (done (S0.kl 52 0)) = f_i_areSets_k0 g2 t7 t8 s (fun s => some (.norm, f_i_areSets_fr0 g2 t7 t8 s)) (fun e => some (f_i_areSets_x0_1 g2 t7 t8 e)) (fun e => some (f_i_areSets_x0_2 g2 t7 t8 e)) := by kernel_rfl
theorem f_i_areSets_l0 (g2 : List Sc) (t7 : List Sc) (t8 : Int) : ∀ s r, loopL (f_i_areSets_r0 g2 t7 t8) s = some r → LP S0 52 0 (bodyOf Try.f52 0) (f_i_areSets_fr0 g2 t7 t8 s) = some (enX (f_i_areSets_x0_1 g2 t7 t8) (f_i_areSets_x0_2 g2 t7 t8) r) :=
  loop_true f_i_areSets_Mt (noL_true) f_i_areSets_o (fun _ h => by cases h) (fun _ h => by cases h) (fun s => (f_i_areSets_e0 g2 t7 t8 s).trans (f_i_areSets_p0 g2 t7 t8 s _ _ (fun e => some (f_i_areSets_x0_2 g2 t7 t8 e))))
def f_i_areSets_t0 (σ : List AV) : Option (Bool × Bool × (X × List AV) × (X × List AV)) := match dec f_i_areSets_h0 σ with
  | some [.l g2, .l t7, .i t8, .i t9] => some ((loopL (f_i_areSets_r0 g2 t7 t8) t9).isSome, isOne (loopL (f_i_areSets_r0 g2 t7 t8) t9), f_i_areSets_x0_1 g2 t7 t8 (getOne () (loopL (f_i_areSets_r0 g2 t7 t8) t9)), f_i_areSets_x0_2 g2 t7 t8 (getTwo () (loopL (f_i_areSets_r0 g2 t7 t8) t9)))
  | _ => none
theorem f_i_areSets_tt0 : TTrue S0 52 Try.f52 0 f_i_areSets_t0 := by
  intro σ p r r' h
  unfold f_i_areSets_t0 at h
  split at h
  · rename_i hd
    rw [← dec_enc hd]
    exact row2 (f_i_areSets_l0 _ _ _ _) h
  · cases h
theorem f_i_areSets_p {R : Type} (g0 : List Sc) (l1 : List Sc) (kR : Bool → Option R) : f_i_areSets_k g0 l1 kR = (f_i_areSets g0 l1).bind kR := by
  simp only [f_i_areSets_k, f_i_areSets, boB, blB, someB]
def f_i_areSets_en (r : Bool) : List AV := enc [.boo] [.b r]
theorem f_i_areSets_e (g0 : List Sc) (l1 : List Sc) : runFn S0.E f_i_areSets_M (asL (addL 0 f_i_areSets_t0 (noL))) (S0.kl 52) Try.f52 (enc [.gr, .sl] [.l g0, .l l1]) = f_i_areSets_k g0 l1 (fun r => some (f_i_areSets_en r)) := by kernel_rfl
theorem f_i_areSets_ok (g0 : List Sc) (l1 : List Sc) (r : Bool) (h : f_i_areSets g0 l1 = some r) : CL S0 52 (enc [.gr, .sl] [.l g0, .l l1]) = some (f_i_areSets_en r) :=
  fn_true (Fk := fun k => f_i_areSets_k g0 l1 k) (enc := f_i_areSets_en) Try.func52 rfl f_i_areSets_Mt (addL_true f_i_areSets_tt0 (noL_true)) f_i_areSets_o (f_i_areSets_e g0 l1) (f_i_areSets_p g0 l1) h
def f_i_areSets_c (args : List AV) : Option (Bool × List AV) := match dec [.gr, .sl] args with
  | some [.l g0, .l l1] => some ((f_i_areSets g0 l1).isSome, f_i_areSets_en ((f_i_areSets g0 l1).getD false))
  | _ => none
theorem f_i_areSets_cc : CTrue S0 52 f_i_areSets_c := by
  intro args rs h
  unfold f_i_areSets_c at h
  split at h
  · rename_i hd
    rw [← dec_enc hd]
    exact rowC (f_i_areSets_ok _ _) h
  · cases h

def f_i_bits_M : Calling := noC
theorem f_i_bits_Mt : CallsTrue S0 f_i_bits_M := noC_true
theorem f_i_bits_o : loopsOnce Try.f53 = true := by kernel_rfl
def f_i_bits_h0 : List Sh := [.int .i64, .u, .u, .int .i64, .u, .u, .u, .u, .u, .u, .u, .u, .u]
def f_i_bits_fr0 (s : Int × Int) : List AV := enc f_i_bits_h0 [.i s.1, .i s.2]
def f_i_bits_g0_1 : List Sh := [.u, .u, .u, .int .i64, .u, .u, .u, .u, .u, .u, .u, .u, .u]
def f_i_bits_x0_1 (e : Int) : X × List AV := (.out 0, enc f_i_bits_g0_1 [.i e])
def f_i_bits_x0_2 (_e : Unit) : X × List AV := (.ret, [])
theorem f_i_bits_p0 {R : Type} (s : Int × Int) (kN : Int × Int → Option R) (kA : Int → Option R) (kB : Unit → Option R) : f_i_bits_k0 s.1 s.2 kN kA = (f_i_bits_r0 s).bind (Ro.el kN kA kB) := by
  simp only [f_i_bits_k0, f_i_bits_r0, brB, someB, Ro.el]
theorem f_i_bits_e0 (s : Int × Int) : EC S0.E f_i_bits_M (asL (noL)) (S0.kl 53) 0 (bodyOf Try.f53 0) (f_i_bits_fr0 s) (done (S0.kl 53 0)) = f_i_bits_k0 s.1 s.2 (fun s => some (.norm, f_i_bits_fr0 s)) (fun e => some (f_i_bits_x0_1 e)) := by kernel_rfl
theorem f_i_bits_l0 : ∀ s r, loopL (f_i_bits_r0) s = some r → LP S0 53 0 (bodyOf Try.f53 0) (f_i_bits_fr0 s) = some (enX (f_i_bits_x0_1) (f_i_bits_x0_2) r) :=
  loop_true f_i_bits_Mt (noL_true) f_i_bits_o (fun _ h => by cases h) (fun _ h => by cases h) (fun s => (f_i_bits_e0 s).trans (f_i_bits_p0 s _ _ (fun e => some (f_i_bits_x0_2 e))))
def f_i_bits_t0 (σ : List AV) : Option (Bool × Bool × (X × List AV) × (X × List AV)) := match dec f_i_bits_h0 σ with
  | some [.i a0, .i n3] => some (isOne (loopL (f_i_bits_r0) (a0, n3)), true, f_i_bits_x0_1 (getOne 0 (loopL (f_i_bits_r0) (a0, n3))), (.ret, []))
  | _ => none
theorem f_i_bits_tt0 : TTrue S0 53 Try.f53 0 f_i_bits_t0 := by
  intro σ p r r' h
  unfold f_i_bits_t0 at h
  split at h
  · rename_i hd
    rw [← dec_enc hd]
    exact row1 (f_i_bits_l0 _) h
  · cases h
theorem f_i_bits_p {R : Type} (a0 : Int) (kR : Int → Option R) : f_i_bits_k a0 kR = (f_i_bits a0).bind kR := by
  simp only [f_i_bits_k, f_i_bits, bl1B, someB]
def f_i_bits_en (r : Int) : List AV := enc [.int .i64] [.i r]
theorem f_i_bits_e (a0 : Int) : runFn S0.E f_i_bits_M (asL (addL 0 f_i_bits_t0 (noL))) (S0.kl 53) Try.f53 (enc [.int .i64] [.i a0]) = f_i_bits_k a0 (fun r => some (f_i_bits_en r)) := by kernel_rfl
theorem f_i_bits_ok (a0 : Int) (r : Int) (h : f_i_bits a0 = some r) : CL S0 53 (enc [.int .i64] [.i a0]) = some (f_i_bits_en r) :=
  fn_true (Fk := fun k => f_i_bits_k a0 k) (enc := f_i_bits_en) Try.func53 rfl f_i_bits_Mt (addL_true f_i_bits_tt0 (noL_true)) f_i_bits_o (f_i_bits_e a0) (f_i_bits_p a0) h
def f_i_bits_c (args : List AV) : Option (Bool × List AV) := match dec [.int .i64] args with
  | some [.i a0] => some ((f_i_bits a0).isSome, f_i_bits_en ((f_i_bits a0).getD 0))
  | _ => none
theorem f_i_bits_cc : CTrue S0 53 f_i_bits_c := by
  intro args rs h
  unfold f_i_bits_c at h
  split at h
  · rename_i hd
    rw [← dec_enc hd]
    exact rowC (f_i_bits_ok _) h
  · cases h

def f_i_IsDirect_M : Calling := addC 52 f_i_areSets_c (addC 46 f_i_Group_sum_c (addC 53 f_i_bits_c (noC)))
theorem f_i_IsDirect_Mt : CallsTrue S0 f_i_IsDirect_M := addC_true f_i_areSets_cc (addC_true f_i_Group_sum_cc (addC_true f_i_bits_cc (noC_true)))
theorem f_i_IsDirect_o : loopsOnce Try.f27 = true := by kernel_rfl
theorem f_i_IsDirect_p {R : Type} (g0 : List Sc) (a1 : Int) (b2 : Int) (kR : Bool → Option R) : f_i_IsDirect_k g0 a1 b2 kR = (f_i_IsDirect g0 a1 b2).bind kR := by
  simp only [f_i_IsDirect_k, f_i_IsDirect, brB, boB, someB]
def f_i_IsDirect_en (r : Bool) : List AV := enc [.boo] [.b r]
theorem f_i_IsDirect_e (g0 : List Sc) (a1 : Int) (b2 : Int) : runFn S0.E f_i_IsDirect_M (asL (noL)) (S0.kl 27) Try.f27 (enc [.gr, .int .i64, .int .i64] [.l g0, .i a1, .i b2]) = f_i_IsDirect_k g0 a1 b2 (fun r => some (f_i_IsDirect_en r)) := by kernel_rfl
theorem f_i_IsDirect_ok (g0 : List Sc) (a1 : Int) (b2 : Int) (r : Bool) (h : f_i_IsDirect g0 a1 b2 = some r) : CL S0 27 (enc [.gr, .int .i64, .int .i64] [.l g0, .i a1, .i b2]) = some (f_i_IsDirect_en r) :=
  fn_true (Fk := fun k => f_i_IsDirect_k g0 a1 b2 k) (enc := f_i_IsDirect_en) Try.func27 rfl f_i_IsDirect_Mt (noL_true) f_i_IsDirect_o (f_i_IsDirect_e g0 a1 b2) (f_i_IsDirect_p g0 a1 b2) h
def f_i_IsDirect_c (args : List AV) : Option (Bool × List AV) := match dec [.gr, .int .i64, .int .i64] args with
  | some [.l g0, .i a1, .i b2] => some ((f_i_IsDirect g0 a1 b2).isSome, f_i_IsDirect_en ((f_i_IsDirect g0 a1 b2).getD false))
  | _ => none
theorem f_i_IsDirect_cc : CTrue S0 27 f_i_IsDirect_c := by
  intro args rs h
  unfold f_i_IsDirect_c at h
  split at h
  · rename_i hd
    rw [← dec_enc hd]
    exact rowC (f_i_IsDirect_ok _ _ _) h
  · cases h

def f_l_FnExactIsDirect_M : Calling := addC 13 f_l_szGroup_c (addC 15 f_l_toGroup_c (addC 26 f_s_IsDirect_c (addC 27 f_i_IsDirect_c (addC 18 f_l_eqGroup_c (noC)))))
theorem f_l_FnExactIsDirect_Mt : CallsTrue S0 f_l_FnExactIsDirect_M := addC_true f_l_szGroup_cc (addC_true f_l_toGroup_cc (addC_true f_s_IsDirect_cc (addC_true f_i_IsDirect_cc (addC_true f_l_eqGroup_cc (noC_true)))))
theorem f_l_FnExactIsDirect_o : loopsOnce Try.f7 = true := by kernel_rfl
theorem f_l_FnExactIsDirect_p {R : Type} (aG0 : List Sc) (aA1 : Int) (aB2 : Int) (kR : Bool → Option R) : f_l_FnExactIsDirect_k aG0 aA1 aB2 kR = (f_l_FnExactIsDirect aG0 aA1 aB2).bind kR := by
  simp only [f_l_FnExactIsDirect_k, f_l_FnExactIsDirect, brB, boB, someB, noneB]
def f_l_FnExactIsDirect_en (r : Bool) : List AV := enc [.boo] [.b r]
theorem f_l_FnExactIsDirect_e (aG0 : List Sc) (aA1 : Int) (aB2 : Int) : runFn S0.E f_l_FnExactIsDirect_M (asL (noL)) (S0.kl 7) Try.f7 (enc [.gr, .int .i64, .int .i64] [.l aG0, .i aA1, .i aB2]) = f_l_FnExactIsDirect_k aG0 aA1 aB2 (fun r => some (f_l_FnExactIsDirect_en r)) := by kernel_rfl
theorem f_l_FnExactIsDirect_ok (aG0 : List Sc) (aA1 : Int) (aB2 : Int) (r : Bool) (h : f_l_FnExactIsDirect aG0 aA1 aB2 = some r) : CL S0 7 (enc [.gr, .int .i64, .int .i64] [.l aG0, .i aA1, .i aB2]) = some (f_l_FnExactIsDirect_en r) :=
  fn_true (Fk := fun k => f_l_FnExactIsDirect_k aG0 aA1 aB2 k) (enc := f_l_FnExactIsDirect_en) Try.func7 rfl f_l_FnExactIsDirect_Mt (noL_true) f_l_FnExactIsDirect_o (f_l_FnExactIsDirect_e aG0 aA1 aB2) (f_l_FnExactIsDirect_p aG0 aA1 aB2) h
def f_l_FnExactIsDirect_c (args : List AV) : Option (Bool × List AV) := match dec [.gr, .int .i64, .int .i64] args with
  | some [.l aG0, .i aA1, .i aB2] => some ((f_l_FnExactIsDirect aG0 aA1 aB2).isSome, f_l_FnExactIsDirect_en ((f_l_FnExactIsDirect aG0 aA1 aB2).getD false))
  | _ => none
theorem f_l_FnExactIsDirect_cc : CTrue S0 7 f_l_FnExactIsDirect_c := by
  intro args rs h
  unfold f_l_FnExactIsDirect_c at h
  split at h
  · rename_i hd
    rw [← dec_enc hd]
    exact rowC (f_l_FnExactIsDirect_ok _ _ _) h
  · cases h

def f_s_IsTiling_M : Calling := addC 26 f_s_IsDirect_c (addC 51 f_s_l4Sum_c (addC 54 f_s_l2Order_c (noC)))
theorem f_s_IsTiling_Mt : CallsTrue S0 f_s_IsTiling_M := addC_true f_s_IsDirect_cc (addC_true f_s_l4Sum_cc (addC_true f_s_l2Order_cc (noC_true)))
theorem f_s_IsTiling_o : loopsOnce Try.f28 = true := by kernel_rfl
theorem f_s_IsTiling_p {R : Type} (g0 : List Sc) (a1 : Int) (b2 : Int) (kR : Bool → Option R) : f_s_IsTiling_k g0 a1 b2 kR = (f_s_IsTiling g0 a1 b2).bind kR := by
  simp only [f_s_IsTiling_k, f_s_IsTiling, brB, boB, someB, noneB]
def f_s_IsTiling_en (r : Bool) : List AV := enc [.boo] [.b r]
theorem f_s_IsTiling_e (g0 : List Sc) (a1 : Int) (b2 : Int) : runFn S0.E f_s_IsTiling_M (asL (noL)) (S0.kl 28) Try.f28 (enc [.gr, .int .i64, .int .i64] [.l g0, .i a1, .i b2]) = f_s_IsTiling_k g0 a1 b2 (fun r => some (f_s_IsTiling_en r)) := by kernel_rfl
theorem f_s_IsTiling_ok (g0 : List Sc) (a1 : Int) (b2 : Int) (r : Bool) (h : f_s_IsTiling g0 a1 b2 = some r) : CL S0 28 (enc [.gr, .int .i64, .int .i64] [.l g0, .i a1, .i b2]) = some (f_s_IsTiling_en r) :=
  fn_true (Fk := fun k => f_s_IsTiling_k g0 a1 b2 k) (enc := f_s_IsTiling_en) Try.func28 rfl f_s_IsTiling_Mt (noL_true) f_s_IsTiling_o (f_s_IsTiling_e g0 a1 b2) (f_s_IsTiling_p g0 a1 b2) h
def f_s_IsTiling_c (args : List AV) : Option (Bool × List AV) := match dec [.gr, .int .i64, .int .i64] args with
  | some [.l g0, .i a1, .i b2] => some ((f_s_IsTiling g0 a1 b2).isSome, f_s_IsTiling_en ((f_s_IsTiling g0 a1 b2).getD false))
  | _ => none
theorem f_s_IsTiling_cc : CTrue S0 28 f_s_IsTiling_c := by
  intro args rs h
  unfold f_s_IsTiling_c at h
  split at h
  · rename_i hd
    rw [← dec_enc hd]
    exact rowC (f_s_IsTiling_ok _ _ _) h
  · cases h

def f_i_FullSet_M : Calling := addC 69 f_i_IsGroup_c (addC 72 f_i_OrderOf_c (noC))
theorem f_i_FullSet_Mt : CallsTrue S0 f_i_FullSet_M := addC_true f_i_IsGroup_cc (addC_true f_i_OrderOf_cc (noC_true))
theorem f_i_FullSet_o : loopsOnce Try.f55 = true := by kernel_rfl
theorem f_i_FullSet_p {R : Type} (g0 : List Sc) (kR : Int → Option R) : f_i_FullSet_k g0 kR = (f_i_FullSet g0).bind kR := by
  simp only [f_i_FullSet_k, f_i_FullSet, brB, boB, someB, noneB]
def f_i_FullSet_en (r : Int) : List AV := enc [.int .i64] [.i r]
theorem f_i_FullSet_e (g0 : List Sc) : runFn S0.E f_i_FullSet_M (asL (noL)) (S0.kl 55) Try.f55 (enc [.gr] [.l g0]) = f_i_FullSet_k g0 (fun r => some (f_i_FullSet_en r)) := by kernel_rfl
theorem f_i_FullSet_ok (g0 : List Sc) (r : Int) (h : f_i_FullSet g0 = some r) : CL S0 55 (enc [.gr] [.l g0]) = some (f_i_FullSet_en r) :=
  fn_true (Fk := fun k => f_i_FullSet_k g0 k) (enc := f_i_FullSet_en) Try.func55 rfl f_i_FullSet_Mt (noL_true) f_i_FullSet_o (f_i_FullSet_e g0) (f_i_FullSet_p g0) h
def f_i_FullSet_c (args : List AV) : Option (Bool × List AV) := match dec [.gr] args with
  | some [.l g0] => some ((f_i_FullSet g0).isSome, f_i_FullSet_en ((f_i_FullSet g0).getD 0))
  | _ => none
theorem f_i_FullSet_cc : CTrue S0 55 f_i_FullSet_c := by
  intro args rs h
  unfold f_i_FullSet_c at h
  split at h
  · rename_i hd
    rw [← dec_enc hd]
    exact rowC (f_i_FullSet_ok _) h
  · cases h

def f_i_IsTiling_M : Calling := addC 27 f_i_IsDirect_c (addC 46 f_i_Group_sum_c (addC 55 f_i_FullSet_c (noC)))
theorem f_i_IsTiling_Mt : CallsTrue S0 f_i_IsTiling_M := addC_true f_i_IsDirect_cc (addC_true f_i_Group_sum_cc (addC_true f_i_FullSet_cc (noC_true)))
theorem f_i_IsTiling_o : loopsOnce Try.f29 = true := by kernel_rfl
theorem f_i_IsTiling_p {R : Type} (g0 : List Sc) (a1 : Int) (b2 : Int) (kR : Bool → Option R) : f_i_IsTiling_k g0 a1 b2 kR = (f_i_IsTiling g0 a1 b2).bind kR := by
  simp only [f_i_IsTiling_k, f_i_IsTiling, brB, boB, someB]
def f_i_IsTiling_en (r : Bool) : List AV := enc [.boo] [.b r]
theorem f_i_IsTiling_e (g0 : List Sc) (a1 : Int) (b2 : Int) : runFn S0.E f_i_IsTiling_M (asL (noL)) (S0.kl 29) Try.f29 (enc [.gr, .int .i64, .int .i64] [.l g0, .i a1, .i b2]) = f_i_IsTiling_k g0 a1 b2 (fun r => some (f_i_IsTiling_en r)) := by kernel_rfl
theorem f_i_IsTiling_ok (g0 : List Sc) (a1 : Int) (b2 : Int) (r : Bool) (h : f_i_IsTiling g0 a1 b2 = some r) : CL S0 29 (enc [.gr, .int .i64, .int .i64] [.l g0, .i a1, .i b2]) = some (f_i_IsTiling_en r) :=
  fn_true (Fk := fun k => f_i_IsTiling_k g0 a1 b2 k) (enc := f_i_IsTiling_en) Try.func29 rfl f_i_IsTiling_Mt (noL_true) f_i_IsTiling_o (f_i_IsTiling_e g0 a1 b2) (f_i_IsTiling_p g0 a1 b2) h
def f_i_IsTiling_c (args : List AV) : Option (Bool × List AV) := match dec [.gr, .int .i64, .int .i64] args with
  | some [.l g0, .i a1, .i b2] => some ((f_i_IsTiling g0 a1 b2).isSome, f_i_IsTiling_en ((f_i_IsTiling g0 a1 b2).getD false))
  | _ => none
theorem f_i_IsTiling_cc : CTrue S0 29 f_i_IsTiling_c := by
  intro args rs h
  unfold f_i_IsTiling_c at h
  split at h
  · rename_i hd
    rw [← dec_enc hd]
    exact rowC (f_i_IsTiling_ok _ _ _) h
  · cases h

def f_l_FnExactIsTiling_M : Calling := addC 13 f_l_szGroup_c (addC 15 f_l_toGroup_c (addC 28 f_s_IsTiling_c (addC 29 f_i_IsTiling_c (addC 18 f_l_eqGroup_c (noC)))))
theorem f_l_FnExactIsTiling_Mt : CallsTrue S0 f_l_FnExactIsTiling_M := addC_true f_l_szGroup_cc (addC_true f_l_toGroup_cc (addC_true f_s_IsTiling_cc (addC_true f_i_IsTiling_cc (addC_true f_l_eqGroup_cc (noC_true)))))
theorem f_l_FnExactIsTiling_o : loopsOnce Try.f8 = true := by kernel_rfl
theorem f_l_FnExactIsTiling_p {R : Type} (aG0 : List Sc) (aA1 : Int) (aB2 : Int) (kR : Bool → Option R) : f_l_FnExactIsTiling_k aG0 aA1 aB2 kR = (f_l_FnExactIsTiling aG0 aA1 aB2).bind kR := by
  simp only [f_l_FnExactIsTiling_k, f_l_FnExactIsTiling, brB, boB, someB, noneB]
def f_l_FnExactIsTiling_en (r : Bool) : List AV := enc [.boo] [.b r]
theorem f_l_FnExactIsTiling_e (aG0 : List Sc) (aA1 : Int) (aB2 : Int) : runFn S0.E f_l_FnExactIsTiling_M (asL (noL)) (S0.kl 8) Try.f8 (enc [.gr, .int .i64, .int .i64] [.l aG0, .i aA1, .i aB2]) = f_l_FnExactIsTiling_k aG0 aA1 aB2 (fun r => some (f_l_FnExactIsTiling_en r)) := by kernel_rfl
theorem f_l_FnExactIsTiling_ok (aG0 : List Sc) (aA1 : Int) (aB2 : Int) (r : Bool) (h : f_l_FnExactIsTiling aG0 aA1 aB2 = some r) : CL S0 8 (enc [.gr, .int .i64, .int .i64] [.l aG0, .i aA1, .i aB2]) = some (f_l_FnExactIsTiling_en r) :=
  fn_true (Fk := fun k => f_l_FnExactIsTiling_k aG0 aA1 aB2 k) (enc := f_l_FnExactIsTiling_en) Try.func8 rfl f_l_FnExactIsTiling_Mt (noL_true) f_l_FnExactIsTiling_o (f_l_FnExactIsTiling_e aG0 aA1 aB2) (f_l_FnExactIsTiling_p aG0 aA1 aB2) h
def f_l_FnExactIsTiling_c (args : List AV) : Option (Bool × List AV) := match dec [.gr, .int .i64, .int .i64] args with
  | some [.l aG0, .i aA1, .i aB2] => some ((f_l_FnExactIsTiling aG0 aA1 aB2).isSome, f_l_FnExactIsTiling_en ((f_l_FnExactIsTiling aG0 aA1 aB2).getD false))
  | _ => none
theorem f_l_FnExactIsTiling_cc : CTrue S0 8 f_l_FnExactIsTiling_c := by
  intro args rs h
  unfold f_l_FnExactIsTiling_c at h
  split at h
  · rename_i hd
    rw [← dec_enc hd]
    exact rowC (f_l_FnExactIsTiling_ok _ _ _) h
  · cases h

def f_s_SubsumsOf_M : Calling := addC 39 f_s_IsSequence_c (addC 47 f_s_l16Subsums_c (noC))
theorem f_s_SubsumsOf_Mt : CallsTrue S0 f_s_SubsumsOf_M := addC_true f_s_IsSequence_cc (addC_true f_s_l16Subsums_cc (noC_true))
theorem f_s_SubsumsOf_o : loopsOnce Try.f30 = true := by kernel_rfl
theorem f_s_SubsumsOf_p {R : Type} (g0 : List Sc) (l1 : List Sc) (kR : Int → Option R) : f_s_SubsumsOf_k g0 l1 kR = (f_s_SubsumsOf g0 l1).bind kR := by
  simp only [f_s_SubsumsOf_k, f_s_SubsumsOf, brB, boB, someB]
def f_s_SubsumsOf_en (r : Int) : List AV := enc [.int .i64] [.i r]
theorem f_s_SubsumsOf_e (g0 : List Sc) (l1 : List Sc) : runFn S0.E f_s_SubsumsOf_M (asL (noL)) (S0.kl 30) Try.f30 (enc [.gr, .sl] [.l g0, .l l1]) = f_s_SubsumsOf_k g0 l1 (fun r => some (f_s_SubsumsOf_en r)) := by kernel_rfl
theorem f_s_SubsumsOf_ok (g0 : List Sc) (l1 : List Sc) (r : Int) (h : f_s_SubsumsOf g0 l1 = some r) : CL S0 30 (enc [.gr, .sl] [.l g0, .l l1]) = some (f_s_SubsumsOf_en r) :=
  fn_true (Fk := fun k => f_s_SubsumsOf_k g0 l1 k) (enc := f_s_SubsumsOf_en) Try.func30 rfl f_s_SubsumsOf_Mt (noL_true) f_s_SubsumsOf_o (f_s_SubsumsOf_e g0 l1) (f_s_SubsumsOf_p g0 l1) h
def f_s_SubsumsOf_c (args : List AV) : Option (Bool × List AV) := match dec [.gr, .sl] args with
  | some [.l g0, .l l1] => some ((f_s_SubsumsOf g0 l1).isSome, f_s_SubsumsOf_en ((f_s_SubsumsOf g0 l1).getD 0))
  | _ => none
theorem f_s_SubsumsOf_cc : CTrue S0 30 f_s_SubsumsOf_c := by
  intro args rs h
  unfold f_s_SubsumsOf_c at h
  split at h
  · rename_i hd
    rw [← dec_enc hd]
    exact rowC (f_s_SubsumsOf_ok _ _) h
  · cases h

def f_i_SubsumsOf_M : Calling := addC 41 f_i_IsSequence_c (addC 49 f_i_Group_subsums_c (noC))
theorem f_i_SubsumsOf_Mt : CallsTrue S0 f_i_SubsumsOf_M := addC_true f_i_IsSequence_cc (addC_true f_i_Group_subsums_cc (noC_true))
theorem f_i_SubsumsOf_o : loopsOnce Try.f31 = true := by kernel_rfl
theorem f_i_SubsumsOf_p {R : Type} (g0 : List Sc) (l1 : List Sc) (kR : Int → Option R) : f_i_SubsumsOf_k g0 l1 kR = (f_i_SubsumsOf g0 l1).bind kR := by
  simp only [f_i_SubsumsOf_k, f_i_SubsumsOf, brB, boB, someB]
def f_i_SubsumsOf_en (r : Int) : List AV := enc [.int .i64] [.i r]
theorem f_i_SubsumsOf_e (g0 : List Sc) (l1 : List Sc) : runFn S0.E f_i_SubsumsOf_M (asL (noL)) (S0.kl 31) Try.f31 (enc [.gr, .sl] [.l g0, .l l1]) = f_i_SubsumsOf_k g0 l1 (fun r => some (f_i_SubsumsOf_en r)) := by kernel_rfl
theorem f_i_SubsumsOf_ok (g0 : List Sc) (l1 : List Sc) (r : Int) (h : f_i_SubsumsOf g0 l1 = some r) : CL S0 31 (enc [.gr, .sl] [.l g0, .l l1]) = some (f_i_SubsumsOf_en r) :=
  fn_true (Fk := fun k => f_i_SubsumsOf_k g0 l1 k) (enc := f_i_SubsumsOf_en) Try.func31 rfl f_i_SubsumsOf_Mt (noL_true) f_i_SubsumsOf_o (f_i_SubsumsOf_e g0 l1) (f_i_SubsumsOf_p g0 l1) h
def f_i_SubsumsOf_c (args : List AV) : Option (Bool × List AV) := match dec [.gr, .sl] args with
  | some [.l g0, .l l1] => some ((f_i_SubsumsOf g0 l1).isSome, f_i_SubsumsOf_en ((f_i_SubsumsOf g0 l1).getD 0))
  | _ => none
theorem f_i_SubsumsOf_cc : CTrue S0 31 f_i_SubsumsOf_c := by
  intro args rs h
  unfold f_i_SubsumsOf_c at h
  split at h
  · rename_i hd
    rw [← dec_enc hd]
    exact rowC (f_i_SubsumsOf_ok _ _) h
  · cases h

def f_l_FnExactSubsumsOf_M : Calling := addC 13 f_l_szGroup_c (addC 15 f_l_toGroup_c (addC 16 f_l_toIntS_c (addC 30 f_s_SubsumsOf_c (addC 31 f_i_SubsumsOf_c (addC 18 f_l_eqGroup_c (addC 19 f_l_eqIntS_c (noC)))))))
theorem f_l_FnExactSubsumsOf_Mt : CallsTrue S0 f_l_FnExactSubsumsOf_M := addC_true f_l_szGroup_cc (addC_true f_l_toGroup_cc (addC_true f_l_toIntS_cc (addC_true f_s_SubsumsOf_cc (addC_true f_i_SubsumsOf_cc (addC_true f_l_eqGroup_cc (addC_true f_l_eqIntS_cc (noC_true)))))))
theorem f_l_FnExactSubsumsOf_o : loopsOnce Try.f9 = true := by kernel_rfl
theorem f_l_FnExactSubsumsOf_p {R : Type} (aG0 : List Sc) (aL1 : List Sc) (kR : Bool → Option R) : f_l_FnExactSubsumsOf_k aG0 aL1 kR = (f_l_FnExactSubsumsOf aG0 aL1).bind kR := by
  simp only [f_l_FnExactSubsumsOf_k, f_l_FnExactSubsumsOf, brB, boB, someB, noneB]
def f_l_FnExactSubsumsOf_en (r : Bool) : List AV := enc [.boo] [.b r]
theorem f_l_FnExactSubsumsOf_e (aG0 : List Sc) (aL1 : List Sc) : runFn S0.E f_l_FnExactSubsumsOf_M (asL (noL)) (S0.kl 9) Try.f9 (enc [.gr, .sl] [.l aG0, .l aL1]) = f_l_FnExactSubsumsOf_k aG0 aL1 (fun r => some (f_l_FnExactSubsumsOf_en r)) := by kernel_rfl
theorem f_l_FnExactSubsumsOf_ok (aG0 : List Sc) (aL1 : List Sc) (r : Bool) (h : f_l_FnExactSubsumsOf aG0 aL1 = some r) : CL S0 9 (enc [.gr, .sl] [.l aG0, .l aL1]) = some (f_l_FnExactSubsumsOf_en r) :=
  fn_true (Fk := fun k => f_l_FnExactSubsumsOf_k aG0 aL1 k) (enc := f_l_FnExactSubsumsOf_en) Try.func9 rfl f_l_FnExactSubsumsOf_Mt (noL_true) f_l_FnExactSubsumsOf_o (f_l_FnExactSubsumsOf_e aG0 aL1) (f_l_FnExactSubsumsOf_p aG0 aL1) h
def f_l_FnExactSubsumsOf_c (args : List AV) : Option (Bool × List AV) := match dec [.gr, .sl] args with
  | some [.l aG0, .l aL1] => some ((f_l_FnExactSubsumsOf aG0 aL1).isSome, f_l_FnExactSubsumsOf_en ((f_l_FnExactSubsumsOf aG0 aL1).getD false))
  | _ => none
theorem f_l_FnExactSubsumsOf_cc : CTrue S0 9 f_l_FnExactSubsumsOf_c := by
  intro args rs h
  unfold f_l_FnExactSubsumsOf_c at h
  split at h
  · rename_i hd
    rw [← dec_enc hd]
    exact rowC (f_l_FnExactSubsumsOf_ok _ _) h
  · cases h

def f_s_SubsumsOfLength_M : Calling := addC 39 f_s_IsSequence_c (addC 56 f_s_l1In_c (addC 57 f_s_l3Shift_c (noC)))
theorem f_s_SubsumsOfLength_Mt : CallsTrue S0 f_s_SubsumsOfLength_M := addC_true f_s_IsSequence_cc (addC_true f_s_l1In_cc (addC_true f_s_l3Shift_cc (noC_true)))
theorem f_s_SubsumsOfLength_o : loopsOnce Try.f32 = true := by kernel_rfl
def f_s_SubsumsOfLength_h2 : List Sh := [.u, .sl, .int .i64, .bp, .u, .u, .u, .own 3, .int .i64, .int .i64, .u, .u, .u, .u, .u, .u, .u, .u, .u, .u, .u, .u, .u, .u, .u, .u, .u, .u, .u, .u, .u, .u, .u, .u, .u, .u, .u, .u, .u, .u, .u, .u, .u, .u, .u, .u, .u, .u, .u, .u, .u, .u, .u, .u, .u, .u, .u, .u, .u, .u]
def f_s_SubsumsOfLength_fr2 (l1 : List Sc) (k2 : Int) (g3 : List Sc) (i8 : Int) (s : List Sc × Int) : List AV := enc f_s_SubsumsOfLength_h2 [.l l1, .i k2, .l g3, .l s.1, .i i8, .i s.2]
def f_s_SubsumsOfLength_g2_1 : List Sh := [.u, .sl, .int .i64, .bp, .u, .u, .u, .own 3, .int .i64, .u, .u, .u, .u, .u, .u, .u, .u, .u, .u, .u, .u, .u, .u, .u, .u, .u, .u, .u, .u, .u, .u, .u, .u, .u, .u, .u, .u, .u, .u, .u, .u, .u, .u, .u, .u, .u, .u, .u, .u, .u, .u, .u, .u, .u, .u, .u, .u, .u, .u, .u]
def f_s_SubsumsOfLength_x2_1 (l1 : List Sc) (k2 : Int) (g3 : List Sc) (i8 : Int) (e : List Sc) : X × List AV := (.out 2, enc f_s_SubsumsOfLength_g2_1 [.l l1, .i k2, .l g3, .l e, .i i8])
def f_s_SubsumsOfLength_x2_2 (_ : List Sc) (_ : Int) (_ : List Sc) (_ : Int) (_e : Unit) : X × List AV := (.ret, [])
theorem f_s_SubsumsOfLength_p2 {R : Type} (l1 : List Sc) (k2 : Int) (g3 : List Sc) (i8 : Int) (s : List Sc × Int) (kN : List Sc × Int → Option R) (kA : List Sc → Option R) (kB : Unit → Option R) : f_s_SubsumsOfLength_k2 l1 k2 g3 i8 s.1 s.2 kN kA = (f_s_SubsumsOfLength_r2 l1 k2 g3 i8 s).bind (Ro.el kN kA kB) := by
  simp only [f_s_SubsumsOfLength_k2, f_s_SubsumsOfLength_r2, brB, boB, someB, noneB, Ro.el]
theorem f_s_SubsumsOfLength_e2 (l1 : List Sc) (k2 : Int) (g3 : List Sc) (i8 : Int) (s : List Sc × Int) : EC S0.E f_s_SubsumsOfLength_M (asL (noL)) (S0.kl 32) 2 (bodyOf Try.f32 2) (f_s_SubsumsOfLength_fr2 l1 k2 g3 i8 s) (done (S0.kl 32 2)) = f_s_SubsumsOfLength_k2 l1 k2 g3 i8 s.1 s.2 (fun s => some (.norm, f_s_SubsumsOfLength_fr2 l1 k2 g3 i8 s)) (fun e => some (f_s_SubsumsOfLength_x2_1 l1 k2 g3 i8 e)) := by kernel_rfl
theorem f_s_SubsumsOfLength_l2 (l1 : List Sc) (k2 : Int) (g3 : List Sc) (i8 : Int) : ∀ s r, loopL (f_s_SubsumsOfLength_r2 l1 k2 g3 i8) s = some r → LP S0 32 2 (bodyOf Try.f32 2) (f_s_SubsumsOfLength_fr2 l1 k2 g3 i8 s) = some (enX (f_s_SubsumsOfLength_x2_1 l1 k2 g3 i8) (f_s_SubsumsOfLength_x2_2 l1 k2 g3 i8) r) :=
  loop_true f_s_SubsumsOfLength_Mt (noL_true) f_s_SubsumsOfLength_o (fun _ h => by cases h) (fun _ h => by cases h) (fun s => (f_s_SubsumsOfLength_e2 l1 k2 g3 i8 s).trans (f_s_SubsumsOfLength_p2 l1 k2 g3 i8 s _ _ (fun e => some (f_s_SubsumsOfLength_x2_2 l1 k2 g3 i8 e))))
def f_s_SubsumsOfLength_t2 (σ : List AV) : Option (Bool × Bool × (X × List AV) × (X × List AV)) := match dec f_s_SubsumsOfLength_h2 σ with
  | some [.l l1, .i k2, .l g3, .l t7, .i i8, .i n9] => some (isOne (loopL (f_s_SubsumsOfLength_r2 l1 k2 g3 i8) (t7, n9)), true, f_s_SubsumsOfLength_x2_1 l1 k2 g3 i8 (getOne [] (loopL (f_s_SubsumsOfLength_r2 l1 k2 g3 i8) (t7, n9))), (.ret, []))
  | _ => none
theorem f_s_SubsumsOfLength_tt2 : TTrue S0 32 Try.f32 2 f_s_SubsumsOfLength_t2 := by
  intro σ p r r' h
  unfold f_s_SubsumsOfLength_t2 at h
  split at h
  · rename_i hd
    rw [← dec_enc hd]
    exact row1 (f_s_SubsumsOfLength_l2 _ _ _ _ _) h
  · cases h
def f_s_SubsumsOfLength_h0 : List Sh := [.u, .sl, .int .i64, .bp, .u, .u, .u, .own 3, .int .i64, .u, .u, .u, .u, .u, .u, .u, .u, .u, .u, .u, .u, .u, .u, .u, .u, .u, .u, .u, .u, .u, .u, .u, .u, .u, .u, .u, .u, .u, .u, .u, .u, .u, .u, .u, .u, .u, .u, .u, .u, .u, .u, .u, .u, .u, .u, .u, .u, .u, .u, .u]
def f_s_SubsumsOfLength_fr0 (l1 : List Sc) (k2 : Int) (g3 : List Sc) (s : List Sc × Int) : List AV := enc f_s_SubsumsOfLength_h0 [.l l1, .i k2, .l g3, .l s.1, .i s.2]
def f_s_SubsumsOfLength_g0_1 : List Sh := [.u, .sl, .int .i64, .bp, .u, .u, .u, .own 3, .int .i64, .u, .u, .u, .u, .u, .u, .u, .u, .u, .u, .u, .u, .u, .u, .u, .u, .u, .u, .u, .u, .u, .u, .u, .u, .u, .u, .u, .u, .u, .u, .u, .u, .u, .u, .u, .u, .u, .u, .u, .u, .u, .u, .u, .u, .u, .u, .u, .u, .u, .u, .u]
def f_s_SubsumsOfLength_x0_1 (l1 : List Sc) (k2 : Int) (g3 : List Sc) (e : List Sc × Int) : X × List AV := (.out 0, enc f_s_SubsumsOfLength_g0_1 [.l l1, .i k2, .l g3, .l e.1, .i e.2])
def f_s_SubsumsOfLength_x0_2 (_ : List Sc) (_ : Int) (_ : List Sc) (_e : Unit) : X × List AV := (.ret, [])
theorem f_s_SubsumsOfLength_p0 {R : Type} (l1 : List Sc) (k2 : Int) (g3 : List Sc) (s : List Sc × Int) (kN : List Sc × Int → Option R) (kA : List Sc × Int → Option R) (kB : Unit → Option R) : f_s_SubsumsOfLength_k0 l1 k2 g3 s.1 s.2 kN kA = (f_s_SubsumsOfLength_r0 l1 k2 g3 s).bind (Ro.el kN kA kB) := by
  simp only [f_s_SubsumsOfLength_k0, f_s_SubsumsOfLength_r0, brB, bl1B, someB, Ro.el]
theorem f_s_SubsumsOfLength_e0 (l1 : List Sc) (k2 : Int) (g3 : List Sc) (s : List Sc × Int) : EC S0.E f_s_SubsumsOfLength_M (asL (addL 2 f_s_SubsumsOfLength_t2 (noL))) (S0.kl 32) 0 (bodyOf Try.f32 0) (f_s_SubsumsOfLength_fr0 l1 k2 g3 s) (done (S0.kl 32 0)) = f_s_SubsumsOfLength_k0 l1 k2 g3 s.1 s.2 (fun s => some (.norm, f_s_SubsumsOfLength_fr0 l1 k2 g3 s)) (fun e => some (f_s_SubsumsOfLength_x0_1 l1 k2 g3 e)) := by kernel_rfl
theorem f_s_SubsumsOfLength_l0 (l1 : List Sc) (k2 : Int) (g3 : List Sc) : ∀ s r, loopL (f_s_SubsumsOfLength_r0 l1 k2 g3) s = some r → LP S0 32 0 (bodyOf Try.f32 0) (f_s_SubsumsOfLength_fr0 l1 k2 g3 s) = some (enX (f_s_SubsumsOfLength_x0_1 l1 k2 g3) (f_s_SubsumsOfLength_x0_2 l1 k2 g3) r) :=
  loop_true f_s_SubsumsOfLength_Mt (addL_true f_s_SubsumsOfLength_tt2 (noL_true)) f_s_SubsumsOfLength_o (fun _ h => by cases h) (fun _ h => by cases h) (fun s => (f_s_SubsumsOfLength_e0 l1 k2 g3 s).trans (f_s_SubsumsOfLength_p0 l1 k2 g3 s _ _ (fun e => some (f_s_SubsumsOfLength_x0_2 l1 k2 g3 e))))
def f_s_SubsumsOfLength_t0 (σ : List AV) : Option (Bool × Bool × (X × List AV) × (X × List AV)) := match dec f_s_SubsumsOfLength_h0 σ with
  | some [.l l1, .i k2, .l g3, .l t7, .i i8] => some (isOne (loopL (f_s_SubsumsOfLength_r0 l1 k2 g3) (t7, i8)), true, f_s_SubsumsOfLength_x0_1 l1 k2 g3 (getOne ([], 0) (loopL (f_s_SubsumsOfLength_r0 l1 k2 g3) (t7, i8))), (.ret, []))
  | _ => none
theorem f_s_SubsumsOfLength_tt0 : TTrue S0 32 Try.f32 0 f_s_SubsumsOfLength_t0 := by
  intro σ p r r' h
  unfold f_s_SubsumsOfLength_t0 at h
  split at h
  · rename_i hd
    rw [← dec_enc hd]
    exact row1 (f_s_SubsumsOfLength_l0 _ _ _ _) h
  · cases h
theorem f_s_SubsumsOfLength_p {R : Type} (g0 : List Sc) (l1 : List Sc) (k2 : Int) (kR : Int → Option R) : f_s_SubsumsOfLength_k g0 l1 k2 kR = (f_s_SubsumsOfLength g0 l1 k2).bind kR := by
  simp only [f_s_SubsumsOfLength_k, f_s_SubsumsOfLength, brB, boB, bl1B, someB, noneB]
def f_s_SubsumsOfLength_en (r : Int) : List AV := enc [.int .i64] [.i r]
theorem f_s_SubsumsOfLength_e (g0 : List Sc) (l1 : List Sc) (k2 : Int) : runFn S0.E f_s_SubsumsOfLength_M (asL (addL 0 f_s_SubsumsOfLength_t0 (addL 2 f_s_SubsumsOfLength_t2 (noL)))) (S0.kl 32) Try.f32 (enc [.gr, .sl, .int .i64] [.l g0, .l l1, .i k2]) = f_s_SubsumsOfLength_k g0 l1 k2 (fun r => some (f_s_SubsumsOfLength_en r)) := by kernel_rfl
theorem f_s_SubsumsOfLength_ok (g0 : List Sc) (l1 : List Sc) (k2 : Int) (r : Int) (h : f_s_SubsumsOfLength g0 l1 k2 = some r) : CL S0 32 (enc [.gr, .sl, .int .i64] [.l g0, .l l1, .i k2]) = some (f_s_SubsumsOfLength_en r) :=
  fn_true (Fk := fun k => f_s_SubsumsOfLength_k g0 l1 k2 k) (enc := f_s_SubsumsOfLength_en) Try.func32 rfl f_s_SubsumsOfLength_Mt (addL_true f_s_SubsumsOfLength_tt0 (addL_true f_s_SubsumsOfLength_tt2 (noL_true))) f_s_SubsumsOfLength_o (f_s_SubsumsOfLength_e g0 l1 k2) (f_s_SubsumsOfLength_p g0 l1 k2) h
def f_s_SubsumsOfLength_c (args : List AV) : Option (Bool × List AV) := match dec [.gr, .sl, .int .i64] args with
  | some [.l g0, .l l1, .i k2] => some ((f_s_SubsumsOfLength g0 l1 k2).isSome, f_s_SubsumsOfLength_en ((f_s_SubsumsOfLength g0 l1 k2).getD 0))
  | _ => none
theorem f_s_SubsumsOfLength_cc : CTrue S0 32 f_s_SubsumsOfLength_c := by
  intro args rs h
  unfold f_s_SubsumsOfLength_c at h
  split at h
  · rename_i hd
    rw [← dec_enc hd]
    exact rowC (f_s_SubsumsOfLength_ok _ _ _) h
  · cases h

def f_i_Group_byLength_M : Calling := addC 74 f_i_Group_shift_c (noC)
theorem f_i_Group_byLength_Mt : CallsTrue S0 f_i_Group_byLength_M := addC_true f_i_Group_shift_cc (noC_true)
theorem f_i_Group_byLength_o : loopsOnce Try.f59 = true := by kernel_rfl
def f_i_Group_byLength_h2 : List Sh := [.u, .u, .bp, .u, .u, .own 3, .u, .int .i64, .int .i64, .u, .u, .u, .u, .u, .u, .sl, .int .i64, .int .i64, .u, .u, .u, .u, .u, .u, .u, .u, .u, .u, .u, .u, .u, .u, .u, .u, .u, .u, .u, .u, .u, .u, .u, .u, .u, .u, .u, .u]
def f_i_Group_byLength_fr2 (g2 : List Sc) (x7 : Int) (t15 : List Sc) (t16 : Int) (t17 : Int) (s : List Sc × Int) : List AV := enc f_i_Group_byLength_h2 [.l g2, .l s.1, .i x7, .i s.2, .l t15, .i t16, .i t17]
def f_i_Group_byLength_g2_1 : List Sh := [.u, .u, .bp, .u, .u, .own 3, .u, .u, .u, .u, .u, .u, .u, .u, .u, .sl, .int .i64, .int .i64, .u, .u, .u, .u, .u, .u, .u, .u, .u, .u, .u, .u, .u, .u, .u, .u, .u, .u, .u, .u, .u, .u, .u, .u, .u, .u, .u, .u]
def f_i_Group_byLength_x2_1 (g2 : List Sc) (x7 : Int) (t15 : List Sc) (t16 : Int) (t17 : Int) (e : List Sc) : X × List AV := (.out 2, enc f_i_Group_byLength_g2_1 [.l g2, .l e, .l t15, .i t16, .i t17])
def f_i_Group_byLength_x2_2 (_ : List Sc) (_ : Int) (_ : List Sc) (_ : Int) (_ : Int) (_e : Unit) : X × List AV := (.ret, [])
theorem f_i_Group_byLength_p2 {R : Type} (g2 : List Sc) (x7 : Int) (t15 : List Sc) (t16 : Int) (t17 : Int) (s : List Sc × Int) (kN : List Sc × Int → Option R) (kA : List Sc → Option R) (kB : Unit → Option R) : f_i_Group_byLength_k2 g2 x7 t15 t16 t17 s.1 s.2 kN kA = (f_i_Group_byLength_r2 g2 x7 t15 t16 t17 s).bind (Ro.el kN kA kB) := by
  simp only [f_i_Group_byLength_k2, f_i_Group_byLength_r2, brB, boB, someB, noneB, Ro.el]
theorem f_i_Group_byLength_e2 (g2 : List Sc) (x7 : Int) (t15 : List Sc) (t16 : Int) (t17 : Int) (s : List Sc × Int) : EC S0.E f_i_Group_byLength_M (asL (noL)) (S0.kl 59) 2 (bodyOf Try.f59 2) (f_i_Group_byLength_fr2 g2 x7 t15 t16 t17 s) (done (S0.kl 59 2)) = f_i_Group_byLength_k2 g2 x7 t15 t16 t17 s.1 s.2 (fun s => some (.norm, f_i_Group_byLength_fr2 g2 x7 t15 t16 t17 s)) (fun e => some (f_i_Group_byLength_x2_1 g2 x7 t15 t16 t17 e)) := by kernel_rfl
theorem f_i_Group_byLength_l2 (g2 : List Sc) (x7 : Int) (t15 : List Sc) (t16 : Int) (t17 : Int) : ∀ s r, loopL (f_i_Group_byLength_r2 g2 x7 t15 t16 t17) s = some r → LP S0 59 2 (bodyOf Try.f59 2) (f_i_Group_byLength_fr2 g2 x7 t15 t16 t17 s) = some (enX (f_i_Group_byLength_x2_1 g2 x7 t15 t16 t17) (f_i_Group_byLength_x2_2 g2 x7 t15 t16 t17) r) :=
  loop_true f_i_Group_byLength_Mt (noL_true) f_i_Group_byLength_o (fun _ h => by cases h) (fun _ h => by cases h) (fun s => (f_i_Group_byLength_e2 g2 x7 t15 t16 t17 s).trans (f_i_Group_byLength_p2 g2 x7 t15 t16 t17 s _ _ (fun e => some (f_i_Group_byLength_x2_2 g2 x7 t15 t16 t17 e))))
def f_i_Group_byLength_t2 (σ : List AV) : Option (Bool × Bool × (X × List AV) × (X × List AV)) := match dec f_i_Group_byLength_h2 σ with
  | some [.l g2, .l out5, .i x7, .i k8, .l t15, .i t16, .i t17] => some (isOne (loopL (f_i_Group_byLength_r2 g2 x7 t15 t16 t17) (out5, k8)), true, f_i_Group_byLength_x2_1 g2 x7 t15 t16 t17 (getOne [] (loopL (f_i_Group_byLength_r2 g2 x7 t15 t16 t17) (out5, k8))), (.ret, []))
  | _ => none
theorem f_i_Group_byLength_tt2 : TTrue S0 59 Try.f59 2 f_i_Group_byLength_t2 := by
  intro σ p r r' h
  unfold f_i_Group_byLength_t2 at h
  split at h
  · rename_i hd
    rw [← dec_enc hd]
    exact row1 (f_i_Group_byLength_l2 _ _ _ _ _ _) h
  · cases h
def f_i_Group_byLength_h0 : List Sh := [.u, .u, .bp, .u, .u, .own 3, .u, .u, .u, .u, .u, .u, .u, .u, .u, .sl, .int .i64, .int .i64, .u, .u, .u, .u, .u, .u, .u, .u, .u, .u, .u, .u, .u, .u, .u, .u, .u, .u, .u, .u, .u, .u, .u, .u, .u, .u, .u, .u]
def f_i_Group_byLength_fr0 (g2 : List Sc) (t15 : List Sc) (t16 : Int) (s : List Sc × Int) : List AV := enc f_i_Group_byLength_h0 [.l g2, .l s.1, .l t15, .i t16, .i s.2]
def f_i_Group_byLength_g0_1 : List Sh := [.u, .u, .bp, .u, .u, .own 3, .u, .u, .u, .u, .u, .u, .u, .u, .u, .sl, .int .i64, .int .i64, .u, .u, .u, .u, .u, .u, .u, .u, .u, .u, .u, .u, .u, .u, .u, .u, .u, .u, .u, .u, .u, .u, .u, .u, .u, .u, .u, .u]
def f_i_Group_byLength_x0_1 (g2 : List Sc) (t15 : List Sc) (t16 : Int) (e : List Sc × Int) : X × List AV := (.out 0, enc f_i_Group_byLength_g0_1 [.l g2, .l e.1, .l t15, .i t16, .i e.2])
def f_i_Group_byLength_x0_2 (_ : List Sc) (_ : List Sc) (_ : Int) (_e : Unit) : X × List AV := (.ret, [])
theorem f_i_Group_byLength_p0 {R : Type} (g2 : List Sc) (t15 : List Sc) (t16 : Int) (s : List Sc × Int) (kN : List Sc × Int → Option R) (kA : List Sc × Int → Option R) (kB : Unit → Option R) : f_i_Group_byLength_k0 g2 t15 t16 s.1 s.2 kN kA = (f_i_Group_byLength_r0 g2 t15 t16 s).bind (Ro.el kN kA kB) := by
  simp only [f_i_Group_byLength_k0, f_i_Group_byLength_r0, brB, bl1B, someB, noneB, Ro.el]
theorem f_i_Group_byLength_e0 (g2 : List Sc) (t15 : List Sc) (t16 : Int) (s : List Sc × Int) : EC S0.E f_i_Group_byLength_M (asL (addL 2 f_i_Group_byLength_t2 (noL))) (S0.kl 59) 0 (bodyOf Try.f59 0) (f_i_Group_byLength_fr0 g2 t15 t16 s) (done (S0.kl 59 0)) = f_i_Group_byLength_k0 g2 t15 t16 s.1 s.2 (fun s => some (.norm, f_i_Group_byLength_fr0 g2 t15 t16 s)) (fun e => some (f_i_Group_byLength_x0_1 g2 t15 t16 e)) := by kernel_rfl
theorem f_i_Group_byLength_l0 (g2 : List Sc) (t15 : List Sc) (t16 : Int) : ∀ s r, loopL (f_i_Group_byLength_r0 g2 t15 t16) s = some r → LP S0 59 0 (bodyOf Try.f59 0) (f_i_Group_byLength_fr0 g2 t15 t16 s) = some (enX (f_i_Group_byLength_x0_1 g2 t15 t16) (f_i_Group_byLength_x0_2 g2 t15 t16) r) :=
  loop_true f_i_Group_byLength_Mt (addL_true f_i_Group_byLength_tt2 (noL_true)) f_i_Group_byLength_o (fun _ h => by cases h) (fun _ h => by cases h) (fun s => (f_i_Group_byLength_e0 g2 t15 t16 s).trans (f_i_Group_byLength_p0 g2 t15 t16 s _ _ (fun e => some (f_i_Group_byLength_x0_2 g2 t15 t16 e))))
def f_i_Group_byLength_t0 (σ : List AV) : Option (Bool × Bool × (X × List AV) × (X × List AV)) := match dec f_i_Group_byLength_h0 σ with
  | some [.l g2, .l out5, .l t15, .i t16, .i t17] => some (isOne (loopL (f_i_Group_byLength_r0 g2 t15 t16) (out5, t17)), true, f_i_Group_byLength_x0_1 g2 t15 t16 (getOne ([], 0) (loopL (f_i_Group_byLength_r0 g2 t15 t16) (out5, t17))), (.ret, []))
  | _ => none
theorem f_i_Group_byLength_tt0 : TTrue S0 59 Try.f59 0 f_i_Group_byLength_t0 := by
  intro σ p r r' h
  unfold f_i_Group_byLength_t0 at h
  split at h
  · rename_i hd
    rw [← dec_enc hd]
    exact row1 (f_i_Group_byLength_l0 _ _ _ _) h
  · cases h
theorem f_i_Group_byLength_p {R : Type} (g0 : List Sc) (l1 : List Sc) (kR : List Sc → Option R) : f_i_Group_byLength_k g0 l1 kR = (f_i_Group_byLength g0 l1).bind kR := by
  simp only [f_i_Group_byLength_k, f_i_Group_byLength, brB, bl1B, someB, noneB]
def f_i_Group_byLength_en (r : List Sc) : List AV := enc [.own 3] [.l r]
theorem f_i_Group_byLength_e (g0 : List Sc) (l1 : List Sc) : runFn S0.E f_i_Group_byLength_M (asL (addL 0 f_i_Group_byLength_t0 (addL 2 f_i_Group_byLength_t2 (noL)))) (S0.kl 59) Try.f59 (enc [.gr, .sl] [.l g0, .l l1]) = f_i_Group_byLength_k g0 l1 (fun r => some (f_i_Group_byLength_en r)) := by kernel_rfl
theorem f_i_Group_byLength_ok (g0 : List Sc) (l1 : List Sc) (r : List Sc) (h : f_i_Group_byLength g0 l1 = some r) : CL S0 59 (enc [.gr, .sl] [.l g0, .l l1]) = some (f_i_Group_byLength_en r) :=
  fn_true (Fk := fun k => f_i_Group_byLength_k g0 l1 k) (enc := f_i_Group_byLength_en) Try.func59 rfl f_i_Group_byLength_Mt (addL_true f_i_Group_byLength_tt0 (addL_true f_i_Group_byLength_tt2 (noL_true))) f_i_Group_byLength_o (f_i_Group_byLength_e g0 l1) (f_i_Group_byLength_p g0 l1) h
def f_i_Group_byLength_c (args : List AV) : Option (Bool × List AV) := match dec [.gr, .sl] args with
  | some [.l g0, .l l1] => some ((f_i_Group_byLength g0 l1).isSome, f_i_Group_byLength_en ((f_i_Group_byLength g0 l1).getD []))
  | _ => none
theorem f_i_Group_byLength_cc : CTrue S0 59 f_i_Group_byLength_c := by
  intro args rs h
  unfold f_i_Group_byLength_c at h
  split at h
  · rename_i hd
    rw [← dec_enc hd]
    exact rowC (f_i_Group_byLength_ok _ _) h
  · cases h

def f_i_SubsumsOfLength_M : Calling := addC 41 f_i_IsSequence_c (addC 58 f_i_within_c (addC 59 f_i_Group_byLength_c (noC)))
theorem f_i_SubsumsOfLength_Mt : CallsTrue S0 f_i_SubsumsOfLength_M := addC_true f_i_IsSequence_cc (addC_true f_i_within_cc (addC_true f_i_Group_byLength_cc (noC_true)))
theorem f_i_SubsumsOfLength_o : loopsOnce Try.f33 = true := by kernel_rfl
theorem f_i_SubsumsOfLength_p {R : Type} (g0 : List Sc) (l1 : List Sc) (k2 : Int) (kR : Int → Option R) : f_i_SubsumsOfLength_k g0 l1 k2 kR = (f_i_SubsumsOfLength g0 l1 k2).bind kR := by
  simp only [f_i_SubsumsOfLength_k, f_i_SubsumsOfLength, brB, boB, someB, noneB]
def f_i_SubsumsOfLength_en (r : Int) : List AV := enc [.int .i64] [.i r]
theorem f_i_SubsumsOfLength_e (g0 : List Sc) (l1 : List Sc) (k2 : Int) : runFn S0.E f_i_SubsumsOfLength_M (asL (noL)) (S0.kl 33) Try.f33 (enc [.gr, .sl, .int .i64] [.l g0, .l l1, .i k2]) = f_i_SubsumsOfLength_k g0 l1 k2 (fun r => some (f_i_SubsumsOfLength_en r)) := by kernel_rfl
theorem f_i_SubsumsOfLength_ok (g0 : List Sc) (l1 : List Sc) (k2 : Int) (r : Int) (h : f_i_SubsumsOfLength g0 l1 k2 = some r) : CL S0 33 (enc [.gr, .sl, .int .i64] [.l g0, .l l1, .i k2]) = some (f_i_SubsumsOfLength_en r) :=
  fn_true (Fk := fun k => f_i_SubsumsOfLength_k g0 l1 k2 k) (enc := f_i_SubsumsOfLength_en) Try.func33 rfl f_i_SubsumsOfLength_Mt (noL_true) f_i_SubsumsOfLength_o (f_i_SubsumsOfLength_e g0 l1 k2) (f_i_SubsumsOfLength_p g0 l1 k2) h
def f_i_SubsumsOfLength_c (args : List AV) : Option (Bool × List AV) := match dec [.gr, .sl, .int .i64] args with
  | some [.l g0, .l l1, .i k2] => some ((f_i_SubsumsOfLength g0 l1 k2).isSome, f_i_SubsumsOfLength_en ((f_i_SubsumsOfLength g0 l1 k2).getD 0))
  | _ => none
theorem f_i_SubsumsOfLength_cc : CTrue S0 33 f_i_SubsumsOfLength_c := by
  intro args rs h
  unfold f_i_SubsumsOfLength_c at h
  split at h
  · rename_i hd
    rw [← dec_enc hd]
    exact rowC (f_i_SubsumsOfLength_ok _ _ _) h
  · cases h

def f_l_FnExactSubsumsOfLength_M : Calling := addC 13 f_l_szGroup_c (addC 15 f_l_toGroup_c (addC 16 f_l_toIntS_c (addC 32 f_s_SubsumsOfLength_c (addC 33 f_i_SubsumsOfLength_c (addC 18 f_l_eqGroup_c (addC 19 f_l_eqIntS_c (noC)))))))
theorem f_l_FnExactSubsumsOfLength_Mt : CallsTrue S0 f_l_FnExactSubsumsOfLength_M := addC_true f_l_szGroup_cc (addC_true f_l_toGroup_cc (addC_true f_l_toIntS_cc (addC_true f_s_SubsumsOfLength_cc (addC_true f_i_SubsumsOfLength_cc (addC_true f_l_eqGroup_cc (addC_true f_l_eqIntS_cc (noC_true)))))))
theorem f_l_FnExactSubsumsOfLength_o : loopsOnce Try.f10 = true := by kernel_rfl
theorem f_l_FnExactSubsumsOfLength_p {R : Type} (aG0 : List Sc) (aL1 : List Sc) (aK2 : Int) (kR : Bool → Option R) : f_l_FnExactSubsumsOfLength_k aG0 aL1 aK2 kR = (f_l_FnExactSubsumsOfLength aG0 aL1 aK2).bind kR := by
  simp only [f_l_FnExactSubsumsOfLength_k, f_l_FnExactSubsumsOfLength, brB, boB, someB, noneB]
def f_l_FnExactSubsumsOfLength_en (r : Bool) : List AV := enc [.boo] [.b r]
theorem f_l_FnExactSubsumsOfLength_e (aG0 : List Sc) (aL1 : List Sc) (aK2 : Int) : runFn S0.E f_l_FnExactSubsumsOfLength_M (asL (noL)) (S0.kl 10) Try.f10 (enc [.gr, .sl, .int .i64] [.l aG0, .l aL1, .i aK2]) = f_l_FnExactSubsumsOfLength_k aG0 aL1 aK2 (fun r => some (f_l_FnExactSubsumsOfLength_en r)) := by kernel_rfl
theorem f_l_FnExactSubsumsOfLength_ok (aG0 : List Sc) (aL1 : List Sc) (aK2 : Int) (r : Bool) (h : f_l_FnExactSubsumsOfLength aG0 aL1 aK2 = some r) : CL S0 10 (enc [.gr, .sl, .int .i64] [.l aG0, .l aL1, .i aK2]) = some (f_l_FnExactSubsumsOfLength_en r) :=
  fn_true (Fk := fun k => f_l_FnExactSubsumsOfLength_k aG0 aL1 aK2 k) (enc := f_l_FnExactSubsumsOfLength_en) Try.func10 rfl f_l_FnExactSubsumsOfLength_Mt (noL_true) f_l_FnExactSubsumsOfLength_o (f_l_FnExactSubsumsOfLength_e aG0 aL1 aK2) (f_l_FnExactSubsumsOfLength_p aG0 aL1 aK2) h
def f_l_FnExactSubsumsOfLength_c (args : List AV) : Option (Bool × List AV) := match dec [.gr, .sl, .int .i64] args with
  | some [.l aG0, .l aL1, .i aK2] => some ((f_l_FnExactSubsumsOfLength aG0 aL1 aK2).isSome, f_l_FnExactSubsumsOfLength_en ((f_l_FnExactSubsumsOfLength aG0 aL1 aK2).getD false))
  | _ => none
theorem f_l_FnExactSubsumsOfLength_cc : CTrue S0 10 f_l_FnExactSubsumsOfLength_c := by
  intro args rs h
  unfold f_l_FnExactSubsumsOfLength_c at h
  split at h
  · rename_i hd
    rw [← dec_enc hd]
    exact rowC (f_l_FnExactSubsumsOfLength_ok _ _ _) h
  · cases h

def f_s_SetOf_M : Calling := addC 65 f_s_l2Is_c (addC 66 f_s_IsGroup_c (noC))
theorem f_s_SetOf_Mt : CallsTrue S0 f_s_SetOf_M := addC_true f_s_l2Is_cc (addC_true f_s_IsGroup_cc (noC_true))
theorem f_s_SetOf_o : loopsOnce Try.f76 = true := by kernel_rfl
def f_s_SetOf_h0 : List Sh := [.u, .sl, .bp, .u, .u, .u, .int .i64, .int .i64, .u, .u, .u, .u, .u, .u, .u, .u, .u, .u, .u, .u, .u, .u, .u, .u, .u, .u, .u, .u, .u, .u, .u, .u, .u, .u, .u, .u, .u, .u, .u, .u, .u]
def f_s_SetOf_fr0 (l1 : List Sc) (g2 : List Sc) (s : Int × Int) : List AV := enc f_s_SetOf_h0 [.l l1, .l g2, .i s.1, .i s.2]
def f_s_SetOf_g0_1 : List Sh := [.u, .u, .bp, .u, .u, .u, .int .i64, .u, .u, .u, .u, .u, .u, .u, .u, .u, .u, .u, .u, .u, .u, .u, .u, .u, .u, .u, .u, .u, .u, .u, .u, .u, .u, .u, .u, .u, .u, .u, .u, .u, .u]
def f_s_SetOf_x0_1 (l1 : List Sc) (g2 : List Sc) (e : Int) : X × List AV := (.out 0, enc f_s_SetOf_g0_1 [.l g2, .i e])
def f_s_SetOf_g0_2 : List Sh := [.u, .u, .u, .u, .int .i64, .boo, .u, .u, .u, .u, .u, .u, .u, .u, .u, .u, .u, .u, .u, .u, .u, .u, .u, .u, .u, .u, .u, .u, .u, .u, .u, .u, .u, .u, .u, .u, .u, .u, .u, .u, .u]
def f_s_SetOf_x0_2 (l1 : List Sc) (g2 : List Sc) (e : Unit) : X × List AV := (.ret, enc f_s_SetOf_g0_2 [.i 0, .b false])
theorem f_s_SetOf_p0 {R : Type} (l1 : List Sc) (g2 : List Sc) (s : Int × Int) (kN : Int × Int → Option R) (kA : Int → Option R) (kB : Unit → Option R) : f_s_SetOf_k0 l1 g2 s.1 s.2 kN kA kB = (f_s_SetOf_r0 l1 g2 s).bind (Ro.el kN kA kB) := by
  simp only [f_s_SetOf_k0, f_s_SetOf_r0, brB, boB, someB, noneB, Ro.el]
theorem f_s_SetOf_e0 (l1 : List Sc) (g2 : List Sc) (s : Int × Int) : EC S0.E f_s_SetOf_M (asL (noL)) (S0.kl 76) 0 (bodyOf Try.f76 0) (f_s_SetOf_fr0 l1 g2 s) (done (S0.kl 76 0)) = f_s_SetOf_k0 l1 g2 s.1 s.2 (fun s => some (.norm, f_s_SetOf_fr0 l1 g2 s)) (fun e => some (f_s_SetOf_x0_1 l1 g2 e)) (fun e => some (f_s_SetOf_x0_2 l1 g2 e)) := by kernel_rfl
theorem f_s_SetOf_l0 (l1 : List Sc) (g2 : List Sc) : ∀ s r, loopL (f_s_SetOf_r0 l1 g2) s = some r → LP S0 76 0 (bodyOf Try.f76 0) (f_s_SetOf_fr0 l1 g2 s) = some (enX (f_s_SetOf_x0_1 l1 g2) (f_s_SetOf_x0_2 l1 g2) r) :=
  loop_true f_s_SetOf_Mt (noL_true) f_s_SetOf_o (fun _ h => by cases h) (fun _ h => by cases h) (fun s => (f_s_SetOf_e0 l1 g2 s).trans (f_s_SetOf_p0 l1 g2 s _ _ (fun e => some (f_s_SetOf_x0_2 l1 g2 e))))
def f_s_SetOf_t0 (σ : List AV) : Option (Bool × Bool × (X × List AV) × (X × List AV)) := match dec f_s_SetOf_h0 σ with
  | some [.l l1, .l g2, .i a6, .i i7] => some ((loopL (f_s_SetOf_r0 l1 g2) (a6, i7)).isSome, isOne (loopL (f_s_SetOf_r0 l1 g2) (a6, i7)), f_s_SetOf_x0_1 l1 g2 (getOne 0 (loopL (f_s_SetOf_r0 l1 g2) (a6, i7))), f_s_SetOf_x0_2 l1 g2 (getTwo () (loopL (f_s_SetOf_r0 l1 g2) (a6, i7))))
  | _ => none
theorem f_s_SetOf_tt0 : TTrue S0 76 Try.f76 0 f_s_SetOf_t0 := by
  intro σ p r r' h
  unfold f_s_SetOf_t0 at h
  split at h
  · rename_i hd
    rw [← dec_enc hd]
    exact row2 (f_s_SetOf_l0 _ _ _) h
  · cases h
theorem f_s_SetOf_p {R : Type} (g0 : List Sc) (l1 : List Sc) (kR : Int × Bool → Option R) : f_s_SetOf_k g0 l1 kR = (f_s_SetOf g0 l1).bind kR := by
  simp only [f_s_SetOf_k, f_s_SetOf, boB, blB, someB]
def f_s_SetOf_en (r : Int × Bool) : List AV := enc [.int .i64, .boo] [.i r.1, .b r.2]
theorem f_s_SetOf_e (g0 : List Sc) (l1 : List Sc) : runFn S0.E f_s_SetOf_M (asL (addL 0 f_s_SetOf_t0 (noL))) (S0.kl 76) Try.f76 (enc [.gr, .sl] [.l g0, .l l1]) = f_s_SetOf_k g0 l1 (fun r => some (f_s_SetOf_en r)) := by kernel_rfl
theorem f_s_SetOf_ok (g0 : List Sc) (l1 : List Sc) (r : Int × Bool) (h : f_s_SetOf g0 l1 = some r) : CL S0 76 (enc [.gr, .sl] [.l g0, .l l1]) = some (f_s_SetOf_en r) :=
  fn_true (Fk := fun k => f_s_SetOf_k g0 l1 k) (enc := f_s_SetOf_en) Try.func76 rfl f_s_SetOf_Mt (addL_true f_s_SetOf_tt0 (noL_true)) f_s_SetOf_o (f_s_SetOf_e g0 l1) (f_s_SetOf_p g0 l1) h
def f_s_SetOf_c (args : List AV) : Option (Bool × List AV) := match dec [.gr, .sl] args with
  | some [.l g0, .l l1] => some ((f_s_SetOf g0 l1).isSome, f_s_SetOf_en ((f_s_SetOf g0 l1).getD (0, false)))
  | _ => none
theorem f_s_SetOf_cc : CTrue S0 76 f_s_SetOf_c := by
  intro args rs h
  unfold f_s_SetOf_c at h
  split at h
  · rename_i hd
    rw [← dec_enc hd]
    exact rowC (f_s_SetOf_ok _ _) h
  · cases h

def f_s_l15Fine_M : Calling := addC 76 f_s_SetOf_c (addC 65 f_s_l2Is_c (addC 66 f_s_IsGroup_c (addC 56 f_s_l1In_c (noC))))
theorem f_s_l15Fine_Mt : CallsTrue S0 f_s_l15Fine_M := addC_true f_s_SetOf_cc (addC_true f_s_l2Is_cc (addC_true f_s_IsGroup_cc (addC_true f_s_l1In_cc (noC_true))))
theorem f_s_l15Fine_o : loopsOnce Try.f60 = true := by kernel_rfl
def f_s_l15Fine_h0 : List Sh := [.u, .u, .sl, .sl, .u, .bp, .u, .u, .u, .u, .boo, .int .i64, .u, .u, .u, .u, .u, .u, .u, .u, .u, .u, .u, .u, .u, .u, .u, .u, .u, .u, .u, .u, .u, .u, .u, .u, .u, .u, .u, .u, .u, .u, .u, .u, .u, .u, .u, .u]
def f_s_l15Fine_fr0 (l2 : List Sc) (m3 : List Sc) (h5 : List Sc) (is10 : Bool) (s : Int) : List AV := enc f_s_l15Fine_h0 [.l l2, .l m3, .l h5, .b is10, .i s]
def f_s_l15Fine_g0_1 : List Sh := [.u, .u, .sl, .sl, .u, .bp, .u, .u, .u, .u, .boo, .u, .u, .u, .u, .u, .u, .u, .u, .u, .u, .u, .u, .u, .u, .u, .u, .u, .u, .u, .u, .u, .u, .u, .u, .u, .u, .u, .u, .u, .u, .u, .u, .u, .u, .u, .u, .u]
def f_s_l15Fine_x0_1 (l2 : List Sc) (m3 : List Sc) (h5 : List Sc) (is10 : Bool) (e : Unit) : X × List AV := (.out 0, enc f_s_l15Fine_g0_1 [.l l2, .l m3, .l h5, .b is10])
def f_s_l15Fine_g0_2 : List Sh := [.u, .u, .u, .u, .u, .u, .u, .u, .boo, .u, .u, .u, .u, .u, .u, .u, .u, .u, .u, .u, .u, .u, .u, .u, .u, .u, .u, .u, .u, .u, .u, .u, .u, .u, .u, .u, .u, .u, .u, .u, .u, .u, .u, .u, .u, .u, .u, .u]
def f_s_l15Fine_x0_2 (l2 : List Sc) (m3 : List Sc) (h5 : List Sc) (is10 : Bool) (e : Unit) : X × List AV := (.ret, enc f_s_l15Fine_g0_2 [.b false])
theorem f_s_l15Fine_p0 {R : Type} (l2 : List Sc) (m3 : List Sc) (h5 : List Sc) (is10 : Bool) (s : Int) (kN : Int → Option R) (kA : Unit → Option R) (kB : Unit → Option R) : f_s_l15Fine_k0 l2 m3 h5 is10 s kN kA kB = (f_s_l15Fine_r0 l2 m3 h5 is10 s).bind (Ro.el kN kA kB) := by
  simp only [f_s_l15Fine_k0, f_s_l15Fine_r0, brB, boB, someB, noneB, Ro.el]
theorem f_s_l15Fine_e0 (l2 : List Sc) (m3 : List Sc) (h5 : List Sc) (is10 : Bool) (s : Int) : EC S0.E f_s_l15Fine_M (asL (noL)) (S0.kl 60) 0 (bodyOf Try.f60 0) (f_s_l15Fine_fr0 l2 m3 h5 is10 s) (done (S0.kl 60 0)) = f_s_l15Fine_k0 l2 m3 h5 is10 s (fun s => some (.norm, f_s_l15Fine_fr0 l2 m3 h5 is10 s)) (fun e => some (f_s_l15Fine_x0_1 l2 m3 h5 is10 e)) (fun e => some (f_s_l15Fine_x0_2 l2 m3 h5 is10 e)) := by kernel_rfl
theorem f_s_l15Fine_l0 (l2 : List Sc) (m3 : List Sc) (h5 : List Sc) (is10 : Bool) : ∀ s r, loopL (f_s_l15Fine_r0 l2 m3 h5 is10) s = some r → LP S0 60 0 (bodyOf Try.f60 0) (f_s_l15Fine_fr0 l2 m3 h5 is10 s) = some (enX (f_s_l15Fine_x0_1 l2 m3 h5 is10) (f_s_l15Fine_x0_2 l2 m3 h5 is10) r) :=
  loop_true f_s_l15Fine_Mt (noL_true) f_s_l15Fine_o (fun _ h => by cases h) (fun _ h => by cases h) (fun s => (f_s_l15Fine_e0 l2 m3 h5 is10 s).trans (f_s_l15Fine_p0 l2 m3 h5 is10 s _ _ (fun e => some (f_s_l15Fine_x0_2 l2 m3 h5 is10 e))))
def f_s_l15Fine_t0 (σ : List AV) : Option (Bool × Bool × (X × List AV) × (X × List AV)) := match dec f_s_l15Fine_h0 σ with
  | some [.l l2, .l m3, .l h5, .b is10, .i i11] => some ((loopL (f_s_l15Fine_r0 l2 m3 h5 is10) i11).isSome, isOne (loopL (f_s_l15Fine_r0 l2 m3 h5 is10) i11), f_s_l15Fine_x0_1 l2 m3 h5 is10 (getOne () (loopL (f_s_l15Fine_r0 l2 m3 h5 is10) i11)), f_s_l15Fine_x0_2 l2 m3 h5 is10 (getTwo () (loopL (f_s_l15Fine_r0 l2 m3 h5 is10) i11)))
  | _ => none
theorem f_s_l15Fine_tt0 : TTrue S0 60 Try.f60 0 f_s_l15Fine_t0 := by
  intro σ p r r' h
  unfold f_s_l15Fine_t0 at h
  split at h
  · rename_i hd
    rw [← dec_enc hd]
    exact row2 (f_s_l15Fine_l0 _ _ _ _ _) h
  · cases h
theorem f_s_l15Fine_p {R : Type} (g0 : List Sc) (h1 : List Sc) (l2 : List Sc) (m3 : List Sc) (kR : Bool → Option R) : f_s_l15Fine_k g0 h1 l2 m3 kR = (f_s_l15Fine g0 h1 l2 m3).bind kR := by
  simp only [f_s_l15Fine_k, f_s_l15Fine, brB, boB, blB, someB]
def f_s_l15Fine_en (r : Bool) : List AV := enc [.boo] [.b r]
theorem f_s_l15Fine_e (g0 : List Sc) (h1 : List Sc) (l2 : List Sc) (m3 : List Sc) : runFn S0.E f_s_l15Fine_M (asL (addL 0 f_s_l15Fine_t0 (noL))) (S0.kl 60) Try.f60 (enc [.gr, .gr, .sl, .sl] [.l g0, .l h1, .l l2, .l m3]) = f_s_l15Fine_k g0 h1 l2 m3 (fun r => some (f_s_l15Fine_en r)) := by kernel_rfl
theorem f_s_l15Fine_ok (g0 : List Sc) (h1 : List Sc) (l2 : List Sc) (m3 : List Sc) (r : Bool) (h : f_s_l15Fine g0 h1 l2 m3 = some r) : CL S0 60 (enc [.gr, .gr, .sl, .sl] [.l g0, .l h1, .l l2, .l m3]) = some (f_s_l15Fine_en r) :=
  fn_true (Fk := fun k => f_s_l15Fine_k g0 h1 l2 m3 k) (enc := f_s_l15Fine_en) Try.func60 rfl f_s_l15Fine_Mt (addL_true f_s_l15Fine_tt0 (noL_true)) f_s_l15Fine_o (f_s_l15Fine_e g0 h1 l2 m3) (f_s_l15Fine_p g0 h1 l2 m3) h
def f_s_l15Fine_c (args : List AV) : Option (Bool × List AV) := match dec [.gr, .gr, .sl, .sl] args with
  | some [.l g0, .l h1, .l l2, .l m3] => some ((f_s_l15Fine g0 h1 l2 m3).isSome, f_s_l15Fine_en ((f_s_l15Fine g0 h1 l2 m3).getD false))
  | _ => none
theorem f_s_l15Fine_cc : CTrue S0 60 f_s_l15Fine_c := by
  intro args rs h
  unfold f_s_l15Fine_c at h
  split at h
  · rename_i hd
    rw [← dec_enc hd]
    exact rowC (f_s_l15Fine_ok _ _ _ _) h
  · cases h

def f_s_l15Keeps_M : Calling := addC 67 f_s_l2Add_c (noC)
theorem f_s_l15Keeps_Mt : CallsTrue S0 f_s_l15Keeps_M := addC_true f_s_l2Add_cc (noC_true)
theorem f_s_l15Keeps_o : loopsOnce Try.f61 = true := by kernel_rfl
def f_s_l15Keeps_h6 : List Sh := [.u, .u, .sl, .sl, .bp, .bp, .u, .u, .u, .int .i64, .int .i64, .int .i64, .int .i64, .u, .u, .u, .u, .u, .u, .u, .u, .u, .u, .u, .u, .u, .u, .u, .u, .u, .u, .u, .u, .u, .u, .u, .u, .u, .u, .u, .u, .u, .u, .u, .u, .u, .u, .u, .u, .u, .u, .u, .u, .u, .u, .u, .u, .u, .u, .u, .u, .u, .u, .u, .u, .u, .u, .u, .u, .u, .u, .u, .u, .u, .u, .u, .u, .u, .u, .u, .u, .u]
def f_s_l15Keeps_fr6 (t2 : List Sc) (t3 : List Sc) (t4 : List Sc) (t5 : List Sc) (t9 : Int) (t10 : Int) (t11 : Int) (s : Int) : List AV := enc f_s_l15Keeps_h6 [.l t2, .l t3, .l t4, .l t5, .i t9, .i t10, .i t11, .i s]
def f_s_l15Keeps_g6_1 : List Sh := [.u, .u, .sl, .sl, .bp, .bp, .u, .u, .u, .int .i64, .int .i64, .int .i64, .u, .u, .u, .u, .u, .u, .u, .u, .u, .u, .u, .u, .u, .u, .u, .u, .u, .u, .u, .u, .u, .u, .u, .u, .u, .u, .u, .u, .u, .u, .u, .u, .u, .u, .u, .u, .u, .u, .u, .u, .u, .u, .u, .u, .u, .u, .u, .u, .u, .u, .u, .u, .u, .u, .u, .u, .u, .u, .u, .u, .u, .u, .u, .u, .u, .u, .u, .u, .u, .u]
def f_s_l15Keeps_x6_1 (t2 : List Sc) (t3 : List Sc) (t4 : List Sc) (t5 : List Sc) (t9 : Int) (t10 : Int) (t11 : Int) (e : Unit) : X × List AV := (.out 6, enc f_s_l15Keeps_g6_1 [.l t2, .l t3, .l t4, .l t5, .i t9, .i t10, .i t11])
def f_s_l15Keeps_g6_2 : List Sh := [.u, .u, .u, .u, .u, .u, .u, .u, .boo, .u, .u, .u, .u, .u, .u, .u, .u, .u, .u, .u, .u, .u, .u, .u, .u, .u, .u, .u, .u, .u, .u, .u, .u, .u, .u, .u, .u, .u, .u, .u, .u, .u, .u, .u, .u, .u, .u, .u, .u, .u, .u, .u, .u, .u, .u, .u, .u, .u, .u, .u, .u, .u, .u, .u, .u, .u, .u, .u, .u, .u, .u, .u, .u, .u, .u, .u, .u, .u, .u, .u, .u, .u]
def f_s_l15Keeps_x6_2 (t2 : List Sc) (t3 : List Sc) (t4 : List Sc) (t5 : List Sc) (t9 : Int) (t10 : Int) (t11 : Int) (e : Unit) : X × List AV := (.ret, enc f_s_l15Keeps_g6_2 [.b false])
theorem f_s_l15Keeps_p6 {R : Type} (t2 : List Sc) (t3 : List Sc) (t4 : List Sc) (t5 : List Sc) (t9 : Int) (t10 : Int) (t11 : Int) (s : Int) (kN : Int → Option R) (kA : Unit → Option R) (kB : Unit → Option R) : f_s_l15Keeps_k6 t2 t3 t4 t5 t9 t10 t11 s kN kA kB = (f_s_l15Keeps_r6 t2 t3 t4 t5 t9 t10 t11 s).bind (Ro.el kN kA kB) := by
  simp only [f_s_l15Keeps_k6, f_s_l15Keeps_r6, brB, boB, someB, noneB, Ro.el]
theorem f_s_l15Keeps_e6 (t2 : List Sc) (t3 : List Sc) (t4 : List Sc) (t5 : List Sc) (t9 : Int) (t10 : Int) (t11 : Int) (s : Int) : EC S0.E f_s_l15Keeps_M (asL (noL)) (S0.kl 61) 6 (bodyOf Try.f61 6) (f_s_l15Keeps_fr6 t2 t3 t4 t5 t9 t10 t11 s) (done (S0.kl 61 6)) = f_s_l15Keeps_k6 t2 t3 t4 t5 t9 t10 t11 s (fun s => some (.norm, f_s_l15Keeps_fr6 t2 t3 t4 t5 t9 t10 t11 s)) (fun e => some (f_s_l15Keeps_x6_1 t2 t3 t4 t5 t9 t10 t11 e)) (fun e => some (f_s_l15Keeps_x6_2 t2 t3 t4 t5 t9 t10 t11 e)) := by kernel_rfl
theorem f_s_l15Keeps_l6 (t2 : List Sc) (t3 : List Sc) (t4 : List Sc) (t5 : List Sc) (t9 : Int) (t10 : Int) (t11 : Int) : ∀ s r, loopL (f_s_l15Keeps_r6 t2 t3 t4 t5 t9 t10 t11) s = some r → LP S0 61 6 (bodyOf Try.f61 6) (f_s_l15Keeps_fr6 t2 t3 t4 t5 t9 t10 t11 s) = some (enX (f_s_l15Keeps_x6_1 t2 t3 t4 t5 t9 t10 t11) (f_s_l15Keeps_x6_2 t2 t3 t4 t5 t9 t10 t11) r) :=
  loop_true f_s_l15Keeps_Mt (noL_true) f_s_l15Keeps_o (fun _ h => by cases h) (fun _ h => by cases h) (fun s => (f_s_l15Keeps_e6 t2 t3 t4 t5 t9 t10 t11 s).trans (f_s_l15Keeps_p6 t2 t3 t4 t5 t9 t10 t11 s _ _ (fun e => some (f_s_l15Keeps_x6_2 t2 t3 t4 t5 t9 t10 t11 e))))
def f_s_l15Keeps_t6 (σ : List AV) : Option (Bool × Bool × (X × List AV) × (X × List AV)) := match dec f_s_l15Keeps_h6 σ with
  | some [.l t2, .l t3, .l t4, .l t5, .i t9, .i t10, .i t11, .i t12] => some ((loopL (f_s_l15Keeps_r6 t2 t3 t4 t5 t9 t10 t11) t12).isSome, isOne (loopL (f_s_l15Keeps_r6 t2 t3 t4 t5 t9 t10 t11) t12), f_s_l15Keeps_x6_1 t2 t3 t4 t5 t9 t10 t11 (getOne () (loopL (f_s_l15Keeps_r6 t2 t3 t4 t5 t9 t10 t11) t12)), f_s_l15Keeps_x6_2 t2 t3 t4 t5 t9 t10 t11 (getTwo () (loopL (f_s_l15Keeps_r6 t2 t3 t4 t5 t9 t10 t11) t12)))
  | _ => none
theorem f_s_l15Keeps_tt6 : TTrue S0 61 Try.f61 6 f_s_l15Keeps_t6 := by
  intro σ p r r' h
  unfold f_s_l15Keeps_t6 at h
  split at h
  · rename_i hd
    rw [← dec_enc hd]
    exact row2 (f_s_l15Keeps_l6 _ _ _ _ _ _ _ _) h
  · cases h
def f_s_l15Keeps_h4 : List Sh := [.u, .u, .sl, .sl, .bp, .bp, .u, .u, .u, .int .i64, .int .i64, .int .i64, .u, .u, .u, .u, .u, .u, .u, .u, .u, .u, .u, .u, .u, .u, .u, .u, .u, .u, .u, .u, .u, .u, .u, .u, .u, .u, .u, .u, .u, .u, .u, .u, .u, .u, .u, .u, .u, .u, .u, .u, .u, .u, .u, .u, .u, .u, .u, .u, .u, .u, .u, .u, .u, .u, .u, .u, .u, .u, .u, .u, .u, .u, .u, .u, .u, .u, .u, .u, .u, .u]
def f_s_l15Keeps_fr4 (t2 : List Sc) (t3 : List Sc) (t4 : List Sc) (t5 : List Sc) (t9 : Int) (t10 : Int) (s : Int) : List AV := enc f_s_l15Keeps_h4 [.l t2, .l t3, .l t4, .l t5, .i t9, .i t10, .i s]
def f_s_l15Keeps_g4_1 : List Sh := [.u, .u, .sl, .sl, .bp, .bp, .u, .u, .u, .int .i64, .int .i64, .int .i64, .u, .u, .u, .u, .u, .u, .u, .u, .u, .u, .u, .u, .u, .u, .u, .u, .u, .u, .u, .u, .u, .u, .u, .u, .u, .u, .u, .u, .u, .u, .u, .u, .u, .u, .u, .u, .u, .u, .u, .u, .u, .u, .u, .u, .u, .u, .u, .u, .u, .u, .u, .u, .u, .u, .u, .u, .u, .u, .u, .u, .u, .u, .u, .u, .u, .u, .u, .u, .u, .u]
def f_s_l15Keeps_x4_1 (t2 : List Sc) (t3 : List Sc) (t4 : List Sc) (t5 : List Sc) (t9 : Int) (t10 : Int) (e : Int) : X × List AV := (.out 4, enc f_s_l15Keeps_g4_1 [.l t2, .l t3, .l t4, .l t5, .i t9, .i t10, .i e])
def f_s_l15Keeps_g4_2 : List Sh := [.u, .u, .u, .u, .u, .u, .u, .u, .boo, .u, .u, .u, .u, .u, .u, .u, .u, .u, .u, .u, .u, .u, .u, .u, .u, .u, .u, .u, .u, .u, .u, .u, .u, .u, .u, .u, .u, .u, .u, .u, .u, .u, .u, .u, .u, .u, .u, .u, .u, .u, .u, .u, .u, .u, .u, .u, .u, .u, .u, .u, .u, .u, .u, .u, .u, .u, .u, .u, .u, .u, .u, .u, .u, .u, .u, .u, .u, .u, .u, .u, .u, .u]
def f_s_l15Keeps_x4_2 (t2 : List Sc) (t3 : List Sc) (t4 : List Sc) (t5 : List Sc) (t9 : Int) (t10 : Int) (e : Unit) : X × List AV := (.ret, enc f_s_l15Keeps_g4_2 [.b false])
theorem f_s_l15Keeps_p4 {R : Type} (t2 : List Sc) (t3 : List Sc) (t4 : List Sc) (t5 : List Sc) (t9 : Int) (t10 : Int) (s : Int) (kN : Int → Option R) (kA : Int → Option R) (kB : Unit → Option R) : f_s_l15Keeps_k4 t2 t3 t4 t5 t9 t10 s kN kA kB = (f_s_l15Keeps_r4 t2 t3 t4 t5 t9 t10 s).bind (Ro.el kN kA kB) := by
  simp only [f_s_l15Keeps_k4, f_s_l15Keeps_r4, brB, blB, someB, Ro.el]
theorem f_s_l15Keeps_e4 (t2 : List Sc) (t3 : List Sc) (t4 : List Sc) (t5 : List Sc) (t9 : Int) (t10 : Int) (s : Int) : EC S0.E f_s_l15Keeps_M (asL (addL 6 f_s_l15Keeps_t6 (noL))) (S0.kl 61) 4 (bodyOf Try.f61 4) (f_s_l15Keeps_fr4 t2 t3 t4 t5 t9 t10 s) (done (S0.kl 61 4)) = f_s_l15Keeps_k4 t2 t3 t4 t5 t9 t10 s (fun s => some (.norm, f_s_l15Keeps_fr4 t2 t3 t4 t5 t9 t10 s)) (fun e => some (f_s_l15Keeps_x4_1 t2 t3 t4 t5 t9 t10 e)) (fun e => some (f_s_l15Keeps_x4_2 t2 t3 t4 t5 t9 t10 e)) := by kernel_rfl
theorem f_s_l15Keeps_l4 (t2 : List Sc) (t3 : List Sc) (t4 : List Sc) (t5 : List Sc) (t9 : Int) (t10 : Int) : ∀ s r, loopL (f_s_l15Keeps_r4 t2 t3 t4 t5 t9 t10) s = some r → LP S0 61 4 (bodyOf Try.f61 4) (f_s_l15Keeps_fr4 t2 t3 t4 t5 t9 t10 s) = some (enX (f_s_l15Keeps_x4_1 t2 t3 t4 t5 t9 t10) (f_s_l15Keeps_x4_2 t2 t3 t4 t5 t9 t10) r) :=
  loop_true f_s_l15Keeps_Mt (addL_true f_s_l15Keeps_tt6 (noL_true)) f_s_l15Keeps_o (fun _ h => by cases h) (fun _ h => by cases h) (fun s => (f_s_l15Keeps_e4 t2 t3 t4 t5 t9 t10 s).trans (f_s_l15Keeps_p4 t2 t3 t4 t5 t9 t10 s _ _ (fun e => some (f_s_l15Keeps_x4_2 t2 t3 t4 t5 t9 t10 e))))
def f_s_l15Keeps_t4 (σ : List AV) : Option (Bool × Bool × (X × List AV) × (X × List AV)) := match dec f_s_l15Keeps_h4 σ with
  | some [.l t2, .l t3, .l t4, .l t5, .i t9, .i t10, .i t11] => some ((loopL (f_s_l15Keeps_r4 t2 t3 t4 t5 t9 t10) t11).isSome, isOne (loopL (f_s_l15Keeps_r4 t2 t3 t4 t5 t9 t10) t11), f_s_l15Keeps_x4_1 t2 t3 t4 t5 t9 t10 (getOne 0 (loopL (f_s_l15Keeps_r4 t2 t3 t4 t5 t9 t10) t11)), f_s_l15Keeps_x4_2 t2 t3 t4 t5 t9 t10 (getTwo () (loopL (f_s_l15Keeps_r4 t2 t3 t4 t5 t9 t10) t11)))
  | _ => none
theorem f_s_l15Keeps_tt4 : TTrue S0 61 Try.f61 4 f_s_l15Keeps_t4 := by
  intro σ p r r' h
  unfold f_s_l15Keeps_t4 at h
  split at h
  · rename_i hd
    rw [← dec_enc hd]
    exact row2 (f_s_l15Keeps_l4 _ _ _ _ _ _ _) h
  · cases h
def f_s_l15Keeps_h2 : List Sh := [.u, .u, .sl, .sl, .bp, .bp, .u, .u, .u, .int .i64, .int .i64, .u, .u, .u, .u, .u, .u, .u, .u, .u, .u, .u, .u, .u, .u, .u, .u, .u, .u, .u, .u, .u, .u, .u, .u, .u, .u, .u, .u, .u, .u, .u, .u, .u, .u, .u, .u, .u, .u, .u, .u, .u, .u, .u, .u, .u, .u, .u, .u, .u, .u, .u, .u, .u, .u, .u, .u, .u, .u, .u, .u, .u, .u, .u, .u, .u, .u, .u, .u, .u, .u, .u]
def f_s_l15Keeps_fr2 (t2 : List Sc) (t3 : List Sc) (t4 : List Sc) (t5 : List Sc) (t9 : Int) (s : Int) : List AV := enc f_s_l15Keeps_h2 [.l t2, .l t3, .l t4, .l t5, .i t9, .i s]
def f_s_l15Keeps_g2_1 : List Sh := [.u, .u, .sl, .sl, .bp, .bp, .u, .u, .u, .int .i64, .int .i64, .u, .u, .u, .u, .u, .u, .u, .u, .u, .u, .u, .u, .u, .u, .u, .u, .u, .u, .u, .u, .u, .u, .u, .u, .u, .u, .u, .u, .u, .u, .u, .u, .u, .u, .u, .u, .u, .u, .u, .u, .u, .u, .u, .u, .u, .u, .u, .u, .u, .u, .u, .u, .u, .u, .u, .u, .u, .u, .u, .u, .u, .u, .u, .u, .u, .u, .u, .u, .u, .u, .u]
def f_s_l15Keeps_x2_1 (t2 : List Sc) (t3 : List Sc) (t4 : List Sc) (t5 : List Sc) (t9 : Int) (e : Int) : X × List AV := (.out 2, enc f_s_l15Keeps_g2_1 [.l t2, .l t3, .l t4, .l t5, .i t9, .i e])
def f_s_l15Keeps_g2_2 : List Sh := [.u, .u, .u, .u, .u, .u, .u, .u, .boo, .u, .u, .u, .u, .u, .u, .u, .u, .u, .u, .u, .u, .u, .u, .u, .u, .u, .u, .u, .u, .u, .u, .u, .u, .u, .u, .u, .u, .u, .u, .u, .u, .u, .u, .u, .u, .u, .u, .u, .u, .u, .u, .u, .u, .u, .u, .u, .u, .u, .u, .u, .u, .u, .u, .u, .u, .u, .u, .u, .u, .u, .u, .u, .u, .u, .u, .u, .u, .u, .u, .u, .u, .u]
def f_s_l15Keeps_x2_2 (t2 : List Sc) (t3 : List Sc) (t4 : List Sc) (t5 : List Sc) (t9 : Int) (e : Unit) : X × List AV := (.ret, enc f_s_l15Keeps_g2_2 [.b false])
theorem f_s_l15Keeps_p2 {R : Type} (t2 : List Sc) (t3 : List Sc) (t4 : List Sc) (t5 : List Sc) (t9 : Int) (s : Int) (kN : Int → Option R) (kA : Int → Option R) (kB : Unit → Option R) : f_s_l15Keeps_k2 t2 t3 t4 t5 t9 s kN kA kB = (f_s_l15Keeps_r2 t2 t3 t4 t5 t9 s).bind (Ro.el kN kA kB) := by
  simp only [f_s_l15Keeps_k2, f_s_l15Keeps_r2, brB, blB, someB, Ro.el]
theorem f_s_l15Keeps_e2 (t2 : List Sc) (t3 : List Sc) (t4 : List Sc) (t5 : List Sc) (t9 : Int) (s : Int) : EC S0.E f_s_l15Keeps_M (asL (addL 4 f_s_l15Keeps_t4 (addL 6 f_s_l15Keeps_t6 (noL)))) (S0.kl 61) 2 (bodyOf Try.f61 2) (f_s_l15Keeps_fr2 t2 t3 t4 t5 t9 s) (done (S0.kl 61 2)) = f_s_l15Keeps_k2 t2 t3 t4 t5 t9 s (fun s => some (.norm, f_s_l15Keeps_fr2 t2 t3 t4 t5 t9 s)) (fun e => some (f_s_l15Keeps_x2_1 t2 t3 t4 t5 t9 e)) (fun e => some (f_s_l15Keeps_x2_2 t2 t3 t4 t5 t9 e)) := by kernel_rfl
theorem f_s_l15Keeps_l2 (t2 : List Sc) (t3 : List Sc) (t4 : List Sc) (t5 : List Sc) (t9 : Int) : ∀ s r, loopL (f_s_l15Keeps_r2 t2 t3 t4 t5 t9) s = some r → LP S0 61 2 (bodyOf Try.f61 2) (f_s_l15Keeps_fr2 t2 t3 t4 t5 t9 s) = some (enX (f_s_l15Keeps_x2_1 t2 t3 t4 t5 t9) (f_s_l15Keeps_x2_2 t2 t3 t4 t5 t9) r) :=
  loop_true f_s_l15Keeps_Mt (addL_true f_s_l15Keeps_tt4 (addL_true f_s_l15Keeps_tt6 (noL_true))) f_s_l15Keeps_o (fun _ h => by cases h) (fun _ h => by cases h) (fun s => (f_s_l15Keeps_e2 t2 t3 t4 t5 t9 s).trans (f_s_l15Keeps_p2 t2 t3 t4 t5 t9 s _ _ (fun e => some (f_s_l15Keeps_x2_2 t2 t3 t4 t5 t9 e))))
def f_s_l15Keeps_t2 (σ : List AV) : Option (Bool × Bool × (X × List AV) × (X × List AV)) := match dec f_s_l15Keeps_h2 σ with
  | some [.l t2, .l t3, .l t4, .l t5, .i t9, .i t10] => some ((loopL (f_s_l15Keeps_r2 t2 t3 t4 t5 t9) t10).isSome, isOne (loopL (f_s_l15Keeps_r2 t2 t3 t4 t5 t9) t10), f_s_l15Keeps_x2_1 t2 t3 t4 t5 t9 (getOne 0 (loopL (f_s_l15Keeps_r2 t2 t3 t4 t5 t9) t10)), f_s_l15Keeps_x2_2 t2 t3 t4 t5 t9 (getTwo () (loopL (f_s_l15Keeps_r2 t2 t3 t4 t5 t9) t10)))
  | _ => none
theorem f_s_l15Keeps_tt2 : TTrue S0 61 Try.f61 2 f_s_l15Keeps_t2 := by
  intro σ p r r' h
  unfold f_s_l15Keeps_t2 at h
  split at h
  · rename_i hd
    rw [← dec_enc hd]
    exact row2 (f_s_l15Keeps_l2 _ _ _ _ _ _) h
  · cases h
def f_s_l15Keeps_h0 : List Sh := [.u, .u, .sl, .sl, .bp, .bp, .u, .u, .u, .int .i64, .u, .u, .u, .u, .u, .u, .u, .u, .u, .u, .u, .u, .u, .u, .u, .u, .u, .u, .u, .u, .u, .u, .u, .u, .u, .u, .u, .u, .u, .u, .u, .u, .u, .u, .u, .u, .u, .u, .u, .u, .u, .u, .u, .u, .u, .u, .u, .u, .u, .u, .u, .u, .u, .u, .u, .u, .u, .u, .u, .u, .u, .u, .u, .u, .u, .u, .u, .u, .u, .u, .u, .u]
def f_s_l15Keeps_fr0 (t2 : List Sc) (t3 : List Sc) (t4 : List Sc) (t5 : List Sc) (s : Int) : List AV := enc f_s_l15Keeps_h0 [.l t2, .l t3, .l t4, .l t5, .i s]
def f_s_l15Keeps_g0_1 : List Sh := [.u, .u, .sl, .sl, .bp, .bp, .u, .u, .u, .int .i64, .u, .u, .u, .u, .u, .u, .u, .u, .u, .u, .u, .u, .u, .u, .u, .u, .u, .u, .u, .u, .u, .u, .u, .u, .u, .u, .u, .u, .u, .u, .u, .u, .u, .u, .u, .u, .u, .u, .u, .u, .u, .u, .u, .u, .u, .u, .u, .u, .u, .u, .u, .u, .u, .u, .u, .u, .u, .u, .u, .u, .u, .u, .u, .u, .u, .u, .u, .u, .u, .u, .u, .u]
def f_s_l15Keeps_x0_1 (t2 : List Sc) (t3 : List Sc) (t4 : List Sc) (t5 : List Sc) (e : Int) : X × List AV := (.out 0, enc f_s_l15Keeps_g0_1 [.l t2, .l t3, .l t4, .l t5, .i e])
def f_s_l15Keeps_g0_2 : List Sh := [.u, .u, .u, .u, .u, .u, .u, .u, .boo, .u, .u, .u, .u, .u, .u, .u, .u, .u, .u, .u, .u, .u, .u, .u, .u, .u, .u, .u, .u, .u, .u, .u, .u, .u, .u, .u, .u, .u, .u, .u, .u, .u, .u, .u, .u, .u, .u, .u, .u, .u, .u, .u, .u, .u, .u, .u, .u, .u, .u, .u, .u, .u, .u, .u, .u, .u, .u, .u, .u, .u, .u, .u, .u, .u, .u, .u, .u, .u, .u, .u, .u, .u]
def f_s_l15Keeps_x0_2 (t2 : List Sc) (t3 : List Sc) (t4 : List Sc) (t5 : List Sc) (e : Unit) : X × List AV := (.ret, enc f_s_l15Keeps_g0_2 [.b false])
theorem f_s_l15Keeps_p0 {R : Type} (t2 : List Sc) (t3 : List Sc) (t4 : List Sc) (t5 : List Sc) (s : Int) (kN : Int → Option R) (kA : Int → Option R) (kB : Unit → Option R) : f_s_l15Keeps_k0 t2 t3 t4 t5 s kN kA kB = (f_s_l15Keeps_r0 t2 t3 t4 t5 s).bind (Ro.el kN kA kB) := by
  simp only [f_s_l15Keeps_k0, f_s_l15Keeps_r0, brB, blB, someB, Ro.el]
theorem f_s_l15Keeps_e0 (t2 : List Sc) (t3 : List Sc) (t4 : List Sc) (t5 : List Sc) (s : Int) : EC S0.E f_s_l15Keeps_M (asL (addL 2 f_s_l15Keeps_t2 (addL 4 f_s_l15Keeps_t4 (addL 6 f_s_l15Keeps_t6 (noL))))) (S0.kl 61) 0 (bodyOf Try.f61 0) (f_s_l15Keeps_fr0 t2 t3 t4 t5 s) (done (S0.kl 61 0)) = f_s_l15Keeps_k0 t2 t3 t4 t5 s (fun s => some (.norm, f_s_l15Keeps_fr0 t2 t3 t4 t5 s)) (fun e => some (f_s_l15Keeps_x0_1 t2 t3 t4 t5 e)) (fun e => some (f_s_l15Keeps_x0_2 t2 t3 t4 t5 e)) := by kernel_rfl
theorem f_s_l15Keeps_l0 (t2 : List Sc) (t3 : List Sc) (t4 : List Sc) (t5 : List Sc) : ∀ s r, loopL (f_s_l15Keeps_r0 t2 t3 t4 t5) s = some r → LP S0 61 0 (bodyOf Try.f61 0) (f_s_l15Keeps_fr0 t2 t3 t4 t5 s) = some (enX (f_s_l15Keeps_x0_1 t2 t3 t4 t5) (f_s_l15Keeps_x0_2 t2 t3 t4 t5) r) :=
  loop_true f_s_l15Keeps_Mt (addL_true f_s_l15Keeps_tt2 (addL_true f_s_l15Keeps_tt4 (addL_true f_s_l15Keeps_tt6 (noL_true)))) f_s_l15Keeps_o (fun _ h => by cases h) (fun _ h => by cases h) (fun s => (f_s_l15Keeps_e0 t2 t3 t4 t5 s).trans (f_s_l15Keeps_p0 t2 t3 t4 t5 s _ _ (fun e => some (f_s_l15Keeps_x0_2 t2 t3 t4 t5 e))))
def f_s_l15Keeps_t0 (σ : List AV) : Option (Bool × Bool × (X × List AV) × (X × List AV)) := match dec f_s_l15Keeps_h0 σ with
  | some [.l t2, .l t3, .l t4, .l t5, .i t9] => some ((loopL (f_s_l15Keeps_r0 t2 t3 t4 t5) t9).isSome, isOne (loopL (f_s_l15Keeps_r0 t2 t3 t4 t5) t9), f_s_l15Keeps_x0_1 t2 t3 t4 t5 (getOne 0 (loopL (f_s_l15Keeps_r0 t2 t3 t4 t5) t9)), f_s_l15Keeps_x0_2 t2 t3 t4 t5 (getTwo () (loopL (f_s_l15Keeps_r0 t2 t3 t4 t5) t9)))
  | _ => none
theorem f_s_l15Keeps_tt0 : TTrue S0 61 Try.f61 0 f_s_l15Keeps_t0 := by
  intro σ p r r' h
  unfold f_s_l15Keeps_t0 at h
  split at h
  · rename_i hd
    rw [← dec_enc hd]
    exact row2 (f_s_l15Keeps_l0 _ _ _ _ _) h
  · cases h
theorem f_s_l15Keeps_p {R : Type} (L0 : List Sc) (p1 : List Sc) (p2 : List Sc) (p3 : List Sc) (kR : Bool → Option R) : f_s_l15Keeps_k L0 p1 p2 p3 kR = (f_s_l15Keeps L0 p1 p2 p3).bind kR := by
  simp only [f_s_l15Keeps_k, f_s_l15Keeps, blB, someB]
def f_s_l15Keeps_en (r : Bool) : List AV := enc [.boo] [.b r]
theorem f_s_l15Keeps_e (L0 : List Sc) (p1 : List Sc) (p2 : List Sc) (p3 : List Sc) : runFn S0.E f_s_l15Keeps_M (asL (addL 0 f_s_l15Keeps_t0 (addL 2 f_s_l15Keeps_t2 (addL 4 f_s_l15Keeps_t4 (addL 6 f_s_l15Keeps_t6 (noL)))))) (S0.kl 61) Try.f61 (enc [.gr, .gr, .sl, .sl] [.l L0, .l p1, .l p2, .l p3]) = f_s_l15Keeps_k L0 p1 p2 p3 (fun r => some (f_s_l15Keeps_en r)) := by kernel_rfl
theorem f_s_l15Keeps_ok (L0 : List Sc) (p1 : List Sc) (p2 : List Sc) (p3 : List Sc) (r : Bool) (h : f_s_l15Keeps L0 p1 p2 p3 = some r) : CL S0 61 (enc [.gr, .gr, .sl, .sl] [.l L0, .l p1, .l p2, .l p3]) = some (f_s_l15Keeps_en r) :=
  fn_true (Fk := fun k => f_s_l15Keeps_k L0 p1 p2 p3 k) (enc := f_s_l15Keeps_en) Try.func61 rfl f_s_l15Keeps_Mt (addL_true f_s_l15Keeps_tt0 (addL_true f_s_l15Keeps_tt2 (addL_true f_s_l15Keeps_tt4 (addL_true f_s_l15Keeps_tt6 (noL_true))))) f_s_l15Keeps_o (f_s_l15Keeps_e L0 p1 p2 p3) (f_s_l15Keeps_p L0 p1 p2 p3) h
def f_s_l15Keeps_c (args : List AV) : Option (Bool × List AV) := match dec [.gr, .gr, .sl, .sl] args with
  | some [.l L0, .l p1, .l p2, .l p3] => some ((f_s_l15Keeps L0 p1 p2 p3).isSome, f_s_l15Keeps_en ((f_s_l15Keeps L0 p1 p2 p3).getD false))
  | _ => none
theorem f_s_l15Keeps_cc : CTrue S0 61 f_s_l15Keeps_c := by
  intro args rs h
  unfold f_s_l15Keeps_c at h
  split at h
  · rename_i hd
    rw [← dec_enc hd]
    exact rowC (f_s_l15Keeps_ok _ _ _ _) h
  · cases h

def f_s_IsFreimanMap_M : Calling := addC 60 f_s_l15Fine_c (addC 61 f_s_l15Keeps_c (noC))
theorem f_s_IsFreimanMap_Mt : CallsTrue S0 f_s_IsFreimanMap_M := addC_true f_s_l15Fine_cc (addC_true f_s_l15Keeps_cc (noC_true))
theorem f_s_IsFreimanMap_o : loopsOnce Try.f34 = true := by kernel_rfl
theorem f_s_IsFreimanMap_p {R : Type} (g0 : List Sc) (h1 : List Sc) (l2 : List Sc) (m3 : List Sc) (kR : Bool → Option R) : f_s_IsFreimanMap_k g0 h1 l2 m3 kR = (f_s_IsFreimanMap g0 h1 l2 m3).bind kR := by
  simp only [f_s_IsFreimanMap_k, f_s_IsFreimanMap, brB, boB, someB]
def f_s_IsFreimanMap_en (r : Bool) : List AV := enc [.boo] [.b r]
theorem f_s_IsFreimanMap_e (g0 : List Sc) (h1 : List Sc) (l2 : List Sc) (m3 : List Sc) : runFn S0.E f_s_IsFreimanMap_M (asL (noL)) (S0.kl 34) Try.f34 (enc [.gr, .gr, .sl, .sl] [.l g0, .l h1, .l l2, .l m3]) = f_s_IsFreimanMap_k g0 h1 l2 m3 (fun r => some (f_s_IsFreimanMap_en r)) := by kernel_rfl
theorem f_s_IsFreimanMap_ok (g0 : List Sc) (h1 : List Sc) (l2 : List Sc) (m3 : List Sc) (r : Bool) (h : f_s_IsFreimanMap g0 h1 l2 m3 = some r) : CL S0 34 (enc [.gr, .gr, .sl, .sl] [.l g0, .l h1, .l l2, .l m3]) = some (f_s_IsFreimanMap_en r) :=
  fn_true (Fk := fun k => f_s_IsFreimanMap_k g0 h1 l2 m3 k) (enc := f_s_IsFreimanMap_en) Try.func34 rfl f_s_IsFreimanMap_Mt (noL_true) f_s_IsFreimanMap_o (f_s_IsFreimanMap_e g0 h1 l2 m3) (f_s_IsFreimanMap_p g0 h1 l2 m3) h
def f_s_IsFreimanMap_c (args : List AV) : Option (Bool × List AV) := match dec [.gr, .gr, .sl, .sl] args with
  | some [.l g0, .l h1, .l l2, .l m3] => some ((f_s_IsFreimanMap g0 h1 l2 m3).isSome, f_s_IsFreimanMap_en ((f_s_IsFreimanMap g0 h1 l2 m3).getD false))
  | _ => none
theorem f_s_IsFreimanMap_cc : CTrue S0 34 f_s_IsFreimanMap_c := by
  intro args rs h
  unfold f_s_IsFreimanMap_c at h
  split at h
  · rename_i hd
    rw [← dec_enc hd]
    exact rowC (f_s_IsFreimanMap_ok _ _ _ _) h
  · cases h

def f_i_SetOf_M : Calling := addC 68 f_i_Group_has_c (addC 48 f_i_in_c (addC 69 f_i_IsGroup_c (noC)))
theorem f_i_SetOf_Mt : CallsTrue S0 f_i_SetOf_M := addC_true f_i_Group_has_cc (addC_true f_i_in_cc (addC_true f_i_IsGroup_cc (noC_true)))
theorem f_i_SetOf_o : loopsOnce Try.f62 = true := by kernel_rfl
def f_i_SetOf_h0 : List Sh := [.u, .u, .bp, .u, .u, .u, .int .i64, .u, .u, .sl, .int .i64, .int .i64, .u, .u, .u, .u, .u, .u, .u, .u, .u, .u, .u, .u, .u, .u, .u, .u, .u, .u, .u, .u]
def f_i_SetOf_fr0 (g2 : List Sc) (t9 : List Sc) (t10 : Int) (s : Int × Int) : List AV := enc f_i_SetOf_h0 [.l g2, .i s.1, .l t9, .i t10, .i s.2]
def f_i_SetOf_g0_1 : List Sh := [.u, .u, .bp, .u, .u, .u, .int .i64, .u, .u, .u, .u, .u, .u, .u, .u, .u, .u, .u, .u, .u, .u, .u, .u, .u, .u, .u, .u, .u, .u, .u, .u, .u]
def f_i_SetOf_x0_1 (g2 : List Sc) (t9 : List Sc) (t10 : Int) (e : Int) : X × List AV := (.out 0, enc f_i_SetOf_g0_1 [.l g2, .i e])
def f_i_SetOf_g0_2 : List Sh := [.u, .u, .u, .u, .int .i64, .boo, .u, .u, .u, .u, .u, .u, .u, .u, .u, .u, .u, .u, .u, .u, .u, .u, .u, .u, .u, .u, .u, .u, .u, .u, .u, .u]
def f_i_SetOf_x0_2 (g2 : List Sc) (t9 : List Sc) (t10 : Int) (e : Unit) : X × List AV := (.ret, enc f_i_SetOf_g0_2 [.i 0, .b false])
theorem f_i_SetOf_p0 {R : Type} (g2 : List Sc) (t9 : List Sc) (t10 : Int) (s : Int × Int) (kN : Int × Int → Option R) (kA : Int → Option R) (kB : Unit → Option R) : f_i_SetOf_k0 g2 t9 t10 s.1 s.2 kN kA kB = (f_i_SetOf_r0 g2 t9 t10 s).bind (Ro.el kN kA kB) := by
  simp only [f_i_SetOf_k0, f_i_SetOf_r0, brB, boB, someB, noneB, Ro.el]
theorem f_i_SetOf_e0 (g2 : List Sc) (t9 : List Sc) (t10 : Int) (s : Int × Int) : EC S0.E f_i_SetOf_M (asL (noL)) (S0.kl 62) 0 (bodyOf Try.f62 0) (f_i_SetOf_fr0 g2 t9 t10 s) (done (S0.kl 62 0)) = f_i_SetOf_k0 g2 t9 t10 s.1 s.2 (fun s => some (.norm, f_i_SetOf_fr0 g2 t9 t10 s)) (fun e => some (f_i_SetOf_x0_1 g2 t9 t10 e)) (fun e => some (f_i_SetOf_x0_2 g2 t9 t10 e)) := by kernel_rfl
theorem f_i_SetOf_l0 (g2 : List Sc) (t9 : List Sc) (t10 : Int) : ∀ s r, loopL (f_i_SetOf_r0 g2 t9 t10) s = some r → LP S0 62 0 (bodyOf Try.f62 0) (f_i_SetOf_fr0 g2 t9 t10 s) = some (enX (f_i_SetOf_x0_1 g2 t9 t10) (f_i_SetOf_x0_2 g2 t9 t10) r) :=
  loop_true f_i_SetOf_Mt (noL_true) f_i_SetOf_o (fun _ h => by cases h) (fun _ h => by cases h) (fun s => (f_i_SetOf_e0 g2 t9 t10 s).trans (f_i_SetOf_p0 g2 t9 t10 s _ _ (fun e => some (f_i_SetOf_x0_2 g2 t9 t10 e))))
def f_i_SetOf_t0 (σ : List AV) : Option (Bool × Bool × (X × List AV) × (X × List AV)) := match dec f_i_SetOf_h0 σ with
  | some [.l g2, .i a6, .l t9, .i t10, .i t11] => some ((loopL (f_i_SetOf_r0 g2 t9 t10) (a6, t11)).isSome, isOne (loopL (f_i_SetOf_r0 g2 t9 t10) (a6, t11)), f_i_SetOf_x0_1 g2 t9 t10 (getOne 0 (loopL (f_i_SetOf_r0 g2 t9 t10) (a6, t11))), f_i_SetOf_x0_2 g2 t9 t10 (getTwo () (loopL (f_i_SetOf_r0 g2 t9 t10) (a6, t11))))
  | _ => none
theorem f_i_SetOf_tt0 : TTrue S0 62 Try.f62 0 f_i_SetOf_t0 := by
  intro σ p r r' h
  unfold f_i_SetOf_t0 at h
  split at h
  · rename_i hd
    rw [← dec_enc hd]
    exact row2 (f_i_SetOf_l0 _ _ _ _) h
  · cases h
theorem f_i_SetOf_p {R : Type} (g0 : List Sc) (l1 : List Sc) (kR : Int × Bool → Option R) : f_i_SetOf_k g0 l1 kR = (f_i_SetOf g0 l1).bind kR := by
  simp only [f_i_SetOf_k, f_i_SetOf, boB, blB, someB]
def f_i_SetOf_en (r : Int × Bool) : List AV := enc [.int .i64, .boo] [.i r.1, .b r.2]
theorem f_i_SetOf_e (g0 : List Sc) (l1 : List Sc) : runFn S0.E f_i_SetOf_M (asL (addL 0 f_i_SetOf_t0 (noL))) (S0.kl 62) Try.f62 (enc [.gr, .sl] [.l g0, .l l1]) = f_i_SetOf_k g0 l1 (fun r => some (f_i_SetOf_en r)) := by kernel_rfl
theorem f_i_SetOf_ok (g0 : List Sc) (l1 : List Sc) (r : Int × Bool) (h : f_i_SetOf g0 l1 = some r) : CL S0 62 (enc [.gr, .sl] [.l g0, .l l1]) = some (f_i_SetOf_en r) :=
  fn_true (Fk := fun k => f_i_SetOf_k g0 l1 k) (enc := f_i_SetOf_en) Try.func62 rfl f_i_SetOf_Mt (addL_true f_i_SetOf_tt0 (noL_true)) f_i_SetOf_o (f_i_SetOf_e g0 l1) (f_i_SetOf_p g0 l1) h
def f_i_SetOf_c (args : List AV) : Option (Bool × List AV) := match dec [.gr, .sl] args with
  | some [.l g0, .l l1] => some ((f_i_SetOf g0 l1).isSome, f_i_SetOf_en ((f_i_SetOf g0 l1).getD (0, false)))
  | _ => none
theorem f_i_SetOf_cc : CTrue S0 62 f_i_SetOf_c := by
  intro args rs h
  unfold f_i_SetOf_c at h
  split at h
  · rename_i hd
    rw [← dec_enc hd]
    exact rowC (f_i_SetOf_ok _ _) h
  · cases h

def f_i_ImageOfMap_M : Calling := addC 68 f_i_Group_has_c (addC 69 f_i_IsGroup_c (noC))
theorem f_i_ImageOfMap_Mt : CallsTrue S0 f_i_ImageOfMap_M := addC_true f_i_Group_has_cc (addC_true f_i_IsGroup_cc (noC_true))
theorem f_i_ImageOfMap_o : loopsOnce Try.f63 = true := by kernel_rfl
def f_i_ImageOfMap_h0 : List Sh := [.u, .u, .bp, .u, .u, .u, .int .i64, .u, .u, .sl, .int .i64, .int .i64, .u, .u, .u, .u, .u, .u, .u, .u, .u, .u, .u, .u, .u, .u, .u]
def f_i_ImageOfMap_fr0 (h2 : List Sc) (t9 : List Sc) (t10 : Int) (s : Int × Int) : List AV := enc f_i_ImageOfMap_h0 [.l h2, .i s.1, .l t9, .i t10, .i s.2]
def f_i_ImageOfMap_g0_1 : List Sh := [.u, .u, .bp, .u, .u, .u, .int .i64, .u, .u, .u, .u, .u, .u, .u, .u, .u, .u, .u, .u, .u, .u, .u, .u, .u, .u, .u, .u]
def f_i_ImageOfMap_x0_1 (h2 : List Sc) (t9 : List Sc) (t10 : Int) (e : Int) : X × List AV := (.out 0, enc f_i_ImageOfMap_g0_1 [.l h2, .i e])
def f_i_ImageOfMap_g0_2 : List Sh := [.u, .u, .u, .u, .int .i64, .boo, .u, .u, .u, .u, .u, .u, .u, .u, .u, .u, .u, .u, .u, .u, .u, .u, .u, .u, .u, .u, .u]
def f_i_ImageOfMap_x0_2 (h2 : List Sc) (t9 : List Sc) (t10 : Int) (e : Unit) : X × List AV := (.ret, enc f_i_ImageOfMap_g0_2 [.i 0, .b false])
theorem f_i_ImageOfMap_p0 {R : Type} (h2 : List Sc) (t9 : List Sc) (t10 : Int) (s : Int × Int) (kN : Int × Int → Option R) (kA : Int → Option R) (kB : Unit → Option R) : f_i_ImageOfMap_k0 h2 t9 t10 s.1 s.2 kN kA kB = (f_i_ImageOfMap_r0 h2 t9 t10 s).bind (Ro.el kN kA kB) := by
  simp only [f_i_ImageOfMap_k0, f_i_ImageOfMap_r0, brB, boB, someB, noneB, Ro.el]
theorem f_i_ImageOfMap_e0 (h2 : List Sc) (t9 : List Sc) (t10 : Int) (s : Int × Int) : EC S0.E f_i_ImageOfMap_M (asL (noL)) (S0.kl 63) 0 (bodyOf Try.f63 0) (f_i_ImageOfMap_fr0 h2 t9 t10 s) (done (S0.kl 63 0)) = f_i_ImageOfMap_k0 h2 t9 t10 s.1 s.2 (fun s => some (.norm, f_i_ImageOfMap_fr0 h2 t9 t10 s)) (fun e => some (f_i_ImageOfMap_x0_1 h2 t9 t10 e)) (fun e => some (f_i_ImageOfMap_x0_2 h2 t9 t10 e)) := by kernel_rfl
theorem f_i_ImageOfMap_l0 (h2 : List Sc) (t9 : List Sc) (t10 : Int) : ∀ s r, loopL (f_i_ImageOfMap_r0 h2 t9 t10) s = some r → LP S0 63 0 (bodyOf Try.f63 0) (f_i_ImageOfMap_fr0 h2 t9 t10 s) = some (enX (f_i_ImageOfMap_x0_1 h2 t9 t10) (f_i_ImageOfMap_x0_2 h2 t9 t10) r) :=
  loop_true f_i_ImageOfMap_Mt (noL_true) f_i_ImageOfMap_o (fun _ h => by cases h) (fun _ h => by cases h) (fun s => (f_i_ImageOfMap_e0 h2 t9 t10 s).trans (f_i_ImageOfMap_p0 h2 t9 t10 s _ _ (fun e => some (f_i_ImageOfMap_x0_2 h2 t9 t10 e))))
def f_i_ImageOfMap_t0 (σ : List AV) : Option (Bool × Bool × (X × List AV) × (X × List AV)) := match dec f_i_ImageOfMap_h0 σ with
  | some [.l h2, .i a6, .l t9, .i t10, .i t11] => some ((loopL (f_i_ImageOfMap_r0 h2 t9 t10) (a6, t11)).isSome, isOne (loopL (f_i_ImageOfMap_r0 h2 t9 t10) (a6, t11)), f_i_ImageOfMap_x0_1 h2 t9 t10 (getOne 0 (loopL (f_i_ImageOfMap_r0 h2 t9 t10) (a6, t11))), f_i_ImageOfMap_x0_2 h2 t9 t10 (getTwo () (loopL (f_i_ImageOfMap_r0 h2 t9 t10) (a6, t11))))
  | _ => none
theorem f_i_ImageOfMap_tt0 : TTrue S0 63 Try.f63 0 f_i_ImageOfMap_t0 := by
  intro σ p r r' h
  unfold f_i_ImageOfMap_t0 at h
  split at h
  · rename_i hd
    rw [← dec_enc hd]
    exact row2 (f_i_ImageOfMap_l0 _ _ _ _) h
  · cases h
theorem f_i_ImageOfMap_p {R : Type} (h0 : List Sc) (m1 : List Sc) (kR : Int × Bool → Option R) : f_i_ImageOfMap_k h0 m1 kR = (f_i_ImageOfMap h0 m1).bind kR := by
  simp only [f_i_ImageOfMap_k, f_i_ImageOfMap, boB, blB, someB]
def f_i_ImageOfMap_en (r : Int × Bool) : List AV := enc [.int .i64, .boo] [.i r.1, .b r.2]
theorem f_i_ImageOfMap_e (h0 : List Sc) (m1 : List Sc) : runFn S0.E f_i_ImageOfMap_M (asL (addL 0 f_i_ImageOfMap_t0 (noL))) (S0.kl 63) Try.f63 (enc [.gr, .sl] [.l h0, .l m1]) = f_i_ImageOfMap_k h0 m1 (fun r => some (f_i_ImageOfMap_en r)) := by kernel_rfl
theorem f_i_ImageOfMap_ok (h0 : List Sc) (m1 : List Sc) (r : Int × Bool) (h : f_i_ImageOfMap h0 m1 = some r) : CL S0 63 (enc [.gr, .sl] [.l h0, .l m1]) = some (f_i_ImageOfMap_en r) :=
  fn_true (Fk := fun k => f_i_ImageOfMap_k h0 m1 k) (enc := f_i_ImageOfMap_en) Try.func63 rfl f_i_ImageOfMap_Mt (addL_true f_i_ImageOfMap_tt0 (noL_true)) f_i_ImageOfMap_o (f_i_ImageOfMap_e h0 m1) (f_i_ImageOfMap_p h0 m1) h
def f_i_ImageOfMap_c (args : List AV) : Option (Bool × List AV) := match dec [.gr, .sl] args with
  | some [.l h0, .l m1] => some ((f_i_ImageOfMap h0 m1).isSome, f_i_ImageOfMap_en ((f_i_ImageOfMap h0 m1).getD (0, false)))
  | _ => none
theorem f_i_ImageOfMap_cc : CTrue S0 63 f_i_ImageOfMap_c := by
  intro args rs h
  unfold f_i_ImageOfMap_c at h
  split at h
  · rename_i hd
    rw [← dec_enc hd]
    exact rowC (f_i_ImageOfMap_ok _ _) h
  · cases h

def f_i_keeps_M : Calling := addC 71 f_i_Group_add_c (noC)
theorem f_i_keeps_Mt : CallsTrue S0 f_i_keeps_M := addC_true f_i_Group_add_cc (noC_true)
theorem f_i_keeps_o : loopsOnce Try.f64 = true := by kernel_rfl
def f_i_keeps_h6 : List Sh := [.u, .u, .sl, .sl, .bp, .bp, .u, .u, .u, .int .i64, .int .i64, .int .i64, .int .i64, .u, .int .i64, .int .i64, .u, .u, .u, .u, .u, .u, .u, .u, .u, .u, .int .i64, .int .i64, .u, .u, .u, .u, .u, .u, .u, .u, .u, .u, .u, .u, .u, .u, .u, .u, .u, .u, .u, .u, .u, .u, .u, .u, .u, .u, .u, .u, .u, .u, .u, .u, .u, .u, .u, .u, .u, .u, .u, .u, .u, .u, .u, .u, .u, .u, .u, .u, .u, .u, .u, .u, .u, .u, .u]
def f_i_keeps_fr6 (t2 : List Sc) (t3 : List Sc) (t4 : List Sc) (t5 : List Sc) (t9 : Int) (t10 : Int) (t11 : Int) (t14 : Int) (t15 : Int) (t26 : Int) (t27 : Int) (s : Int) : List AV := enc f_i_keeps_h6 [.l t2, .l t3, .l t4, .l t5, .i t9, .i t10, .i t11, .i s, .i t14, .i t15, .i t26, .i t27]
def f_i_keeps_g6_1 : List Sh := [.u, .u, .sl, .sl, .bp, .bp, .u, .u, .u, .int .i64, .int .i64, .u, .u, .u, .int .i64, .int .i64, .u, .u, .u, .u, .u, .u, .u, .u, .u, .u, .int .i64, .int .i64, .u, .u, .u, .u, .u, .u, .u, .u, .u, .u, .u, .u, .u, .u, .u, .u, .u, .u, .u, .u, .u, .u, .u, .u, .u, .u, .u, .u, .u, .u, .u, .u, .u, .u, .u, .u, .u, .u, .u, .u, .u, .u, .u, .u, .u, .u, .u, .u, .u, .u, .u, .u, .u, .u, .u]
def f_i_keeps_x6_1 (t2 : List Sc) (t3 : List Sc) (t4 : List Sc) (t5 : List Sc) (t9 : Int) (t10 : Int) (t11 : Int) (t14 : Int) (t15 : Int) (t26 : Int) (t27 : Int) (e : Unit) : X × List AV := (.out 6, enc f_i_keeps_g6_1 [.l t2, .l t3, .l t4, .l t5, .i t9, .i t10, .i t14, .i t15, .i t26, .i t27])
def f_i_keeps_g6_2 : List Sh := [.u, .u, .u, .u, .u, .u, .u, .u, .boo, .u, .u, .u, .u, .u, .u, .u, .u, .u, .u, .u, .u, .u, .u, .u, .u, .u, .u, .u, .u, .u, .u, .u, .u, .u, .u, .u, .u, .u, .u, .u, .u, .u, .u, .u, .u, .u, .u, .u, .u, .u, .u, .u, .u, .u, .u, .u, .u, .u, .u, .u, .u, .u, .u, .u, .u, .u, .u, .u, .u, .u, .u, .u, .u, .u, .u, .u, .u, .u, .u, .u, .u, .u, .u]
def f_i_keeps_x6_2 (t2 : List Sc) (t3 : List Sc) (t4 : List Sc) (t5 : List Sc) (t9 : Int) (t10 : Int) (t11 : Int) (t14 : Int) (t15 : Int) (t26 : Int) (t27 : Int) (e : Unit) : X × List AV := (.ret, enc f_i_keeps_g6_2 [.b false])
theorem f_i_keeps_p6 {R : Type} (t2 : List Sc) (t3 : List Sc) (t4 : List Sc) (t5 : List Sc) (t9 : Int) (t10 : Int) (t11 : Int) (t14 : Int) (t15 : Int) (t26 : Int) (t27 : Int) (s : Int) (kN : Int → Option R) (kA : Unit → Option R) (kB : Unit → Option R) : f_i_keeps_k6 t2 t3 t4 t5 t9 t10 t11 t14 t15 t26 t27 s kN kA kB = (f_i_keeps_r6 t2 t3 t4 t5 t9 t10 t11 t14 t15 t26 t27 s).bind (Ro.el kN kA kB) := by
  simp only [f_i_keeps_k6, f_i_keeps_r6, brB, boB, someB, noneB, Ro.el]
theorem f_i_keeps_e6 (t2 : List Sc) (t3 : List Sc) (t4 : List Sc) (t5 : List Sc) (t9 : Int) (t10 : Int) (t11 : Int) (t14 : Int) (t15 : Int) (t26 : Int) (t27 : Int) (s : Int) : EC S0.E f_i_keeps_M (asL (noL)) (S0.kl 64) 6 (bodyOf Try.f64 6) (f_i_keeps_fr6 t2 t3 t4 t5 t9 t10 t11 t14 t15 t26 t27 s) (done (S0.kl 64 6)) = f_i_keeps_k6 t2 t3 t4 t5 t9 t10 t11 t14 t15 t26 t27 s (fun s => some (.norm, f_i_keeps_fr6 t2 t3 t4 t5 t9 t10 t11 t14 t15 t26 t27 s)) (fun e => some (f_i_keeps_x6_1 t2 t3 t4 t5 t9 t10 t11 t14 t15 t26 t27 e)) (fun e => some (f_i_keeps_x6_2 t2 t3 t4 t5 t9 t10 t11 t14 t15 t26 t27 e)) := by kernel_rfl
theorem f_i_keeps_l6 (t2 : List Sc) (t3 : List Sc) (t4 : List Sc) (t5 : List Sc) (t9 : Int) (t10 : Int) (t11 : Int) (t14 : Int) (t15 : Int) (t26 : Int) (t27 : Int) : ∀ s r, loopL (f_i_keeps_r6 t2 t3 t4 t5 t9 t10 t11 t14 t15 t26 t27) s = some r → LP S0 64 6 (bodyOf Try.f64 6) (f_i_keeps_fr6 t2 t3 t4 t5 t9 t10 t11 t14 t15 t26 t27 s) = some (enX (f_i_keeps_x6_1 t2 t3 t4 t5 t9 t10 t11 t14 t15 t26 t27) (f_i_keeps_x6_2 t2 t3 t4 t5 t9 t10 t11 t14 t15 t26 t27) r) :=
  loop_true f_i_keeps_Mt (noL_true) f_i_keeps_o (fun _ h => by cases h) (fun _ h => by cases h) (fun s => (f_i_keeps_e6 t2 t3 t4 t5 t9 t10 t11 t14 t15 t26 t27 s).trans (f_i_keeps_p6 t2 t3 t4 t5 t9 t10 t11 t14 t15 t26 t27 s _ _ (fun e => some (f_i_keeps_x6_2 t2 t3 t4 t5 t9 t10 t11 t14 t15 t26 t27 e))))
def f_i_keeps_t6 (σ : List AV) : Option (Bool × Bool × (X × List AV) × (X × List AV)) := match dec f_i_keeps_h6 σ with
  | some [.l t2, .l t3, .l t4, .l t5, .i t9, .i t10, .i t11, .i t12, .i t14, .i t15, .i t26, .i t27] => some ((loopL (f_i_keeps_r6 t2 t3 t4 t5 t9 t10 t11 t14 t15 t26 t27) t12).isSome, isOne (loopL (f_i_keeps_r6 t2 t3 t4 t5 t9 t10 t11 t14 t15 t26 t27) t12), f_i_keeps_x6_1 t2 t3 t4 t5 t9 t10 t11 t14 t15 t26 t27 (getOne () (loopL (f_i_keeps_r6 t2 t3 t4 t5 t9 t10 t11 t14 t15 t26 t27) t12)), f_i_keeps_x6_2 t2 t3 t4 t5 t9 t10 t11 t14 t15 t26 t27 (getTwo () (loopL (f_i_keeps_r6 t2 t3 t4 t5 t9 t10 t11 t14 t15 t26 t27) t12)))
  | _ => none
theorem f_i_keeps_tt6 : TTrue S0 64 Try.f64 6 f_i_keeps_t6 := by
  intro σ p r r' h
  unfold f_i_keeps_t6 at h
  split at h
  · rename_i hd
    rw [← dec_enc hd]
    exact row2 (f_i_keeps_l6 _ _ _ _ _ _ _ _ _ _ _ _) h
  · cases h
def f_i_keeps_h4 : List Sh := [.u, .u, .sl, .sl, .bp, .bp, .u, .u, .u, .int .i64, .int .i64, .u, .u, .u, .int .i64, .int .i64, .u, .u, .u, .u, .u, .u, .u, .u, .u, .u, .int .i64, .int .i64, .u, .u, .u, .u, .u, .u, .u, .u, .u, .u, .u, .u, .u, .u, .u, .u, .u, .u, .u, .u, .u, .u, .u, .u, .u, .u, .u, .u, .u, .u, .u, .u, .u, .u, .u, .u, .u, .u, .u, .u, .u, .u, .u, .u, .u, .u, .u, .u, .u, .u, .u, .u, .u, .u, .u]
def f_i_keeps_fr4 (t2 : List Sc) (t3 : List Sc) (t4 : List Sc) (t5 : List Sc) (t9 : Int) (t10 : Int) (t14 : Int) (t15 : Int) (t26 : Int) (s : Int) : List AV := enc f_i_keeps_h4 [.l t2, .l t3, .l t4, .l t5, .i t9, .i t10, .i t14, .i t15, .i t26, .i s]
def f_i_keeps_g4_1 : List Sh := [.u, .u, .sl, .sl, .bp, .bp, .u, .u, .u, .int .i64, .int .i64, .u, .u, .u, .int .i64, .int .i64, .u, .u, .u, .u, .u, .u, .u, .u, .u, .u, .int .i64, .int .i64, .u, .u, .u, .u, .u, .u, .u, .u, .u, .u, .u, .u, .u, .u, .u, .u, .u, .u, .u, .u, .u, .u, .u, .u, .u, .u, .u, .u, .u, .u, .u, .u, .u, .u, .u, .u, .u, .u, .u, .u, .u, .u, .u, .u, .u, .u, .u, .u, .u, .u, .u, .u, .u, .u, .u]
def f_i_keeps_x4_1 (t2 : List Sc) (t3 : List Sc) (t4 : List Sc) (t5 : List Sc) (t9 : Int) (t10 : Int) (t14 : Int) (t15 : Int) (t26 : Int) (e : Int) : X × List AV := (.out 4, enc f_i_keeps_g4_1 [.l t2, .l t3, .l t4, .l t5, .i t9, .i t10, .i t14, .i t15, .i t26, .i e])
def f_i_keeps_g4_2 : List Sh := [.u, .u, .u, .u, .u, .u, .u, .u, .boo, .u, .u, .u, .u, .u, .u, .u, .u, .u, .u, .u, .u, .u, .u, .u, .u, .u, .u, .u, .u, .u, .u, .u, .u, .u, .u, .u, .u, .u, .u, .u, .u, .u, .u, .u, .u, .u, .u, .u, .u, .u, .u, .u, .u, .u, .u, .u, .u, .u, .u, .u, .u, .u, .u, .u, .u, .u, .u, .u, .u, .u, .u, .u, .u, .u, .u, .u, .u, .u, .u, .u, .u, .u, .u]
def f_i_keeps_x4_2 (t2 : List Sc) (t3 : List Sc) (t4 : List Sc) (t5 : List Sc) (t9 : Int) (t10 : Int) (t14 : Int) (t15 : Int) (t26 : Int) (e : Unit) : X × List AV := (.ret, enc f_i_keeps_g4_2 [.b false])
theorem f_i_keeps_p4 {R : Type} (t2 : List Sc) (t3 : List Sc) (t4 : List Sc) (t5 : List Sc) (t9 : Int) (t10 : Int) (t14 : Int) (t15 : Int) (t26 : Int) (s : Int) (kN : Int → Option R) (kA : Int → Option R) (kB : Unit → Option R) : f_i_keeps_k4 t2 t3 t4 t5 t9 t10 t14 t15 t26 s kN kA kB = (f_i_keeps_r4 t2 t3 t4 t5 t9 t10 t14 t15 t26 s).bind (Ro.el kN kA kB) := by
  simp only [f_i_keeps_k4, f_i_keeps_r4, brB, blB, someB, Ro.el]
theorem f_i_keeps_e4 (t2 : List Sc) (t3 : List Sc) (t4 : List Sc) (t5 : List Sc) (t9 : Int) (t10 : Int) (t14 : Int) (t15 : Int) (t26 : Int) (s : Int) : EC S0.E f_i_keeps_M (asL (addL 6 f_i_keeps_t6 (noL))) (S0.kl 64) 4 (bodyOf Try.f64 4) (f_i_keeps_fr4 t2 t3 t4 t5 t9 t10 t14 t15 t26 s) (done (S0.kl 64 4)) = f_i_keeps_k4 t2 t3 t4 t5 t9 t10 t14 t15 t26 s (fun s => some (.norm, f_i_keeps_fr4 t2 t3 t4 t5 t9 t10 t14 t15 t26 s)) (fun e => some (f_i_keeps_x4_1 t2 t3 t4 t5 t9 t10 t14 t15 t26 e)) (fun e => some (f_i_keeps_x4_2 t2 t3 t4 t5 t9 t10 t14 t15 t26 e)) := by kernel_rfl
theorem f_i_keeps_l4 (t2 : List Sc) (t3 : List Sc) (t4 : List Sc) (t5 : List Sc) (t9 : Int) (t10 : Int) (t14 : Int) (t15 : Int) (t26 : Int) : ∀ s r, loopL (f_i_keeps_r4 t2 t3 t4 t5 t9 t10 t14 t15 t26) s = some r → LP S0 64 4 (bodyOf Try.f64 4) (f_i_keeps_fr4 t2 t3 t4 t5 t9 t10 t14 t15 t26 s) = some (enX (f_i_keeps_x4_1 t2 t3 t4 t5 t9 t10 t14 t15 t26) (f_i_keeps_x4_2 t2 t3 t4 t5 t9 t10 t14 t15 t26) r) :=
  loop_true f_i_keeps_Mt (addL_true f_i_keeps_tt6 (noL_true)) f_i_keeps_o (fun _ h => by cases h) (fun _ h => by cases h) (fun s => (f_i_keeps_e4 t2 t3 t4 t5 t9 t10 t14 t15 t26 s).trans (f_i_keeps_p4 t2 t3 t4 t5 t9 t10 t14 t15 t26 s _ _ (fun e => some (f_i_keeps_x4_2 t2 t3 t4 t5 t9 t10 t14 t15 t26 e))))
def f_i_keeps_t4 (σ : List AV) : Option (Bool × Bool × (X × List AV) × (X × List AV)) := match dec f_i_keeps_h4 σ with
  | some [.l t2, .l t3, .l t4, .l t5, .i t9, .i t10, .i t14, .i t15, .i t26, .i t27] => some ((loopL (f_i_keeps_r4 t2 t3 t4 t5 t9 t10 t14 t15 t26) t27).isSome, isOne (loopL (f_i_keeps_r4 t2 t3 t4 t5 t9 t10 t14 t15 t26) t27), f_i_keeps_x4_1 t2 t3 t4 t5 t9 t10 t14 t15 t26 (getOne 0 (loopL (f_i_keeps_r4 t2 t3 t4 t5 t9 t10 t14 t15 t26) t27)), f_i_keeps_x4_2 t2 t3 t4 t5 t9 t10 t14 t15 t26 (getTwo () (loopL (f_i_keeps_r4 t2 t3 t4 t5 t9 t10 t14 t15 t26) t27)))
  | _ => none
theorem f_i_keeps_tt4 : TTrue S0 64 Try.f64 4 f_i_keeps_t4 := by
  intro σ p r r' h
  unfold f_i_keeps_t4 at h
  split at h
  · rename_i hd
    rw [← dec_enc hd]
    exact row2 (f_i_keeps_l4 _ _ _ _ _ _ _ _ _ _) h
  · cases h
def f_i_keeps_h2 : List Sh := [.u, .u, .sl, .sl, .bp, .bp, .u, .u, .u, .int .i64, .int .i64, .u, .u, .u, .int .i64, .int .i64, .u, .u, .u, .u, .u, .u, .u, .u, .u, .u, .u, .u, .u, .u, .u, .u, .u, .u, .u, .u, .u, .u, .u, .u, .u, .u, .u, .u, .u, .u, .u, .u, .u, .u, .u, .u, .u, .u, .u, .u, .u, .u, .u, .u, .u, .u, .u, .u, .u, .u, .u, .u, .u, .u, .u, .u, .u, .u, .u, .u, .u, .u, .u, .u, .u, .u, .u]
def f_i_keeps_fr2 (t2 : List Sc) (t3 : List Sc) (t4 : List Sc) (t5 : List Sc) (t9 : Int) (t14 : Int) (t15 : Int) (s : Int) : List AV := enc f_i_keeps_h2 [.l t2, .l t3, .l t4, .l t5, .i t9, .i s, .i t14, .i t15]
def f_i_keeps_g2_1 : List Sh := [.u, .u, .sl, .sl, .bp, .bp, .u, .u, .u, .int .i64, .int .i64, .u, .u, .u, .int .i64, .int .i64, .u, .u, .u, .u, .u, .u, .u, .u, .u, .u, .u, .u, .u, .u, .u, .u, .u, .u, .u, .u, .u, .u, .u, .u, .u, .u, .u, .u, .u, .u, .u, .u, .u, .u, .u, .u, .u, .u, .u, .u, .u, .u, .u, .u, .u, .u, .u, .u, .u, .u, .u, .u, .u, .u, .u, .u, .u, .u, .u, .u, .u, .u, .u, .u, .u, .u, .u]
def f_i_keeps_x2_1 (t2 : List Sc) (t3 : List Sc) (t4 : List Sc) (t5 : List Sc) (t9 : Int) (t14 : Int) (t15 : Int) (e : Int) : X × List AV := (.out 2, enc f_i_keeps_g2_1 [.l t2, .l t3, .l t4, .l t5, .i t9, .i e, .i t14, .i t15])
def f_i_keeps_g2_2 : List Sh := [.u, .u, .u, .u, .u, .u, .u, .u, .boo, .u, .u, .u, .u, .u, .u, .u, .u, .u, .u, .u, .u, .u, .u, .u, .u, .u, .u, .u, .u, .u, .u, .u, .u, .u, .u, .u, .u, .u, .u, .u, .u, .u, .u, .u, .u, .u, .u, .u, .u, .u, .u, .u, .u, .u, .u, .u, .u, .u, .u, .u, .u, .u, .u, .u, .u, .u, .u, .u, .u, .u, .u, .u, .u, .u, .u, .u, .u, .u, .u, .u, .u, .u, .u]
def f_i_keeps_x2_2 (t2 : List Sc) (t3 : List Sc) (t4 : List Sc) (t5 : List Sc) (t9 : Int) (t14 : Int) (t15 : Int) (e : Unit) : X × List AV := (.ret, enc f_i_keeps_g2_2 [.b false])
theorem f_i_keeps_p2 {R : Type} (t2 : List Sc) (t3 : List Sc) (t4 : List Sc) (t5 : List Sc) (t9 : Int) (t14 : Int) (t15 : Int) (s : Int) (kN : Int → Option R) (kA : Int → Option R) (kB : Unit → Option R) : f_i_keeps_k2 t2 t3 t4 t5 t9 t14 t15 s kN kA kB = (f_i_keeps_r2 t2 t3 t4 t5 t9 t14 t15 s).bind (Ro.el kN kA kB) := by
  simp only [f_i_keeps_k2, f_i_keeps_r2, brB, blB, someB, Ro.el]
theorem f_i_keeps_e2 (t2 : List Sc) (t3 : List Sc) (t4 : List Sc) (t5 : List Sc) (t9 : Int) (t14 : Int) (t15 : Int) (s : Int) : EC S0.E f_i_keeps_M (asL (addL 4 f_i_keeps_t4 (addL 6 f_i_keeps_t6 (noL)))) (S0.kl 64) 2 (bodyOf Try.f64 2) (f_i_keeps_fr2 t2 t3 t4 t5 t9 t14 t15 s) (done (S0.kl 64 2)) = f_i_keeps_k2 t2 t3 t4 t5 t9 t14 t15 s (fun s => some (.norm, f_i_keeps_fr2 t2 t3 t4 t5 t9 t14 t15 s)) (fun e => some (f_i_keeps_x2_1 t2 t3 t4 t5 t9 t14 t15 e)) (fun e => some (f_i_keeps_x2_2 t2 t3 t4 t5 t9 t14 t15 e)) := by kernel_rfl
theorem f_i_keeps_l2 (t2 : List Sc) (t3 : List Sc) (t4 : List Sc) (t5 : List Sc) (t9 : Int) (t14 : Int) (t15 : Int) : ∀ s r, loopL (f_i_keeps_r2 t2 t3 t4 t5 t9 t14 t15) s = some r → LP S0 64 2 (bodyOf Try.f64 2) (f_i_keeps_fr2 t2 t3 t4 t5 t9 t14 t15 s) = some (enX (f_i_keeps_x2_1 t2 t3 t4 t5 t9 t14 t15) (f_i_keeps_x2_2 t2 t3 t4 t5 t9 t14 t15) r) :=
  loop_true f_i_keeps_Mt (addL_true f_i_keeps_tt4 (addL_true f_i_keeps_tt6 (noL_true))) f_i_keeps_o (fun _ h => by cases h) (fun _ h => by cases h) (fun s => (f_i_keeps_e2 t2 t3 t4 t5 t9 t14 t15 s).trans (f_i_keeps_p2 t2 t3 t4 t5 t9 t14 t15 s _ _ (fun e => some (f_i_keeps_x2_2 t2 t3 t4 t5 t9 t14 t15 e))))
def f_i_keeps_t2 (σ : List AV) : Option (Bool × Bool × (X × List AV) × (X × List AV)) := match dec f_i_keeps_h2 σ with
  | some [.l t2, .l t3, .l t4, .l t5, .i t9, .i t10, .i t14, .i t15] => some ((loopL (f_i_keeps_r2 t2 t3 t4 t5 t9 t14 t15) t10).isSome, isOne (loopL (f_i_keeps_r2 t2 t3 t4 t5 t9 t14 t15) t10), f_i_keeps_x2_1 t2 t3 t4 t5 t9 t14 t15 (getOne 0 (loopL (f_i_keeps_r2 t2 t3 t4 t5 t9 t14 t15) t10)), f_i_keeps_x2_2 t2 t3 t4 t5 t9 t14 t15 (getTwo () (loopL (f_i_keeps_r2 t2 t3 t4 t5 t9 t14 t15) t10)))
  | _ => none
theorem f_i_keeps_tt2 : TTrue S0 64 Try.f64 2 f_i_keeps_t2 := by
  intro σ p r r' h
  unfold f_i_keeps_t2 at h
  split at h
  · rename_i hd
    rw [← dec_enc hd]
    exact row2 (f_i_keeps_l2 _ _ _ _ _ _ _ _) h
  · cases h
def f_i_keeps_h0 : List Sh := [.u, .u, .sl, .sl, .bp, .bp, .u, .u, .u, .u, .u, .u, .u, .u, .int .i64, .int .i64, .u, .u, .u, .u, .u, .u, .u, .u, .u, .u, .u, .u, .u, .u, .u, .u, .u, .u, .u, .u, .u, .u, .u, .u, .u, .u, .u, .u, .u, .u, .u, .u, .u, .u, .u, .u, .u, .u, .u, .u, .u, .u, .u, .u, .u, .u, .u, .u, .u, .u, .u, .u, .u, .u, .u, .u, .u, .u, .u, .u, .u, .u, .u, .u, .u, .u, .u]
def f_i_keeps_fr0 (t2 : List Sc) (t3 : List Sc) (t4 : List Sc) (t5 : List Sc) (t14 : Int) (s : Int) : List AV := enc f_i_keeps_h0 [.l t2, .l t3, .l t4, .l t5, .i t14, .i s]
def f_i_keeps_g0_1 : List Sh := [.u, .u, .sl, .sl, .bp, .bp, .u, .u, .u, .u, .u, .u, .u, .u, .int .i64, .int .i64, .u, .u, .u, .u, .u, .u, .u, .u, .u, .u, .u, .u, .u, .u, .u, .u, .u, .u, .u, .u, .u, .u, .u, .u, .u, .u, .u, .u, .u, .u, .u, .u, .u, .u, .u, .u, .u, .u, .u, .u, .u, .u, .u, .u, .u, .u, .u, .u, .u, .u, .u, .u, .u, .u, .u, .u, .u, .u, .u, .u, .u, .u, .u, .u, .u, .u, .u]
def f_i_keeps_x0_1 (t2 : List Sc) (t3 : List Sc) (t4 : List Sc) (t5 : List Sc) (t14 : Int) (e : Int) : X × List AV := (.out 0, enc f_i_keeps_g0_1 [.l t2, .l t3, .l t4, .l t5, .i t14, .i e])
def f_i_keeps_g0_2 : List Sh := [.u, .u, .u, .u, .u, .u, .u, .u, .boo, .u, .u, .u, .u, .u, .u, .u, .u, .u, .u, .u, .u, .u, .u, .u, .u, .u, .u, .u, .u, .u, .u, .u, .u, .u, .u, .u, .u, .u, .u, .u, .u, .u, .u, .u, .u, .u, .u, .u, .u, .u, .u, .u, .u, .u, .u, .u, .u, .u, .u, .u, .u, .u, .u, .u, .u, .u, .u, .u, .u, .u, .u, .u, .u, .u, .u, .u, .u, .u, .u, .u, .u, .u, .u]
def f_i_keeps_x0_2 (t2 : List Sc) (t3 : List Sc) (t4 : List Sc) (t5 : List Sc) (t14 : Int) (e : Unit) : X × List AV := (.ret, enc f_i_keeps_g0_2 [.b false])
theorem f_i_keeps_p0 {R : Type} (t2 : List Sc) (t3 : List Sc) (t4 : List Sc) (t5 : List Sc) (t14 : Int) (s : Int) (kN : Int → Option R) (kA : Int → Option R) (kB : Unit → Option R) : f_i_keeps_k0 t2 t3 t4 t5 t14 s kN kA kB = (f_i_keeps_r0 t2 t3 t4 t5 t14 s).bind (Ro.el kN kA kB) := by
  simp only [f_i_keeps_k0, f_i_keeps_r0, brB, blB, someB, Ro.el]
theorem f_i_keeps_e0 (t2 : List Sc) (t3 : List Sc) (t4 : List Sc) (t5 : List Sc) (t14 : Int) (s : Int) : EC S0.E f_i_keeps_M (asL (addL 2 f_i_keeps_t2 (addL 4 f_i_keeps_t4 (addL 6 f_i_keeps_t6 (noL))))) (S0.kl 64) 0 (bodyOf Try.f64 0) (f_i_keeps_fr0 t2 t3 t4 t5 t14 s) (done (S0.kl 64 0)) = f_i_keeps_k0 t2 t3 t4 t5 t14 s (fun s => some (.norm, f_i_keeps_fr0 t2 t3 t4 t5 t14 s)) (fun e => some (f_i_keeps_x0_1 t2 t3 t4 t5 t14 e)) (fun e => some (f_i_keeps_x0_2 t2 t3 t4 t5 t14 e)) := by kernel_rfl
theorem f_i_keeps_l0 (t2 : List Sc) (t3 : List Sc) (t4 : List Sc) (t5 : List Sc) (t14 : Int) : ∀ s r, loopL (f_i_keeps_r0 t2 t3 t4 t5 t14) s = some r → LP S0 64 0 (bodyOf Try.f64 0) (f_i_keeps_fr0 t2 t3 t4 t5 t14 s) = some (enX (f_i_keeps_x0_1 t2 t3 t4 t5 t14) (f_i_keeps_x0_2 t2 t3 t4 t5 t14) r) :=
  loop_true f_i_keeps_Mt (addL_true f_i_keeps_tt2 (addL_true f_i_keeps_tt4 (addL_true f_i_keeps_tt6 (noL_true)))) f_i_keeps_o (fun _ h => by cases h) (fun _ h => by cases h) (fun s => (f_i_keeps_e0 t2 t3 t4 t5 t14 s).trans (f_i_keeps_p0 t2 t3 t4 t5 t14 s _ _ (fun e => some (f_i_keeps_x0_2 t2 t3 t4 t5 t14 e))))
def f_i_keeps_t0 (σ : List AV) : Option (Bool × Bool × (X × List AV) × (X × List AV)) := match dec f_i_keeps_h0 σ with
  | some [.l t2, .l t3, .l t4, .l t5, .i t14, .i t15] => some ((loopL (f_i_keeps_r0 t2 t3 t4 t5 t14) t15).isSome, isOne (loopL (f_i_keeps_r0 t2 t3 t4 t5 t14) t15), f_i_keeps_x0_1 t2 t3 t4 t5 t14 (getOne 0 (loopL (f_i_keeps_r0 t2 t3 t4 t5 t14) t15)), f_i_keeps_x0_2 t2 t3 t4 t5 t14 (getTwo () (loopL (f_i_keeps_r0 t2 t3 t4 t5 t14) t15)))
  | _ => none
theorem f_i_keeps_tt0 : TTrue S0 64 Try.f64 0 f_i_keeps_t0 := by
  intro σ p r r' h
  unfold f_i_keeps_t0 at h
  split at h
  · rename_i hd
    rw [← dec_enc hd]
    exact row2 (f_i_keeps_l0 _ _ _ _ _ _) h
  · cases h
theorem f_i_keeps_p {R : Type} (L0 : List Sc) (p1 : List Sc) (p2 : List Sc) (p3 : List Sc) (kR : Bool → Option R) : f_i_keeps_k L0 p1 p2 p3 kR = (f_i_keeps L0 p1 p2 p3).bind kR := by
  simp only [f_i_keeps_k, f_i_keeps, blB, someB]
def f_i_keeps_en (r : Bool) : List AV := enc [.boo] [.b r]
theorem f_i_keeps_e (L0 : List Sc) (p1 : List Sc) (p2 : List Sc) (p3 : List Sc) : runFn S0.E f_i_keeps_M (asL (addL 0 f_i_keeps_t0 (addL 2 f_i_keeps_t2 (addL 4 f_i_keeps_t4 (addL 6 f_i_keeps_t6 (noL)))))) (S0.kl 64) Try.f64 (enc [.gr, .gr, .sl, .sl] [.l L0, .l p1, .l p2, .l p3]) = f_i_keeps_k L0 p1 p2 p3 (fun r => some (f_i_keeps_en r)) := by kernel_rfl
theorem f_i_keeps_ok (L0 : List Sc) (p1 : List Sc) (p2 : List Sc) (p3 : List Sc) (r : Bool) (h : f_i_keeps L0 p1 p2 p3 = some r) : CL S0 64 (enc [.gr, .gr, .sl, .sl] [.l L0, .l p1, .l p2, .l p3]) = some (f_i_keeps_en r) :=
  fn_true (Fk := fun k => f_i_keeps_k L0 p1 p2 p3 k) (enc := f_i_keeps_en) Try.func64 rfl f_i_keeps_Mt (addL_true f_i_keeps_tt0 (addL_true f_i_keeps_tt2 (addL_true f_i_keeps_tt4 (addL_true f_i_keeps_tt6 (noL_true))))) f_i_keeps_o (f_i_keeps_e L0 p1 p2 p3) (f_i_keeps_p L0 p1 p2 p3) h
def f_i_keeps_c (args : List AV) : Option (Bool × List AV) := match dec [.gr, .gr, .sl, .sl] args with
  | some [.l L0, .l p1, .l p2, .l p3] => some ((f_i_keeps L0 p1 p2 p3).isSome, f_i_keeps_en ((f_i_keeps L0 p1 p2 p3).getD false))
  | _ => none
theorem f_i_keeps_cc : CTrue S0 64 f_i_keeps_c := by
  intro args rs h
  unfold f_i_keeps_c at h
  split at h
  · rename_i hd
    rw [← dec_enc hd]
    exact rowC (f_i_keeps_ok _ _ _ _) h
  · cases h

def f_i_IsFreimanMap_M : Calling := addC 62 f_i_SetOf_c (addC 58 f_i_within_c (addC 63 f_i_ImageOfMap_c (addC 64 f_i_keeps_c (noC))))
theorem f_i_IsFreimanMap_Mt : CallsTrue S0 f_i_IsFreimanMap_M := addC_true f_i_SetOf_cc (addC_true f_i_within_cc (addC_true f_i_ImageOfMap_cc (addC_true f_i_keeps_cc (noC_true))))
theorem f_i_IsFreimanMap_o : loopsOnce Try.f35 = true := by kernel_rfl
theorem f_i_IsFreimanMap_p {R : Type} (g0 : List Sc) (h1 : List Sc) (l2 : List Sc) (m3 : List Sc) (kR : Bool → Option R) : f_i_IsFreimanMap_k g0 h1 l2 m3 kR = (f_i_IsFreimanMap g0 h1 l2 m3).bind kR := by
  simp only [f_i_IsFreimanMap_k, f_i_IsFreimanMap, brB, boB, someB]
def f_i_IsFreimanMap_en (r : Bool) : List AV := enc [.boo] [.b r]
theorem f_i_IsFreimanMap_e (g0 : List Sc) (h1 : List Sc) (l2 : List Sc) (m3 : List Sc) : runFn S0.E f_i_IsFreimanMap_M (asL (noL)) (S0.kl 35) Try.f35 (enc [.gr, .gr, .sl, .sl] [.l g0, .l h1, .l l2, .l m3]) = f_i_IsFreimanMap_k g0 h1 l2 m3 (fun r => some (f_i_IsFreimanMap_en r)) := by kernel_rfl
theorem f_i_IsFreimanMap_ok (g0 : List Sc) (h1 : List Sc) (l2 : List Sc) (m3 : List Sc) (r : Bool) (h : f_i_IsFreimanMap g0 h1 l2 m3 = some r) : CL S0 35 (enc [.gr, .gr, .sl, .sl] [.l g0, .l h1, .l l2, .l m3]) = some (f_i_IsFreimanMap_en r) :=
  fn_true (Fk := fun k => f_i_IsFreimanMap_k g0 h1 l2 m3 k) (enc := f_i_IsFreimanMap_en) Try.func35 rfl f_i_IsFreimanMap_Mt (noL_true) f_i_IsFreimanMap_o (f_i_IsFreimanMap_e g0 h1 l2 m3) (f_i_IsFreimanMap_p g0 h1 l2 m3) h
def f_i_IsFreimanMap_c (args : List AV) : Option (Bool × List AV) := match dec [.gr, .gr, .sl, .sl] args with
  | some [.l g0, .l h1, .l l2, .l m3] => some ((f_i_IsFreimanMap g0 h1 l2 m3).isSome, f_i_IsFreimanMap_en ((f_i_IsFreimanMap g0 h1 l2 m3).getD false))
  | _ => none
theorem f_i_IsFreimanMap_cc : CTrue S0 35 f_i_IsFreimanMap_c := by
  intro args rs h
  unfold f_i_IsFreimanMap_c at h
  split at h
  · rename_i hd
    rw [← dec_enc hd]
    exact rowC (f_i_IsFreimanMap_ok _ _ _ _) h
  · cases h

def f_l_FnExactIsFreimanMap_M : Calling := addC 13 f_l_szGroup_c (addC 15 f_l_toGroup_c (addC 16 f_l_toIntS_c (addC 34 f_s_IsFreimanMap_c (addC 35 f_i_IsFreimanMap_c (addC 18 f_l_eqGroup_c (addC 19 f_l_eqIntS_c (noC)))))))
theorem f_l_FnExactIsFreimanMap_Mt : CallsTrue S0 f_l_FnExactIsFreimanMap_M := addC_true f_l_szGroup_cc (addC_true f_l_toGroup_cc (addC_true f_l_toIntS_cc (addC_true f_s_IsFreimanMap_cc (addC_true f_i_IsFreimanMap_cc (addC_true f_l_eqGroup_cc (addC_true f_l_eqIntS_cc (noC_true)))))))
theorem f_l_FnExactIsFreimanMap_o : loopsOnce Try.f11 = true := by kernel_rfl
theorem f_l_FnExactIsFreimanMap_p {R : Type} (L0 : List Sc) (p1 : List Sc) (p2 : List Sc) (p3 : List Sc) (kR : Bool → Option R) : f_l_FnExactIsFreimanMap_k L0 p1 p2 p3 kR = (f_l_FnExactIsFreimanMap L0 p1 p2 p3).bind kR := by
  simp only [f_l_FnExactIsFreimanMap_k, f_l_FnExactIsFreimanMap, brB, boB, someB, noneB]
def f_l_FnExactIsFreimanMap_en (r : Bool) : List AV := enc [.boo] [.b r]
theorem f_l_FnExactIsFreimanMap_e (L0 : List Sc) (p1 : List Sc) (p2 : List Sc) (p3 : List Sc) : runFn S0.E f_l_FnExactIsFreimanMap_M (asL (noL)) (S0.kl 11) Try.f11 (enc [.gr, .gr, .sl, .sl] [.l L0, .l p1, .l p2, .l p3]) = f_l_FnExactIsFreimanMap_k L0 p1 p2 p3 (fun r => some (f_l_FnExactIsFreimanMap_en r)) := by kernel_rfl
theorem f_l_FnExactIsFreimanMap_ok (L0 : List Sc) (p1 : List Sc) (p2 : List Sc) (p3 : List Sc) (r : Bool) (h : f_l_FnExactIsFreimanMap L0 p1 p2 p3 = some r) : CL S0 11 (enc [.gr, .gr, .sl, .sl] [.l L0, .l p1, .l p2, .l p3]) = some (f_l_FnExactIsFreimanMap_en r) :=
  fn_true (Fk := fun k => f_l_FnExactIsFreimanMap_k L0 p1 p2 p3 k) (enc := f_l_FnExactIsFreimanMap_en) Try.func11 rfl f_l_FnExactIsFreimanMap_Mt (noL_true) f_l_FnExactIsFreimanMap_o (f_l_FnExactIsFreimanMap_e L0 p1 p2 p3) (f_l_FnExactIsFreimanMap_p L0 p1 p2 p3) h
def f_l_FnExactIsFreimanMap_c (args : List AV) : Option (Bool × List AV) := match dec [.gr, .gr, .sl, .sl] args with
  | some [.l L0, .l p1, .l p2, .l p3] => some ((f_l_FnExactIsFreimanMap L0 p1 p2 p3).isSome, f_l_FnExactIsFreimanMap_en ((f_l_FnExactIsFreimanMap L0 p1 p2 p3).getD false))
  | _ => none
theorem f_l_FnExactIsFreimanMap_cc : CTrue S0 11 f_l_FnExactIsFreimanMap_c := by
  intro args rs h
  unfold f_l_FnExactIsFreimanMap_c at h
  split at h
  · rename_i hd
    rw [← dec_enc hd]
    exact rowC (f_l_FnExactIsFreimanMap_ok _ _ _ _) h
  · cases h

def f_s_IsFreimanIso_M : Calling := addC 34 f_s_IsFreimanMap_c (noC)
theorem f_s_IsFreimanIso_Mt : CallsTrue S0 f_s_IsFreimanIso_M := addC_true f_s_IsFreimanMap_cc (noC_true)
theorem f_s_IsFreimanIso_o : loopsOnce Try.f36 = true := by kernel_rfl
theorem f_s_IsFreimanIso_p {R : Type} (g0 : List Sc) (h1 : List Sc) (l2 : List Sc) (m3 : List Sc) (kR : Bool → Option R) : f_s_IsFreimanIso_k g0 h1 l2 m3 kR = (f_s_IsFreimanIso g0 h1 l2 m3).bind kR := by
  simp only [f_s_IsFreimanIso_k, f_s_IsFreimanIso, brB, boB, someB]
def f_s_IsFreimanIso_en (r : Bool) : List AV := enc [.boo] [.b r]
theorem f_s_IsFreimanIso_e (g0 : List Sc) (h1 : List Sc) (l2 : List Sc) (m3 : List Sc) : runFn S0.E f_s_IsFreimanIso_M (asL (noL)) (S0.kl 36) Try.f36 (enc [.gr, .gr, .sl, .sl] [.l g0, .l h1, .l l2, .l m3]) = f_s_IsFreimanIso_k g0 h1 l2 m3 (fun r => some (f_s_IsFreimanIso_en r)) := by kernel_rfl
theorem f_s_IsFreimanIso_ok (g0 : List Sc) (h1 : List Sc) (l2 : List Sc) (m3 : List Sc) (r : Bool) (h : f_s_IsFreimanIso g0 h1 l2 m3 = some r) : CL S0 36 (enc [.gr, .gr, .sl, .sl] [.l g0, .l h1, .l l2, .l m3]) = some (f_s_IsFreimanIso_en r) :=
  fn_true (Fk := fun k => f_s_IsFreimanIso_k g0 h1 l2 m3 k) (enc := f_s_IsFreimanIso_en) Try.func36 rfl f_s_IsFreimanIso_Mt (noL_true) f_s_IsFreimanIso_o (f_s_IsFreimanIso_e g0 h1 l2 m3) (f_s_IsFreimanIso_p g0 h1 l2 m3) h
def f_s_IsFreimanIso_c (args : List AV) : Option (Bool × List AV) := match dec [.gr, .gr, .sl, .sl] args with
  | some [.l g0, .l h1, .l l2, .l m3] => some ((f_s_IsFreimanIso g0 h1 l2 m3).isSome, f_s_IsFreimanIso_en ((f_s_IsFreimanIso g0 h1 l2 m3).getD false))
  | _ => none
theorem f_s_IsFreimanIso_cc : CTrue S0 36 f_s_IsFreimanIso_c := by
  intro args rs h
  unfold f_s_IsFreimanIso_c at h
  split at h
  · rename_i hd
    rw [← dec_enc hd]
    exact rowC (f_s_IsFreimanIso_ok _ _ _ _) h
  · cases h

def f_i_IsFreimanIso_M : Calling := addC 35 f_i_IsFreimanMap_c (noC)
theorem f_i_IsFreimanIso_Mt : CallsTrue S0 f_i_IsFreimanIso_M := addC_true f_i_IsFreimanMap_cc (noC_true)
theorem f_i_IsFreimanIso_o : loopsOnce Try.f37 = true := by kernel_rfl
theorem f_i_IsFreimanIso_p {R : Type} (g0 : List Sc) (h1 : List Sc) (l2 : List Sc) (m3 : List Sc) (kR : Bool → Option R) : f_i_IsFreimanIso_k g0 h1 l2 m3 kR = (f_i_IsFreimanIso g0 h1 l2 m3).bind kR := by
  simp only [f_i_IsFreimanIso_k, f_i_IsFreimanIso, brB, boB, someB]
def f_i_IsFreimanIso_en (r : Bool) : List AV := enc [.boo] [.b r]
theorem f_i_IsFreimanIso_e (g0 : List Sc) (h1 : List Sc) (l2 : List Sc) (m3 : List Sc) : runFn S0.E f_i_IsFreimanIso_M (asL (noL)) (S0.kl 37) Try.f37 (enc [.gr, .gr, .sl, .sl] [.l g0, .l h1, .l l2, .l m3]) = f_i_IsFreimanIso_k g0 h1 l2 m3 (fun r => some (f_i_IsFreimanIso_en r)) := by kernel_rfl
theorem f_i_IsFreimanIso_ok (g0 : List Sc) (h1 : List Sc) (l2 : List Sc) (m3 : List Sc) (r : Bool) (h : f_i_IsFreimanIso g0 h1 l2 m3 = some r) : CL S0 37 (enc [.gr, .gr, .sl, .sl] [.l g0, .l h1, .l l2, .l m3]) = some (f_i_IsFreimanIso_en r) :=
  fn_true (Fk := fun k => f_i_IsFreimanIso_k g0 h1 l2 m3 k) (enc := f_i_IsFreimanIso_en) Try.func37 rfl f_i_IsFreimanIso_Mt (noL_true) f_i_IsFreimanIso_o (f_i_IsFreimanIso_e g0 h1 l2 m3) (f_i_IsFreimanIso_p g0 h1 l2 m3) h
def f_i_IsFreimanIso_c (args : List AV) : Option (Bool × List AV) := match dec [.gr, .gr, .sl, .sl] args with
  | some [.l g0, .l h1, .l l2, .l m3] => some ((f_i_IsFreimanIso g0 h1 l2 m3).isSome, f_i_IsFreimanIso_en ((f_i_IsFreimanIso g0 h1 l2 m3).getD false))
  | _ => none
theorem f_i_IsFreimanIso_cc : CTrue S0 37 f_i_IsFreimanIso_c := by
  intro args rs h
  unfold f_i_IsFreimanIso_c at h
  split at h
  · rename_i hd
    rw [← dec_enc hd]
    exact rowC (f_i_IsFreimanIso_ok _ _ _ _) h
  · cases h

def f_l_FnExactIsFreimanIso_M : Calling := addC 13 f_l_szGroup_c (addC 15 f_l_toGroup_c (addC 16 f_l_toIntS_c (addC 36 f_s_IsFreimanIso_c (addC 37 f_i_IsFreimanIso_c (addC 18 f_l_eqGroup_c (addC 19 f_l_eqIntS_c (noC)))))))
theorem f_l_FnExactIsFreimanIso_Mt : CallsTrue S0 f_l_FnExactIsFreimanIso_M := addC_true f_l_szGroup_cc (addC_true f_l_toGroup_cc (addC_true f_l_toIntS_cc (addC_true f_s_IsFreimanIso_cc (addC_true f_i_IsFreimanIso_cc (addC_true f_l_eqGroup_cc (addC_true f_l_eqIntS_cc (noC_true)))))))
theorem f_l_FnExactIsFreimanIso_o : loopsOnce Try.f12 = true := by kernel_rfl
theorem f_l_FnExactIsFreimanIso_p {R : Type} (L0 : List Sc) (p1 : List Sc) (p2 : List Sc) (p3 : List Sc) (kR : Bool → Option R) : f_l_FnExactIsFreimanIso_k L0 p1 p2 p3 kR = (f_l_FnExactIsFreimanIso L0 p1 p2 p3).bind kR := by
  simp only [f_l_FnExactIsFreimanIso_k, f_l_FnExactIsFreimanIso, brB, boB, someB, noneB]
def f_l_FnExactIsFreimanIso_en (r : Bool) : List AV := enc [.boo] [.b r]
theorem f_l_FnExactIsFreimanIso_e (L0 : List Sc) (p1 : List Sc) (p2 : List Sc) (p3 : List Sc) : runFn S0.E f_l_FnExactIsFreimanIso_M (asL (noL)) (S0.kl 12) Try.f12 (enc [.gr, .gr, .sl, .sl] [.l L0, .l p1, .l p2, .l p3]) = f_l_FnExactIsFreimanIso_k L0 p1 p2 p3 (fun r => some (f_l_FnExactIsFreimanIso_en r)) := by kernel_rfl
theorem f_l_FnExactIsFreimanIso_ok (L0 : List Sc) (p1 : List Sc) (p2 : List Sc) (p3 : List Sc) (r : Bool) (h : f_l_FnExactIsFreimanIso L0 p1 p2 p3 = some r) : CL S0 12 (enc [.gr, .gr, .sl, .sl] [.l L0, .l p1, .l p2, .l p3]) = some (f_l_FnExactIsFreimanIso_en r) :=
  fn_true (Fk := fun k => f_l_FnExactIsFreimanIso_k L0 p1 p2 p3 k) (enc := f_l_FnExactIsFreimanIso_en) Try.func12 rfl f_l_FnExactIsFreimanIso_Mt (noL_true) f_l_FnExactIsFreimanIso_o (f_l_FnExactIsFreimanIso_e L0 p1 p2 p3) (f_l_FnExactIsFreimanIso_p L0 p1 p2 p3) h
def f_l_FnExactIsFreimanIso_c (args : List AV) : Option (Bool × List AV) := match dec [.gr, .gr, .sl, .sl] args with
  | some [.l L0, .l p1, .l p2, .l p3] => some ((f_l_FnExactIsFreimanIso L0 p1 p2 p3).isSome, f_l_FnExactIsFreimanIso_en ((f_l_FnExactIsFreimanIso L0 p1 p2 p3).getD false))
  | _ => none
theorem f_l_FnExactIsFreimanIso_cc : CTrue S0 12 f_l_FnExactIsFreimanIso_c := by
  intro args rs h
  unfold f_l_FnExactIsFreimanIso_c at h
  split at h
  · rename_i hd
    rw [← dec_enc hd]
    exact rowC (f_l_FnExactIsFreimanIso_ok _ _ _ _) h
  · cases h
end
end Go.Proofs.Ytipbknonljjagaa
