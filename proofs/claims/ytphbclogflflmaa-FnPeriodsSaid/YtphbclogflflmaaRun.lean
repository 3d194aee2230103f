/-
  That the program computes just that (printed by gen2.py).
-/
import Derived.Test.YtphbclogflflmaaRuna
set_option linter.unusedVariables false
set_option linter.unusedSimpArgs false
namespace Go.Proofs.Ytphbclogflflmaa
open Go Ev
noncomputable section
def f_i_Group_negate_F : Fi := { nv := 0, nc := 0, m := 0, vt := [], kl := [(0, ([0, 2, 3, 4, 7, 8, 9, 13, 14, 15, 16, 17, 18, 19, 20, 21, 22, 23, 24, 25, 26, 27, 28, 29, 30, 31, 32, 33, 34], [0, 1, 2, 3, 4, 6, 7, 8, 9, 10, 11, 12, 13, 14, 15, 16, 17, 18, 19, 20, 21, 22, 23, 24, 25, 26, 27, 28, 29, 30, 31, 32, 33, 34], [0, 1, 2, 3, 5, 6, 7, 8, 9, 10, 11, 12, 13, 14, 15, 16, 17, 18, 19, 20, 21, 22, 23, 24, 25, 26, 27, 28, 29, 30, 31, 32, 33, 34]))], sk := [], mvs := [], fz := [] }
def f_i_Group_negate_a (g0 : List Sc) (x1 : Int) : List AV := enc [.p .gr, .p (.int .i64)] [.l g0, .i x1]
def f_i_Group_negate_i (g0 : List Sc) (x1 : Int) : List AV := enc [] []
def f_i_Group_negate_en (r : Int) : List AV × List AV := (enc [.p (.int .i64)] [.i r], enc [] [])
def f_i_Group_negate_M : Calling := noC
theorem f_i_Group_negate_Mt : CallOk Try.prog (f_i_Group_negate_M) := noC_true
theorem f_i_Group_negate_o : loopsOnce Try.f149 = true := by kernel_rfl
def f_i_Group_negate_h0 : List Sh := [.u, .p (.int .i64), .u, .u, .u, .p (.int .i64), .p (.int .i64), .u, .u, .u, .p .sl, .p (.int .i64), .p (.int .i64), .u, .u, .u, .u, .u, .u, .u, .u, .u, .u, .u, .u, .u, .u, .u, .u, .u, .u, .u, .u, .u, .u]
def f_i_Group_negate_fr0 (t10 : List Sc) (t11 : Int) (s : Int × Int × Int × Int) : List AV := enc f_i_Group_negate_h0 [.i s.1, .i s.2.1, .i s.2.2.1, .l t10, .i t11, .i s.2.2.2]
def f_i_Group_negate_g0_1 : List Sh := [.u, .u, .u, .u, .u, .p (.int .i64), .u, .u, .u, .u, .u, .u, .u, .u, .u, .u, .u, .u, .u, .u, .u, .u, .u, .u, .u, .u, .u, .u, .u, .u, .u, .u, .u, .u, .u]
def f_i_Group_negate_x0_1 (t10 : List Sc) (t11 : Int) (e : Int) : X × List AV := (.out 0, enc f_i_Group_negate_g0_1 [.i e])
def f_i_Group_negate_x0_2 (t10 : List Sc) (t11 : Int) (_e : Unit) : X × List AV := (.ret, [])
theorem f_i_Group_negate_p0 {R : Type} (t10 : List Sc) (t11 : Int) (s : Int × Int × Int × Int) (kN : Int × Int × Int × Int → Option R) (kA : Int → Option R) (kB : Unit → Option R) : f_i_Group_negate_k0 t10 t11 s.1 s.2.1 s.2.2.1 s.2.2.2 kN kA = (f_i_Group_negate_r0 t10 t11 s).bind (Ro.el kN kA kB) := by
  simp only [f_i_Group_negate_k0, f_i_Group_negate_r0, brB, someB, noneB, Ro.el]
theorem f_i_Group_negate_e0 (t10 : List Sc) (t11 : Int) (s : Int × Int × Int × Int) : EC E0 f_i_Group_negate_M H0 f_i_Group_negate_F (asL (noL)) 0 (bodyOf Try.f149 0) (f_i_Group_negate_fr0 t10 t11 s) (done (klOf f_i_Group_negate_F 0)) = f_i_Group_negate_k0 t10 t11 s.1 s.2.1 s.2.2.1 s.2.2.2 (fun s => some (.norm, f_i_Group_negate_fr0 t10 t11 s)) (fun e => some (f_i_Group_negate_x0_1 t10 t11 e)) := by kernel_rfl
theorem f_i_Group_negate_l0 (t10 : List Sc) (t11 : Int) : ∀ s r, loopL (f_i_Group_negate_r0 t10 t11) s = some r → LS Try.prog f_i_Group_negate_F (bodyOf Try.f149 0) (f_i_Group_negate_fr0 t10 t11 s) (enX (f_i_Group_negate_x0_1 t10 t11) (f_i_Group_negate_x0_2 t10 t11) r) :=
  loop_true E0ok f_i_Group_negate_Mt (noL_true) f_i_Group_negate_o (fun _ h => by cases h) (fun _ h => by cases h) (fun s => (f_i_Group_negate_e0 t10 t11 s).trans (f_i_Group_negate_p0 t10 t11 s _ _ (fun e => some (f_i_Group_negate_x0_2 t10 t11 e))))
def f_i_Group_negate_t0 (σ : List AV) : Option (Bool × Bool × (X × List AV) × (X × List AV)) := match dec f_i_Group_negate_h0 σ with
  | some [.i x1, .i sum5, .i unit6, .l t10, .i t11, .i t12] => some (isOne (loopL (f_i_Group_negate_r0 t10 t11) (x1, sum5, unit6, t12)), true, f_i_Group_negate_x0_1 t10 t11 (getOne 0 (loopL (f_i_Group_negate_r0 t10 t11) (x1, sum5, unit6, t12))), (.ret, []))
  | _ => none
theorem f_i_Group_negate_tt0 : TTrue Try.prog f_i_Group_negate_F Try.f149 0 (f_i_Group_negate_t0) := by
  intro σ p r r' h
  unfold f_i_Group_negate_t0 at h
  split at h
  · rename_i hd
    rw [← dec_enc hd]
    exact row1 (f_i_Group_negate_l0 _ _ _) h
  · cases h
theorem f_i_Group_negate_p {R : Type} (g0 : List Sc) (x1 : Int) (kR : Int → Option R) : f_i_Group_negate_k g0 x1 kR = (f_i_Group_negate_k g0 x1 some).bind kR := by
  simp only [f_i_Group_negate_k, bl1B, someB]
theorem f_i_Group_negate_e (g0 : List Sc) (x1 : Int) : runFn E0 f_i_Group_negate_M H0 f_i_Group_negate_F (asL (addL 0 (f_i_Group_negate_t0) (noL))) Try.f149 (f_i_Group_negate_a g0 x1) (f_i_Group_negate_i g0 x1) = f_i_Group_negate_k g0 x1 (fun r => some (f_i_Group_negate_en r)) := by kernel_rfl
theorem f_i_Group_negate_ok (g0 : List Sc) (x1 : Int) (r : Int) (h : f_i_Group_negate g0 x1 = some r) : CS Try.prog 149 (f_i_Group_negate_a g0 x1) (f_i_Group_negate_i g0 x1) (f_i_Group_negate_en r).1 (f_i_Group_negate_en r).2 :=
  fn_true (Gk := fun k => f_i_Group_negate_k g0 x1 k) (en := f_i_Group_negate_en) Try.func149 E0ok f_i_Group_negate_Mt (addL_true (f_i_Group_negate_tt0) (noL_true)) f_i_Group_negate_o (f_i_Group_negate_e g0 x1) (f_i_Group_negate_p g0 x1) h
def f_i_Group_negate_c : CRow := fun args inh => match dec2 [.p .gr, .p (.int .i64)] [] args inh with
  | some ([.l g0, .i x1], []) => some ((f_i_Group_negate g0 x1).isSome, (f_i_Group_negate_en ((f_i_Group_negate g0 x1).getD 0)).1, (f_i_Group_negate_en ((f_i_Group_negate g0 x1).getD 0)).2)
  | _ => none
theorem f_i_Group_negate_cc : CTrue Try.prog 149 f_i_Group_negate_c := by
  intro args inh rs out h
  unfold f_i_Group_negate_c at h
  split at h
  · rename_i hd
    obtain ⟨h1, h2⟩ := dec2_enc hd
    rw [← h1, ← h2]
    exact rowC (f_i_Group_negate_ok _ _) h
  · cases h

def f_i_Group_opposite_F : Fi := { nv := 0, nc := 0, m := 0, vt := [], kl := [(0, ([0, 1, 3, 4, 6, 7, 8, 12, 13, 14, 15, 16, 17, 18, 19, 20, 21, 22], [0, 1, 2, 3, 4, 6, 7, 8, 9, 10, 11, 12, 13, 14, 15, 16, 17, 18, 19, 20, 21, 22], [0, 1, 2, 3, 5, 6, 7, 8, 9, 10, 11, 12, 13, 14, 15, 16, 17, 18, 19, 20, 21, 22]))], sk := [], mvs := [], fz := [] }
def f_i_Group_opposite_a (g0 : List Sc) (a1 : Int) : List AV := enc [.p .gr, .p (.int .i64)] [.l g0, .i a1]
def f_i_Group_opposite_i (g0 : List Sc) (a1 : Int) : List AV := enc [] []
def f_i_Group_opposite_en (r : Int) : List AV × List AV := (enc [.p (.int .i64)] [.i r], enc [] [])
def f_i_Group_opposite_M : Calling := addC 130 f_i_members_c (addC 149 f_i_Group_negate_c (noC))
theorem f_i_Group_opposite_Mt : CallOk Try.prog (f_i_Group_opposite_M) := addC_true f_i_members_cc (addC_true f_i_Group_negate_cc (noC_true))
theorem f_i_Group_opposite_o : loopsOnce Try.f171 = true := by kernel_rfl
def f_i_Group_opposite_h0 : List Sh := [.u, .u, .p .el, .u, .u, .p (.int .i64), .u, .u, .u, .own 3, .p (.int .i64), .p (.int .i64), .u, .u, .u, .u, .u, .u, .u, .u, .u, .u, .u]
def f_i_Group_opposite_fr0 (g2 : List Sc) (t10 : Int) (s : Int × List Sc × Int) : List AV := enc f_i_Group_opposite_h0 [.l g2, .i s.1, .l s.2.1, .i t10, .i s.2.2]
def f_i_Group_opposite_g0_1 : List Sh := [.u, .u, .u, .u, .u, .p (.int .i64), .u, .u, .u, .u, .u, .u, .u, .u, .u, .u, .u, .u, .u, .u, .u, .u, .u]
def f_i_Group_opposite_x0_1 (g2 : List Sc) (t10 : Int) (e : Int) : X × List AV := (.out 0, enc f_i_Group_opposite_g0_1 [.i e])
def f_i_Group_opposite_x0_2 (g2 : List Sc) (t10 : Int) (_e : Unit) : X × List AV := (.ret, [])
theorem f_i_Group_opposite_p0 {R : Type} (g2 : List Sc) (t10 : Int) (s : Int × List Sc × Int) (kN : Int × List Sc × Int → Option R) (kA : Int → Option R) (kB : Unit → Option R) : f_i_Group_opposite_k0 g2 t10 s.1 s.2.1 s.2.2 kN kA = (f_i_Group_opposite_r0 g2 t10 s).bind (Ro.el kN kA kB) := by
  simp only [f_i_Group_opposite_k0, f_i_Group_opposite_r0, brB, boB, someB, noneB, Ro.el]
theorem f_i_Group_opposite_e0 (g2 : List Sc) (t10 : Int) (s : Int × List Sc × Int) : EC E0 f_i_Group_opposite_M H0 f_i_Group_opposite_F (asL (noL)) 0 (bodyOf Try.f171 0) (f_i_Group_opposite_fr0 g2 t10 s) (done (klOf f_i_Group_opposite_F 0)) = f_i_Group_opposite_k0 g2 t10 s.1 s.2.1 s.2.2 (fun s => some (.norm, f_i_Group_opposite_fr0 g2 t10 s)) (fun e => some (f_i_Group_opposite_x0_1 g2 t10 e)) := by kernel_rfl
theorem f_i_Group_opposite_l0 (g2 : List Sc) (t10 : Int) : ∀ s r, loopL (f_i_Group_opposite_r0 g2 t10) s = some r → LS Try.prog f_i_Group_opposite_F (bodyOf Try.f171 0) (f_i_Group_opposite_fr0 g2 t10 s) (enX (f_i_Group_opposite_x0_1 g2 t10) (f_i_Group_opposite_x0_2 g2 t10) r) :=
  loop_true E0ok f_i_Group_opposite_Mt (noL_true) f_i_Group_opposite_o (fun _ h => by cases h) (fun _ h => by cases h) (fun s => (f_i_Group_opposite_e0 g2 t10 s).trans (f_i_Group_opposite_p0 g2 t10 s _ _ (fun e => some (f_i_Group_opposite_x0_2 g2 t10 e))))
def f_i_Group_opposite_t0 (σ : List AV) : Option (Bool × Bool × (X × List AV) × (X × List AV)) := match dec f_i_Group_opposite_h0 σ with
  | some [.l g2, .i out5, .l t9, .i t10, .i t11] => some (isOne (loopL (f_i_Group_opposite_r0 g2 t10) (out5, t9, t11)), true, f_i_Group_opposite_x0_1 g2 t10 (getOne 0 (loopL (f_i_Group_opposite_r0 g2 t10) (out5, t9, t11))), (.ret, []))
  | _ => none
theorem f_i_Group_opposite_tt0 : TTrue Try.prog f_i_Group_opposite_F Try.f171 0 (f_i_Group_opposite_t0) := by
  intro σ p r r' h
  unfold f_i_Group_opposite_t0 at h
  split at h
  · rename_i hd
    rw [← dec_enc hd]
    exact row1 (f_i_Group_opposite_l0 _ _ _) h
  · cases h
theorem f_i_Group_opposite_p {R : Type} (g0 : List Sc) (a1 : Int) (kR : Int → Option R) : f_i_Group_opposite_k g0 a1 kR = (f_i_Group_opposite_k g0 a1 some).bind kR := by
  simp only [f_i_Group_opposite_k, boB, bl1B, someB]
theorem f_i_Group_opposite_e (g0 : List Sc) (a1 : Int) : runFn E0 f_i_Group_opposite_M H0 f_i_Group_opposite_F (asL (addL 0 (f_i_Group_opposite_t0) (noL))) Try.f171 (f_i_Group_opposite_a g0 a1) (f_i_Group_opposite_i g0 a1) = f_i_Group_opposite_k g0 a1 (fun r => some (f_i_Group_opposite_en r)) := by kernel_rfl
theorem f_i_Group_opposite_ok (g0 : List Sc) (a1 : Int) (r : Int) (h : f_i_Group_opposite g0 a1 = some r) : CS Try.prog 171 (f_i_Group_opposite_a g0 a1) (f_i_Group_opposite_i g0 a1) (f_i_Group_opposite_en r).1 (f_i_Group_opposite_en r).2 :=
  fn_true (Gk := fun k => f_i_Group_opposite_k g0 a1 k) (en := f_i_Group_opposite_en) Try.func171 E0ok f_i_Group_opposite_Mt (addL_true (f_i_Group_opposite_tt0) (noL_true)) f_i_Group_opposite_o (f_i_Group_opposite_e g0 a1) (f_i_Group_opposite_p g0 a1) h
def f_i_Group_opposite_c : CRow := fun args inh => match dec2 [.p .gr, .p (.int .i64)] [] args inh with
  | some ([.l g0, .i a1], []) => some ((f_i_Group_opposite g0 a1).isSome, (f_i_Group_opposite_en ((f_i_Group_opposite g0 a1).getD 0)).1, (f_i_Group_opposite_en ((f_i_Group_opposite g0 a1).getD 0)).2)
  | _ => none
theorem f_i_Group_opposite_cc : CTrue Try.prog 171 f_i_Group_opposite_c := by
  intro args inh rs out h
  unfold f_i_Group_opposite_c at h
  split at h
  · rename_i hd
    obtain ⟨h1, h2⟩ := dec2_enc hd
    rw [← h1, ← h2]
    exact rowC (f_i_Group_opposite_ok _ _) h
  · cases h

def f_i_Group_generated_F : Fi := { nv := 0, nc := 0, m := 0, vt := [], kl := [(0, ([0, 3, 4, 6, 7, 8, 9, 10, 11, 12, 13, 14, 15, 16, 17, 18, 19, 20, 21, 22, 23, 24], [0, 1, 2, 3, 4, 5, 6, 7, 8, 9, 10, 11, 12, 13, 14, 15, 16, 17, 18, 19, 20, 21, 22, 23, 24], [0, 1, 2, 3, 5, 6, 7, 8, 9, 10, 11, 12, 13, 14, 15, 16, 17, 18, 19, 20, 21, 22, 23, 24]))], sk := [], mvs := [], fz := [] }
def f_i_Group_generated_a (g0 : List Sc) (a1 : Int) : List AV := enc [.p .gr, .p (.int .i64)] [.l g0, .i a1]
def f_i_Group_generated_i (g0 : List Sc) (a1 : Int) : List AV := enc [] []
def f_i_Group_generated_en (r : Int) : List AV × List AV := (enc [.p (.int .i64)] [.i r], enc [] [])
def f_i_Group_generated_M : Calling := addC 128 f_i_Group_sum_c (addC 171 f_i_Group_opposite_c (noC))
theorem f_i_Group_generated_Mt : CallOk Try.prog (f_i_Group_generated_M) := addC_true f_i_Group_sum_cc (addC_true f_i_Group_opposite_cc (noC_true))
theorem f_i_Group_generated_o : loopsOnce Try.f127 = true := by kernel_rfl
def f_i_Group_generated_h0 : List Sh := [.u, .p (.int .i64), .p .el, .u, .u, .p (.int .i64), .u, .u, .u, .u, .u, .u, .u, .u, .u, .u, .u, .u, .u, .u, .u, .u, .u, .u, .u]
def f_i_Group_generated_fr0 (a1 : Int) (g2 : List Sc) (s : Int) : List AV := enc f_i_Group_generated_h0 [.i a1, .l g2, .i s]
def f_i_Group_generated_g0_1 : List Sh := [.u, .u, .u, .u, .p (.int .i64), .u, .u, .u, .u, .u, .u, .u, .u, .u, .u, .u, .u, .u, .u, .u, .u, .u, .u, .u, .u]
def f_i_Group_generated_x0_1 (a1 : Int) (g2 : List Sc) (e : Int) : X × List AV := (.ret, enc f_i_Group_generated_g0_1 [.i e])
def f_i_Group_generated_x0_2 (a1 : Int) (g2 : List Sc) (_e : Unit) : X × List AV := (.ret, [])
theorem f_i_Group_generated_p0 {R : Type} (a1 : Int) (g2 : List Sc) (s : Int) (kN : Int → Option R) (kA : Int → Option R) (kB : Unit → Option R) : f_i_Group_generated_k0 a1 g2 s kN kA = (f_i_Group_generated_r0 a1 g2 s).bind (Ro.el kN kA kB) := by
  simp only [f_i_Group_generated_k0, f_i_Group_generated_r0, brB, boB, someB, Ro.el]
theorem f_i_Group_generated_e0 (a1 : Int) (g2 : List Sc) (s : Int) : EC E0 f_i_Group_generated_M H0 f_i_Group_generated_F (asL (noL)) 0 (bodyOf Try.f127 0) (f_i_Group_generated_fr0 a1 g2 s) (done (klOf f_i_Group_generated_F 0)) = f_i_Group_generated_k0 a1 g2 s (fun s => some (.norm, f_i_Group_generated_fr0 a1 g2 s)) (fun e => some (f_i_Group_generated_x0_1 a1 g2 e)) := by kernel_rfl
theorem f_i_Group_generated_l0 (a1 : Int) (g2 : List Sc) : ∀ s r, loopL (f_i_Group_generated_r0 a1 g2) s = some r → LS Try.prog f_i_Group_generated_F (bodyOf Try.f127 0) (f_i_Group_generated_fr0 a1 g2 s) (enX (f_i_Group_generated_x0_1 a1 g2) (f_i_Group_generated_x0_2 a1 g2) r) :=
  loop_true E0ok f_i_Group_generated_Mt (noL_true) f_i_Group_generated_o (fun _ h => by cases h) (fun _ h => by cases h) (fun s => (f_i_Group_generated_e0 a1 g2 s).trans (f_i_Group_generated_p0 a1 g2 s _ _ (fun e => some (f_i_Group_generated_x0_2 a1 g2 e))))
def f_i_Group_generated_t0 (σ : List AV) : Option (Bool × Bool × (X × List AV) × (X × List AV)) := match dec f_i_Group_generated_h0 σ with
  | some [.i a1, .l g2, .i h5] => some (isOne (loopL (f_i_Group_generated_r0 a1 g2) h5), true, f_i_Group_generated_x0_1 a1 g2 (getOne 0 (loopL (f_i_Group_generated_r0 a1 g2) h5)), (.ret, []))
  | _ => none
theorem f_i_Group_generated_tt0 : TTrue Try.prog f_i_Group_generated_F Try.f127 0 (f_i_Group_generated_t0) := by
  intro σ p r r' h
  unfold f_i_Group_generated_t0 at h
  split at h
  · rename_i hd
    rw [← dec_enc hd]
    exact row1 (f_i_Group_generated_l0 _ _ _) h
  · cases h
theorem f_i_Group_generated_p {R : Type} (g0 : List Sc) (a1 : Int) (kR : Int → Option R) : f_i_Group_generated_k g0 a1 kR = (f_i_Group_generated_k g0 a1 some).bind kR := by
  simp only [f_i_Group_generated_k, bl1B, someB]
theorem f_i_Group_generated_e (g0 : List Sc) (a1 : Int) : runFn E0 f_i_Group_generated_M H0 f_i_Group_generated_F (asL (addL 0 (f_i_Group_generated_t0) (noL))) Try.f127 (f_i_Group_generated_a g0 a1) (f_i_Group_generated_i g0 a1) = f_i_Group_generated_k g0 a1 (fun r => some (f_i_Group_generated_en r)) := by kernel_rfl
theorem f_i_Group_generated_ok (g0 : List Sc) (a1 : Int) (r : Int) (h : f_i_Group_generated g0 a1 = some r) : CS Try.prog 127 (f_i_Group_generated_a g0 a1) (f_i_Group_generated_i g0 a1) (f_i_Group_generated_en r).1 (f_i_Group_generated_en r).2 :=
  fn_true (Gk := fun k => f_i_Group_generated_k g0 a1 k) (en := f_i_Group_generated_en) Try.func127 E0ok f_i_Group_generated_Mt (addL_true (f_i_Group_generated_tt0) (noL_true)) f_i_Group_generated_o (f_i_Group_generated_e g0 a1) (f_i_Group_generated_p g0 a1) h
def f_i_Group_generated_c : CRow := fun args inh => match dec2 [.p .gr, .p (.int .i64)] [] args inh with
  | some ([.l g0, .i a1], []) => some ((f_i_Group_generated g0 a1).isSome, (f_i_Group_generated_en ((f_i_Group_generated g0 a1).getD 0)).1, (f_i_Group_generated_en ((f_i_Group_generated g0 a1).getD 0)).2)
  | _ => none
theorem f_i_Group_generated_cc : CTrue Try.prog 127 f_i_Group_generated_c := by
  intro args inh rs out h
  unfold f_i_Group_generated_c at h
  split at h
  · rename_i hd
    obtain ⟨h1, h2⟩ := dec2_enc hd
    rw [← h1, ← h2]
    exact rowC (f_i_Group_generated_ok _ _) h
  · cases h

def f_i_IsSubgroup_F : Fi := { nv := 0, nc := 0, m := 0, vt := [], kl := [], sk := [], mvs := [], fz := [] }
def f_i_IsSubgroup_a (g0 : List Sc) (a1 : Int) : List AV := enc [.p .gr, .p (.int .i64)] [.l g0, .i a1]
def f_i_IsSubgroup_i (g0 : List Sc) (a1 : Int) : List AV := enc [] []
def f_i_IsSubgroup_en (r : Bool) : List AV × List AV := (enc [.p .boo] [.b r], enc [] [])
def f_i_IsSubgroup_M : Calling := addC 121 f_i_IsSet_c (addC 127 f_i_Group_generated_c (noC))
theorem f_i_IsSubgroup_Mt : CallOk Try.prog (f_i_IsSubgroup_M) := addC_true f_i_IsSet_cc (addC_true f_i_Group_generated_cc (noC_true))
theorem f_i_IsSubgroup_o : loopsOnce Try.f14 = true := by kernel_rfl
theorem f_i_IsSubgroup_p {R : Type} (g0 : List Sc) (a1 : Int) (kR : Bool → Option R) : f_i_IsSubgroup_k g0 a1 kR = (f_i_IsSubgroup_k g0 a1 some).bind kR := by
  simp only [f_i_IsSubgroup_k, brB, boB, someB]
theorem f_i_IsSubgroup_e (g0 : List Sc) (a1 : Int) : runFn E0 f_i_IsSubgroup_M H0 f_i_IsSubgroup_F (asL (noL)) Try.f14 (f_i_IsSubgroup_a g0 a1) (f_i_IsSubgroup_i g0 a1) = f_i_IsSubgroup_k g0 a1 (fun r => some (f_i_IsSubgroup_en r)) := by kernel_rfl
theorem f_i_IsSubgroup_ok (g0 : List Sc) (a1 : Int) (r : Bool) (h : f_i_IsSubgroup g0 a1 = some r) : CS Try.prog 14 (f_i_IsSubgroup_a g0 a1) (f_i_IsSubgroup_i g0 a1) (f_i_IsSubgroup_en r).1 (f_i_IsSubgroup_en r).2 :=
  fn_true (Gk := fun k => f_i_IsSubgroup_k g0 a1 k) (en := f_i_IsSubgroup_en) Try.func14 E0ok f_i_IsSubgroup_Mt (noL_true) f_i_IsSubgroup_o (f_i_IsSubgroup_e g0 a1) (f_i_IsSubgroup_p g0 a1) h
def f_i_IsSubgroup_c : CRow := fun args inh => match dec2 [.p .gr, .p (.int .i64)] [] args inh with
  | some ([.l g0, .i a1], []) => some ((f_i_IsSubgroup g0 a1).isSome, (f_i_IsSubgroup_en ((f_i_IsSubgroup g0 a1).getD false)).1, (f_i_IsSubgroup_en ((f_i_IsSubgroup g0 a1).getD false)).2)
  | _ => none
theorem f_i_IsSubgroup_cc : CTrue Try.prog 14 f_i_IsSubgroup_c := by
  intro args inh rs out h
  unfold f_i_IsSubgroup_c at h
  split at h
  · rename_i hd
    obtain ⟨h1, h2⟩ := dec2_enc hd
    rw [← h1, ← h2]
    exact rowC (f_i_IsSubgroup_ok _ _) h
  · cases h

def f_i_FillSet_F : Fi := { nv := 0, nc := 0, m := 0, vt := [], kl := [], sk := [], mvs := [], fz := [] }
def f_i_FillSet_a (g0 : List Sc) (h1 : Int) (a2 : Int) : List AV := enc [.p .gr, .p (.int .i64), .p (.int .i64)] [.l g0, .i h1, .i a2]
def f_i_FillSet_i (g0 : List Sc) (h1 : Int) (a2 : Int) : List AV := enc [] []
def f_i_FillSet_en (r : Int) : List AV × List AV := (enc [.p (.int .i64)] [.i r], enc [] [])
def f_i_FillSet_M : Calling := addC 14 f_i_IsSubgroup_c (addC 121 f_i_IsSet_c (addC 128 f_i_Group_sum_c (noC)))
theorem f_i_FillSet_Mt : CallOk Try.prog (f_i_FillSet_M) := addC_true f_i_IsSubgroup_cc (addC_true f_i_IsSet_cc (addC_true f_i_Group_sum_cc (noC_true)))
theorem f_i_FillSet_o : loopsOnce Try.f15 = true := by kernel_rfl
theorem f_i_FillSet_p {R : Type} (g0 : List Sc) (h1 : Int) (a2 : Int) (kR : Int → Option R) : f_i_FillSet_k g0 h1 a2 kR = (f_i_FillSet_k g0 h1 a2 some).bind kR := by
  simp only [f_i_FillSet_k, brB, boB, someB]
theorem f_i_FillSet_e (g0 : List Sc) (h1 : Int) (a2 : Int) : runFn E0 f_i_FillSet_M H0 f_i_FillSet_F (asL (noL)) Try.f15 (f_i_FillSet_a g0 h1 a2) (f_i_FillSet_i g0 h1 a2) = f_i_FillSet_k g0 h1 a2 (fun r => some (f_i_FillSet_en r)) := by kernel_rfl
theorem f_i_FillSet_ok (g0 : List Sc) (h1 : Int) (a2 : Int) (r : Int) (h : f_i_FillSet g0 h1 a2 = some r) : CS Try.prog 15 (f_i_FillSet_a g0 h1 a2) (f_i_FillSet_i g0 h1 a2) (f_i_FillSet_en r).1 (f_i_FillSet_en r).2 :=
  fn_true (Gk := fun k => f_i_FillSet_k g0 h1 a2 k) (en := f_i_FillSet_en) Try.func15 E0ok f_i_FillSet_Mt (noL_true) f_i_FillSet_o (f_i_FillSet_e g0 h1 a2) (f_i_FillSet_p g0 h1 a2) h
def f_i_FillSet_c : CRow := fun args inh => match dec2 [.p .gr, .p (.int .i64), .p (.int .i64)] [] args inh with
  | some ([.l g0, .i h1, .i a2], []) => some ((f_i_FillSet g0 h1 a2).isSome, (f_i_FillSet_en ((f_i_FillSet g0 h1 a2).getD 0)).1, (f_i_FillSet_en ((f_i_FillSet g0 h1 a2).getD 0)).2)
  | _ => none
theorem f_i_FillSet_cc : CTrue Try.prog 15 f_i_FillSet_c := by
  intro args inh rs out h
  unfold f_i_FillSet_c at h
  split at h
  · rename_i hd
    obtain ⟨h1, h2⟩ := dec2_enc hd
    rw [← h1, ← h2]
    exact rowC (f_i_FillSet_ok _ _ _) h
  · cases h

def f_i_in_F : Fi := { nv := 0, nc := 0, m := 0, vt := [], kl := [], sk := [], mvs := [], fz := [] }
def f_i_in_a (a0 : Int) (x1 : Int) : List AV := enc [.p (.int .i64), .p (.int .i64)] [.i a0, .i x1]
def f_i_in_i (a0 : Int) (x1 : Int) : List AV := enc [] []
def f_i_in_en (r : Bool) : List AV × List AV := (enc [.p .boo] [.b r], enc [] [])
def f_i_in_M : Calling := noC
theorem f_i_in_Mt : CallOk Try.prog (f_i_in_M) := noC_true
theorem f_i_in_o : loopsOnce Try.f153 = true := by kernel_rfl
theorem f_i_in_p {R : Type} (a0 : Int) (x1 : Int) (kR : Bool → Option R) : f_i_in_k a0 x1 kR = (f_i_in_k a0 x1 some).bind kR := by
  simp only [f_i_in_k, brB, someB, noneB]
theorem f_i_in_e (a0 : Int) (x1 : Int) : runFn E0 f_i_in_M H0 f_i_in_F (asL (noL)) Try.f153 (f_i_in_a a0 x1) (f_i_in_i a0 x1) = f_i_in_k a0 x1 (fun r => some (f_i_in_en r)) := by kernel_rfl
theorem f_i_in_ok (a0 : Int) (x1 : Int) (r : Bool) (h : f_i_in a0 x1 = some r) : CS Try.prog 153 (f_i_in_a a0 x1) (f_i_in_i a0 x1) (f_i_in_en r).1 (f_i_in_en r).2 :=
  fn_true (Gk := fun k => f_i_in_k a0 x1 k) (en := f_i_in_en) Try.func153 E0ok f_i_in_Mt (noL_true) f_i_in_o (f_i_in_e a0 x1) (f_i_in_p a0 x1) h
def f_i_in_c : CRow := fun args inh => match dec2 [.p (.int .i64), .p (.int .i64)] [] args inh with
  | some ([.i a0, .i x1], []) => some ((f_i_in a0 x1).isSome, (f_i_in_en ((f_i_in a0 x1).getD false)).1, (f_i_in_en ((f_i_in a0 x1).getD false)).2)
  | _ => none
theorem f_i_in_cc : CTrue Try.prog 153 f_i_in_c := by
  intro args inh rs out h
  unfold f_i_in_c at h
  split at h
  · rename_i hd
    obtain ⟨h1, h2⟩ := dec2_enc hd
    rw [← h1, ← h2]
    exact rowC (f_i_in_ok _ _) h
  · cases h

def f_i_CosetsOf_F : Fi := { nv := 0, nc := 0, m := 0, vt := [], kl := [(0, ([0, 3, 4, 5, 8, 9, 10, 11, 12, 13, 14, 15, 16, 19, 20, 21, 22, 23, 24, 25, 26, 27, 28, 29, 30, 31, 32, 33, 34, 35, 36, 37], [0, 1, 2, 3, 4, 5, 7, 8, 9, 10, 11, 12, 13, 14, 15, 16, 17, 18, 19, 20, 21, 22, 23, 24, 25, 26, 27, 28, 29, 30, 31, 32, 33, 34, 35, 36, 37], [0, 1, 2, 3, 6, 7, 8, 9, 10, 11, 12, 13, 14, 15, 16, 17, 18, 19, 20, 21, 22, 23, 24, 25, 26, 27, 28, 29, 30, 31, 32, 33, 34, 35, 36, 37]))], sk := [], mvs := [], fz := [] }
def f_i_CosetsOf_a (g0 : List Sc) (h1 : Int) : List AV := enc [.p .gr, .p (.int .i64)] [.l g0, .i h1]
def f_i_CosetsOf_i (g0 : List Sc) (h1 : Int) : List AV := enc [] []
def f_i_CosetsOf_en (r : List Sc × Bool) : List AV × List AV := (enc [.p (.al 0), .p .boo] [.b r.2], enc [.own 3] [.l r.1])
def f_i_CosetsOf_M : Calling := addC 14 f_i_IsSubgroup_c (addC 122 f_i_OrderOf_c (addC 153 f_i_in_c (addC 123 f_i_Group_shift_c (noC))))
theorem f_i_CosetsOf_Mt : CallOk Try.prog (f_i_CosetsOf_M) := addC_true f_i_IsSubgroup_cc (addC_true f_i_OrderOf_cc (addC_true f_i_in_cc (addC_true f_i_Group_shift_cc (noC_true))))
theorem f_i_CosetsOf_o : loopsOnce Try.f129 = true := by kernel_rfl
def f_i_CosetsOf_h0 : List Sh := [.u, .p (.int .i64), .p .el, .u, .u, .u, .own 3, .p (.int .i64), .u, .u, .u, .u, .u, .u, .u, .u, .u, .p (.int .i64), .p (.int .i64), .u, .u, .u, .u, .u, .u, .u, .u, .u, .u, .u, .u, .u, .u, .u, .u, .u, .u, .u]
def f_i_CosetsOf_fr0 (h1 : Int) (g2 : List Sc) (t17 : Int) (s : List Sc × Int × Int) : List AV := enc f_i_CosetsOf_h0 [.i h1, .l g2, .l s.1, .i s.2.1, .i t17, .i s.2.2]
def f_i_CosetsOf_g0_1 : List Sh := [.u, .u, .u, .u, .u, .u, .own 3, .u, .u, .u, .u, .u, .u, .u, .u, .u, .u, .u, .u, .u, .u, .u, .u, .u, .u, .u, .u, .u, .u, .u, .u, .u, .u, .u, .u, .u, .u, .u]
def f_i_CosetsOf_x0_1 (h1 : Int) (g2 : List Sc) (t17 : Int) (e : List Sc) : X × List AV := (.out 0, enc f_i_CosetsOf_g0_1 [.l e])
def f_i_CosetsOf_x0_2 (h1 : Int) (g2 : List Sc) (t17 : Int) (_e : Unit) : X × List AV := (.ret, [])
theorem f_i_CosetsOf_p0 {R : Type} (h1 : Int) (g2 : List Sc) (t17 : Int) (s : List Sc × Int × Int) (kN : List Sc × Int × Int → Option R) (kA : List Sc → Option R) (kB : Unit → Option R) : f_i_CosetsOf_k0 h1 g2 t17 s.1 s.2.1 s.2.2 kN kA = (f_i_CosetsOf_r0 h1 g2 t17 s).bind (Ro.el kN kA kB) := by
  simp only [f_i_CosetsOf_k0, f_i_CosetsOf_r0, brB, boB, someB, noneB, Ro.el]
theorem f_i_CosetsOf_e0 (h1 : Int) (g2 : List Sc) (t17 : Int) (s : List Sc × Int × Int) : EC E0 f_i_CosetsOf_M H0 f_i_CosetsOf_F (asL (noL)) 0 (bodyOf Try.f129 0) (f_i_CosetsOf_fr0 h1 g2 t17 s) (done (klOf f_i_CosetsOf_F 0)) = f_i_CosetsOf_k0 h1 g2 t17 s.1 s.2.1 s.2.2 (fun s => some (.norm, f_i_CosetsOf_fr0 h1 g2 t17 s)) (fun e => some (f_i_CosetsOf_x0_1 h1 g2 t17 e)) := by kernel_rfl
theorem f_i_CosetsOf_l0 (h1 : Int) (g2 : List Sc) (t17 : Int) : ∀ s r, loopL (f_i_CosetsOf_r0 h1 g2 t17) s = some r → LS Try.prog f_i_CosetsOf_F (bodyOf Try.f129 0) (f_i_CosetsOf_fr0 h1 g2 t17 s) (enX (f_i_CosetsOf_x0_1 h1 g2 t17) (f_i_CosetsOf_x0_2 h1 g2 t17) r) :=
  loop_true E0ok f_i_CosetsOf_Mt (noL_true) f_i_CosetsOf_o (fun _ h => by cases h) (fun _ h => by cases h) (fun s => (f_i_CosetsOf_e0 h1 g2 t17 s).trans (f_i_CosetsOf_p0 h1 g2 t17 s _ _ (fun e => some (f_i_CosetsOf_x0_2 h1 g2 t17 e))))
def f_i_CosetsOf_t0 (σ : List AV) : Option (Bool × Bool × (X × List AV) × (X × List AV)) := match dec f_i_CosetsOf_h0 σ with
  | some [.i h1, .l g2, .l out6, .i seen7, .i t17, .i t18] => some (isOne (loopL (f_i_CosetsOf_r0 h1 g2 t17) (out6, seen7, t18)), true, f_i_CosetsOf_x0_1 h1 g2 t17 (getOne [] (loopL (f_i_CosetsOf_r0 h1 g2 t17) (out6, seen7, t18))), (.ret, []))
  | _ => none
theorem f_i_CosetsOf_tt0 : TTrue Try.prog f_i_CosetsOf_F Try.f129 0 (f_i_CosetsOf_t0) := by
  intro σ p r r' h
  unfold f_i_CosetsOf_t0 at h
  split at h
  · rename_i hd
    rw [← dec_enc hd]
    exact row1 (f_i_CosetsOf_l0 _ _ _ _) h
  · cases h
theorem f_i_CosetsOf_p {R : Type} (g0 : List Sc) (h1 : Int) (kR : List Sc × Bool → Option R) : f_i_CosetsOf_k g0 h1 kR = (f_i_CosetsOf_k g0 h1 some).bind kR := by
  simp only [f_i_CosetsOf_k, brB, boB, bl1B, someB]
theorem f_i_CosetsOf_e (g0 : List Sc) (h1 : Int) : runFn E0 f_i_CosetsOf_M H0 f_i_CosetsOf_F (asL (addL 0 (f_i_CosetsOf_t0) (noL))) Try.f129 (f_i_CosetsOf_a g0 h1) (f_i_CosetsOf_i g0 h1) = f_i_CosetsOf_k g0 h1 (fun r => some (f_i_CosetsOf_en r)) := by kernel_rfl
theorem f_i_CosetsOf_ok (g0 : List Sc) (h1 : Int) (r : List Sc × Bool) (h : f_i_CosetsOf g0 h1 = some r) : CS Try.prog 129 (f_i_CosetsOf_a g0 h1) (f_i_CosetsOf_i g0 h1) (f_i_CosetsOf_en r).1 (f_i_CosetsOf_en r).2 :=
  fn_true (Gk := fun k => f_i_CosetsOf_k g0 h1 k) (en := f_i_CosetsOf_en) Try.func129 E0ok f_i_CosetsOf_Mt (addL_true (f_i_CosetsOf_tt0) (noL_true)) f_i_CosetsOf_o (f_i_CosetsOf_e g0 h1) (f_i_CosetsOf_p g0 h1) h
def f_i_CosetsOf_c : CRow := fun args inh => match dec2 [.p .gr, .p (.int .i64)] [] args inh with
  | some ([.l g0, .i h1], []) => some ((f_i_CosetsOf g0 h1).isSome, (f_i_CosetsOf_en ((f_i_CosetsOf g0 h1).getD ([], false))).1, (f_i_CosetsOf_en ((f_i_CosetsOf g0 h1).getD ([], false))).2)
  | _ => none
theorem f_i_CosetsOf_cc : CTrue Try.prog 129 f_i_CosetsOf_c := by
  intro args inh rs out h
  unfold f_i_CosetsOf_c at h
  split at h
  · rename_i hd
    obtain ⟨h1, h2⟩ := dec2_enc hd
    rw [← h1, ← h2]
    exact rowC (f_i_CosetsOf_ok _ _) h
  · cases h

def f_i_CorePart_F : Fi := { nv := 1, nc := 0, m := 0, vt := [(15, 0)], kl := [(0, ([0, 1, 2, 4, 5, 6, 7, 9, 11, 12, 13, 14, 15, 16, 17, 18, 19, 20, 21, 22, 23, 24, 25, 26, 30, 31, 32, 33, 34, 35, 36, 37, 38, 39, 40, 41], [0, 1, 2, 3, 4, 5, 6, 7, 9, 11, 12, 13, 14, 15, 16, 17, 18, 19, 20, 21, 22, 23, 24, 25, 26, 27, 28, 29, 30, 31, 32, 33, 34, 35, 36, 37, 38, 39, 40, 41], [0, 1, 2, 3, 4, 5, 6, 9, 10, 11, 12, 13, 14, 15, 16, 17, 18, 19, 20, 21, 22, 23, 24, 25, 26, 27, 28, 29, 30, 31, 32, 33, 34, 35, 36, 37, 38, 39, 40, 41]))], sk := [], mvs := [0], fz := [] }
def f_i_CorePart_a (g0 : List Sc) (h1 : Int) (a2 : Int) : List AV := enc [.p .gr, .p (.int .i64), .p (.int .i64)] [.l g0, .i h1, .i a2]
def f_i_CorePart_i (g0 : List Sc) (h1 : Int) (a2 : Int) : List AV := enc [] []
def f_i_CorePart_en (r : Int) : List AV × List AV := (enc [.p (.int .i64)] [.i r], enc [] [])
def f_i_CorePart_M : Calling := addC 129 f_i_CosetsOf_c (addC 121 f_i_IsSet_c (noC))
theorem f_i_CorePart_Mt : CallOk Try.prog (f_i_CorePart_M) := addC_true f_i_CosetsOf_cc (addC_true f_i_IsSet_cc (noC_true))
theorem f_i_CorePart_o : loopsOnce Try.f16 = true := by kernel_rfl
def f_i_CorePart_h0 : List Sh := [.u, .u, .u, .p (.int .i64), .u, .u, .u, .u, .own 3, .u, .p (.int .i64), .u, .u, .u, .u, .u, .u, .u, .u, .u, .u, .u, .u, .u, .u, .u, .u, .p (.al 8), .p (.int .i64), .p (.int .i64), .u, .u, .u, .u, .u, .u, .u, .u, .u, .u, .u, .u]
def f_i_CorePart_fr0 (a2 : Int) (t27 : Int) (s : List Sc × Int × Int) : List AV := enc f_i_CorePart_h0 [.i a2, .l s.1, .i s.2.1, .i t27, .i s.2.2]
def f_i_CorePart_g0_1 : List Sh := [.u, .u, .u, .u, .u, .u, .u, .u, .own 3, .u, .p (.int .i64), .u, .u, .u, .u, .u, .u, .u, .u, .u, .u, .u, .u, .u, .u, .u, .u, .u, .u, .u, .u, .u, .u, .u, .u, .u, .u, .u, .u, .u, .u, .u]
def f_i_CorePart_x0_1 (a2 : Int) (t27 : Int) (e : List Sc × Int) : X × List AV := (.out 0, enc f_i_CorePart_g0_1 [.l e.1, .i e.2])
def f_i_CorePart_x0_2 (a2 : Int) (t27 : Int) (_e : Unit) : X × List AV := (.ret, [])
theorem f_i_CorePart_p0 {R : Type} (a2 : Int) (t27 : Int) (s : List Sc × Int × Int) (kN : List Sc × Int × Int → Option R) (kA : List Sc × Int → Option R) (kB : Unit → Option R) : f_i_CorePart_k0 a2 t27 s.1 s.2.1 s.2.2 kN kA = (f_i_CorePart_r0 a2 t27 s).bind (Ro.el kN kA kB) := by
  simp only [f_i_CorePart_k0, f_i_CorePart_r0, brB, someB, noneB, Ro.el]
theorem f_i_CorePart_e0 (a2 : Int) (t27 : Int) (s : List Sc × Int × Int) : EC E0 f_i_CorePart_M H0 f_i_CorePart_F (asL (noL)) 0 (bodyOf Try.f16 0) (f_i_CorePart_fr0 a2 t27 s) (done (klOf f_i_CorePart_F 0)) = f_i_CorePart_k0 a2 t27 s.1 s.2.1 s.2.2 (fun s => some (.norm, f_i_CorePart_fr0 a2 t27 s)) (fun e => some (f_i_CorePart_x0_1 a2 t27 e)) := by kernel_rfl
theorem f_i_CorePart_l0 (a2 : Int) (t27 : Int) : ∀ s r, loopL (f_i_CorePart_r0 a2 t27) s = some r → LS Try.prog f_i_CorePart_F (bodyOf Try.f16 0) (f_i_CorePart_fr0 a2 t27 s) (enX (f_i_CorePart_x0_1 a2 t27) (f_i_CorePart_x0_2 a2 t27) r) :=
  loop_true E0ok f_i_CorePart_Mt (noL_true) f_i_CorePart_o (fun _ h => by cases h) (fun _ h => by cases h) (fun s => (f_i_CorePart_e0 a2 t27 s).trans (f_i_CorePart_p0 a2 t27 s _ _ (fun e => some (f_i_CorePart_x0_2 a2 t27 e))))
def f_i_CorePart_t0 (σ : List AV) : Option (Bool × Bool × (X × List AV) × (X × List AV)) := match dec f_i_CorePart_h0 σ with
  | some [.i a2, .l l7, .i out9, .i t27, .i t28] => some (isOne (loopL (f_i_CorePart_r0 a2 t27) (l7, out9, t28)), true, f_i_CorePart_x0_1 a2 t27 (getOne ([], 0) (loopL (f_i_CorePart_r0 a2 t27) (l7, out9, t28))), (.ret, []))
  | _ => none
theorem f_i_CorePart_tt0 : TTrue Try.prog f_i_CorePart_F Try.f16 0 (f_i_CorePart_t0) := by
  intro σ p r r' h
  unfold f_i_CorePart_t0 at h
  split at h
  · rename_i hd
    rw [← dec_enc hd]
    exact row1 (f_i_CorePart_l0 _ _ _) h
  · cases h
theorem f_i_CorePart_p {R : Type} (g0 : List Sc) (h1 : Int) (a2 : Int) (kR : Int → Option R) : f_i_CorePart_k g0 h1 a2 kR = (f_i_CorePart_k g0 h1 a2 some).bind kR := by
  simp only [f_i_CorePart_k, brB, boB, bl1B, someB]
theorem f_i_CorePart_e (g0 : List Sc) (h1 : Int) (a2 : Int) : runFn E0 f_i_CorePart_M H0 f_i_CorePart_F (asL (addL 0 (f_i_CorePart_t0) (noL))) Try.f16 (f_i_CorePart_a g0 h1 a2) (f_i_CorePart_i g0 h1 a2) = f_i_CorePart_k g0 h1 a2 (fun r => some (f_i_CorePart_en r)) := by kernel_rfl
theorem f_i_CorePart_ok (g0 : List Sc) (h1 : Int) (a2 : Int) (r : Int) (h : f_i_CorePart g0 h1 a2 = some r) : CS Try.prog 16 (f_i_CorePart_a g0 h1 a2) (f_i_CorePart_i g0 h1 a2) (f_i_CorePart_en r).1 (f_i_CorePart_en r).2 :=
  fn_true (Gk := fun k => f_i_CorePart_k g0 h1 a2 k) (en := f_i_CorePart_en) Try.func16 E0ok f_i_CorePart_Mt (addL_true (f_i_CorePart_tt0) (noL_true)) f_i_CorePart_o (f_i_CorePart_e g0 h1 a2) (f_i_CorePart_p g0 h1 a2) h
def f_i_CorePart_c : CRow := fun args inh => match dec2 [.p .gr, .p (.int .i64), .p (.int .i64)] [] args inh with
  | some ([.l g0, .i h1, .i a2], []) => some ((f_i_CorePart g0 h1 a2).isSome, (f_i_CorePart_en ((f_i_CorePart g0 h1 a2).getD 0)).1, (f_i_CorePart_en ((f_i_CorePart g0 h1 a2).getD 0)).2)
  | _ => none
theorem f_i_CorePart_cc : CTrue Try.prog 16 f_i_CorePart_c := by
  intro args inh rs out h
  unfold f_i_CorePart_c at h
  split at h
  · rename_i hd
    obtain ⟨h1, h2⟩ := dec2_enc hd
    rw [← h1, ← h2]
    exact rowC (f_i_CorePart_ok _ _ _) h
  · cases h

def f_i_PeriodsOf_F : Fi := { nv := 0, nc := 0, m := 0, vt := [], kl := [], sk := [], mvs := [], fz := [] }
def f_i_PeriodsOf_a (g0 : List Sc) (a1 : Int) : List AV := enc [.p .gr, .p (.int .i64)] [.l g0, .i a1]
def f_i_PeriodsOf_i (g0 : List Sc) (a1 : Int) : List AV := enc [] []
def f_i_PeriodsOf_en (r : List Sc) : List AV × List AV := (enc [.p (.al 0)] [], enc [.own 3] [.l r])
def f_i_PeriodsOf_M : Calling := addC 121 f_i_IsSet_c (addC 11 f_i_StabilizerOf_c (addC 130 f_i_members_c (noC)))
theorem f_i_PeriodsOf_Mt : CallOk Try.prog (f_i_PeriodsOf_M) := addC_true f_i_IsSet_cc (addC_true f_i_StabilizerOf_cc (addC_true f_i_members_cc (noC_true)))
theorem f_i_PeriodsOf_o : loopsOnce Try.f17 = true := by kernel_rfl
theorem f_i_PeriodsOf_p {R : Type} (g0 : List Sc) (a1 : Int) (kR : List Sc → Option R) : f_i_PeriodsOf_k g0 a1 kR = (f_i_PeriodsOf_k g0 a1 some).bind kR := by
  simp only [f_i_PeriodsOf_k, brB, boB, someB]
theorem f_i_PeriodsOf_e (g0 : List Sc) (a1 : Int) : runFn E0 f_i_PeriodsOf_M H0 f_i_PeriodsOf_F (asL (noL)) Try.f17 (f_i_PeriodsOf_a g0 a1) (f_i_PeriodsOf_i g0 a1) = f_i_PeriodsOf_k g0 a1 (fun r => some (f_i_PeriodsOf_en r)) := by kernel_rfl
theorem f_i_PeriodsOf_ok (g0 : List Sc) (a1 : Int) (r : List Sc) (h : f_i_PeriodsOf g0 a1 = some r) : CS Try.prog 17 (f_i_PeriodsOf_a g0 a1) (f_i_PeriodsOf_i g0 a1) (f_i_PeriodsOf_en r).1 (f_i_PeriodsOf_en r).2 :=
  fn_true (Gk := fun k => f_i_PeriodsOf_k g0 a1 k) (en := f_i_PeriodsOf_en) Try.func17 E0ok f_i_PeriodsOf_Mt (noL_true) f_i_PeriodsOf_o (f_i_PeriodsOf_e g0 a1) (f_i_PeriodsOf_p g0 a1) h
def f_i_PeriodsOf_c : CRow := fun args inh => match dec2 [.p .gr, .p (.int .i64)] [] args inh with
  | some ([.l g0, .i a1], []) => some ((f_i_PeriodsOf g0 a1).isSome, (f_i_PeriodsOf_en ((f_i_PeriodsOf g0 a1).getD [])).1, (f_i_PeriodsOf_en ((f_i_PeriodsOf g0 a1).getD [])).2)
  | _ => none
theorem f_i_PeriodsOf_cc : CTrue Try.prog 17 f_i_PeriodsOf_c := by
  intro args inh rs out h
  unfold f_i_PeriodsOf_c at h
  split at h
  · rename_i hd
    obtain ⟨h1, h2⟩ := dec2_enc hd
    rw [← h1, ← h2]
    exact rowC (f_i_PeriodsOf_ok _ _) h
  · cases h

def f_s_l3Bits_F : Fi := { nv := 0, nc := 0, m := 0, vt := [], kl := [(0, ([0, 1, 2, 5, 6, 7, 8, 9, 10, 11, 12, 13, 14], [0, 1, 2, 4, 5, 6, 7, 8, 9, 10, 11, 12, 13, 14], [0, 1, 3, 4, 5, 6, 7, 8, 9, 10, 11, 12, 13, 14]))], sk := [], mvs := [], fz := [] }
def f_s_l3Bits_a (a0 : Int) : List AV := enc [.p (.int .i64)] [.i a0]
def f_s_l3Bits_i (a0 : Int) : List AV := enc [] []
def f_s_l3Bits_en (r : Int) : List AV × List AV := (enc [.p (.int .i64)] [.i r], enc [] [])
def f_s_l3Bits_M : Calling := noC
theorem f_s_l3Bits_Mt : CallOk Try.prog (f_s_l3Bits_M) := noC_true
theorem f_s_l3Bits_o : loopsOnce Try.f131 = true := by kernel_rfl
def f_s_l3Bits_h0 : List Sh := [.u, .u, .u, .p (.int .i64), .p (.int .i64), .u, .u, .u, .u, .u, .u, .u, .u, .u, .u]
def f_s_l3Bits_fr0 (s : Int × Int) : List AV := enc f_s_l3Bits_h0 [.i s.1, .i s.2]
def f_s_l3Bits_g0_1 : List Sh := [.u, .u, .u, .p (.int .i64), .u, .u, .u, .u, .u, .u, .u, .u, .u, .u, .u]
def f_s_l3Bits_x0_1 (e : Int) : X × List AV := (.out 0, enc f_s_l3Bits_g0_1 [.i e])
def f_s_l3Bits_x0_2 (_e : Unit) : X × List AV := (.ret, [])
theorem f_s_l3Bits_p0 {R : Type} (s : Int × Int) (kN : Int × Int → Option R) (kA : Int → Option R) (kB : Unit → Option R) : f_s_l3Bits_k0 s.1 s.2 kN kA = (f_s_l3Bits_r0 s).bind (Ro.el kN kA kB) := by
  simp only [f_s_l3Bits_k0, f_s_l3Bits_r0, brB, someB, Ro.el]
theorem f_s_l3Bits_e0 (s : Int × Int) : EC E0 f_s_l3Bits_M H0 f_s_l3Bits_F (asL (noL)) 0 (bodyOf Try.f131 0) (f_s_l3Bits_fr0 s) (done (klOf f_s_l3Bits_F 0)) = f_s_l3Bits_k0 s.1 s.2 (fun s => some (.norm, f_s_l3Bits_fr0 s)) (fun e => some (f_s_l3Bits_x0_1 e)) := by kernel_rfl
theorem f_s_l3Bits_l0 : ∀ s r, loopL (f_s_l3Bits_r0) s = some r → LS Try.prog f_s_l3Bits_F (bodyOf Try.f131 0) (f_s_l3Bits_fr0 s) (enX (f_s_l3Bits_x0_1) (f_s_l3Bits_x0_2) r) :=
  loop_true E0ok f_s_l3Bits_Mt (noL_true) f_s_l3Bits_o (fun _ h => by cases h) (fun _ h => by cases h) (fun s => (f_s_l3Bits_e0 s).trans (f_s_l3Bits_p0 s _ _ (fun e => some (f_s_l3Bits_x0_2 e))))
def f_s_l3Bits_t0 (σ : List AV) : Option (Bool × Bool × (X × List AV) × (X × List AV)) := match dec f_s_l3Bits_h0 σ with
  | some [.i n3, .i x4] => some (isOne (loopL (f_s_l3Bits_r0) (n3, x4)), true, f_s_l3Bits_x0_1 (getOne 0 (loopL (f_s_l3Bits_r0) (n3, x4))), (.ret, []))
  | _ => none
theorem f_s_l3Bits_tt0 : TTrue Try.prog f_s_l3Bits_F Try.f131 0 (f_s_l3Bits_t0) := by
  intro σ p r r' h
  unfold f_s_l3Bits_t0 at h
  split at h
  · rename_i hd
    rw [← dec_enc hd]
    exact row1 (f_s_l3Bits_l0 _) h
  · cases h
theorem f_s_l3Bits_p {R : Type} (a0 : Int) (kR : Int → Option R) : f_s_l3Bits_k a0 kR = (f_s_l3Bits_k a0 some).bind kR := by
  simp only [f_s_l3Bits_k, bl1B, someB]
theorem f_s_l3Bits_e (a0 : Int) : runFn E0 f_s_l3Bits_M H0 f_s_l3Bits_F (asL (addL 0 (f_s_l3Bits_t0) (noL))) Try.f131 (f_s_l3Bits_a a0) (f_s_l3Bits_i a0) = f_s_l3Bits_k a0 (fun r => some (f_s_l3Bits_en r)) := by kernel_rfl
theorem f_s_l3Bits_ok (a0 : Int) (r : Int) (h : f_s_l3Bits a0 = some r) : CS Try.prog 131 (f_s_l3Bits_a a0) (f_s_l3Bits_i a0) (f_s_l3Bits_en r).1 (f_s_l3Bits_en r).2 :=
  fn_true (Gk := fun k => f_s_l3Bits_k a0 k) (en := f_s_l3Bits_en) Try.func131 E0ok f_s_l3Bits_Mt (addL_true (f_s_l3Bits_tt0) (noL_true)) f_s_l3Bits_o (f_s_l3Bits_e a0) (f_s_l3Bits_p a0) h
def f_s_l3Bits_c : CRow := fun args inh => match dec2 [.p (.int .i64)] [] args inh with
  | some ([.i a0], []) => some ((f_s_l3Bits a0).isSome, (f_s_l3Bits_en ((f_s_l3Bits a0).getD 0)).1, (f_s_l3Bits_en ((f_s_l3Bits a0).getD 0)).2)
  | _ => none
theorem f_s_l3Bits_cc : CTrue Try.prog 131 f_s_l3Bits_c := by
  intro args inh rs out h
  unfold f_s_l3Bits_c at h
  split at h
  · rename_i hd
    obtain ⟨h1, h2⟩ := dec2_enc hd
    rw [← h1, ← h2]
    exact rowC (f_s_l3Bits_ok _) h
  · cases h

def f_s_CountSet_F : Fi := { nv := 0, nc := 0, m := 0, vt := [], kl := [], sk := [], mvs := [], fz := [] }
def f_s_CountSet_a (g0 : List Sc) (a1 : Int) : List AV := enc [.p .gr, .p (.int .i64)] [.l g0, .i a1]
def f_s_CountSet_i (g0 : List Sc) (a1 : Int) : List AV := enc [] []
def f_s_CountSet_en (r : Int) : List AV × List AV := (enc [.p (.int .i64)] [.i r], enc [] [])
def f_s_CountSet_M : Calling := addC 124 f_s_IsSet_c (addC 131 f_s_l3Bits_c (noC))
theorem f_s_CountSet_Mt : CallOk Try.prog (f_s_CountSet_M) := addC_true f_s_IsSet_cc (addC_true f_s_l3Bits_cc (noC_true))
theorem f_s_CountSet_o : loopsOnce Try.f18 = true := by kernel_rfl
theorem f_s_CountSet_p {R : Type} (g0 : List Sc) (a1 : Int) (kR : Int → Option R) : f_s_CountSet_k g0 a1 kR = (f_s_CountSet_k g0 a1 some).bind kR := by
  simp only [f_s_CountSet_k, brB, boB, someB]
theorem f_s_CountSet_e (g0 : List Sc) (a1 : Int) : runFn E0 f_s_CountSet_M H0 f_s_CountSet_F (asL (noL)) Try.f18 (f_s_CountSet_a g0 a1) (f_s_CountSet_i g0 a1) = f_s_CountSet_k g0 a1 (fun r => some (f_s_CountSet_en r)) := by kernel_rfl
theorem f_s_CountSet_ok (g0 : List Sc) (a1 : Int) (r : Int) (h : f_s_CountSet g0 a1 = some r) : CS Try.prog 18 (f_s_CountSet_a g0 a1) (f_s_CountSet_i g0 a1) (f_s_CountSet_en r).1 (f_s_CountSet_en r).2 :=
  fn_true (Gk := fun k => f_s_CountSet_k g0 a1 k) (en := f_s_CountSet_en) Try.func18 E0ok f_s_CountSet_Mt (noL_true) f_s_CountSet_o (f_s_CountSet_e g0 a1) (f_s_CountSet_p g0 a1) h
def f_s_CountSet_c : CRow := fun args inh => match dec2 [.p .gr, .p (.int .i64)] [] args inh with
  | some ([.l g0, .i a1], []) => some ((f_s_CountSet g0 a1).isSome, (f_s_CountSet_en ((f_s_CountSet g0 a1).getD 0)).1, (f_s_CountSet_en ((f_s_CountSet g0 a1).getD 0)).2)
  | _ => none
theorem f_s_CountSet_cc : CTrue Try.prog 18 f_s_CountSet_c := by
  intro args inh rs out h
  unfold f_s_CountSet_c at h
  split at h
  · rename_i hd
    obtain ⟨h1, h2⟩ := dec2_enc hd
    rw [← h1, ← h2]
    exact rowC (f_s_CountSet_ok _ _) h
  · cases h

def f_s_l6Three_F : Fi := { nv := 5, nc := 5, m := 0, vt := [(2, 0), (6, 1), (9, 2)], kl := [(100003, ([5, 6, 8, 9, 13, 14, 15, 16, 17, 18, 19, 20, 21, 22, 23, 24], [1, 2, 3, 4, 5, 6, 10, 11, 12, 13, 14, 15, 16, 17, 18, 19, 20, 21, 22, 23, 24], []))], sk := [], mvs := [], fz := [], tb := [3] }
def f_s_l6Three_a (code0 : List Sc) : List AV := enc [.p .sl] [.l code0]
def f_s_l6Three_i (code0 : List Sc) : List AV := enc [] []
def f_s_l6Three_en (r : List Sc × Int × Int) : List AV × List AV := (enc [.p .gr, .p (.int .i64), .p (.int .i64)] [.l r.1, .i r.2.1, .i r.2.2], enc [] [])
def f_s_l6Three_M : Calling := addC 162 f_s_l1New_c (addC 205 f_s_l5Group_io_c (addC 164 f_s_l3Set_io_c (noC)))
theorem f_s_l6Three_Mt : CallOk Try.prog (f_s_l6Three_M) := addC_true f_s_l1New_cc (addC_true f_s_l5Group_io_cc (addC_true f_s_l3Set_io_cc (noC_true)))
theorem f_s_l6Three_o : loopsOnce Try.f132 = true := by kernel_rfl
def f_s_l6Three_hg3 : List Sh := [.p .sl, .p .sl, .p .sl, .p (.int .i64), .p (.int .i64), .u, .u, .p (.pt 0 1), .u, .u, .p (.pt 2 3), .p (.pt 1 1), .p (.int .i64), .u, .u, .u, .u, .u, .u, .u, .u, .u, .u, .u, .u]
def f_s_l6Three_frg3 (v0 : List Sc) (v1 : List Sc) (v2 : List Sc) (v3 : Int) (v4 : Int) (t7 : Int) : List AV := enc f_s_l6Three_hg3 [.l v0, .l v1, .l v2, .i v3, .i v4, .i t7]
def f_s_l6Three_xg3 (v0 : List Sc) (v1 : List Sc) (v2 : List Sc) (v3 : Int) (v4 : Int) (t7 : Int) (e : Int) : X × List AV := (.norm, enc [.p .sl, .u, .u, .u, .u, .u, .u, .p (.pt 0 1), .p (.int .i64), .p (.int .i64), .u, .u, .u, .u, .u, .u, .u, .u, .u, .u, .u, .u, .u, .u, .u] [.l v1, .i t7, .i e])
theorem f_s_l6Three_pg3 {R : Type} (v0 : List Sc) (v1 : List Sc) (v2 : List Sc) (v3 : Int) (v4 : Int) (t7 : Int) (kA : Int → Option R) : f_s_l6Three_g3_k v0 v1 v2 v3 v4 t7 kA = (f_s_l6Three_g3 v0 v1 v2 v3 v4 t7).bind kA := by
  simp only [f_s_l6Three_g3_k, f_s_l6Three_g3, boB, someB]
theorem f_s_l6Three_bg3 : bodyOf Try.f132 100003 = .region 3 (opsAt (bodyOf Try.f132 100003)) true := by kernel_rfl
def f_s_l6Three_Dg3 : List (Array Bool) := [#[false, false, false, false, false, false, false, false], #[true, false, false, false, false, false, false, false], #[false, true, false, false, false, false, false, false], #[false, false, true, false, false, false, false, false], #[false, false, false, true, false, false, false, false], #[true, true, false, false, false, false, false, false], #[true, false, true, false, false, false, false, false], #[true, false, false, true, false, false, false, false], #[false, true, true, false, false, false, false, false], #[false, true, false, true, false, false, false, false], #[false, false, true, true, false, false, false, false], #[true, true, true, false, false, false, false, false], #[true, true, false, true, false, false, false, false], #[true, false, true, true, false, false, false, false], #[false, true, true, true, false, false, false, false], #[false, false, true, true, true, false, false, false], #[true, true, true, true, false, false, false, false], #[true, false, true, true, true, false, false, false], #[false, true, true, true, true, false, false, false], #[true, true, true, true, true, false, false, false], #[true, false, true, true, true, true, false, false], #[true, true, true, true, true, true, false, false], #[true, true, true, true, true, true, true, false], #[true, true, true, true, true, true, true, true]]
theorem f_s_l6Three_cg3 : closedB (opsAt (bodyOf Try.f132 100003)) f_s_l6Three_Dg3 = true := by kernel_rfl
def f_s_l6Three_sg3_0 (v0 : List Sc) (v1 : List Sc) (v2 : List Sc) (v3 : Int) (v4 : Int) (t7 : Int) (fr : List AV) : Option (List AV) :=
  some (setAll [] fr)
def f_s_l6Three_sg3_1 (v0 : List Sc) (v1 : List Sc) (v2 : List Sc) (v3 : Int) (v4 : Int) (t7 : Int) (fr : List AV) : Option (List AV) :=
  some (setAll [(20, .p (.gr v1))] fr)
def f_s_l6Three_sg3_2 (v0 : List Sc) (v1 : List Sc) (v2 : List Sc) (v3 : Int) (v4 : Int) (t7 : Int) (fr : List AV) : Option (List AV) :=
  some (setAll [(21, .p (.sc (Sc.n .i64 t7)))] fr)
def f_s_l6Three_sg3_4 (v0 : List Sc) (v1 : List Sc) (v2 : List Sc) (v3 : Int) (v4 : Int) (t7 : Int) (fr : List AV) : Option (List AV) :=
  some (setAll [(22, .p (.pt 2 3))] fr)
def f_s_l6Three_sg3_8 (v0 : List Sc) (v1 : List Sc) (v2 : List Sc) (v3 : Int) (v4 : Int) (t7 : Int) (fr : List AV) : Option (List AV) :=
  some (setAll [(23, .p (.gr v1))] fr)
def f_s_l6Three_sg3_3 (v0 : List Sc) (v1 : List Sc) (v2 : List Sc) (v3 : Int) (v4 : Int) (t7 : Int) (fr : List AV) : Option (List AV) :=
  some (setAll [(20, .p (.gr v1)), (21, .p (.sc (Sc.n .i64 t7)))] fr)
def f_s_l6Three_sg3_5 (v0 : List Sc) (v1 : List Sc) (v2 : List Sc) (v3 : Int) (v4 : Int) (t7 : Int) (fr : List AV) : Option (List AV) :=
  some (setAll [(20, .p (.gr v1)), (22, .p (.pt 2 3))] fr)
def f_s_l6Three_sg3_9 (v0 : List Sc) (v1 : List Sc) (v2 : List Sc) (v3 : Int) (v4 : Int) (t7 : Int) (fr : List AV) : Option (List AV) :=
  some (setAll [(20, .p (.gr v1)), (23, .p (.gr v1))] fr)
def f_s_l6Three_sg3_6 (v0 : List Sc) (v1 : List Sc) (v2 : List Sc) (v3 : Int) (v4 : Int) (t7 : Int) (fr : List AV) : Option (List AV) :=
  some (setAll [(21, .p (.sc (Sc.n .i64 t7))), (22, .p (.pt 2 3))] fr)
def f_s_l6Three_sg3_10 (v0 : List Sc) (v1 : List Sc) (v2 : List Sc) (v3 : Int) (v4 : Int) (t7 : Int) (fr : List AV) : Option (List AV) :=
  some (setAll [(21, .p (.sc (Sc.n .i64 t7))), (23, .p (.gr v1))] fr)
def f_s_l6Three_sg3_12 (v0 : List Sc) (v1 : List Sc) (v2 : List Sc) (v3 : Int) (v4 : Int) (t7 : Int) (fr : List AV) : Option (List AV) :=
  some (setAll [(22, .p (.pt 2 3)), (23, .p (.gr v1))] fr)
def f_s_l6Three_sg3_7 (v0 : List Sc) (v1 : List Sc) (v2 : List Sc) (v3 : Int) (v4 : Int) (t7 : Int) (fr : List AV) : Option (List AV) :=
  some (setAll [(20, .p (.gr v1)), (21, .p (.sc (Sc.n .i64 t7))), (22, .p (.pt 2 3))] fr)
def f_s_l6Three_sg3_11 (v0 : List Sc) (v1 : List Sc) (v2 : List Sc) (v3 : Int) (v4 : Int) (t7 : Int) (fr : List AV) : Option (List AV) :=
  some (setAll [(20, .p (.gr v1)), (21, .p (.sc (Sc.n .i64 t7))), (23, .p (.gr v1))] fr)
def f_s_l6Three_sg3_13 (v0 : List Sc) (v1 : List Sc) (v2 : List Sc) (v3 : Int) (v4 : Int) (t7 : Int) (fr : List AV) : Option (List AV) :=
  some (setAll [(20, .p (.gr v1)), (22, .p (.pt 2 3)), (23, .p (.gr v1))] fr)
def f_s_l6Three_sg3_14 (v0 : List Sc) (v1 : List Sc) (v2 : List Sc) (v3 : Int) (v4 : Int) (t7 : Int) (fr : List AV) : Option (List AV) :=
  some (setAll [(21, .p (.sc (Sc.n .i64 t7))), (22, .p (.pt 2 3)), (23, .p (.gr v1))] fr)
def f_s_l6Three_sg3_28 (v0 : List Sc) (v1 : List Sc) (v2 : List Sc) (v3 : Int) (v4 : Int) (t7 : Int) (fr : List AV) : Option (List AV) :=
  bo (f_s_l3Set_io v1 v2 v3 v4) (0, [], 0, 0) fun r4 =>
  some (setAll [(2, .p (.sl r4.2.1)), (3, .p (.sc (Sc.n .i64 r4.2.2.1))), (4, .p (.sc (Sc.n .i64 r4.2.2.2))), (22, .p (.pt 2 3)), (23, .p (.gr v1)), (24, .p (.sc (Sc.n .i64 r4.1)))] fr)
def f_s_l6Three_sg3_15 (v0 : List Sc) (v1 : List Sc) (v2 : List Sc) (v3 : Int) (v4 : Int) (t7 : Int) (fr : List AV) : Option (List AV) :=
  some (setAll [(20, .p (.gr v1)), (21, .p (.sc (Sc.n .i64 t7))), (22, .p (.pt 2 3)), (23, .p (.gr v1))] fr)
def f_s_l6Three_sg3_29 (v0 : List Sc) (v1 : List Sc) (v2 : List Sc) (v3 : Int) (v4 : Int) (t7 : Int) (fr : List AV) : Option (List AV) :=
  bo (f_s_l3Set_io v1 v2 v3 v4) (0, [], 0, 0) fun r5 =>
  some (setAll [(2, .p (.sl r5.2.1)), (3, .p (.sc (Sc.n .i64 r5.2.2.1))), (4, .p (.sc (Sc.n .i64 r5.2.2.2))), (20, .p (.gr v1)), (22, .p (.pt 2 3)), (23, .p (.gr v1)), (24, .p (.sc (Sc.n .i64 r5.1)))] fr)
def f_s_l6Three_sg3_30 (v0 : List Sc) (v1 : List Sc) (v2 : List Sc) (v3 : Int) (v4 : Int) (t7 : Int) (fr : List AV) : Option (List AV) :=
  bo (f_s_l3Set_io v1 v2 v3 v4) (0, [], 0, 0) fun r6 =>
  some (setAll [(2, .p (.sl r6.2.1)), (3, .p (.sc (Sc.n .i64 r6.2.2.1))), (4, .p (.sc (Sc.n .i64 r6.2.2.2))), (21, .p (.sc (Sc.n .i64 t7))), (22, .p (.pt 2 3)), (23, .p (.gr v1)), (24, .p (.sc (Sc.n .i64 r6.1)))] fr)
def f_s_l6Three_sg3_31 (v0 : List Sc) (v1 : List Sc) (v2 : List Sc) (v3 : Int) (v4 : Int) (t7 : Int) (fr : List AV) : Option (List AV) :=
  bo (f_s_l3Set_io v1 v2 v3 v4) (0, [], 0, 0) fun r7 =>
  some (setAll [(2, .p (.sl r7.2.1)), (3, .p (.sc (Sc.n .i64 r7.2.2.1))), (4, .p (.sc (Sc.n .i64 r7.2.2.2))), (20, .p (.gr v1)), (21, .p (.sc (Sc.n .i64 t7))), (22, .p (.pt 2 3)), (23, .p (.gr v1)), (24, .p (.sc (Sc.n .i64 r7.1)))] fr)
def f_s_l6Three_sg3_61 (v0 : List Sc) (v1 : List Sc) (v2 : List Sc) (v3 : Int) (v4 : Int) (t7 : Int) (fr : List AV) : Option (List AV) :=
  bo (f_s_l3Set_io v1 v2 v3 v4) (0, [], 0, 0) fun r8 =>
  some (setAll [(0, .p (.sl v1)), (2, .p (.sl r8.2.1)), (3, .p (.sc (Sc.n .i64 r8.2.2.1))), (4, .p (.sc (Sc.n .i64 r8.2.2.2))), (20, .p (.gr v1)), (22, .p (.pt 2 3)), (23, .p (.gr v1)), (24, .p (.sc (Sc.n .i64 r8.1)))] fr)
def f_s_l6Three_sg3_63 (v0 : List Sc) (v1 : List Sc) (v2 : List Sc) (v3 : Int) (v4 : Int) (t7 : Int) (fr : List AV) : Option (List AV) :=
  bo (f_s_l3Set_io v1 v2 v3 v4) (0, [], 0, 0) fun r9 =>
  some (setAll [(0, .p (.sl v1)), (2, .p (.sl r9.2.1)), (3, .p (.sc (Sc.n .i64 r9.2.2.1))), (4, .p (.sc (Sc.n .i64 r9.2.2.2))), (20, .p (.gr v1)), (21, .p (.sc (Sc.n .i64 t7))), (22, .p (.pt 2 3)), (23, .p (.gr v1)), (24, .p (.sc (Sc.n .i64 r9.1)))] fr)
def f_s_l6Three_sg3_127 (v0 : List Sc) (v1 : List Sc) (v2 : List Sc) (v3 : Int) (v4 : Int) (t7 : Int) (fr : List AV) : Option (List AV) :=
  bo (f_s_l3Set_io v1 v2 v3 v4) (0, [], 0, 0) fun r10 =>
  some (setAll [(0, .p (.sl v1)), (2, .p (.sl r10.2.1)), (3, .p (.sc (Sc.n .i64 r10.2.2.1))), (4, .p (.sc (Sc.n .i64 r10.2.2.2))), (8, .p (.sc (Sc.n .i64 t7))), (20, .p (.gr v1)), (21, .p (.sc (Sc.n .i64 t7))), (22, .p (.pt 2 3)), (23, .p (.gr v1)), (24, .p (.sc (Sc.n .i64 r10.1)))] fr)
def f_s_l6Three_sg3_255 (v0 : List Sc) (v1 : List Sc) (v2 : List Sc) (v3 : Int) (v4 : Int) (t7 : Int) (fr : List AV) : Option (List AV) :=
  bo (f_s_l3Set_io v1 v2 v3 v4) (0, [], 0, 0) fun r11 =>
  some (setAll [(0, .p (.sl v1)), (2, .p (.sl r11.2.1)), (3, .p (.sc (Sc.n .i64 r11.2.2.1))), (4, .p (.sc (Sc.n .i64 r11.2.2.2))), (8, .p (.sc (Sc.n .i64 t7))), (9, .p (.sc (Sc.n .i64 r11.1))), (20, .p (.gr v1)), (21, .p (.sc (Sc.n .i64 t7))), (22, .p (.pt 2 3)), (23, .p (.gr v1)), (24, .p (.sc (Sc.n .i64 r11.1)))] fr)
def f_s_l6Three_Eg3 (v0 : List Sc) (v1 : List Sc) (v2 : List Sc) (v3 : Int) (v4 : Int) (t7 : Int) (fr : List AV) : List (Option (List AV)) := [f_s_l6Three_sg3_1 v0 v1 v2 v3 v4 t7 fr, f_s_l6Three_sg3_2 v0 v1 v2 v3 v4 t7 fr, f_s_l6Three_sg3_4 v0 v1 v2 v3 v4 t7 fr, f_s_l6Three_sg3_8 v0 v1 v2 v3 v4 t7 fr, f_s_l6Three_sg3_3 v0 v1 v2 v3 v4 t7 fr, f_s_l6Three_sg3_5 v0 v1 v2 v3 v4 t7 fr, f_s_l6Three_sg3_9 v0 v1 v2 v3 v4 t7 fr, f_s_l6Three_sg3_3 v0 v1 v2 v3 v4 t7 fr, f_s_l6Three_sg3_6 v0 v1 v2 v3 v4 t7 fr, f_s_l6Three_sg3_10 v0 v1 v2 v3 v4 t7 fr, f_s_l6Three_sg3_5 v0 v1 v2 v3 v4 t7 fr, f_s_l6Three_sg3_6 v0 v1 v2 v3 v4 t7 fr, f_s_l6Three_sg3_12 v0 v1 v2 v3 v4 t7 fr, f_s_l6Three_sg3_9 v0 v1 v2 v3 v4 t7 fr, f_s_l6Three_sg3_10 v0 v1 v2 v3 v4 t7 fr, f_s_l6Three_sg3_12 v0 v1 v2 v3 v4 t7 fr, f_s_l6Three_sg3_7 v0 v1 v2 v3 v4 t7 fr, f_s_l6Three_sg3_11 v0 v1 v2 v3 v4 t7 fr, f_s_l6Three_sg3_7 v0 v1 v2 v3 v4 t7 fr, f_s_l6Three_sg3_13 v0 v1 v2 v3 v4 t7 fr, f_s_l6Three_sg3_11 v0 v1 v2 v3 v4 t7 fr, f_s_l6Three_sg3_13 v0 v1 v2 v3 v4 t7 fr, f_s_l6Three_sg3_7 v0 v1 v2 v3 v4 t7 fr, f_s_l6Three_sg3_14 v0 v1 v2 v3 v4 t7 fr, f_s_l6Three_sg3_11 v0 v1 v2 v3 v4 t7 fr, f_s_l6Three_sg3_14 v0 v1 v2 v3 v4 t7 fr, f_s_l6Three_sg3_13 v0 v1 v2 v3 v4 t7 fr, f_s_l6Three_sg3_14 v0 v1 v2 v3 v4 t7 fr, f_s_l6Three_sg3_28 v0 v1 v2 v3 v4 t7 fr, f_s_l6Three_sg3_15 v0 v1 v2 v3 v4 t7 fr, f_s_l6Three_sg3_15 v0 v1 v2 v3 v4 t7 fr, f_s_l6Three_sg3_15 v0 v1 v2 v3 v4 t7 fr, f_s_l6Three_sg3_29 v0 v1 v2 v3 v4 t7 fr, f_s_l6Three_sg3_15 v0 v1 v2 v3 v4 t7 fr, f_s_l6Three_sg3_30 v0 v1 v2 v3 v4 t7 fr, f_s_l6Three_sg3_29 v0 v1 v2 v3 v4 t7 fr, f_s_l6Three_sg3_30 v0 v1 v2 v3 v4 t7 fr, f_s_l6Three_sg3_31 v0 v1 v2 v3 v4 t7 fr, f_s_l6Three_sg3_31 v0 v1 v2 v3 v4 t7 fr, f_s_l6Three_sg3_61 v0 v1 v2 v3 v4 t7 fr, f_s_l6Three_sg3_31 v0 v1 v2 v3 v4 t7 fr, f_s_l6Three_sg3_63 v0 v1 v2 v3 v4 t7 fr, f_s_l6Three_sg3_63 v0 v1 v2 v3 v4 t7 fr, f_s_l6Three_sg3_127 v0 v1 v2 v3 v4 t7 fr, f_s_l6Three_sg3_255 v0 v1 v2 v3 v4 t7 fr]
theorem f_s_l6Three_dLg3 (v0 : List Sc) (v1 : List Sc) (v2 : List Sc) (v3 : Int) (v4 : Int) (t7 : Int) : edgeL E0 f_s_l6Three_M H0 f_s_l6Three_F (opsAt (bodyOf Try.f132 100003)) f_s_l6Three_Dg3 (f_s_l6Three_frg3 v0 v1 v2 v3 v4 t7) = f_s_l6Three_Eg3 v0 v1 v2 v3 v4 t7 (f_s_l6Three_frg3 v0 v1 v2 v3 v4 t7) := by kernel_rfl
theorem f_s_l6Three_dRg3 (v0 : List Sc) (v1 : List Sc) (v2 : List Sc) (v3 : Int) (v4 : Int) (t7 : Int) : edgeR E0 f_s_l6Three_M H0 f_s_l6Three_F (opsAt (bodyOf Try.f132 100003)) f_s_l6Three_Dg3 (f_s_l6Three_frg3 v0 v1 v2 v3 v4 t7) = f_s_l6Three_Eg3 v0 v1 v2 v3 v4 t7 (f_s_l6Three_frg3 v0 v1 v2 v3 v4 t7) := by kernel_rfl
theorem f_s_l6Three_dg3 (v0 : List Sc) (v1 : List Sc) (v2 : List Sc) (v3 : Int) (v4 : Int) (t7 : Int) : edgeL E0 f_s_l6Three_M H0 f_s_l6Three_F (opsAt (bodyOf Try.f132 100003)) f_s_l6Three_Dg3 (f_s_l6Three_frg3 v0 v1 v2 v3 v4 t7) = edgeR E0 f_s_l6Three_M H0 f_s_l6Three_F (opsAt (bodyOf Try.f132 100003)) f_s_l6Three_Dg3 (f_s_l6Three_frg3 v0 v1 v2 v3 v4 t7) := (f_s_l6Three_dLg3 v0 v1 v2 v3 v4 t7).trans (f_s_l6Three_dRg3 v0 v1 v2 v3 v4 t7).symm
theorem f_s_l6Three_eg3 (v0 : List Sc) (v1 : List Sc) (v2 : List Sc) (v3 : Int) (v4 : Int) (t7 : Int) : goL E0 f_s_l6Three_M H0 f_s_l6Three_F (opsAt (bodyOf Try.f132 100003)) (Array.replicate (opsAt (bodyOf Try.f132 100003)).size true) (opsAt (bodyOf Try.f132 100003)).toList 0 (f_s_l6Three_frg3 v0 v1 v2 v3 v4 t7) (fun s => some (X.norm, clear (klOf f_s_l6Three_F 100003).2.1 s)) = f_s_l6Three_g3_k v0 v1 v2 v3 v4 t7 (fun e => some (f_s_l6Three_xg3 v0 v1 v2 v3 v4 t7 e)) := by kernel_rfl
theorem f_s_l6Three_lg3 (v0 : List Sc) (v1 : List Sc) (v2 : List Sc) (v3 : Int) (v4 : Int) (t7 : Int) (r : Int) (h : f_s_l6Three_g3 v0 v1 v2 v3 v4 t7 = some r) : LS Try.prog f_s_l6Three_F (bodyOf Try.f132 100003) (f_s_l6Three_frg3 v0 v1 v2 v3 v4 t7) (f_s_l6Three_xg3 v0 v1 v2 v3 v4 t7 r) :=
  region_true (S := Unit) (id := 3) (G := fun _ => f_s_l6Three_g3 v0 v1 v2 v3 v4 t7) (Gk := fun _ k => f_s_l6Three_g3_k v0 v1 v2 v3 v4 t7 k) (fr := fun _ => f_s_l6Three_frg3 v0 v1 v2 v3 v4 t7) (f1 := fun e => f_s_l6Three_xg3 v0 v1 v2 v3 v4 t7 e) E0ok f_s_l6Three_Mt f_s_l6Three_bg3 f_s_l6Three_cg3 (fun _ => f_s_l6Three_dg3 v0 v1 v2 v3 v4 t7) (fun _ => rfl) (fun _ => f_s_l6Three_eg3 v0 v1 v2 v3 v4 t7) (fun _ k => f_s_l6Three_pg3 v0 v1 v2 v3 v4 t7 k) () r h
def f_s_l6Three_tg3 (σ : List AV) : Option (Bool × Bool × (X × List AV) × (X × List AV)) := match dec f_s_l6Three_hg3 σ with
  | some [.l v0, .l v1, .l v2, .i v3, .i v4, .i t7] => some ((f_s_l6Three_g3 v0 v1 v2 v3 v4 t7).isSome, true, f_s_l6Three_xg3 v0 v1 v2 v3 v4 t7 ((f_s_l6Three_g3 v0 v1 v2 v3 v4 t7).getD 0), (.ret, []))
  | _ => none
theorem f_s_l6Three_ttg3 : TTrue Try.prog f_s_l6Three_F Try.f132 100003 f_s_l6Three_tg3 := by
  intro σ p r r' h
  unfold f_s_l6Three_tg3 at h
  split at h
  · rename_i hd
    rw [← dec_enc hd]
    exact rowR (f_s_l6Three_lg3 _ _ _ _ _ _) h
  · cases h
theorem f_s_l6Three_p {R : Type} (code0 : List Sc) (kR : List Sc × Int × Int → Option R) : f_s_l6Three_k code0 kR = (f_s_l6Three_k code0 some).bind kR := by
  simp only [f_s_l6Three_k, boB, someB]
theorem f_s_l6Three_e (code0 : List Sc) : runFn E0 f_s_l6Three_M H0 f_s_l6Three_F (asL (addL 100003 f_s_l6Three_tg3 (noL))) Try.f132 (f_s_l6Three_a code0) (f_s_l6Three_i code0) = f_s_l6Three_k code0 (fun r => some (f_s_l6Three_en r)) := by kernel_rfl
theorem f_s_l6Three_ok (code0 : List Sc) (r : List Sc × Int × Int) (h : f_s_l6Three code0 = some r) : CS Try.prog 132 (f_s_l6Three_a code0) (f_s_l6Three_i code0) (f_s_l6Three_en r).1 (f_s_l6Three_en r).2 :=
  fn_true (Gk := fun k => f_s_l6Three_k code0 k) (en := f_s_l6Three_en) Try.func132 E0ok f_s_l6Three_Mt (addL_true f_s_l6Three_ttg3 (noL_true)) f_s_l6Three_o (f_s_l6Three_e code0) (f_s_l6Three_p code0) h
def f_s_l6Three_c : CRow := fun args inh => match dec2 [.p .sl] [] args inh with
  | some ([.l code0], []) => some ((f_s_l6Three code0).isSome, (f_s_l6Three_en ((f_s_l6Three code0).getD ([], 0, 0))).1, (f_s_l6Three_en ((f_s_l6Three code0).getD ([], 0, 0))).2)
  | _ => none
theorem f_s_l6Three_cc : CTrue Try.prog 132 f_s_l6Three_c := by
  intro args inh rs out h
  unfold f_s_l6Three_c at h
  split at h
  · rename_i hd
    obtain ⟨h1, h2⟩ := dec2_enc hd
    rw [← h1, ← h2]
    exact rowC (f_s_l6Three_ok _) h
  · cases h

def f_s_DrawFillSet_F : Fi := { nv := 2, nc := 2, m := 0, vt := [(2, 0), (5, 1)], kl := [], sk := [], mvs := [], fz := [] }
def f_s_DrawFillSet_a (code0 : List Sc) : List AV := enc [.p .sl] [.l code0]
def f_s_DrawFillSet_i (code0 : List Sc) : List AV := enc [] []
def f_s_DrawFillSet_en (r : List Sc × Int × Int) : List AV × List AV := (enc [.p .gr, .p (.int .i64), .p (.int .i64)] [.l r.1, .i r.2.1, .i r.2.2], enc [] [])
def f_s_DrawFillSet_M : Calling := addC 132 f_s_l6Three_c (noC)
theorem f_s_DrawFillSet_Mt : CallOk Try.prog (f_s_DrawFillSet_M) := addC_true f_s_l6Three_cc (noC_true)
theorem f_s_DrawFillSet_o : loopsOnce Try.f19 = true := by kernel_rfl
theorem f_s_DrawFillSet_p {R : Type} (code0 : List Sc) (kR : List Sc × Int × Int → Option R) : f_s_DrawFillSet_k code0 kR = (f_s_DrawFillSet_k code0 some).bind kR := by
  simp only [f_s_DrawFillSet_k, boB, someB]
theorem f_s_DrawFillSet_e (code0 : List Sc) : runFn E0 f_s_DrawFillSet_M H0 f_s_DrawFillSet_F (asL (noL)) Try.f19 (f_s_DrawFillSet_a code0) (f_s_DrawFillSet_i code0) = f_s_DrawFillSet_k code0 (fun r => some (f_s_DrawFillSet_en r)) := by kernel_rfl
theorem f_s_DrawFillSet_ok (code0 : List Sc) (r : List Sc × Int × Int) (h : f_s_DrawFillSet code0 = some r) : CS Try.prog 19 (f_s_DrawFillSet_a code0) (f_s_DrawFillSet_i code0) (f_s_DrawFillSet_en r).1 (f_s_DrawFillSet_en r).2 :=
  fn_true (Gk := fun k => f_s_DrawFillSet_k code0 k) (en := f_s_DrawFillSet_en) Try.func19 E0ok f_s_DrawFillSet_Mt (noL_true) f_s_DrawFillSet_o (f_s_DrawFillSet_e code0) (f_s_DrawFillSet_p code0) h
def f_s_DrawFillSet_c : CRow := fun args inh => match dec2 [.p .sl] [] args inh with
  | some ([.l code0], []) => some ((f_s_DrawFillSet code0).isSome, (f_s_DrawFillSet_en ((f_s_DrawFillSet code0).getD ([], 0, 0))).1, (f_s_DrawFillSet_en ((f_s_DrawFillSet code0).getD ([], 0, 0))).2)
  | _ => none
theorem f_s_DrawFillSet_cc : CTrue Try.prog 19 f_s_DrawFillSet_c := by
  intro args inh rs out h
  unfold f_s_DrawFillSet_c at h
  split at h
  · rename_i hd
    obtain ⟨h1, h2⟩ := dec2_enc hd
    rw [← h1, ← h2]
    exact rowC (f_s_DrawFillSet_ok _) h
  · cases h

def f_i_QuotientSet_F : Fi := { nv := 1, nc := 0, m := 0, vt := [(17, 0)], kl := [(0, ([0, 1, 2, 4, 5, 6, 7, 8, 11, 12, 13, 14, 15, 16, 17, 18, 19, 20, 21, 22, 23, 24, 25, 26, 27, 28, 29, 33, 34, 35, 36, 37, 38, 39, 40, 41, 42, 43, 44], [0, 1, 2, 3, 4, 5, 6, 7, 8, 11, 12, 13, 14, 15, 16, 17, 18, 19, 20, 21, 22, 23, 24, 25, 26, 27, 28, 29, 30, 31, 32, 33, 34, 35, 36, 37, 38, 39, 40, 41, 42, 43, 44], [0, 1, 2, 3, 4, 5, 6, 9, 11, 12, 13, 14, 15, 16, 17, 18, 19, 20, 21, 22, 23, 24, 25, 26, 27, 28, 29, 30, 31, 32, 33, 34, 35, 36, 37, 38, 39, 40, 41, 42, 43, 44]))], sk := [], mvs := [0], fz := [] }
def f_i_QuotientSet_a (g0 : List Sc) (h1 : Int) (a2 : Int) : List AV := enc [.p .gr, .p (.int .i64), .p (.int .i64)] [.l g0, .i h1, .i a2]
def f_i_QuotientSet_i (g0 : List Sc) (h1 : Int) (a2 : Int) : List AV := enc [] []
def f_i_QuotientSet_en (r : List Sc × Bool) : List AV × List AV := (enc [.p (.al 0), .p .boo] [.b r.2], enc [.own 3] [.l r.1])
def f_i_QuotientSet_M : Calling := addC 129 f_i_CosetsOf_c (addC 121 f_i_IsSet_c (addC 126 f_i_bits_c (noC)))
theorem f_i_QuotientSet_Mt : CallOk Try.prog (f_i_QuotientSet_M) := addC_true f_i_CosetsOf_cc (addC_true f_i_IsSet_cc (addC_true f_i_bits_cc (noC_true)))
theorem f_i_QuotientSet_o : loopsOnce Try.f20 = true := by kernel_rfl
def f_i_QuotientSet_h0 : List Sh := [.u, .u, .u, .p (.int .i64), .u, .u, .u, .u, .u, .own 3, .own 3, .u, .u, .u, .u, .u, .u, .u, .u, .u, .u, .u, .u, .u, .u, .u, .u, .u, .u, .u, .p (.al 10), .p (.int .i64), .p (.int .i64), .u, .u, .u, .u, .u, .u, .u, .u, .u, .u, .u, .u]
def f_i_QuotientSet_fr0 (a2 : Int) (t30 : Int) (s : List Sc × List Sc × Int) : List AV := enc f_i_QuotientSet_h0 [.i a2, .l s.1, .l s.2.1, .i t30, .i s.2.2]
def f_i_QuotientSet_g0_1 : List Sh := [.u, .u, .u, .u, .u, .u, .u, .u, .u, .own 3, .own 3, .u, .u, .u, .u, .u, .u, .u, .u, .u, .u, .u, .u, .u, .u, .u, .u, .u, .u, .u, .u, .u, .u, .u, .u, .u, .u, .u, .u, .u, .u, .u, .u, .u, .u]
def f_i_QuotientSet_x0_1 (a2 : Int) (t30 : Int) (e : List Sc × List Sc) : X × List AV := (.out 0, enc f_i_QuotientSet_g0_1 [.l e.1, .l e.2])
def f_i_QuotientSet_x0_2 (a2 : Int) (t30 : Int) (_e : Unit) : X × List AV := (.ret, [])
theorem f_i_QuotientSet_p0 {R : Type} (a2 : Int) (t30 : Int) (s : List Sc × List Sc × Int) (kN : List Sc × List Sc × Int → Option R) (kA : List Sc × List Sc → Option R) (kB : Unit → Option R) : f_i_QuotientSet_k0 a2 t30 s.1 s.2.1 s.2.2 kN kA = (f_i_QuotientSet_r0 a2 t30 s).bind (Ro.el kN kA kB) := by
  simp only [f_i_QuotientSet_k0, f_i_QuotientSet_r0, brB, boB, someB, noneB, Ro.el]
theorem f_i_QuotientSet_e0 (a2 : Int) (t30 : Int) (s : List Sc × List Sc × Int) : EC E0 f_i_QuotientSet_M H0 f_i_QuotientSet_F (asL (noL)) 0 (bodyOf Try.f20 0) (f_i_QuotientSet_fr0 a2 t30 s) (done (klOf f_i_QuotientSet_F 0)) = f_i_QuotientSet_k0 a2 t30 s.1 s.2.1 s.2.2 (fun s => some (.norm, f_i_QuotientSet_fr0 a2 t30 s)) (fun e => some (f_i_QuotientSet_x0_1 a2 t30 e)) := by kernel_rfl
theorem f_i_QuotientSet_l0 (a2 : Int) (t30 : Int) : ∀ s r, loopL (f_i_QuotientSet_r0 a2 t30) s = some r → LS Try.prog f_i_QuotientSet_F (bodyOf Try.f20 0) (f_i_QuotientSet_fr0 a2 t30 s) (enX (f_i_QuotientSet_x0_1 a2 t30) (f_i_QuotientSet_x0_2 a2 t30) r) :=
  loop_true E0ok f_i_QuotientSet_Mt (noL_true) f_i_QuotientSet_o (fun _ h => by cases h) (fun _ h => by cases h) (fun s => (f_i_QuotientSet_e0 a2 t30 s).trans (f_i_QuotientSet_p0 a2 t30 s _ _ (fun e => some (f_i_QuotientSet_x0_2 a2 t30 e))))
def f_i_QuotientSet_t0 (σ : List AV) : Option (Bool × Bool × (X × List AV) × (X × List AV)) := match dec f_i_QuotientSet_h0 σ with
  | some [.i a2, .l out8, .l l9, .i t30, .i t31] => some (isOne (loopL (f_i_QuotientSet_r0 a2 t30) (out8, l9, t31)), true, f_i_QuotientSet_x0_1 a2 t30 (getOne ([], []) (loopL (f_i_QuotientSet_r0 a2 t30) (out8, l9, t31))), (.ret, []))
  | _ => none
theorem f_i_QuotientSet_tt0 : TTrue Try.prog f_i_QuotientSet_F Try.f20 0 (f_i_QuotientSet_t0) := by
  intro σ p r r' h
  unfold f_i_QuotientSet_t0 at h
  split at h
  · rename_i hd
    rw [← dec_enc hd]
    exact row1 (f_i_QuotientSet_l0 _ _ _) h
  · cases h
theorem f_i_QuotientSet_p {R : Type} (g0 : List Sc) (h1 : Int) (a2 : Int) (kR : List Sc × Bool → Option R) : f_i_QuotientSet_k g0 h1 a2 kR = (f_i_QuotientSet_k g0 h1 a2 some).bind kR := by
  simp only [f_i_QuotientSet_k, brB, boB, bl1B, someB]
theorem f_i_QuotientSet_e (g0 : List Sc) (h1 : Int) (a2 : Int) : runFn E0 f_i_QuotientSet_M H0 f_i_QuotientSet_F (asL (addL 0 (f_i_QuotientSet_t0) (noL))) Try.f20 (f_i_QuotientSet_a g0 h1 a2) (f_i_QuotientSet_i g0 h1 a2) = f_i_QuotientSet_k g0 h1 a2 (fun r => some (f_i_QuotientSet_en r)) := by kernel_rfl
theorem f_i_QuotientSet_ok (g0 : List Sc) (h1 : Int) (a2 : Int) (r : List Sc × Bool) (h : f_i_QuotientSet g0 h1 a2 = some r) : CS Try.prog 20 (f_i_QuotientSet_a g0 h1 a2) (f_i_QuotientSet_i g0 h1 a2) (f_i_QuotientSet_en r).1 (f_i_QuotientSet_en r).2 :=
  fn_true (Gk := fun k => f_i_QuotientSet_k g0 h1 a2 k) (en := f_i_QuotientSet_en) Try.func20 E0ok f_i_QuotientSet_Mt (addL_true (f_i_QuotientSet_tt0) (noL_true)) f_i_QuotientSet_o (f_i_QuotientSet_e g0 h1 a2) (f_i_QuotientSet_p g0 h1 a2) h
def f_i_QuotientSet_c : CRow := fun args inh => match dec2 [.p .gr, .p (.int .i64), .p (.int .i64)] [] args inh with
  | some ([.l g0, .i h1, .i a2], []) => some ((f_i_QuotientSet g0 h1 a2).isSome, (f_i_QuotientSet_en ((f_i_QuotientSet g0 h1 a2).getD ([], false))).1, (f_i_QuotientSet_en ((f_i_QuotientSet g0 h1 a2).getD ([], false))).2)
  | _ => none
theorem f_i_QuotientSet_cc : CTrue Try.prog 20 f_i_QuotientSet_c := by
  intro args inh rs out h
  unfold f_i_QuotientSet_c at h
  split at h
  · rename_i hd
    obtain ⟨h1, h2⟩ := dec2_enc hd
    rw [← h1, ← h2]
    exact rowC (f_i_QuotientSet_ok _ _ _) h
  · cases h

def f_s_CosetsOf_F : Fi := { nv := 0, nc := 0, m := 0, vt := [], kl := [(0, ([0, 3, 4, 5, 9, 10, 11, 12, 13, 14, 15, 16, 17, 18, 19, 20, 21, 22, 23, 24, 25, 26, 27, 28, 29, 30, 31, 32, 33, 34, 35, 36, 37, 38], [0, 1, 2, 3, 4, 5, 7, 8, 9, 10, 11, 12, 13, 14, 15, 16, 17, 18, 19, 20, 21, 22, 23, 24, 25, 26, 27, 28, 29, 30, 31, 32, 33, 34, 35, 36, 37, 38], [0, 1, 2, 3, 6, 7, 8, 9, 10, 11, 12, 13, 14, 15, 16, 17, 18, 19, 20, 21, 22, 23, 24, 25, 26, 27, 28, 29, 30, 31, 32, 33, 34, 35, 36, 37, 38]))], sk := [], mvs := [], fz := [] }
def f_s_CosetsOf_a (g0 : List Sc) (h1 : Int) : List AV := enc [.p .gr, .p (.int .i64)] [.l g0, .i h1]
def f_s_CosetsOf_i (g0 : List Sc) (h1 : Int) : List AV := enc [] []
def f_s_CosetsOf_en (r : List Sc × Bool) : List AV × List AV := (enc [.p (.al 0), .p .boo] [.b r.2], enc [.own 3] [.l r.1])
def f_s_CosetsOf_M : Calling := addC 134 f_s_IsSubgroup_c (addC 139 f_s_l2Order_c (addC 141 f_s_l3Shift_c (noC)))
theorem f_s_CosetsOf_Mt : CallOk Try.prog (f_s_CosetsOf_M) := addC_true f_s_IsSubgroup_cc (addC_true f_s_l2Order_cc (addC_true f_s_l3Shift_cc (noC_true)))
theorem f_s_CosetsOf_o : loopsOnce Try.f133 = true := by kernel_rfl
def f_s_CosetsOf_h0 : List Sh := [.u, .p (.int .i64), .p .el, .u, .u, .u, .own 3, .p (.int .i64), .p (.int .i64), .u, .u, .u, .u, .u, .u, .u, .u, .u, .u, .u, .u, .u, .u, .u, .u, .u, .u, .u, .u, .u, .u, .u, .u, .u, .u, .u, .u, .u, .u]
def f_s_CosetsOf_fr0 (h1 : Int) (g2 : List Sc) (s : List Sc × Int × Int) : List AV := enc f_s_CosetsOf_h0 [.i h1, .l g2, .l s.1, .i s.2.1, .i s.2.2]
def f_s_CosetsOf_g0_1 : List Sh := [.u, .u, .u, .u, .u, .u, .own 3, .u, .u, .u, .u, .u, .u, .u, .u, .u, .u, .u, .u, .u, .u, .u, .u, .u, .u, .u, .u, .u, .u, .u, .u, .u, .u, .u, .u, .u, .u, .u, .u]
def f_s_CosetsOf_x0_1 (h1 : Int) (g2 : List Sc) (e : List Sc) : X × List AV := (.out 0, enc f_s_CosetsOf_g0_1 [.l e])
def f_s_CosetsOf_x0_2 (h1 : Int) (g2 : List Sc) (_e : Unit) : X × List AV := (.ret, [])
theorem f_s_CosetsOf_p0 {R : Type} (h1 : Int) (g2 : List Sc) (s : List Sc × Int × Int) (kN : List Sc × Int × Int → Option R) (kA : List Sc → Option R) (kB : Unit → Option R) : f_s_CosetsOf_k0 h1 g2 s.1 s.2.1 s.2.2 kN kA = (f_s_CosetsOf_r0 h1 g2 s).bind (Ro.el kN kA kB) := by
  simp only [f_s_CosetsOf_k0, f_s_CosetsOf_r0, brB, boB, someB, noneB, Ro.el]
theorem f_s_CosetsOf_e0 (h1 : Int) (g2 : List Sc) (s : List Sc × Int × Int) : EC E0 f_s_CosetsOf_M H0 f_s_CosetsOf_F (asL (noL)) 0 (bodyOf Try.f133 0) (f_s_CosetsOf_fr0 h1 g2 s) (done (klOf f_s_CosetsOf_F 0)) = f_s_CosetsOf_k0 h1 g2 s.1 s.2.1 s.2.2 (fun s => some (.norm, f_s_CosetsOf_fr0 h1 g2 s)) (fun e => some (f_s_CosetsOf_x0_1 h1 g2 e)) := by kernel_rfl
theorem f_s_CosetsOf_l0 (h1 : Int) (g2 : List Sc) : ∀ s r, loopL (f_s_CosetsOf_r0 h1 g2) s = some r → LS Try.prog f_s_CosetsOf_F (bodyOf Try.f133 0) (f_s_CosetsOf_fr0 h1 g2 s) (enX (f_s_CosetsOf_x0_1 h1 g2) (f_s_CosetsOf_x0_2 h1 g2) r) :=
  loop_true E0ok f_s_CosetsOf_Mt (noL_true) f_s_CosetsOf_o (fun _ h => by cases h) (fun _ h => by cases h) (fun s => (f_s_CosetsOf_e0 h1 g2 s).trans (f_s_CosetsOf_p0 h1 g2 s _ _ (fun e => some (f_s_CosetsOf_x0_2 h1 g2 e))))
def f_s_CosetsOf_t0 (σ : List AV) : Option (Bool × Bool × (X × List AV) × (X × List AV)) := match dec f_s_CosetsOf_h0 σ with
  | some [.i h1, .l g2, .l out6, .i seen7, .i x8] => some (isOne (loopL (f_s_CosetsOf_r0 h1 g2) (out6, seen7, x8)), true, f_s_CosetsOf_x0_1 h1 g2 (getOne [] (loopL (f_s_CosetsOf_r0 h1 g2) (out6, seen7, x8))), (.ret, []))
  | _ => none
theorem f_s_CosetsOf_tt0 : TTrue Try.prog f_s_CosetsOf_F Try.f133 0 (f_s_CosetsOf_t0) := by
  intro σ p r r' h
  unfold f_s_CosetsOf_t0 at h
  split at h
  · rename_i hd
    rw [← dec_enc hd]
    exact row1 (f_s_CosetsOf_l0 _ _ _) h
  · cases h
theorem f_s_CosetsOf_p {R : Type} (g0 : List Sc) (h1 : Int) (kR : List Sc × Bool → Option R) : f_s_CosetsOf_k g0 h1 kR = (f_s_CosetsOf_k g0 h1 some).bind kR := by
  simp only [f_s_CosetsOf_k, brB, boB, bl1B, someB]
theorem f_s_CosetsOf_e (g0 : List Sc) (h1 : Int) : runFn E0 f_s_CosetsOf_M H0 f_s_CosetsOf_F (asL (addL 0 (f_s_CosetsOf_t0) (noL))) Try.f133 (f_s_CosetsOf_a g0 h1) (f_s_CosetsOf_i g0 h1) = f_s_CosetsOf_k g0 h1 (fun r => some (f_s_CosetsOf_en r)) := by kernel_rfl
theorem f_s_CosetsOf_ok (g0 : List Sc) (h1 : Int) (r : List Sc × Bool) (h : f_s_CosetsOf g0 h1 = some r) : CS Try.prog 133 (f_s_CosetsOf_a g0 h1) (f_s_CosetsOf_i g0 h1) (f_s_CosetsOf_en r).1 (f_s_CosetsOf_en r).2 :=
  fn_true (Gk := fun k => f_s_CosetsOf_k g0 h1 k) (en := f_s_CosetsOf_en) Try.func133 E0ok f_s_CosetsOf_Mt (addL_true (f_s_CosetsOf_tt0) (noL_true)) f_s_CosetsOf_o (f_s_CosetsOf_e g0 h1) (f_s_CosetsOf_p g0 h1) h
def f_s_CosetsOf_c : CRow := fun args inh => match dec2 [.p .gr, .p (.int .i64)] [] args inh with
  | some ([.l g0, .i h1], []) => some ((f_s_CosetsOf g0 h1).isSome, (f_s_CosetsOf_en ((f_s_CosetsOf g0 h1).getD ([], false))).1, (f_s_CosetsOf_en ((f_s_CosetsOf g0 h1).getD ([], false))).2)
  | _ => none
theorem f_s_CosetsOf_cc : CTrue Try.prog 133 f_s_CosetsOf_c := by
  intro args inh rs out h
  unfold f_s_CosetsOf_c at h
  split at h
  · rename_i hd
    obtain ⟨h1, h2⟩ := dec2_enc hd
    rw [← h1, ← h2]
    exact rowC (f_s_CosetsOf_ok _ _) h
  · cases h

def f_s_QuotientSet_F : Fi := { nv := 1, nc := 0, m := 0, vt := [(15, 0)], kl := [(0, ([0, 1, 2, 4, 5, 6, 7, 8, 10, 13, 14, 15, 16, 17, 18, 19, 20, 21, 22, 23, 24, 25, 26, 27, 28, 29, 30, 31, 32, 33, 34, 35, 36, 37, 38, 39, 40, 41, 42, 43, 44, 45], [0, 1, 2, 3, 4, 5, 6, 7, 8, 9, 10, 12, 13, 14, 15, 16, 17, 18, 19, 20, 21, 22, 23, 24, 25, 26, 27, 28, 29, 30, 31, 32, 33, 34, 35, 36, 37, 38, 39, 40, 41, 42, 43, 44, 45], [0, 1, 2, 3, 4, 5, 6, 9, 10, 11, 12, 13, 14, 15, 16, 17, 18, 19, 20, 21, 22, 23, 24, 25, 26, 27, 28, 29, 30, 31, 32, 33, 34, 35, 36, 37, 38, 39, 40, 41, 42, 43, 44, 45]))], sk := [], mvs := [0], fz := [] }
def f_s_QuotientSet_a (g0 : List Sc) (h1 : Int) (a2 : Int) : List AV := enc [.p .gr, .p (.int .i64), .p (.int .i64)] [.l g0, .i h1, .i a2]
def f_s_QuotientSet_i (g0 : List Sc) (h1 : Int) (a2 : Int) : List AV := enc [] []
def f_s_QuotientSet_en (r : List Sc × Bool) : List AV × List AV := (enc [.p (.al 0), .p .boo] [.b r.2], enc [.own 3] [.l r.1])
def f_s_QuotientSet_M : Calling := addC 133 f_s_CosetsOf_c (addC 124 f_s_IsSet_c (addC 131 f_s_l3Bits_c (noC)))
theorem f_s_QuotientSet_Mt : CallOk Try.prog (f_s_QuotientSet_M) := addC_true f_s_CosetsOf_cc (addC_true f_s_IsSet_cc (addC_true f_s_l3Bits_cc (noC_true)))
theorem f_s_QuotientSet_o : loopsOnce Try.f21 = true := by kernel_rfl
def f_s_QuotientSet_h0 : List Sh := [.u, .u, .u, .p (.int .i64), .u, .u, .u, .u, .u, .own 3, .u, .own 3, .p (.int .i64), .u, .u, .u, .u, .u, .u, .u, .u, .u, .u, .u, .u, .u, .u, .u, .u, .u, .u, .u, .u, .u, .u, .u, .u, .u, .u, .u, .u, .u, .u, .u, .u, .u]
def f_s_QuotientSet_fr0 (a2 : Int) (s : List Sc × List Sc × Int) : List AV := enc f_s_QuotientSet_h0 [.i a2, .l s.1, .l s.2.1, .i s.2.2]
def f_s_QuotientSet_g0_1 : List Sh := [.u, .u, .u, .u, .u, .u, .u, .u, .u, .u, .u, .own 3, .u, .u, .u, .u, .u, .u, .u, .u, .u, .u, .u, .u, .u, .u, .u, .u, .u, .u, .u, .u, .u, .u, .u, .u, .u, .u, .u, .u, .u, .u, .u, .u, .u, .u]
def f_s_QuotientSet_x0_1 (a2 : Int) (e : List Sc) : X × List AV := (.out 0, enc f_s_QuotientSet_g0_1 [.l e])
def f_s_QuotientSet_x0_2 (a2 : Int) (_e : Unit) : X × List AV := (.ret, [])
theorem f_s_QuotientSet_p0 {R : Type} (a2 : Int) (s : List Sc × List Sc × Int) (kN : List Sc × List Sc × Int → Option R) (kA : List Sc → Option R) (kB : Unit → Option R) : f_s_QuotientSet_k0 a2 s.1 s.2.1 s.2.2 kN kA = (f_s_QuotientSet_r0 a2 s).bind (Ro.el kN kA kB) := by
  simp only [f_s_QuotientSet_k0, f_s_QuotientSet_r0, brB, boB, someB, noneB, Ro.el]
theorem f_s_QuotientSet_e0 (a2 : Int) (s : List Sc × List Sc × Int) : EC E0 f_s_QuotientSet_M H0 f_s_QuotientSet_F (asL (noL)) 0 (bodyOf Try.f21 0) (f_s_QuotientSet_fr0 a2 s) (done (klOf f_s_QuotientSet_F 0)) = f_s_QuotientSet_k0 a2 s.1 s.2.1 s.2.2 (fun s => some (.norm, f_s_QuotientSet_fr0 a2 s)) (fun e => some (f_s_QuotientSet_x0_1 a2 e)) := by kernel_rfl
theorem f_s_QuotientSet_l0 (a2 : Int) : ∀ s r, loopL (f_s_QuotientSet_r0 a2) s = some r → LS Try.prog f_s_QuotientSet_F (bodyOf Try.f21 0) (f_s_QuotientSet_fr0 a2 s) (enX (f_s_QuotientSet_x0_1 a2) (f_s_QuotientSet_x0_2 a2) r) :=
  loop_true E0ok f_s_QuotientSet_Mt (noL_true) f_s_QuotientSet_o (fun _ h => by cases h) (fun _ h => by cases h) (fun s => (f_s_QuotientSet_e0 a2 s).trans (f_s_QuotientSet_p0 a2 s _ _ (fun e => some (f_s_QuotientSet_x0_2 a2 e))))
def f_s_QuotientSet_t0 (σ : List AV) : Option (Bool × Bool × (X × List AV) × (X × List AV)) := match dec f_s_QuotientSet_h0 σ with
  | some [.i a2, .l l8, .l out10, .i i11] => some (isOne (loopL (f_s_QuotientSet_r0 a2) (l8, out10, i11)), true, f_s_QuotientSet_x0_1 a2 (getOne [] (loopL (f_s_QuotientSet_r0 a2) (l8, out10, i11))), (.ret, []))
  | _ => none
theorem f_s_QuotientSet_tt0 : TTrue Try.prog f_s_QuotientSet_F Try.f21 0 (f_s_QuotientSet_t0) := by
  intro σ p r r' h
  unfold f_s_QuotientSet_t0 at h
  split at h
  · rename_i hd
    rw [← dec_enc hd]
    exact row1 (f_s_QuotientSet_l0 _ _) h
  · cases h
theorem f_s_QuotientSet_p {R : Type} (g0 : List Sc) (h1 : Int) (a2 : Int) (kR : List Sc × Bool → Option R) : f_s_QuotientSet_k g0 h1 a2 kR = (f_s_QuotientSet_k g0 h1 a2 some).bind kR := by
  simp only [f_s_QuotientSet_k, brB, boB, bl1B, someB]
theorem f_s_QuotientSet_e (g0 : List Sc) (h1 : Int) (a2 : Int) : runFn E0 f_s_QuotientSet_M H0 f_s_QuotientSet_F (asL (addL 0 (f_s_QuotientSet_t0) (noL))) Try.f21 (f_s_QuotientSet_a g0 h1 a2) (f_s_QuotientSet_i g0 h1 a2) = f_s_QuotientSet_k g0 h1 a2 (fun r => some (f_s_QuotientSet_en r)) := by kernel_rfl
theorem f_s_QuotientSet_ok (g0 : List Sc) (h1 : Int) (a2 : Int) (r : List Sc × Bool) (h : f_s_QuotientSet g0 h1 a2 = some r) : CS Try.prog 21 (f_s_QuotientSet_a g0 h1 a2) (f_s_QuotientSet_i g0 h1 a2) (f_s_QuotientSet_en r).1 (f_s_QuotientSet_en r).2 :=
  fn_true (Gk := fun k => f_s_QuotientSet_k g0 h1 a2 k) (en := f_s_QuotientSet_en) Try.func21 E0ok f_s_QuotientSet_Mt (addL_true (f_s_QuotientSet_tt0) (noL_true)) f_s_QuotientSet_o (f_s_QuotientSet_e g0 h1 a2) (f_s_QuotientSet_p g0 h1 a2) h
def f_s_QuotientSet_c : CRow := fun args inh => match dec2 [.p .gr, .p (.int .i64), .p (.int .i64)] [] args inh with
  | some ([.l g0, .i h1, .i a2], []) => some ((f_s_QuotientSet g0 h1 a2).isSome, (f_s_QuotientSet_en ((f_s_QuotientSet g0 h1 a2).getD ([], false))).1, (f_s_QuotientSet_en ((f_s_QuotientSet g0 h1 a2).getD ([], false))).2)
  | _ => none
theorem f_s_QuotientSet_cc : CTrue Try.prog 21 f_s_QuotientSet_c := by
  intro args inh rs out h
  unfold f_s_QuotientSet_c at h
  split at h
  · rename_i hd
    obtain ⟨h1, h2⟩ := dec2_enc hd
    rw [← h1, ← h2]
    exact rowC (f_s_QuotientSet_ok _ _ _) h
  · cases h

def f_s_FillSet_F : Fi := { nv := 0, nc := 0, m := 0, vt := [], kl := [], sk := [], mvs := [], fz := [] }
def f_s_FillSet_a (g0 : List Sc) (h1 : Int) (a2 : Int) : List AV := enc [.p .gr, .p (.int .i64), .p (.int .i64)] [.l g0, .i h1, .i a2]
def f_s_FillSet_i (g0 : List Sc) (h1 : Int) (a2 : Int) : List AV := enc [] []
def f_s_FillSet_en (r : Int) : List AV × List AV := (enc [.p (.int .i64)] [.i r], enc [] [])
def f_s_FillSet_M : Calling := addC 134 f_s_IsSubgroup_c (addC 124 f_s_IsSet_c (addC 135 f_s_l4Sum_c (noC)))
theorem f_s_FillSet_Mt : CallOk Try.prog (f_s_FillSet_M) := addC_true f_s_IsSubgroup_cc (addC_true f_s_IsSet_cc (addC_true f_s_l4Sum_cc (noC_true)))
theorem f_s_FillSet_o : loopsOnce Try.f22 = true := by kernel_rfl
theorem f_s_FillSet_p {R : Type} (g0 : List Sc) (h1 : Int) (a2 : Int) (kR : Int → Option R) : f_s_FillSet_k g0 h1 a2 kR = (f_s_FillSet_k g0 h1 a2 some).bind kR := by
  simp only [f_s_FillSet_k, brB, boB, someB]
theorem f_s_FillSet_e (g0 : List Sc) (h1 : Int) (a2 : Int) : runFn E0 f_s_FillSet_M H0 f_s_FillSet_F (asL (noL)) Try.f22 (f_s_FillSet_a g0 h1 a2) (f_s_FillSet_i g0 h1 a2) = f_s_FillSet_k g0 h1 a2 (fun r => some (f_s_FillSet_en r)) := by kernel_rfl
theorem f_s_FillSet_ok (g0 : List Sc) (h1 : Int) (a2 : Int) (r : Int) (h : f_s_FillSet g0 h1 a2 = some r) : CS Try.prog 22 (f_s_FillSet_a g0 h1 a2) (f_s_FillSet_i g0 h1 a2) (f_s_FillSet_en r).1 (f_s_FillSet_en r).2 :=
  fn_true (Gk := fun k => f_s_FillSet_k g0 h1 a2 k) (en := f_s_FillSet_en) Try.func22 E0ok f_s_FillSet_Mt (noL_true) f_s_FillSet_o (f_s_FillSet_e g0 h1 a2) (f_s_FillSet_p g0 h1 a2) h
def f_s_FillSet_c : CRow := fun args inh => match dec2 [.p .gr, .p (.int .i64), .p (.int .i64)] [] args inh with
  | some ([.l g0, .i h1, .i a2], []) => some ((f_s_FillSet g0 h1 a2).isSome, (f_s_FillSet_en ((f_s_FillSet g0 h1 a2).getD 0)).1, (f_s_FillSet_en ((f_s_FillSet g0 h1 a2).getD 0)).2)
  | _ => none
theorem f_s_FillSet_cc : CTrue Try.prog 22 f_s_FillSet_c := by
  intro args inh rs out h
  unfold f_s_FillSet_c at h
  split at h
  · rename_i hd
    obtain ⟨h1, h2⟩ := dec2_enc hd
    rw [← h1, ← h2]
    exact rowC (f_s_FillSet_ok _ _ _) h
  · cases h

def f_s_CorePart_F : Fi := { nv := 1, nc := 0, m := 0, vt := [(14, 0)], kl := [(0, ([0, 1, 2, 4, 5, 6, 7, 9, 12, 13, 14, 15, 16, 17, 18, 19, 20, 21, 22, 23, 24, 25, 26, 27, 28, 29, 30, 31, 32, 33, 34, 35, 36, 37, 38, 39, 40, 41, 42, 43, 44, 45, 46, 47, 48, 49], [0, 1, 2, 3, 4, 5, 6, 7, 8, 9, 11, 12, 13, 14, 15, 16, 17, 18, 19, 20, 21, 22, 23, 24, 25, 26, 27, 28, 29, 30, 31, 32, 33, 34, 35, 36, 37, 38, 39, 40, 41, 42, 43, 44, 45, 46, 47, 48, 49], [0, 1, 2, 3, 4, 5, 6, 8, 9, 10, 11, 12, 13, 14, 15, 16, 17, 18, 19, 20, 21, 22, 23, 24, 25, 26, 27, 28, 29, 30, 31, 32, 33, 34, 35, 36, 37, 38, 39, 40, 41, 42, 43, 44, 45, 46, 47, 48, 49]))], sk := [], mvs := [0], fz := [] }
def f_s_CorePart_a (g0 : List Sc) (h1 : Int) (a2 : Int) : List AV := enc [.p .gr, .p (.int .i64), .p (.int .i64)] [.l g0, .i h1, .i a2]
def f_s_CorePart_i (g0 : List Sc) (h1 : Int) (a2 : Int) : List AV := enc [] []
def f_s_CorePart_en (r : Int) : List AV × List AV := (enc [.p (.int .i64)] [.i r], enc [] [])
def f_s_CorePart_M : Calling := addC 133 f_s_CosetsOf_c (addC 124 f_s_IsSet_c (noC))
theorem f_s_CorePart_Mt : CallOk Try.prog (f_s_CorePart_M) := addC_true f_s_CosetsOf_cc (addC_true f_s_IsSet_cc (noC_true))
theorem f_s_CorePart_o : loopsOnce Try.f23 = true := by kernel_rfl
def f_s_CorePart_h0 : List Sh := [.u, .u, .u, .p (.int .i64), .u, .u, .u, .u, .own 3, .u, .p (.int .i64), .p (.int .i64), .u, .u, .u, .u, .u, .u, .u, .u, .u, .u, .u, .u, .u, .u, .u, .u, .u, .u, .u, .u, .u, .u, .u, .u, .u, .u, .u, .u, .u, .u, .u, .u, .u, .u, .u, .u, .u, .u]
def f_s_CorePart_fr0 (a2 : Int) (s : List Sc × Int × Int) : List AV := enc f_s_CorePart_h0 [.i a2, .l s.1, .i s.2.1, .i s.2.2]
def f_s_CorePart_g0_1 : List Sh := [.u, .u, .u, .u, .u, .u, .u, .u, .u, .u, .p (.int .i64), .u, .u, .u, .u, .u, .u, .u, .u, .u, .u, .u, .u, .u, .u, .u, .u, .u, .u, .u, .u, .u, .u, .u, .u, .u, .u, .u, .u, .u, .u, .u, .u, .u, .u, .u, .u, .u, .u, .u]
def f_s_CorePart_x0_1 (a2 : Int) (e : Int) : X × List AV := (.out 0, enc f_s_CorePart_g0_1 [.i e])
def f_s_CorePart_x0_2 (a2 : Int) (_e : Unit) : X × List AV := (.ret, [])
theorem f_s_CorePart_p0 {R : Type} (a2 : Int) (s : List Sc × Int × Int) (kN : List Sc × Int × Int → Option R) (kA : Int → Option R) (kB : Unit → Option R) : f_s_CorePart_k0 a2 s.1 s.2.1 s.2.2 kN kA = (f_s_CorePart_r0 a2 s).bind (Ro.el kN kA kB) := by
  simp only [f_s_CorePart_k0, f_s_CorePart_r0, brB, someB, noneB, Ro.el]
theorem f_s_CorePart_e0 (a2 : Int) (s : List Sc × Int × Int) : EC E0 f_s_CorePart_M H0 f_s_CorePart_F (asL (noL)) 0 (bodyOf Try.f23 0) (f_s_CorePart_fr0 a2 s) (done (klOf f_s_CorePart_F 0)) = f_s_CorePart_k0 a2 s.1 s.2.1 s.2.2 (fun s => some (.norm, f_s_CorePart_fr0 a2 s)) (fun e => some (f_s_CorePart_x0_1 a2 e)) := by kernel_rfl
theorem f_s_CorePart_l0 (a2 : Int) : ∀ s r, loopL (f_s_CorePart_r0 a2) s = some r → LS Try.prog f_s_CorePart_F (bodyOf Try.f23 0) (f_s_CorePart_fr0 a2 s) (enX (f_s_CorePart_x0_1 a2) (f_s_CorePart_x0_2 a2) r) :=
  loop_true E0ok f_s_CorePart_Mt (noL_true) f_s_CorePart_o (fun _ h => by cases h) (fun _ h => by cases h) (fun s => (f_s_CorePart_e0 a2 s).trans (f_s_CorePart_p0 a2 s _ _ (fun e => some (f_s_CorePart_x0_2 a2 e))))
def f_s_CorePart_t0 (σ : List AV) : Option (Bool × Bool × (X × List AV) × (X × List AV)) := match dec f_s_CorePart_h0 σ with
  | some [.i a2, .l l7, .i out9, .i i10] => some (isOne (loopL (f_s_CorePart_r0 a2) (l7, out9, i10)), true, f_s_CorePart_x0_1 a2 (getOne 0 (loopL (f_s_CorePart_r0 a2) (l7, out9, i10))), (.ret, []))
  | _ => none
theorem f_s_CorePart_tt0 : TTrue Try.prog f_s_CorePart_F Try.f23 0 (f_s_CorePart_t0) := by
  intro σ p r r' h
  unfold f_s_CorePart_t0 at h
  split at h
  · rename_i hd
    rw [← dec_enc hd]
    exact row1 (f_s_CorePart_l0 _ _) h
  · cases h
theorem f_s_CorePart_p {R : Type} (g0 : List Sc) (h1 : Int) (a2 : Int) (kR : Int → Option R) : f_s_CorePart_k g0 h1 a2 kR = (f_s_CorePart_k g0 h1 a2 some).bind kR := by
  simp only [f_s_CorePart_k, brB, boB, bl1B, someB]
theorem f_s_CorePart_e (g0 : List Sc) (h1 : Int) (a2 : Int) : runFn E0 f_s_CorePart_M H0 f_s_CorePart_F (asL (addL 0 (f_s_CorePart_t0) (noL))) Try.f23 (f_s_CorePart_a g0 h1 a2) (f_s_CorePart_i g0 h1 a2) = f_s_CorePart_k g0 h1 a2 (fun r => some (f_s_CorePart_en r)) := by kernel_rfl
theorem f_s_CorePart_ok (g0 : List Sc) (h1 : Int) (a2 : Int) (r : Int) (h : f_s_CorePart g0 h1 a2 = some r) : CS Try.prog 23 (f_s_CorePart_a g0 h1 a2) (f_s_CorePart_i g0 h1 a2) (f_s_CorePart_en r).1 (f_s_CorePart_en r).2 :=
  fn_true (Gk := fun k => f_s_CorePart_k g0 h1 a2 k) (en := f_s_CorePart_en) Try.func23 E0ok f_s_CorePart_Mt (addL_true (f_s_CorePart_tt0) (noL_true)) f_s_CorePart_o (f_s_CorePart_e g0 h1 a2) (f_s_CorePart_p g0 h1 a2) h
def f_s_CorePart_c : CRow := fun args inh => match dec2 [.p .gr, .p (.int .i64), .p (.int .i64)] [] args inh with
  | some ([.l g0, .i h1, .i a2], []) => some ((f_s_CorePart g0 h1 a2).isSome, (f_s_CorePart_en ((f_s_CorePart g0 h1 a2).getD 0)).1, (f_s_CorePart_en ((f_s_CorePart g0 h1 a2).getD 0)).2)
  | _ => none
theorem f_s_CorePart_cc : CTrue Try.prog 23 f_s_CorePart_c := by
  intro args inh rs out h
  unfold f_s_CorePart_c at h
  split at h
  · rename_i hd
    obtain ⟨h1, h2⟩ := dec2_enc hd
    rw [← h1, ← h2]
    exact rowC (f_s_CorePart_ok _ _ _) h
  · cases h

def f_l_sameInts_F : Fi := { nv := 0, nc := 0, m := 0, vt := [], kl := [(0, ([2, 3, 4, 6, 7, 8, 9, 10, 11, 12, 13, 14, 15, 16, 17, 18, 19, 20, 21, 22, 23, 24, 25], [0, 1, 2, 3, 4, 5, 6, 7, 8, 9, 10, 11, 12, 13, 14, 15, 16, 17, 18, 19, 20, 21, 22, 23, 24, 25], [0, 1, 2, 3, 5, 6, 7, 8, 9, 10, 11, 12, 13, 14, 15, 16, 17, 18, 19, 20, 21, 22, 23, 24, 25]))], sk := [], mvs := [], fz := [] }
def f_l_sameInts_a (a0 : List Sc) (b1 : List Sc) : List AV := enc [.p .sl, .p .sl] [.l a0, .l b1]
def f_l_sameInts_i (a0 : List Sc) (b1 : List Sc) : List AV := enc [] []
def f_l_sameInts_en (r : Bool) : List AV × List AV := (enc [.p .boo] [.b r], enc [] [])
def f_l_sameInts_M : Calling := noC
theorem f_l_sameInts_Mt : CallOk Try.prog (f_l_sameInts_M) := noC_true
theorem f_l_sameInts_o : loopsOnce Try.f24 = true := by kernel_rfl
def f_l_sameInts_h0 : List Sh := [.p .sl, .p .sl, .u, .u, .u, .p (.int .i64), .u, .u, .u, .u, .u, .u, .u, .u, .u, .u, .u, .u, .u, .u, .u, .u, .u, .u, .u, .u]
def f_l_sameInts_fr0 (a0 : List Sc) (b1 : List Sc) (s : Int) : List AV := enc f_l_sameInts_h0 [.l a0, .l b1, .i s]
def f_l_sameInts_g0_1 : List Sh := [.u, .u, .u, .u, .u, .u, .u, .u, .u, .u, .u, .u, .u, .u, .u, .u, .u, .u, .u, .u, .u, .u, .u, .u, .u, .u]
def f_l_sameInts_x0_1 (a0 : List Sc) (b1 : List Sc) (e : Unit) : X × List AV := (.out 0, enc f_l_sameInts_g0_1 [])
def f_l_sameInts_g0_2 : List Sh := [.u, .u, .u, .u, .p .boo, .u, .u, .u, .u, .u, .u, .u, .u, .u, .u, .u, .u, .u, .u, .u, .u, .u, .u, .u, .u, .u]
def f_l_sameInts_x0_2 (a0 : List Sc) (b1 : List Sc) (e : Unit) : X × List AV := (.ret, enc f_l_sameInts_g0_2 [.b false])
theorem f_l_sameInts_p0 {R : Type} (a0 : List Sc) (b1 : List Sc) (s : Int) (kN : Int → Option R) (kA : Unit → Option R) (kB : Unit → Option R) : f_l_sameInts_k0 a0 b1 s kN kA kB = (f_l_sameInts_r0 a0 b1 s).bind (Ro.el kN kA kB) := by
  simp only [f_l_sameInts_k0, f_l_sameInts_r0, brB, someB, noneB, Ro.el]
theorem f_l_sameInts_e0 (a0 : List Sc) (b1 : List Sc) (s : Int) : EC E0 f_l_sameInts_M H0 f_l_sameInts_F (asL (noL)) 0 (bodyOf Try.f24 0) (f_l_sameInts_fr0 a0 b1 s) (done (klOf f_l_sameInts_F 0)) = f_l_sameInts_k0 a0 b1 s (fun s => some (.norm, f_l_sameInts_fr0 a0 b1 s)) (fun e => some (f_l_sameInts_x0_1 a0 b1 e)) (fun e => some (f_l_sameInts_x0_2 a0 b1 e)) := by kernel_rfl
theorem f_l_sameInts_l0 (a0 : List Sc) (b1 : List Sc) : ∀ s r, loopL (f_l_sameInts_r0 a0 b1) s = some r → LS Try.prog f_l_sameInts_F (bodyOf Try.f24 0) (f_l_sameInts_fr0 a0 b1 s) (enX (f_l_sameInts_x0_1 a0 b1) (f_l_sameInts_x0_2 a0 b1) r) :=
  loop_true E0ok f_l_sameInts_Mt (noL_true) f_l_sameInts_o (fun _ h => by cases h) (fun _ h => by cases h) (fun s => (f_l_sameInts_e0 a0 b1 s).trans (f_l_sameInts_p0 a0 b1 s _ _ (fun e => some (f_l_sameInts_x0_2 a0 b1 e))))
def f_l_sameInts_t0 (σ : List AV) : Option (Bool × Bool × (X × List AV) × (X × List AV)) := match dec f_l_sameInts_h0 σ with
  | some [.l a0, .l b1, .i i5] => some ((loopL (f_l_sameInts_r0 a0 b1) i5).isSome, isOne (loopL (f_l_sameInts_r0 a0 b1) i5), f_l_sameInts_x0_1 a0 b1 (getOne () (loopL (f_l_sameInts_r0 a0 b1) i5)), f_l_sameInts_x0_2 a0 b1 (getTwo () (loopL (f_l_sameInts_r0 a0 b1) i5)))
  | _ => none
theorem f_l_sameInts_tt0 : TTrue Try.prog f_l_sameInts_F Try.f24 0 (f_l_sameInts_t0) := by
  intro σ p r r' h
  unfold f_l_sameInts_t0 at h
  split at h
  · rename_i hd
    rw [← dec_enc hd]
    exact row2 (f_l_sameInts_l0 _ _ _) h
  · cases h
theorem f_l_sameInts_p {R : Type} (a0 : List Sc) (b1 : List Sc) (kR : Bool → Option R) : f_l_sameInts_k a0 b1 kR = (f_l_sameInts_k a0 b1 some).bind kR := by
  simp only [f_l_sameInts_k, brB, blB, someB]
theorem f_l_sameInts_e (a0 : List Sc) (b1 : List Sc) : runFn E0 f_l_sameInts_M H0 f_l_sameInts_F (asL (addL 0 (f_l_sameInts_t0) (noL))) Try.f24 (f_l_sameInts_a a0 b1) (f_l_sameInts_i a0 b1) = f_l_sameInts_k a0 b1 (fun r => some (f_l_sameInts_en r)) := by kernel_rfl
theorem f_l_sameInts_ok (a0 : List Sc) (b1 : List Sc) (r : Bool) (h : f_l_sameInts a0 b1 = some r) : CS Try.prog 24 (f_l_sameInts_a a0 b1) (f_l_sameInts_i a0 b1) (f_l_sameInts_en r).1 (f_l_sameInts_en r).2 :=
  fn_true (Gk := fun k => f_l_sameInts_k a0 b1 k) (en := f_l_sameInts_en) Try.func24 E0ok f_l_sameInts_Mt (addL_true (f_l_sameInts_tt0) (noL_true)) f_l_sameInts_o (f_l_sameInts_e a0 b1) (f_l_sameInts_p a0 b1) h
def f_l_sameInts_c : CRow := fun args inh => match dec2 [.p .sl, .p .sl] [] args inh with
  | some ([.l a0, .l b1], []) => some ((f_l_sameInts a0 b1).isSome, (f_l_sameInts_en ((f_l_sameInts a0 b1).getD false)).1, (f_l_sameInts_en ((f_l_sameInts a0 b1).getD false)).2)
  | _ => none
theorem f_l_sameInts_cc : CTrue Try.prog 24 f_l_sameInts_c := by
  intro args inh rs out h
  unfold f_l_sameInts_c at h
  split at h
  · rename_i hd
    obtain ⟨h1, h2⟩ := dec2_enc hd
    rw [← h1, ← h2]
    exact rowC (f_l_sameInts_ok _ _) h
  · cases h

def f_l_total_F : Fi := { nv := 0, nc := 0, m := 0, vt := [], kl := [(0, ([1, 2, 5, 6, 7, 8, 9, 10, 11, 12, 13, 14, 15, 16, 17], [0, 1, 2, 4, 5, 6, 7, 8, 9, 10, 11, 12, 13, 14, 15, 16, 17], [0, 1, 3, 4, 5, 6, 7, 8, 9, 10, 11, 12, 13, 14, 15, 16, 17]))], sk := [], mvs := [], fz := [] }
def f_l_total_a (l0 : List Sc) : List AV := enc [.p .sl] [.l l0]
def f_l_total_i (l0 : List Sc) : List AV := enc [] []
def f_l_total_en (r : Int) : List AV × List AV := (enc [.p (.int .i64)] [.i r], enc [] [])
def f_l_total_M : Calling := noC
theorem f_l_total_Mt : CallOk Try.prog (f_l_total_M) := noC_true
theorem f_l_total_o : loopsOnce Try.f25 = true := by kernel_rfl
def f_l_total_h0 : List Sh := [.p .sl, .u, .u, .p (.int .i64), .p (.int .i64), .u, .u, .u, .u, .u, .u, .u, .u, .u, .u, .u, .u, .u]
def f_l_total_fr0 (l0 : List Sc) (s : Int × Int) : List AV := enc f_l_total_h0 [.l l0, .i s.1, .i s.2]
def f_l_total_g0_1 : List Sh := [.u, .u, .u, .p (.int .i64), .u, .u, .u, .u, .u, .u, .u, .u, .u, .u, .u, .u, .u, .u]
def f_l_total_x0_1 (l0 : List Sc) (e : Int) : X × List AV := (.out 0, enc f_l_total_g0_1 [.i e])
def f_l_total_x0_2 (l0 : List Sc) (_e : Unit) : X × List AV := (.ret, [])
theorem f_l_total_p0 {R : Type} (l0 : List Sc) (s : Int × Int) (kN : Int × Int → Option R) (kA : Int → Option R) (kB : Unit → Option R) : f_l_total_k0 l0 s.1 s.2 kN kA = (f_l_total_r0 l0 s).bind (Ro.el kN kA kB) := by
  simp only [f_l_total_k0, f_l_total_r0, brB, someB, noneB, Ro.el]
theorem f_l_total_e0 (l0 : List Sc) (s : Int × Int) : EC E0 f_l_total_M H0 f_l_total_F (asL (noL)) 0 (bodyOf Try.f25 0) (f_l_total_fr0 l0 s) (done (klOf f_l_total_F 0)) = f_l_total_k0 l0 s.1 s.2 (fun s => some (.norm, f_l_total_fr0 l0 s)) (fun e => some (f_l_total_x0_1 l0 e)) := by kernel_rfl
theorem f_l_total_l0 (l0 : List Sc) : ∀ s r, loopL (f_l_total_r0 l0) s = some r → LS Try.prog f_l_total_F (bodyOf Try.f25 0) (f_l_total_fr0 l0 s) (enX (f_l_total_x0_1 l0) (f_l_total_x0_2 l0) r) :=
  loop_true E0ok f_l_total_Mt (noL_true) f_l_total_o (fun _ h => by cases h) (fun _ h => by cases h) (fun s => (f_l_total_e0 l0 s).trans (f_l_total_p0 l0 s _ _ (fun e => some (f_l_total_x0_2 l0 e))))
def f_l_total_t0 (σ : List AV) : Option (Bool × Bool × (X × List AV) × (X × List AV)) := match dec f_l_total_h0 σ with
  | some [.l l0, .i n3, .i i4] => some (isOne (loopL (f_l_total_r0 l0) (n3, i4)), true, f_l_total_x0_1 l0 (getOne 0 (loopL (f_l_total_r0 l0) (n3, i4))), (.ret, []))
  | _ => none
theorem f_l_total_tt0 : TTrue Try.prog f_l_total_F Try.f25 0 (f_l_total_t0) := by
  intro σ p r r' h
  unfold f_l_total_t0 at h
  split at h
  · rename_i hd
    rw [← dec_enc hd]
    exact row1 (f_l_total_l0 _ _) h
  · cases h
theorem f_l_total_p {R : Type} (l0 : List Sc) (kR : Int → Option R) : f_l_total_k l0 kR = (f_l_total_k l0 some).bind kR := by
  simp only [f_l_total_k, bl1B, someB]
theorem f_l_total_e (l0 : List Sc) : runFn E0 f_l_total_M H0 f_l_total_F (asL (addL 0 (f_l_total_t0) (noL))) Try.f25 (f_l_total_a l0) (f_l_total_i l0) = f_l_total_k l0 (fun r => some (f_l_total_en r)) := by kernel_rfl
theorem f_l_total_ok (l0 : List Sc) (r : Int) (h : f_l_total l0 = some r) : CS Try.prog 25 (f_l_total_a l0) (f_l_total_i l0) (f_l_total_en r).1 (f_l_total_en r).2 :=
  fn_true (Gk := fun k => f_l_total_k l0 k) (en := f_l_total_en) Try.func25 E0ok f_l_total_Mt (addL_true (f_l_total_tt0) (noL_true)) f_l_total_o (f_l_total_e l0) (f_l_total_p l0) h
def f_l_total_c : CRow := fun args inh => match dec2 [.p .sl] [] args inh with
  | some ([.l l0], []) => some ((f_l_total l0).isSome, (f_l_total_en ((f_l_total l0).getD 0)).1, (f_l_total_en ((f_l_total l0).getD 0)).2)
  | _ => none
theorem f_l_total_cc : CTrue Try.prog 25 f_l_total_c := by
  intro args inh rs out h
  unfold f_l_total_c at h
  split at h
  · rename_i hd
    obtain ⟨h1, h2⟩ := dec2_enc hd
    rw [← h1, ← h2]
    exact rowC (f_l_total_ok _) h
  · cases h

def f_s_DrawPeriodsOf_F : Fi := { nv := 2, nc := 2, m := 0, vt := [(2, 0), (4, 1)], kl := [], sk := [], mvs := [], fz := [] }
def f_s_DrawPeriodsOf_a (code0 : List Sc) : List AV := enc [.p .sl] [.l code0]
def f_s_DrawPeriodsOf_i (code0 : List Sc) : List AV := enc [] []
def f_s_DrawPeriodsOf_en (r : List Sc × Int) : List AV × List AV := (enc [.p .gr, .p (.int .i64)] [.l r.1, .i r.2], enc [] [])
def f_s_DrawPeriodsOf_M : Calling := addC 120 f_s_l6Both_c (noC)
theorem f_s_DrawPeriodsOf_Mt : CallOk Try.prog (f_s_DrawPeriodsOf_M) := addC_true f_s_l6Both_cc (noC_true)
theorem f_s_DrawPeriodsOf_o : loopsOnce Try.f26 = true := by kernel_rfl
theorem f_s_DrawPeriodsOf_p {R : Type} (code0 : List Sc) (kR : List Sc × Int → Option R) : f_s_DrawPeriodsOf_k code0 kR = (f_s_DrawPeriodsOf_k code0 some).bind kR := by
  simp only [f_s_DrawPeriodsOf_k, boB, someB]
theorem f_s_DrawPeriodsOf_e (code0 : List Sc) : runFn E0 f_s_DrawPeriodsOf_M H0 f_s_DrawPeriodsOf_F (asL (noL)) Try.f26 (f_s_DrawPeriodsOf_a code0) (f_s_DrawPeriodsOf_i code0) = f_s_DrawPeriodsOf_k code0 (fun r => some (f_s_DrawPeriodsOf_en r)) := by kernel_rfl
theorem f_s_DrawPeriodsOf_ok (code0 : List Sc) (r : List Sc × Int) (h : f_s_DrawPeriodsOf code0 = some r) : CS Try.prog 26 (f_s_DrawPeriodsOf_a code0) (f_s_DrawPeriodsOf_i code0) (f_s_DrawPeriodsOf_en r).1 (f_s_DrawPeriodsOf_en r).2 :=
  fn_true (Gk := fun k => f_s_DrawPeriodsOf_k code0 k) (en := f_s_DrawPeriodsOf_en) Try.func26 E0ok f_s_DrawPeriodsOf_Mt (noL_true) f_s_DrawPeriodsOf_o (f_s_DrawPeriodsOf_e code0) (f_s_DrawPeriodsOf_p code0) h
def f_s_DrawPeriodsOf_c : CRow := fun args inh => match dec2 [.p .sl] [] args inh with
  | some ([.l code0], []) => some ((f_s_DrawPeriodsOf code0).isSome, (f_s_DrawPeriodsOf_en ((f_s_DrawPeriodsOf code0).getD ([], 0))).1, (f_s_DrawPeriodsOf_en ((f_s_DrawPeriodsOf code0).getD ([], 0))).2)
  | _ => none
theorem f_s_DrawPeriodsOf_cc : CTrue Try.prog 26 f_s_DrawPeriodsOf_c := by
  intro args inh rs out h
  unfold f_s_DrawPeriodsOf_c at h
  split at h
  · rename_i hd
    obtain ⟨h1, h2⟩ := dec2_enc hd
    rw [← h1, ← h2]
    exact rowC (f_s_DrawPeriodsOf_ok _) h
  · cases h

def f_s_PeriodsOf_F : Fi := { nv := 0, nc := 0, m := 0, vt := [], kl := [], sk := [], mvs := [], fz := [] }
def f_s_PeriodsOf_a (g0 : List Sc) (a1 : Int) : List AV := enc [.p .gr, .p (.int .i64)] [.l g0, .i a1]
def f_s_PeriodsOf_i (g0 : List Sc) (a1 : Int) : List AV := enc [] []
def f_s_PeriodsOf_en (r : List Sc) : List AV × List AV := (enc [.p (.al 0)] [], enc [.own 3] [.l r])
def f_s_PeriodsOf_M : Calling := addC 124 f_s_IsSet_c (addC 125 f_s_l6Stabilizer_c (addC 136 f_s_l3List_c (noC)))
theorem f_s_PeriodsOf_Mt : CallOk Try.prog (f_s_PeriodsOf_M) := addC_true f_s_IsSet_cc (addC_true f_s_l6Stabilizer_cc (addC_true f_s_l3List_cc (noC_true)))
theorem f_s_PeriodsOf_o : loopsOnce Try.f27 = true := by kernel_rfl
theorem f_s_PeriodsOf_p {R : Type} (g0 : List Sc) (a1 : Int) (kR : List Sc → Option R) : f_s_PeriodsOf_k g0 a1 kR = (f_s_PeriodsOf_k g0 a1 some).bind kR := by
  simp only [f_s_PeriodsOf_k, brB, boB, someB]
theorem f_s_PeriodsOf_e (g0 : List Sc) (a1 : Int) : runFn E0 f_s_PeriodsOf_M H0 f_s_PeriodsOf_F (asL (noL)) Try.f27 (f_s_PeriodsOf_a g0 a1) (f_s_PeriodsOf_i g0 a1) = f_s_PeriodsOf_k g0 a1 (fun r => some (f_s_PeriodsOf_en r)) := by kernel_rfl
theorem f_s_PeriodsOf_ok (g0 : List Sc) (a1 : Int) (r : List Sc) (h : f_s_PeriodsOf g0 a1 = some r) : CS Try.prog 27 (f_s_PeriodsOf_a g0 a1) (f_s_PeriodsOf_i g0 a1) (f_s_PeriodsOf_en r).1 (f_s_PeriodsOf_en r).2 :=
  fn_true (Gk := fun k => f_s_PeriodsOf_k g0 a1 k) (en := f_s_PeriodsOf_en) Try.func27 E0ok f_s_PeriodsOf_Mt (noL_true) f_s_PeriodsOf_o (f_s_PeriodsOf_e g0 a1) (f_s_PeriodsOf_p g0 a1) h
def f_s_PeriodsOf_c : CRow := fun args inh => match dec2 [.p .gr, .p (.int .i64)] [] args inh with
  | some ([.l g0, .i a1], []) => some ((f_s_PeriodsOf g0 a1).isSome, (f_s_PeriodsOf_en ((f_s_PeriodsOf g0 a1).getD [])).1, (f_s_PeriodsOf_en ((f_s_PeriodsOf g0 a1).getD [])).2)
  | _ => none
theorem f_s_PeriodsOf_cc : CTrue Try.prog 27 f_s_PeriodsOf_c := by
  intro args inh rs out h
  unfold f_s_PeriodsOf_c at h
  split at h
  · rename_i hd
    obtain ⟨h1, h2⟩ := dec2_enc hd
    rw [← h1, ← h2]
    exact rowC (f_s_PeriodsOf_ok _ _) h
  · cases h

def f_l_FnPeriods_F : Fi := { nv := 5, nc := 3, m := 0, vt := [(3, 0), (6, 1), (15, 2), (95, 3), (102, 4)], kl := [(200016, ([0, 1, 2, 3, 4, 6, 7, 8, 9, 10, 11, 12, 13, 14, 15, 16, 17, 18, 19, 20, 21, 22, 23, 24, 25, 26, 27, 28, 29, 30, 31, 32, 33, 34, 35, 36, 37, 38, 39, 40, 41, 42, 43, 44, 45, 46, 47, 48, 49, 50, 51, 52, 53, 54, 55, 56, 57, 58, 59, 60, 61, 62, 63, 64, 65, 66, 67, 68, 69, 70, 71, 72, 73, 74, 75, 76, 77, 78, 79, 80, 81, 82, 83, 84, 85, 86, 87, 88, 89, 90, 91, 92, 93, 94, 95, 96, 97, 98, 99, 100, 101, 102, 103, 104, 105, 106, 107, 108, 109, 110, 111, 112, 113, 114, 115, 116, 117, 118, 119, 120, 121, 122, 123, 124, 125, 126, 127, 128, 129, 130, 131, 132, 133, 134, 135, 136, 137, 138, 139, 140, 141, 142, 143, 144, 145, 146, 147, 148, 149, 150, 151, 152, 153, 154, 155, 156, 157, 158, 159, 160, 161, 162, 163, 164, 165, 166, 167, 168, 169, 170, 171, 172, 173, 174, 175, 176, 177], [], [0, 1, 2, 3, 4, 5, 6, 8, 9, 10, 11, 12, 13, 14, 15, 16, 17, 18, 19, 20, 21, 22, 23, 24, 25, 26, 27, 28, 29, 30, 31, 32, 33, 34, 35, 36, 37, 38, 39, 40, 41, 42, 43, 44, 45, 46, 47, 48, 49, 50, 51, 52, 53, 54, 55, 56, 57, 58, 59, 60, 61, 62, 63, 64, 65, 66, 67, 68, 69, 70, 71, 72, 73, 74, 75, 76, 77, 78, 79, 80, 81, 82, 83, 84, 85, 86, 87, 88, 89, 90, 91, 92, 93, 94, 95, 96, 97, 98, 99, 100, 101, 102, 103, 104, 105, 106, 107, 108, 109, 110, 111, 112, 113, 114, 115, 116, 117, 118, 119, 120, 121, 122, 123, 124, 125, 126, 127, 128, 129, 130, 131, 132, 133, 134, 135, 136, 137, 138, 139, 140, 141, 142, 143, 144, 145, 146, 147, 148, 149, 150, 151, 152, 153, 154, 155, 156, 157, 158, 159, 160, 161, 162, 163, 164, 165, 166, 167, 168, 169, 170, 171, 172, 173, 174, 175, 176, 177])), (200003, ([0, 1, 2, 3, 4, 6, 7, 8, 9, 10, 11, 12, 13, 14, 15, 16, 17, 18, 19, 20, 21, 22, 23, 24, 25, 26, 27, 28, 29, 30, 31, 32, 33, 34, 35, 36, 37, 38, 39, 40, 41, 42, 43, 44, 45, 46, 47, 48, 49, 50, 51, 52, 53, 54, 55, 56, 57, 58, 59, 60, 61, 62, 63, 64, 65, 66, 67, 68, 69, 70, 71, 72, 73, 74, 75, 76, 77, 78, 79, 80, 81, 82, 83, 84, 85, 86, 87, 88, 89, 90, 91, 92, 93, 94, 95, 96, 97, 98, 99, 100, 101, 102, 103, 104, 105, 106, 107, 108, 109, 110, 111, 112, 113, 114, 115, 116, 117, 118, 119, 120, 121, 122, 123, 124, 125, 126, 127, 128, 129, 130, 131, 132, 133, 134, 135, 136, 137, 138, 139, 140, 141, 142, 143, 144, 145, 146, 147, 148, 149, 150, 151, 152, 153, 154, 155, 156, 157, 158, 159, 160, 161, 162, 163, 164, 165, 166, 167, 168, 169, 170, 171, 172, 173, 174, 175, 176, 177], [], [0, 1, 2, 3, 4, 5, 6, 8, 9, 10, 11, 12, 13, 14, 15, 16, 17, 18, 19, 20, 21, 22, 23, 24, 25, 26, 27, 28, 29, 30, 31, 32, 33, 34, 35, 36, 37, 38, 39, 40, 41, 42, 43, 44, 45, 46, 47, 48, 49, 50, 51, 52, 53, 54, 55, 56, 57, 58, 59, 60, 61, 62, 63, 64, 65, 66, 67, 68, 69, 70, 71, 72, 73, 74, 75, 76, 77, 78, 79, 80, 81, 82, 83, 84, 85, 86, 87, 88, 89, 90, 91, 92, 93, 94, 95, 96, 97, 98, 99, 100, 101, 102, 103, 104, 105, 106, 107, 108, 109, 110, 111, 112, 113, 114, 115, 116, 117, 118, 119, 120, 121, 122, 123, 124, 125, 126, 127, 128, 129, 130, 131, 132, 133, 134, 135, 136, 137, 138, 139, 140, 141, 142, 143, 144, 145, 146, 147, 148, 149, 150, 151, 152, 153, 154, 155, 156, 157, 158, 159, 160, 161, 162, 163, 164, 165, 166, 167, 168, 169, 170, 171, 172, 173, 174, 175, 176, 177])), (200014, ([0, 2, 3, 4, 6, 7, 8, 9, 10, 12, 16, 19, 20, 21, 22, 23, 24, 25, 26, 27, 28, 29, 30, 31, 32, 33, 34, 35, 36, 37, 38, 39, 40, 41, 42, 43, 44, 45, 46, 47, 48, 49, 50, 51, 52, 53, 54, 55, 56, 57, 58, 59, 60, 61, 62, 63, 64, 65, 66, 67, 68, 69, 70, 71, 72, 73, 74, 75, 76, 77, 78, 79, 80, 81, 82, 83, 84, 85, 86, 87, 88, 89, 90, 91, 92, 93, 94, 95, 96, 97, 98, 99, 100, 101, 102, 103, 104, 105, 106, 107, 108, 109, 110, 111, 112, 113, 114, 115, 116, 117, 118, 119, 120, 121, 122, 123, 124, 125, 126, 127, 128, 129, 130, 131, 132, 133, 134, 135, 136, 137, 138, 139, 140, 141, 142, 143, 144, 145, 146, 147, 148, 149, 150, 151, 152, 153, 154, 155, 156, 157, 158, 159, 160, 161, 162, 163, 164, 165, 166, 167, 168, 169, 170, 171, 172, 173, 174, 175, 176, 177], [], [0, 1, 2, 3, 4, 5, 6, 8, 9, 10, 11, 12, 13, 14, 15, 16, 17, 18, 19, 20, 21, 22, 23, 24, 25, 26, 27, 28, 29, 30, 31, 32, 33, 34, 35, 36, 37, 38, 39, 40, 41, 42, 43, 44, 45, 46, 47, 48, 49, 50, 51, 52, 53, 54, 55, 56, 57, 58, 59, 60, 61, 62, 63, 64, 65, 66, 67, 68, 69, 70, 71, 72, 73, 74, 75, 76, 77, 78, 79, 80, 81, 82, 83, 84, 85, 86, 87, 88, 89, 90, 91, 92, 93, 94, 95, 96, 97, 98, 99, 100, 101, 102, 103, 104, 105, 106, 107, 108, 109, 110, 111, 112, 113, 114, 115, 116, 117, 118, 119, 120, 121, 122, 123, 124, 125, 126, 127, 128, 129, 130, 131, 132, 133, 134, 135, 136, 137, 138, 139, 140, 141, 142, 143, 144, 145, 146, 147, 148, 149, 150, 151, 152, 153, 154, 155, 156, 157, 158, 159, 160, 161, 162, 163, 164, 165, 166, 167, 168, 169, 170, 171, 172, 173, 174, 175, 176, 177])), (200007, ([0, 1, 2, 3, 4, 6, 7, 8, 9, 10, 11, 12, 13, 14, 15, 16, 17, 18, 19, 20, 21, 22, 23, 24, 25, 26, 27, 28, 29, 30, 31, 32, 33, 34, 35, 36, 37, 38, 39, 40, 41, 42, 43, 44, 45, 46, 47, 48, 49, 50, 51, 52, 53, 54, 55, 56, 57, 58, 59, 60, 61, 62, 63, 64, 65, 66, 67, 68, 69, 70, 71, 72, 73, 74, 75, 76, 77, 78, 79, 80, 81, 82, 83, 84, 85, 86, 87, 88, 89, 90, 91, 92, 93, 94, 95, 96, 97, 98, 99, 100, 101, 102, 103, 104, 105, 106, 107, 108, 109, 110, 111, 112, 113, 114, 115, 116, 117, 118, 119, 120, 121, 122, 123, 124, 125, 126, 127, 128, 129, 130, 131, 132, 133, 134, 135, 136, 137, 138, 139, 140, 141, 142, 143, 144, 145, 146, 147, 148, 149, 150, 151, 152, 153, 154, 155, 156, 157, 158, 159, 160, 161, 162, 163, 164, 165, 166, 167, 168, 169, 170, 171, 172, 173, 174, 175, 176, 177], [], [0, 1, 2, 3, 4, 5, 6, 8, 9, 10, 11, 12, 13, 14, 15, 16, 17, 18, 19, 20, 21, 22, 23, 24, 25, 26, 27, 28, 29, 30, 31, 32, 33, 34, 35, 36, 37, 38, 39, 40, 41, 42, 43, 44, 45, 46, 47, 48, 49, 50, 51, 52, 53, 54, 55, 56, 57, 58, 59, 60, 61, 62, 63, 64, 65, 66, 67, 68, 69, 70, 71, 72, 73, 74, 75, 76, 77, 78, 79, 80, 81, 82, 83, 84, 85, 86, 87, 88, 89, 90, 91, 92, 93, 94, 95, 96, 97, 98, 99, 100, 101, 102, 103, 104, 105, 106, 107, 108, 109, 110, 111, 112, 113, 114, 115, 116, 117, 118, 119, 120, 121, 122, 123, 124, 125, 126, 127, 128, 129, 130, 131, 132, 133, 134, 135, 136, 137, 138, 139, 140, 141, 142, 143, 144, 145, 146, 147, 148, 149, 150, 151, 152, 153, 154, 155, 156, 157, 158, 159, 160, 161, 162, 163, 164, 165, 166, 167, 168, 169, 170, 171, 172, 173, 174, 175, 176, 177]))], sk := [], mvs := [3, 4], fz := [], tl := [3, 7, 14, 16] }
def f_l_FnPeriods_a (L0 : List Sc) : List AV := enc [.p .sl] [.l L0]
def f_l_FnPeriods_i (L0 : List Sc) : List AV := enc [] []
def f_l_FnPeriods_en (r : Bool) : List AV × List AV := (enc [.p .boo] [.b r], enc [] [])
def f_l_FnPeriods_M : Calling := addC 9 f_l_big_c (addC 10 f_s_DrawStabilizerOf_c (addC 11 f_i_StabilizerOf_c (addC 12 f_s_StabilizerOf_c (addC 13 f_i_IsPeriodic_c (addC 14 f_i_IsSubgroup_c (addC 15 f_i_FillSet_c (addC 16 f_i_CorePart_c (addC 17 f_i_PeriodsOf_c (addC 18 f_s_CountSet_c (addC 19 f_s_DrawFillSet_c (addC 20 f_i_QuotientSet_c (addC 21 f_s_QuotientSet_c (addC 22 f_s_FillSet_c (addC 23 f_s_CorePart_c (addC 24 f_l_sameInts_c (addC 25 f_l_total_c (addC 26 f_s_DrawPeriodsOf_c (addC 27 f_s_PeriodsOf_c (noC)))))))))))))))))))
theorem f_l_FnPeriods_Mt : CallOk Try.prog (f_l_FnPeriods_M) := addC_true f_l_big_cc (addC_true f_s_DrawStabilizerOf_cc (addC_true f_i_StabilizerOf_cc (addC_true f_s_StabilizerOf_cc (addC_true f_i_IsPeriodic_cc (addC_true f_i_IsSubgroup_cc (addC_true f_i_FillSet_cc (addC_true f_i_CorePart_cc (addC_true f_i_PeriodsOf_cc (addC_true f_s_CountSet_cc (addC_true f_s_DrawFillSet_cc (addC_true f_i_QuotientSet_cc (addC_true f_s_QuotientSet_cc (addC_true f_s_FillSet_cc (addC_true f_s_CorePart_cc (addC_true f_l_sameInts_cc (addC_true f_l_total_cc (addC_true f_s_DrawPeriodsOf_cc (addC_true f_s_PeriodsOf_cc (noC_true)))))))))))))))))))
theorem f_l_FnPeriods_o : loopsOnce Try.f3 = true := by kernel_rfl
def f_l_FnPeriods_hw16 : List Sh := [.u, .u, .u, .u, .u, .p .sl, .u, .u, .u, .u, .u, .u, .u, .u, .u, .u, .u, .u, .u, .u, .u, .u, .u, .u, .u, .u, .u, .u, .u, .u, .u, .u, .u, .u, .u, .u, .u, .u, .u, .u, .u, .u, .u, .u, .u, .u, .u, .u, .u, .u, .u, .u, .u, .u, .u, .u, .u, .u, .u, .u, .u, .u, .u, .u, .u, .u, .u, .u, .u, .u, .u, .u, .u, .u, .u, .u, .u, .u, .u, .u, .u, .u, .u, .u, .u, .u, .u, .u, .u, .u, .u, .u, .u, .u, .u, .u, .u, .u, .u, .u, .u, .u, .u, .u, .u, .u, .u, .u, .u, .u, .u, .u, .u, .u, .u, .u, .u, .u, .u, .u, .u, .u, .u, .u, .u, .u, .u, .u, .u, .u, .u, .u, .u, .u, .u, .u, .u, .u, .u, .u, .u, .u, .u, .u, .u, .u, .u, .u, .u, .u, .u, .u, .u, .u, .u, .u, .u, .u, .u, .u, .u, .u, .u, .u, .u, .u, .u, .u, .u, .u, .u, .u, .u, .u, .u, .u, .u, .u]
def f_l_FnPeriods_frw16 (t0 : List Sc) : List AV := enc f_l_FnPeriods_hw16 [.l t0]
def f_l_FnPeriods_xw16 (t0 : List Sc) (e : Bool) : X × List AV := (.norm, enc [.u, .u, .u, .u, .u, .u, .u, .p .boo, .u, .u, .u, .u, .u, .u, .u, .u, .u, .u, .u, .u, .u, .u, .u, .u, .u, .u, .u, .u, .u, .u, .u, .u, .u, .u, .u, .u, .u, .u, .u, .u, .u, .u, .u, .u, .u, .u, .u, .u, .u, .u, .u, .u, .u, .u, .u, .u, .u, .u, .u, .u, .u, .u, .u, .u, .u, .u, .u, .u, .u, .u, .u, .u, .u, .u, .u, .u, .u, .u, .u, .u, .u, .u, .u, .u, .u, .u, .u, .u, .u, .u, .u, .u, .u, .u, .u, .u, .u, .u, .u, .u, .u, .u, .u, .u, .u, .u, .u, .u, .u, .u, .u, .u, .u, .u, .u, .u, .u, .u, .u, .u, .u, .u, .u, .u, .u, .u, .u, .u, .u, .u, .u, .u, .u, .u, .u, .u, .u, .u, .u, .u, .u, .u, .u, .u, .u, .u, .u, .u, .u, .u, .u, .u, .u, .u, .u, .u, .u, .u, .u, .u, .u, .u, .u, .u, .u, .u, .u, .u, .u, .u, .u, .u, .u, .u, .u, .u, .u, .u] [.b e])
theorem f_l_FnPeriods_pw16 {R : Type} (t0 : List Sc) (kA : Bool → Option R) : f_l_FnPeriods_w16_k t0 kA = (f_l_FnPeriods_w16 t0).bind kA := by
  simp only [f_l_FnPeriods_w16_k, f_l_FnPeriods_w16, boB, someB]
theorem f_l_FnPeriods_bw16 : bodyOf Try.f3 200016 = .block 0 (codeIn (bodyOf Try.f3 200016)) := by kernel_rfl
theorem f_l_FnPeriods_ew16 (t0 : List Sc) : EC E0 f_l_FnPeriods_M H0 f_l_FnPeriods_F (asL (noL)) 0 (codeIn (bodyOf Try.f3 200016)) (f_l_FnPeriods_frw16 t0) (doneT (klOf f_l_FnPeriods_F 200016).2.2) = f_l_FnPeriods_w16_k t0 (fun e => some (f_l_FnPeriods_xw16 t0 e)) := by kernel_rfl
theorem f_l_FnPeriods_lw16 (t0 : List Sc) (r : Bool) (h : f_l_FnPeriods_w16 t0 = some r) : LS Try.prog f_l_FnPeriods_F (bodyOf Try.f3 200016) (f_l_FnPeriods_frw16 t0) (f_l_FnPeriods_xw16 t0 r) :=
  tail_true (S := Unit) (id := 16) (G := fun _ => f_l_FnPeriods_w16 t0) (Gk := fun _ k => f_l_FnPeriods_w16_k t0 k) (fr := fun _ => f_l_FnPeriods_frw16 t0) (f1 := fun e => f_l_FnPeriods_xw16 t0 e) E0ok f_l_FnPeriods_Mt (noL_true) f_l_FnPeriods_o f_l_FnPeriods_bw16 (fun _ => rfl) (fun _ => f_l_FnPeriods_ew16 t0) (fun _ k => f_l_FnPeriods_pw16 t0 k) () r h
def f_l_FnPeriods_tw16 (σ : List AV) : Option (Bool × Bool × (X × List AV) × (X × List AV)) := match dec f_l_FnPeriods_hw16 σ with
  | some [.l t0] => some ((f_l_FnPeriods_w16 t0).isSome, true, f_l_FnPeriods_xw16 t0 ((f_l_FnPeriods_w16 t0).getD false), (.ret, []))
  | _ => none
theorem f_l_FnPeriods_ttw16 : TTrue Try.prog f_l_FnPeriods_F Try.f3 200016 f_l_FnPeriods_tw16 := by
  intro σ p r r' h
  unfold f_l_FnPeriods_tw16 at h
  split at h
  · rename_i hd
    rw [← dec_enc hd]
    exact rowR (f_l_FnPeriods_lw16 _) h
  · cases h
def f_l_FnPeriods_hw14 : List Sh := [.u, .p .sl, .u, .u, .u, .p .sl, .u, .u, .u, .u, .u, .p (.pt 1 1), .u, .p (.int .i64), .p (.int .i64), .p (.int .i64), .u, .p .boo, .own 3, .u, .u, .u, .u, .u, .u, .u, .u, .u, .u, .u, .u, .u, .u, .u, .u, .u, .u, .u, .u, .u, .u, .u, .u, .u, .u, .u, .u, .u, .u, .u, .u, .u, .u, .u, .u, .u, .u, .u, .u, .u, .u, .u, .u, .u, .u, .u, .u, .u, .u, .u, .u, .u, .u, .u, .u, .u, .u, .u, .u, .u, .u, .u, .u, .u, .u, .u, .u, .u, .u, .u, .u, .u, .u, .u, .u, .u, .u, .u, .u, .u, .u, .u, .u, .u, .u, .u, .u, .u, .u, .u, .u, .u, .u, .u, .u, .u, .u, .u, .u, .u, .u, .u, .u, .u, .u, .u, .u, .u, .u, .u, .u, .u, .u, .u, .u, .u, .u, .u, .u, .u, .u, .u, .u, .u, .u, .u, .u, .u, .u, .u, .u, .u, .u, .u, .u, .u, .u, .u, .u, .u, .u, .u, .u, .u, .u, .u, .u, .u, .u, .u, .u, .u, .u, .u, .u, .u, .u, .u]
def f_l_FnPeriods_frw14 (v1 : List Sc) (t0 : List Sc) (t8 : Int) (t9 : Int) (t10 : Int) (t12 : Bool) (t13 : List Sc) : List AV := enc f_l_FnPeriods_hw14 [.l v1, .l t0, .i t8, .i t9, .i t10, .b t12, .l t13]
def f_l_FnPeriods_xw14 (v1 : List Sc) (t0 : List Sc) (t8 : Int) (t9 : Int) (t10 : Int) (t12 : Bool) (t13 : List Sc) (e : Bool) : X × List AV := (.norm, enc [.u, .u, .u, .u, .u, .u, .u, .p .boo, .u, .u, .u, .u, .u, .u, .u, .u, .u, .u, .u, .u, .u, .u, .u, .u, .u, .u, .u, .u, .u, .u, .u, .u, .u, .u, .u, .u, .u, .u, .u, .u, .u, .u, .u, .u, .u, .u, .u, .u, .u, .u, .u, .u, .u, .u, .u, .u, .u, .u, .u, .u, .u, .u, .u, .u, .u, .u, .u, .u, .u, .u, .u, .u, .u, .u, .u, .u, .u, .u, .u, .u, .u, .u, .u, .u, .u, .u, .u, .u, .u, .u, .u, .u, .u, .u, .u, .u, .u, .u, .u, .u, .u, .u, .u, .u, .u, .u, .u, .u, .u, .u, .u, .u, .u, .u, .u, .u, .u, .u, .u, .u, .u, .u, .u, .u, .u, .u, .u, .u, .u, .u, .u, .u, .u, .u, .u, .u, .u, .u, .u, .u, .u, .u, .u, .u, .u, .u, .u, .u, .u, .u, .u, .u, .u, .u, .u, .u, .u, .u, .u, .u, .u, .u, .u, .u, .u, .u, .u, .u, .u, .u, .u, .u, .u, .u, .u, .u, .u, .u] [.b e])
theorem f_l_FnPeriods_pw14 {R : Type} (v1 : List Sc) (t0 : List Sc) (t8 : Int) (t9 : Int) (t10 : Int) (t12 : Bool) (t13 : List Sc) (kA : Bool → Option R) : f_l_FnPeriods_w14_k v1 t0 t8 t9 t10 t12 t13 kA = (f_l_FnPeriods_w14 v1 t0 t8 t9 t10 t12 t13).bind kA := by
  simp only [f_l_FnPeriods_w14_k, f_l_FnPeriods_w14, brB, boB, someB]
theorem f_l_FnPeriods_bw14 : bodyOf Try.f3 200014 = .block 0 (codeIn (bodyOf Try.f3 200014)) := by kernel_rfl
theorem f_l_FnPeriods_ew14 (v1 : List Sc) (t0 : List Sc) (t8 : Int) (t9 : Int) (t10 : Int) (t12 : Bool) (t13 : List Sc) : EC E0 f_l_FnPeriods_M H0 f_l_FnPeriods_F (asL (addL 200016 f_l_FnPeriods_tw16 (noL))) 0 (codeIn (bodyOf Try.f3 200014)) (f_l_FnPeriods_frw14 v1 t0 t8 t9 t10 t12 t13) (doneT (klOf f_l_FnPeriods_F 200014).2.2) = f_l_FnPeriods_w14_k v1 t0 t8 t9 t10 t12 t13 (fun e => some (f_l_FnPeriods_xw14 v1 t0 t8 t9 t10 t12 t13 e)) := by kernel_rfl
theorem f_l_FnPeriods_lw14 (v1 : List Sc) (t0 : List Sc) (t8 : Int) (t9 : Int) (t10 : Int) (t12 : Bool) (t13 : List Sc) (r : Bool) (h : f_l_FnPeriods_w14 v1 t0 t8 t9 t10 t12 t13 = some r) : LS Try.prog f_l_FnPeriods_F (bodyOf Try.f3 200014) (f_l_FnPeriods_frw14 v1 t0 t8 t9 t10 t12 t13) (f_l_FnPeriods_xw14 v1 t0 t8 t9 t10 t12 t13 r) :=
  tail_true (S := Unit) (id := 14) (G := fun _ => f_l_FnPeriods_w14 v1 t0 t8 t9 t10 t12 t13) (Gk := fun _ k => f_l_FnPeriods_w14_k v1 t0 t8 t9 t10 t12 t13 k) (fr := fun _ => f_l_FnPeriods_frw14 v1 t0 t8 t9 t10 t12 t13) (f1 := fun e => f_l_FnPeriods_xw14 v1 t0 t8 t9 t10 t12 t13 e) E0ok f_l_FnPeriods_Mt (addL_true f_l_FnPeriods_ttw16 (noL_true)) f_l_FnPeriods_o f_l_FnPeriods_bw14 (fun _ => rfl) (fun _ => f_l_FnPeriods_ew14 v1 t0 t8 t9 t10 t12 t13) (fun _ k => f_l_FnPeriods_pw14 v1 t0 t8 t9 t10 t12 t13 k) () r h
def f_l_FnPeriods_tw14 (σ : List AV) : Option (Bool × Bool × (X × List AV) × (X × List AV)) := match dec f_l_FnPeriods_hw14 σ with
  | some [.l v1, .l t0, .i t8, .i t9, .i t10, .b t12, .l t13] => some ((f_l_FnPeriods_w14 v1 t0 t8 t9 t10 t12 t13).isSome, true, f_l_FnPeriods_xw14 v1 t0 t8 t9 t10 t12 t13 ((f_l_FnPeriods_w14 v1 t0 t8 t9 t10 t12 t13).getD false), (.ret, []))
  | _ => none
theorem f_l_FnPeriods_ttw14 : TTrue Try.prog f_l_FnPeriods_F Try.f3 200014 f_l_FnPeriods_tw14 := by
  intro σ p r r' h
  unfold f_l_FnPeriods_tw14 at h
  split at h
  · rename_i hd
    rw [← dec_enc hd]
    exact rowR (f_l_FnPeriods_lw14 _ _ _ _ _ _ _) h
  · cases h
def f_l_FnPeriods_hw7 : List Sh := [.u, .u, .u, .u, .u, .p .sl, .u, .u, .u, .u, .u, .u, .u, .u, .u, .u, .u, .u, .u, .u, .u, .u, .u, .u, .u, .u, .u, .u, .u, .u, .u, .u, .u, .u, .u, .u, .u, .u, .u, .u, .u, .u, .u, .u, .u, .u, .u, .u, .u, .u, .u, .u, .u, .u, .u, .u, .u, .u, .u, .u, .u, .u, .u, .u, .u, .u, .u, .u, .u, .u, .u, .u, .u, .u, .u, .u, .u, .u, .u, .u, .u, .u, .u, .u, .u, .u, .u, .u, .u, .u, .u, .u, .u, .u, .u, .u, .u, .u, .u, .u, .u, .u, .u, .u, .u, .u, .u, .u, .u, .u, .u, .u, .u, .u, .u, .u, .u, .u, .u, .u, .u, .u, .u, .u, .u, .u, .u, .u, .u, .u, .u, .u, .u, .u, .u, .u, .u, .u, .u, .u, .u, .u, .u, .u, .u, .u, .u, .u, .u, .u, .u, .u, .u, .u, .u, .u, .u, .u, .u, .u, .u, .u, .u, .u, .u, .u, .u, .u, .u, .u, .u, .u, .u, .u, .u, .u, .u, .u]
def f_l_FnPeriods_frw7 (t0 : List Sc) : List AV := enc f_l_FnPeriods_hw7 [.l t0]
def f_l_FnPeriods_xw7 (t0 : List Sc) (e : Bool) : X × List AV := (.norm, enc [.u, .u, .u, .u, .u, .u, .u, .p .boo, .u, .u, .u, .u, .u, .u, .u, .u, .u, .u, .u, .u, .u, .u, .u, .u, .u, .u, .u, .u, .u, .u, .u, .u, .u, .u, .u, .u, .u, .u, .u, .u, .u, .u, .u, .u, .u, .u, .u, .u, .u, .u, .u, .u, .u, .u, .u, .u, .u, .u, .u, .u, .u, .u, .u, .u, .u, .u, .u, .u, .u, .u, .u, .u, .u, .u, .u, .u, .u, .u, .u, .u, .u, .u, .u, .u, .u, .u, .u, .u, .u, .u, .u, .u, .u, .u, .u, .u, .u, .u, .u, .u, .u, .u, .u, .u, .u, .u, .u, .u, .u, .u, .u, .u, .u, .u, .u, .u, .u, .u, .u, .u, .u, .u, .u, .u, .u, .u, .u, .u, .u, .u, .u, .u, .u, .u, .u, .u, .u, .u, .u, .u, .u, .u, .u, .u, .u, .u, .u, .u, .u, .u, .u, .u, .u, .u, .u, .u, .u, .u, .u, .u, .u, .u, .u, .u, .u, .u, .u, .u, .u, .u, .u, .u, .u, .u, .u, .u, .u, .u] [.b e])
theorem f_l_FnPeriods_pw7 {R : Type} (t0 : List Sc) (kA : Bool → Option R) : f_l_FnPeriods_w7_k t0 kA = (f_l_FnPeriods_w7 t0).bind kA := by
  simp only [f_l_FnPeriods_w7_k, f_l_FnPeriods_w7, brB, boB, someB]
theorem f_l_FnPeriods_bw7 : bodyOf Try.f3 200007 = .block 0 (codeIn (bodyOf Try.f3 200007)) := by kernel_rfl
theorem f_l_FnPeriods_ew7 (t0 : List Sc) : EC E0 f_l_FnPeriods_M H0 f_l_FnPeriods_F (asL (addL 200014 f_l_FnPeriods_tw14 (addL 200016 f_l_FnPeriods_tw16 (noL)))) 0 (codeIn (bodyOf Try.f3 200007)) (f_l_FnPeriods_frw7 t0) (doneT (klOf f_l_FnPeriods_F 200007).2.2) = f_l_FnPeriods_w7_k t0 (fun e => some (f_l_FnPeriods_xw7 t0 e)) := by kernel_rfl
theorem f_l_FnPeriods_lw7 (t0 : List Sc) (r : Bool) (h : f_l_FnPeriods_w7 t0 = some r) : LS Try.prog f_l_FnPeriods_F (bodyOf Try.f3 200007) (f_l_FnPeriods_frw7 t0) (f_l_FnPeriods_xw7 t0 r) :=
  tail_true (S := Unit) (id := 7) (G := fun _ => f_l_FnPeriods_w7 t0) (Gk := fun _ k => f_l_FnPeriods_w7_k t0 k) (fr := fun _ => f_l_FnPeriods_frw7 t0) (f1 := fun e => f_l_FnPeriods_xw7 t0 e) E0ok f_l_FnPeriods_Mt (addL_true f_l_FnPeriods_ttw14 (addL_true f_l_FnPeriods_ttw16 (noL_true))) f_l_FnPeriods_o f_l_FnPeriods_bw7 (fun _ => rfl) (fun _ => f_l_FnPeriods_ew7 t0) (fun _ k => f_l_FnPeriods_pw7 t0 k) () r h
def f_l_FnPeriods_tw7 (σ : List AV) : Option (Bool × Bool × (X × List AV) × (X × List AV)) := match dec f_l_FnPeriods_hw7 σ with
  | some [.l t0] => some ((f_l_FnPeriods_w7 t0).isSome, true, f_l_FnPeriods_xw7 t0 ((f_l_FnPeriods_w7 t0).getD false), (.ret, []))
  | _ => none
theorem f_l_FnPeriods_ttw7 : TTrue Try.prog f_l_FnPeriods_F Try.f3 200007 f_l_FnPeriods_tw7 := by
  intro σ p r r' h
  unfold f_l_FnPeriods_tw7 at h
  split at h
  · rename_i hd
    rw [← dec_enc hd]
    exact rowR (f_l_FnPeriods_lw7 _) h
  · cases h
def f_l_FnPeriods_hw3 : List Sh := [.u, .u, .u, .u, .u, .p .sl, .u, .u, .u, .u, .u, .u, .u, .u, .u, .u, .u, .u, .u, .u, .u, .u, .u, .u, .u, .u, .u, .u, .u, .u, .u, .u, .u, .u, .u, .u, .u, .u, .u, .u, .u, .u, .u, .u, .u, .u, .u, .u, .u, .u, .u, .u, .u, .u, .u, .u, .u, .u, .u, .u, .u, .u, .u, .u, .u, .u, .u, .u, .u, .u, .u, .u, .u, .u, .u, .u, .u, .u, .u, .u, .u, .u, .u, .u, .u, .u, .u, .u, .u, .u, .u, .u, .u, .u, .u, .u, .u, .u, .u, .u, .u, .u, .u, .u, .u, .u, .u, .u, .u, .u, .u, .u, .u, .u, .u, .u, .u, .u, .u, .u, .u, .u, .u, .u, .u, .u, .u, .u, .u, .u, .u, .u, .u, .u, .u, .u, .u, .u, .u, .u, .u, .u, .u, .u, .u, .u, .u, .u, .u, .u, .u, .u, .u, .u, .u, .u, .u, .u, .u, .u, .u, .u, .u, .u, .u, .u, .u, .u, .u, .u, .u, .u, .u, .u, .u, .u, .u, .u]
def f_l_FnPeriods_frw3 (t0 : List Sc) : List AV := enc f_l_FnPeriods_hw3 [.l t0]
def f_l_FnPeriods_xw3 (t0 : List Sc) (e : Bool) : X × List AV := (.norm, enc [.u, .u, .u, .u, .u, .u, .u, .p .boo, .u, .u, .u, .u, .u, .u, .u, .u, .u, .u, .u, .u, .u, .u, .u, .u, .u, .u, .u, .u, .u, .u, .u, .u, .u, .u, .u, .u, .u, .u, .u, .u, .u, .u, .u, .u, .u, .u, .u, .u, .u, .u, .u, .u, .u, .u, .u, .u, .u, .u, .u, .u, .u, .u, .u, .u, .u, .u, .u, .u, .u, .u, .u, .u, .u, .u, .u, .u, .u, .u, .u, .u, .u, .u, .u, .u, .u, .u, .u, .u, .u, .u, .u, .u, .u, .u, .u, .u, .u, .u, .u, .u, .u, .u, .u, .u, .u, .u, .u, .u, .u, .u, .u, .u, .u, .u, .u, .u, .u, .u, .u, .u, .u, .u, .u, .u, .u, .u, .u, .u, .u, .u, .u, .u, .u, .u, .u, .u, .u, .u, .u, .u, .u, .u, .u, .u, .u, .u, .u, .u, .u, .u, .u, .u, .u, .u, .u, .u, .u, .u, .u, .u, .u, .u, .u, .u, .u, .u, .u, .u, .u, .u, .u, .u, .u, .u, .u, .u, .u, .u] [.b e])
theorem f_l_FnPeriods_pw3 {R : Type} (t0 : List Sc) (kA : Bool → Option R) : f_l_FnPeriods_w3_k t0 kA = (f_l_FnPeriods_w3 t0).bind kA := by
  simp only [f_l_FnPeriods_w3_k, f_l_FnPeriods_w3, brB, boB, someB]
theorem f_l_FnPeriods_bw3 : bodyOf Try.f3 200003 = .block 0 (codeIn (bodyOf Try.f3 200003)) := by kernel_rfl
theorem f_l_FnPeriods_ew3 (t0 : List Sc) : EC E0 f_l_FnPeriods_M H0 f_l_FnPeriods_F (asL (addL 200007 f_l_FnPeriods_tw7 (addL 200014 f_l_FnPeriods_tw14 (addL 200016 f_l_FnPeriods_tw16 (noL))))) 0 (codeIn (bodyOf Try.f3 200003)) (f_l_FnPeriods_frw3 t0) (doneT (klOf f_l_FnPeriods_F 200003).2.2) = f_l_FnPeriods_w3_k t0 (fun e => some (f_l_FnPeriods_xw3 t0 e)) := by kernel_rfl
theorem f_l_FnPeriods_lw3 (t0 : List Sc) (r : Bool) (h : f_l_FnPeriods_w3 t0 = some r) : LS Try.prog f_l_FnPeriods_F (bodyOf Try.f3 200003) (f_l_FnPeriods_frw3 t0) (f_l_FnPeriods_xw3 t0 r) :=
  tail_true (S := Unit) (id := 3) (G := fun _ => f_l_FnPeriods_w3 t0) (Gk := fun _ k => f_l_FnPeriods_w3_k t0 k) (fr := fun _ => f_l_FnPeriods_frw3 t0) (f1 := fun e => f_l_FnPeriods_xw3 t0 e) E0ok f_l_FnPeriods_Mt (addL_true f_l_FnPeriods_ttw7 (addL_true f_l_FnPeriods_ttw14 (addL_true f_l_FnPeriods_ttw16 (noL_true)))) f_l_FnPeriods_o f_l_FnPeriods_bw3 (fun _ => rfl) (fun _ => f_l_FnPeriods_ew3 t0) (fun _ k => f_l_FnPeriods_pw3 t0 k) () r h
def f_l_FnPeriods_tw3 (σ : List AV) : Option (Bool × Bool × (X × List AV) × (X × List AV)) := match dec f_l_FnPeriods_hw3 σ with
  | some [.l t0] => some ((f_l_FnPeriods_w3 t0).isSome, true, f_l_FnPeriods_xw3 t0 ((f_l_FnPeriods_w3 t0).getD false), (.ret, []))
  | _ => none
theorem f_l_FnPeriods_ttw3 : TTrue Try.prog f_l_FnPeriods_F Try.f3 200003 f_l_FnPeriods_tw3 := by
  intro σ p r r' h
  unfold f_l_FnPeriods_tw3 at h
  split at h
  · rename_i hd
    rw [← dec_enc hd]
    exact rowR (f_l_FnPeriods_lw3 _) h
  · cases h
theorem f_l_FnPeriods_p {R : Type} (L0 : List Sc) (kR : Bool → Option R) : f_l_FnPeriods_k L0 kR = (f_l_FnPeriods_k L0 some).bind kR := by
  simp only [f_l_FnPeriods_k, brB, boB, someB]
theorem f_l_FnPeriods_e (L0 : List Sc) : runFn E0 f_l_FnPeriods_M H0 f_l_FnPeriods_F (asL (addL 200003 f_l_FnPeriods_tw3 (addL 200007 f_l_FnPeriods_tw7 (addL 200014 f_l_FnPeriods_tw14 (addL 200016 f_l_FnPeriods_tw16 (noL)))))) Try.f3 (f_l_FnPeriods_a L0) (f_l_FnPeriods_i L0) = f_l_FnPeriods_k L0 (fun r => some (f_l_FnPeriods_en r)) := by kernel_rfl
theorem f_l_FnPeriods_ok (L0 : List Sc) (r : Bool) (h : f_l_FnPeriods L0 = some r) : CS Try.prog 3 (f_l_FnPeriods_a L0) (f_l_FnPeriods_i L0) (f_l_FnPeriods_en r).1 (f_l_FnPeriods_en r).2 :=
  fn_true (Gk := fun k => f_l_FnPeriods_k L0 k) (en := f_l_FnPeriods_en) Try.func3 E0ok f_l_FnPeriods_Mt (addL_true f_l_FnPeriods_ttw3 (addL_true f_l_FnPeriods_ttw7 (addL_true f_l_FnPeriods_ttw14 (addL_true f_l_FnPeriods_ttw16 (noL_true))))) f_l_FnPeriods_o (f_l_FnPeriods_e L0) (f_l_FnPeriods_p L0) h
def f_l_FnPeriods_c : CRow := fun args inh => match dec2 [.p .sl] [] args inh with
  | some ([.l L0], []) => some ((f_l_FnPeriods L0).isSome, (f_l_FnPeriods_en ((f_l_FnPeriods L0).getD false)).1, (f_l_FnPeriods_en ((f_l_FnPeriods L0).getD false)).2)
  | _ => none
theorem f_l_FnPeriods_cc : CTrue Try.prog 3 f_l_FnPeriods_c := by
  intro args inh rs out h
  unfold f_l_FnPeriods_c at h
  split at h
  · rename_i hd
    obtain ⟨h1, h2⟩ := dec2_enc hd
    rw [← h1, ← h2]
    exact rowC (f_l_FnPeriods_ok _) h
  · cases h
end
end Go.Proofs.Ytphbclogflflmaa
