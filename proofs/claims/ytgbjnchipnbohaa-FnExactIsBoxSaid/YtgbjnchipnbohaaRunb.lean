/-
  That the program computes just that (printed by gen2.py).
-/
import Derived.Test.YtgbjnchipnbohaaRuna
set_option linter.unusedVariables false
namespace Go.Proofs.Ytgbjnchipnbohaa
open Go Ev
noncomputable section
def f_i_bits_F : Fi := { nv := 0, nc := 0, m := 0, vt := [], kl := [(0, ([1, 2, 4, 5, 6, 7, 8, 9, 10, 11, 12], [0, 1, 2, 4, 5, 6, 7, 8, 9, 10, 11, 12], [0, 1, 3, 4, 5, 6, 7, 8, 9, 10, 11, 12]))], sk := [], mvs := [], fz := [] }
def f_i_bits_a (a0 : Int) : List AV := enc [.p (.int .i64)] [.i a0]
def f_i_bits_i (a0 : Int) : List AV := enc [] []
def f_i_bits_en (r : Int) : List AV × List AV := (enc [.p (.int .i64)] [.i r], enc [] [])
def f_i_bits_M : Calling := noC
theorem f_i_bits_Mt : CallOk Try.prog (f_i_bits_M) := noC_true
theorem f_i_bits_o : loopsOnce Try.f71 = true := by kernel_rfl
def f_i_bits_h0 : List Sh := [.p (.int .i64), .u, .u, .p (.int .i64), .u, .u, .u, .u, .u, .u, .u, .u, .u]
def f_i_bits_fr0 (s : Int × Int) : List AV := enc f_i_bits_h0 [.i s.1, .i s.2]
def f_i_bits_g0_1 : List Sh := [.u, .u, .u, .p (.int .i64), .u, .u, .u, .u, .u, .u, .u, .u, .u]
def f_i_bits_x0_1 (e : Int) : X × List AV := (.out 0, enc f_i_bits_g0_1 [.i e])
def f_i_bits_x0_2 (_e : Unit) : X × List AV := (.ret, [])
theorem f_i_bits_p0 {R : Type} (s : Int × Int) (kN : Int × Int → Option R) (kA : Int → Option R) (kB : Unit → Option R) : f_i_bits_k0 s.1 s.2 kN kA = (f_i_bits_r0 s).bind (Ro.el kN kA kB) := by
  simp only [f_i_bits_k0, f_i_bits_r0, brB, someB, Ro.el]
theorem f_i_bits_e0 (s : Int × Int) : EC E0 f_i_bits_M H0 f_i_bits_F (asL (noL)) 0 (bodyOf Try.f71 0) (f_i_bits_fr0 s) (done (klOf f_i_bits_F 0)) = f_i_bits_k0 s.1 s.2 (fun s => some (.norm, f_i_bits_fr0 s)) (fun e => some (f_i_bits_x0_1 e)) := by kernel_rfl
theorem f_i_bits_l0 : ∀ s r, loopL (f_i_bits_r0) s = some r → LS Try.prog f_i_bits_F (bodyOf Try.f71 0) (f_i_bits_fr0 s) (enX (f_i_bits_x0_1) (f_i_bits_x0_2) r) :=
  loop_true E0ok f_i_bits_Mt (noL_true) f_i_bits_o (fun _ h => by cases h) (fun _ h => by cases h) (fun s => (f_i_bits_e0 s).trans (f_i_bits_p0 s _ _ (fun e => some (f_i_bits_x0_2 e))))
def f_i_bits_t0 (σ : List AV) : Option (Bool × Bool × (X × List AV) × (X × List AV)) := match dec f_i_bits_h0 σ with
  | some [.i a0, .i n3] => some (isOne (loopL (f_i_bits_r0) (a0, n3)), true, f_i_bits_x0_1 (getOne 0 (loopL (f_i_bits_r0) (a0, n3))), (.ret, []))
  | _ => none
theorem f_i_bits_tt0 : TTrue Try.prog f_i_bits_F Try.f71 0 (f_i_bits_t0) := by
  intro σ p r r' h
  unfold f_i_bits_t0 at h
  split at h
  · rename_i hd
    rw [← dec_enc hd]
    exact row1 (f_i_bits_l0 _) h
  · cases h
theorem f_i_bits_p {R : Type} (a0 : Int) (kR : Int → Option R) : f_i_bits_k a0 kR = (f_i_bits_k a0 some).bind kR := by
  simp only [f_i_bits_k, bl1B, someB]
theorem f_i_bits_e (a0 : Int) : runFn E0 f_i_bits_M H0 f_i_bits_F (asL (addL 0 (f_i_bits_t0) (noL))) Try.f71 (f_i_bits_a a0) (f_i_bits_i a0) = f_i_bits_k a0 (fun r => some (f_i_bits_en r)) := by kernel_rfl
theorem f_i_bits_ok (a0 : Int) (r : Int) (h : f_i_bits a0 = some r) : CS Try.prog 71 (f_i_bits_a a0) (f_i_bits_i a0) (f_i_bits_en r).1 (f_i_bits_en r).2 :=
  fn_true (Gk := fun k => f_i_bits_k a0 k) (en := f_i_bits_en) Try.func71 E0ok f_i_bits_Mt (addL_true (f_i_bits_tt0) (noL_true)) f_i_bits_o (f_i_bits_e a0) (f_i_bits_p a0) h
def f_i_bits_c : CRow := fun args inh => match dec2 [.p (.int .i64)] [] args inh with
  | some ([.i a0], []) => some ((f_i_bits a0).isSome, (f_i_bits_en ((f_i_bits a0).getD 0)).1, (f_i_bits_en ((f_i_bits a0).getD 0)).2)
  | _ => none
theorem f_i_bits_cc : CTrue Try.prog 71 f_i_bits_c := by
  intro args inh rs out h
  unfold f_i_bits_c at h
  split at h
  · rename_i hd
    obtain ⟨h1, h2⟩ := dec2_enc hd
    rw [← h1, ← h2]
    exact rowC (f_i_bits_ok _) h
  · cases h

def f_i_IsDirect_F : Fi := { nv := 0, nc := 0, m := 0, vt := [], kl := [], sk := [], mvs := [], fz := [] }
def f_i_IsDirect_a (g0 : List Sc) (a1 : Int) (b2 : Int) : List AV := enc [.p .gr, .p (.int .i64), .p (.int .i64)] [.l g0, .i a1, .i b2]
def f_i_IsDirect_i (g0 : List Sc) (a1 : Int) (b2 : Int) : List AV := enc [] []
def f_i_IsDirect_en (r : Bool) : List AV × List AV := (enc [.p .boo] [.b r], enc [] [])
def f_i_IsDirect_M : Calling := addC 110 f_i_areSets_c (addC 80 f_i_Group_sum_c (addC 71 f_i_bits_c (noC)))
theorem f_i_IsDirect_Mt : CallOk Try.prog (f_i_IsDirect_M) := addC_true f_i_areSets_cc (addC_true f_i_Group_sum_cc (addC_true f_i_bits_cc (noC_true)))
theorem f_i_IsDirect_o : loopsOnce Try.f98 = true := by kernel_rfl
theorem f_i_IsDirect_p {R : Type} (g0 : List Sc) (a1 : Int) (b2 : Int) (kR : Bool → Option R) : f_i_IsDirect_k g0 a1 b2 kR = (f_i_IsDirect_k g0 a1 b2 some).bind kR := by
  simp only [f_i_IsDirect_k, brB, boB, someB]
theorem f_i_IsDirect_e (g0 : List Sc) (a1 : Int) (b2 : Int) : runFn E0 f_i_IsDirect_M H0 f_i_IsDirect_F (asL (noL)) Try.f98 (f_i_IsDirect_a g0 a1 b2) (f_i_IsDirect_i g0 a1 b2) = f_i_IsDirect_k g0 a1 b2 (fun r => some (f_i_IsDirect_en r)) := by kernel_rfl
theorem f_i_IsDirect_ok (g0 : List Sc) (a1 : Int) (b2 : Int) (r : Bool) (h : f_i_IsDirect g0 a1 b2 = some r) : CS Try.prog 98 (f_i_IsDirect_a g0 a1 b2) (f_i_IsDirect_i g0 a1 b2) (f_i_IsDirect_en r).1 (f_i_IsDirect_en r).2 :=
  fn_true (Gk := fun k => f_i_IsDirect_k g0 a1 b2 k) (en := f_i_IsDirect_en) Try.func98 E0ok f_i_IsDirect_Mt (noL_true) f_i_IsDirect_o (f_i_IsDirect_e g0 a1 b2) (f_i_IsDirect_p g0 a1 b2) h
def f_i_IsDirect_c : CRow := fun args inh => match dec2 [.p .gr, .p (.int .i64), .p (.int .i64)] [] args inh with
  | some ([.l g0, .i a1, .i b2], []) => some ((f_i_IsDirect g0 a1 b2).isSome, (f_i_IsDirect_en ((f_i_IsDirect g0 a1 b2).getD false)).1, (f_i_IsDirect_en ((f_i_IsDirect g0 a1 b2).getD false)).2)
  | _ => none
theorem f_i_IsDirect_cc : CTrue Try.prog 98 f_i_IsDirect_c := by
  intro args inh rs out h
  unfold f_i_IsDirect_c at h
  split at h
  · rename_i hd
    obtain ⟨h1, h2⟩ := dec2_enc hd
    rw [← h1, ← h2]
    exact rowC (f_i_IsDirect_ok _ _ _) h
  · cases h

def f_i_FullSet_F : Fi := { nv := 0, nc := 0, m := 0, vt := [], kl := [], sk := [], mvs := [], fz := [] }
def f_i_FullSet_a (g0 : List Sc) : List AV := enc [.p .gr] [.l g0]
def f_i_FullSet_i (g0 : List Sc) : List AV := enc [] []
def f_i_FullSet_en (r : Int) : List AV × List AV := (enc [.p (.int .i64)] [.i r], enc [] [])
def f_i_FullSet_M : Calling := addC 91 f_i_IsGroup_c (addC 55 f_i_OrderOf_c (noC))
theorem f_i_FullSet_Mt : CallOk Try.prog (f_i_FullSet_M) := addC_true f_i_IsGroup_cc (addC_true f_i_OrderOf_cc (noC_true))
theorem f_i_FullSet_o : loopsOnce Try.f99 = true := by kernel_rfl
theorem f_i_FullSet_p {R : Type} (g0 : List Sc) (kR : Int → Option R) : f_i_FullSet_k g0 kR = (f_i_FullSet_k g0 some).bind kR := by
  simp only [f_i_FullSet_k, brB, boB, someB, noneB]
theorem f_i_FullSet_e (g0 : List Sc) : runFn E0 f_i_FullSet_M H0 f_i_FullSet_F (asL (noL)) Try.f99 (f_i_FullSet_a g0) (f_i_FullSet_i g0) = f_i_FullSet_k g0 (fun r => some (f_i_FullSet_en r)) := by kernel_rfl
theorem f_i_FullSet_ok (g0 : List Sc) (r : Int) (h : f_i_FullSet g0 = some r) : CS Try.prog 99 (f_i_FullSet_a g0) (f_i_FullSet_i g0) (f_i_FullSet_en r).1 (f_i_FullSet_en r).2 :=
  fn_true (Gk := fun k => f_i_FullSet_k g0 k) (en := f_i_FullSet_en) Try.func99 E0ok f_i_FullSet_Mt (noL_true) f_i_FullSet_o (f_i_FullSet_e g0) (f_i_FullSet_p g0) h
def f_i_FullSet_c : CRow := fun args inh => match dec2 [.p .gr] [] args inh with
  | some ([.l g0], []) => some ((f_i_FullSet g0).isSome, (f_i_FullSet_en ((f_i_FullSet g0).getD 0)).1, (f_i_FullSet_en ((f_i_FullSet g0).getD 0)).2)
  | _ => none
theorem f_i_FullSet_cc : CTrue Try.prog 99 f_i_FullSet_c := by
  intro args inh rs out h
  unfold f_i_FullSet_c at h
  split at h
  · rename_i hd
    obtain ⟨h1, h2⟩ := dec2_enc hd
    rw [← h1, ← h2]
    exact rowC (f_i_FullSet_ok _) h
  · cases h

def f_i_IsTiling_F : Fi := { nv := 0, nc := 0, m := 0, vt := [], kl := [], sk := [], mvs := [], fz := [] }
def f_i_IsTiling_a (g0 : List Sc) (a1 : Int) (b2 : Int) : List AV := enc [.p .gr, .p (.int .i64), .p (.int .i64)] [.l g0, .i a1, .i b2]
def f_i_IsTiling_i (g0 : List Sc) (a1 : Int) (b2 : Int) : List AV := enc [] []
def f_i_IsTiling_en (r : Bool) : List AV × List AV := (enc [.p .boo] [.b r], enc [] [])
def f_i_IsTiling_M : Calling := addC 98 f_i_IsDirect_c (addC 80 f_i_Group_sum_c (addC 99 f_i_FullSet_c (noC)))
theorem f_i_IsTiling_Mt : CallOk Try.prog (f_i_IsTiling_M) := addC_true f_i_IsDirect_cc (addC_true f_i_Group_sum_cc (addC_true f_i_FullSet_cc (noC_true)))
theorem f_i_IsTiling_o : loopsOnce Try.f64 = true := by kernel_rfl
theorem f_i_IsTiling_p {R : Type} (g0 : List Sc) (a1 : Int) (b2 : Int) (kR : Bool → Option R) : f_i_IsTiling_k g0 a1 b2 kR = (f_i_IsTiling_k g0 a1 b2 some).bind kR := by
  simp only [f_i_IsTiling_k, brB, boB, someB]
theorem f_i_IsTiling_e (g0 : List Sc) (a1 : Int) (b2 : Int) : runFn E0 f_i_IsTiling_M H0 f_i_IsTiling_F (asL (noL)) Try.f64 (f_i_IsTiling_a g0 a1 b2) (f_i_IsTiling_i g0 a1 b2) = f_i_IsTiling_k g0 a1 b2 (fun r => some (f_i_IsTiling_en r)) := by kernel_rfl
theorem f_i_IsTiling_ok (g0 : List Sc) (a1 : Int) (b2 : Int) (r : Bool) (h : f_i_IsTiling g0 a1 b2 = some r) : CS Try.prog 64 (f_i_IsTiling_a g0 a1 b2) (f_i_IsTiling_i g0 a1 b2) (f_i_IsTiling_en r).1 (f_i_IsTiling_en r).2 :=
  fn_true (Gk := fun k => f_i_IsTiling_k g0 a1 b2 k) (en := f_i_IsTiling_en) Try.func64 E0ok f_i_IsTiling_Mt (noL_true) f_i_IsTiling_o (f_i_IsTiling_e g0 a1 b2) (f_i_IsTiling_p g0 a1 b2) h
def f_i_IsTiling_c : CRow := fun args inh => match dec2 [.p .gr, .p (.int .i64), .p (.int .i64)] [] args inh with
  | some ([.l g0, .i a1, .i b2], []) => some ((f_i_IsTiling g0 a1 b2).isSome, (f_i_IsTiling_en ((f_i_IsTiling g0 a1 b2).getD false)).1, (f_i_IsTiling_en ((f_i_IsTiling g0 a1 b2).getD false)).2)
  | _ => none
theorem f_i_IsTiling_cc : CTrue Try.prog 64 f_i_IsTiling_c := by
  intro args inh rs out h
  unfold f_i_IsTiling_c at h
  split at h
  · rename_i hd
    obtain ⟨h1, h2⟩ := dec2_enc hd
    rw [← h1, ← h2]
    exact rowC (f_i_IsTiling_ok _ _ _) h
  · cases h

def f_i_StabilizerOf_F : Fi := { nv := 0, nc := 0, m := 0, vt := [], kl := [(0, ([0, 3, 4, 6, 7, 8, 9, 10, 11, 14, 15, 16, 17, 18, 19, 20, 21, 22, 23, 24, 25, 26, 27], [0, 1, 2, 3, 4, 6, 7, 8, 9, 10, 11, 12, 13, 14, 15, 16, 17, 18, 19, 20, 21, 22, 23, 24, 25, 26, 27], [0, 1, 2, 3, 5, 6, 7, 8, 9, 10, 11, 12, 13, 14, 15, 16, 17, 18, 19, 20, 21, 22, 23, 24, 25, 26, 27]))], sk := [], mvs := [], fz := [] }
def f_i_StabilizerOf_a (g0 : List Sc) (a1 : Int) : List AV := enc [.p .gr, .p (.int .i64)] [.l g0, .i a1]
def f_i_StabilizerOf_i (g0 : List Sc) (a1 : Int) : List AV := enc [] []
def f_i_StabilizerOf_en (r : Int) : List AV × List AV := (enc [.p (.int .i64)] [.i r], enc [] [])
def f_i_StabilizerOf_M : Calling := addC 79 f_i_IsSet_c (addC 55 f_i_OrderOf_c (addC 82 f_i_Group_shift_c (noC)))
theorem f_i_StabilizerOf_Mt : CallOk Try.prog (f_i_StabilizerOf_M) := addC_true f_i_IsSet_cc (addC_true f_i_OrderOf_cc (addC_true f_i_Group_shift_cc (noC_true)))
theorem f_i_StabilizerOf_o : loopsOnce Try.f100 = true := by kernel_rfl
def f_i_StabilizerOf_h0 : List Sh := [.u, .p (.int .i64), .p .el, .u, .u, .p (.int .i64), .u, .u, .u, .u, .u, .u, .p (.int .i64), .p (.int .i64), .u, .u, .u, .u, .u, .u, .u, .u, .u, .u, .u, .u, .u, .u]
def f_i_StabilizerOf_fr0 (a1 : Int) (g2 : List Sc) (t12 : Int) (s : Int × Int) : List AV := enc f_i_StabilizerOf_h0 [.i a1, .l g2, .i s.1, .i t12, .i s.2]
def f_i_StabilizerOf_g0_1 : List Sh := [.u, .u, .u, .u, .u, .p (.int .i64), .u, .u, .u, .u, .u, .u, .u, .u, .u, .u, .u, .u, .u, .u, .u, .u, .u, .u, .u, .u, .u, .u]
def f_i_StabilizerOf_x0_1 (a1 : Int) (g2 : List Sc) (t12 : Int) (e : Int) : X × List AV := (.out 0, enc f_i_StabilizerOf_g0_1 [.i e])
def f_i_StabilizerOf_x0_2 (a1 : Int) (g2 : List Sc) (t12 : Int) (_e : Unit) : X × List AV := (.ret, [])
theorem f_i_StabilizerOf_p0 {R : Type} (a1 : Int) (g2 : List Sc) (t12 : Int) (s : Int × Int) (kN : Int × Int → Option R) (kA : Int → Option R) (kB : Unit → Option R) : f_i_StabilizerOf_k0 a1 g2 t12 s.1 s.2 kN kA = (f_i_StabilizerOf_r0 a1 g2 t12 s).bind (Ro.el kN kA kB) := by
  simp only [f_i_StabilizerOf_k0, f_i_StabilizerOf_r0, brB, boB, someB, noneB, Ro.el]
theorem f_i_StabilizerOf_e0 (a1 : Int) (g2 : List Sc) (t12 : Int) (s : Int × Int) : EC E0 f_i_StabilizerOf_M H0 f_i_StabilizerOf_F (asL (noL)) 0 (bodyOf Try.f100 0) (f_i_StabilizerOf_fr0 a1 g2 t12 s) (done (klOf f_i_StabilizerOf_F 0)) = f_i_StabilizerOf_k0 a1 g2 t12 s.1 s.2 (fun s => some (.norm, f_i_StabilizerOf_fr0 a1 g2 t12 s)) (fun e => some (f_i_StabilizerOf_x0_1 a1 g2 t12 e)) := by kernel_rfl
theorem f_i_StabilizerOf_l0 (a1 : Int) (g2 : List Sc) (t12 : Int) : ∀ s r, loopL (f_i_StabilizerOf_r0 a1 g2 t12) s = some r → LS Try.prog f_i_StabilizerOf_F (bodyOf Try.f100 0) (f_i_StabilizerOf_fr0 a1 g2 t12 s) (enX (f_i_StabilizerOf_x0_1 a1 g2 t12) (f_i_StabilizerOf_x0_2 a1 g2 t12) r) :=
  loop_true E0ok f_i_StabilizerOf_Mt (noL_true) f_i_StabilizerOf_o (fun _ h => by cases h) (fun _ h => by cases h) (fun s => (f_i_StabilizerOf_e0 a1 g2 t12 s).trans (f_i_StabilizerOf_p0 a1 g2 t12 s _ _ (fun e => some (f_i_StabilizerOf_x0_2 a1 g2 t12 e))))
def f_i_StabilizerOf_t0 (σ : List AV) : Option (Bool × Bool × (X × List AV) × (X × List AV)) := match dec f_i_StabilizerOf_h0 σ with
  | some [.i a1, .l g2, .i out5, .i t12, .i t13] => some (isOne (loopL (f_i_StabilizerOf_r0 a1 g2 t12) (out5, t13)), true, f_i_StabilizerOf_x0_1 a1 g2 t12 (getOne 0 (loopL (f_i_StabilizerOf_r0 a1 g2 t12) (out5, t13))), (.ret, []))
  | _ => none
theorem f_i_StabilizerOf_tt0 : TTrue Try.prog f_i_StabilizerOf_F Try.f100 0 (f_i_StabilizerOf_t0) := by
  intro σ p r r' h
  unfold f_i_StabilizerOf_t0 at h
  split at h
  · rename_i hd
    rw [← dec_enc hd]
    exact row1 (f_i_StabilizerOf_l0 _ _ _ _) h
  · cases h
theorem f_i_StabilizerOf_p {R : Type} (g0 : List Sc) (a1 : Int) (kR : Int → Option R) : f_i_StabilizerOf_k g0 a1 kR = (f_i_StabilizerOf_k g0 a1 some).bind kR := by
  simp only [f_i_StabilizerOf_k, brB, boB, bl1B, someB]
theorem f_i_StabilizerOf_e (g0 : List Sc) (a1 : Int) : runFn E0 f_i_StabilizerOf_M H0 f_i_StabilizerOf_F (asL (addL 0 (f_i_StabilizerOf_t0) (noL))) Try.f100 (f_i_StabilizerOf_a g0 a1) (f_i_StabilizerOf_i g0 a1) = f_i_StabilizerOf_k g0 a1 (fun r => some (f_i_StabilizerOf_en r)) := by kernel_rfl
theorem f_i_StabilizerOf_ok (g0 : List Sc) (a1 : Int) (r : Int) (h : f_i_StabilizerOf g0 a1 = some r) : CS Try.prog 100 (f_i_StabilizerOf_a g0 a1) (f_i_StabilizerOf_i g0 a1) (f_i_StabilizerOf_en r).1 (f_i_StabilizerOf_en r).2 :=
  fn_true (Gk := fun k => f_i_StabilizerOf_k g0 a1 k) (en := f_i_StabilizerOf_en) Try.func100 E0ok f_i_StabilizerOf_Mt (addL_true (f_i_StabilizerOf_tt0) (noL_true)) f_i_StabilizerOf_o (f_i_StabilizerOf_e g0 a1) (f_i_StabilizerOf_p g0 a1) h
def f_i_StabilizerOf_c : CRow := fun args inh => match dec2 [.p .gr, .p (.int .i64)] [] args inh with
  | some ([.l g0, .i a1], []) => some ((f_i_StabilizerOf g0 a1).isSome, (f_i_StabilizerOf_en ((f_i_StabilizerOf g0 a1).getD 0)).1, (f_i_StabilizerOf_en ((f_i_StabilizerOf g0 a1).getD 0)).2)
  | _ => none
theorem f_i_StabilizerOf_cc : CTrue Try.prog 100 f_i_StabilizerOf_c := by
  intro args inh rs out h
  unfold f_i_StabilizerOf_c at h
  split at h
  · rename_i hd
    obtain ⟨h1, h2⟩ := dec2_enc hd
    rw [← h1, ← h2]
    exact rowC (f_i_StabilizerOf_ok _ _) h
  · cases h

def f_i_IsPeriodic_F : Fi := { nv := 0, nc := 0, m := 0, vt := [], kl := [], sk := [], mvs := [], fz := [] }
def f_i_IsPeriodic_a (g0 : List Sc) (a1 : Int) : List AV := enc [.p .gr, .p (.int .i64)] [.l g0, .i a1]
def f_i_IsPeriodic_i (g0 : List Sc) (a1 : Int) : List AV := enc [] []
def f_i_IsPeriodic_en (r : Bool) : List AV × List AV := (enc [.p .boo] [.b r], enc [] [])
def f_i_IsPeriodic_M : Calling := addC 79 f_i_IsSet_c (addC 100 f_i_StabilizerOf_c (addC 71 f_i_bits_c (noC)))
theorem f_i_IsPeriodic_Mt : CallOk Try.prog (f_i_IsPeriodic_M) := addC_true f_i_IsSet_cc (addC_true f_i_StabilizerOf_cc (addC_true f_i_bits_cc (noC_true)))
theorem f_i_IsPeriodic_o : loopsOnce Try.f65 = true := by kernel_rfl
theorem f_i_IsPeriodic_p {R : Type} (g0 : List Sc) (a1 : Int) (kR : Bool → Option R) : f_i_IsPeriodic_k g0 a1 kR = (f_i_IsPeriodic_k g0 a1 some).bind kR := by
  simp only [f_i_IsPeriodic_k, brB, boB, someB]
theorem f_i_IsPeriodic_e (g0 : List Sc) (a1 : Int) : runFn E0 f_i_IsPeriodic_M H0 f_i_IsPeriodic_F (asL (noL)) Try.f65 (f_i_IsPeriodic_a g0 a1) (f_i_IsPeriodic_i g0 a1) = f_i_IsPeriodic_k g0 a1 (fun r => some (f_i_IsPeriodic_en r)) := by kernel_rfl
theorem f_i_IsPeriodic_ok (g0 : List Sc) (a1 : Int) (r : Bool) (h : f_i_IsPeriodic g0 a1 = some r) : CS Try.prog 65 (f_i_IsPeriodic_a g0 a1) (f_i_IsPeriodic_i g0 a1) (f_i_IsPeriodic_en r).1 (f_i_IsPeriodic_en r).2 :=
  fn_true (Gk := fun k => f_i_IsPeriodic_k g0 a1 k) (en := f_i_IsPeriodic_en) Try.func65 E0ok f_i_IsPeriodic_Mt (noL_true) f_i_IsPeriodic_o (f_i_IsPeriodic_e g0 a1) (f_i_IsPeriodic_p g0 a1) h
def f_i_IsPeriodic_c : CRow := fun args inh => match dec2 [.p .gr, .p (.int .i64)] [] args inh with
  | some ([.l g0, .i a1], []) => some ((f_i_IsPeriodic g0 a1).isSome, (f_i_IsPeriodic_en ((f_i_IsPeriodic g0 a1).getD false)).1, (f_i_IsPeriodic_en ((f_i_IsPeriodic g0 a1).getD false)).2)
  | _ => none
theorem f_i_IsPeriodic_cc : CTrue Try.prog 65 f_i_IsPeriodic_c := by
  intro args inh rs out h
  unfold f_i_IsPeriodic_c at h
  split at h
  · rename_i hd
    obtain ⟨h1, h2⟩ := dec2_enc hd
    rw [← h1, ← h2]
    exact rowC (f_i_IsPeriodic_ok _ _) h
  · cases h

def f_i_HasPeriodicFactor_F : Fi := { nv := 0, nc := 0, m := 0, vt := [], kl := [], sk := [], mvs := [], fz := [] }
def f_i_HasPeriodicFactor_a (g0 : List Sc) (a1 : Int) (b2 : Int) : List AV := enc [.p .gr, .p (.int .i64), .p (.int .i64)] [.l g0, .i a1, .i b2]
def f_i_HasPeriodicFactor_i (g0 : List Sc) (a1 : Int) (b2 : Int) : List AV := enc [] []
def f_i_HasPeriodicFactor_en (r : Bool) : List AV × List AV := (enc [.p .boo] [.b r], enc [] [])
def f_i_HasPeriodicFactor_M : Calling := addC 64 f_i_IsTiling_c (addC 65 f_i_IsPeriodic_c (noC))
theorem f_i_HasPeriodicFactor_Mt : CallOk Try.prog (f_i_HasPeriodicFactor_M) := addC_true f_i_IsTiling_cc (addC_true f_i_IsPeriodic_cc (noC_true))
theorem f_i_HasPeriodicFactor_o : loopsOnce Try.f26 = true := by kernel_rfl
theorem f_i_HasPeriodicFactor_p {R : Type} (g0 : List Sc) (a1 : Int) (b2 : Int) (kR : Bool → Option R) : f_i_HasPeriodicFactor_k g0 a1 b2 kR = (f_i_HasPeriodicFactor_k g0 a1 b2 some).bind kR := by
  simp only [f_i_HasPeriodicFactor_k, brB, boB, someB]
theorem f_i_HasPeriodicFactor_e (g0 : List Sc) (a1 : Int) (b2 : Int) : runFn E0 f_i_HasPeriodicFactor_M H0 f_i_HasPeriodicFactor_F (asL (noL)) Try.f26 (f_i_HasPeriodicFactor_a g0 a1 b2) (f_i_HasPeriodicFactor_i g0 a1 b2) = f_i_HasPeriodicFactor_k g0 a1 b2 (fun r => some (f_i_HasPeriodicFactor_en r)) := by kernel_rfl
theorem f_i_HasPeriodicFactor_ok (g0 : List Sc) (a1 : Int) (b2 : Int) (r : Bool) (h : f_i_HasPeriodicFactor g0 a1 b2 = some r) : CS Try.prog 26 (f_i_HasPeriodicFactor_a g0 a1 b2) (f_i_HasPeriodicFactor_i g0 a1 b2) (f_i_HasPeriodicFactor_en r).1 (f_i_HasPeriodicFactor_en r).2 :=
  fn_true (Gk := fun k => f_i_HasPeriodicFactor_k g0 a1 b2 k) (en := f_i_HasPeriodicFactor_en) Try.func26 E0ok f_i_HasPeriodicFactor_Mt (noL_true) f_i_HasPeriodicFactor_o (f_i_HasPeriodicFactor_e g0 a1 b2) (f_i_HasPeriodicFactor_p g0 a1 b2) h
def f_i_HasPeriodicFactor_c : CRow := fun args inh => match dec2 [.p .gr, .p (.int .i64), .p (.int .i64)] [] args inh with
  | some ([.l g0, .i a1, .i b2], []) => some ((f_i_HasPeriodicFactor g0 a1 b2).isSome, (f_i_HasPeriodicFactor_en ((f_i_HasPeriodicFactor g0 a1 b2).getD false)).1, (f_i_HasPeriodicFactor_en ((f_i_HasPeriodicFactor g0 a1 b2).getD false)).2)
  | _ => none
theorem f_i_HasPeriodicFactor_cc : CTrue Try.prog 26 f_i_HasPeriodicFactor_c := by
  intro args inh rs out h
  unfold f_i_HasPeriodicFactor_c at h
  split at h
  · rename_i hd
    obtain ⟨h1, h2⟩ := dec2_enc hd
    rw [← h1, ← h2]
    exact rowC (f_i_HasPeriodicFactor_ok _ _ _) h
  · cases h

def f_l_FnExactHasPeriodicFactor_F : Fi := { nv := 3, nc := 1, m := 0, vt := [(9, 0), (17, 1), (22, 2)], kl := [], sk := [], mvs := [1, 2], fz := [] }
def f_l_FnExactHasPeriodicFactor_a (aG0 : List Sc) (aA1 : Int) (aB2 : Int) : List AV := enc [.p .gr, .p (.int .i64), .p (.int .i64)] [.l aG0, .i aA1, .i aB2]
def f_l_FnExactHasPeriodicFactor_i (aG0 : List Sc) (aA1 : Int) (aB2 : Int) : List AV := enc [] []
def f_l_FnExactHasPeriodicFactor_en (r : Bool) : List AV × List AV := (enc [.p .boo] [.b r], enc [] [])
def f_l_FnExactHasPeriodicFactor_M : Calling := addC 14 f_l_szGroup_c (addC 16 f_l_toGroup_c (addC 25 f_s_HasPeriodicFactor_c (addC 26 f_i_HasPeriodicFactor_c (addC 19 f_l_eqGroup_c (noC)))))
theorem f_l_FnExactHasPeriodicFactor_Mt : CallOk Try.prog (f_l_FnExactHasPeriodicFactor_M) := addC_true f_l_szGroup_cc (addC_true f_l_toGroup_cc (addC_true f_s_HasPeriodicFactor_cc (addC_true f_i_HasPeriodicFactor_cc (addC_true f_l_eqGroup_cc (noC_true)))))
theorem f_l_FnExactHasPeriodicFactor_o : loopsOnce Try.f6 = true := by kernel_rfl
theorem f_l_FnExactHasPeriodicFactor_p {R : Type} (aG0 : List Sc) (aA1 : Int) (aB2 : Int) (kR : Bool → Option R) : f_l_FnExactHasPeriodicFactor_k aG0 aA1 aB2 kR = (f_l_FnExactHasPeriodicFactor_k aG0 aA1 aB2 some).bind kR := by
  simp only [f_l_FnExactHasPeriodicFactor_k, brB, boB, someB]
theorem f_l_FnExactHasPeriodicFactor_e (aG0 : List Sc) (aA1 : Int) (aB2 : Int) : runFn E0 f_l_FnExactHasPeriodicFactor_M H0 f_l_FnExactHasPeriodicFactor_F (asL (noL)) Try.f6 (f_l_FnExactHasPeriodicFactor_a aG0 aA1 aB2) (f_l_FnExactHasPeriodicFactor_i aG0 aA1 aB2) = f_l_FnExactHasPeriodicFactor_k aG0 aA1 aB2 (fun r => some (f_l_FnExactHasPeriodicFactor_en r)) := by kernel_rfl
theorem f_l_FnExactHasPeriodicFactor_ok (aG0 : List Sc) (aA1 : Int) (aB2 : Int) (r : Bool) (h : f_l_FnExactHasPeriodicFactor aG0 aA1 aB2 = some r) : CS Try.prog 6 (f_l_FnExactHasPeriodicFactor_a aG0 aA1 aB2) (f_l_FnExactHasPeriodicFactor_i aG0 aA1 aB2) (f_l_FnExactHasPeriodicFactor_en r).1 (f_l_FnExactHasPeriodicFactor_en r).2 :=
  fn_true (Gk := fun k => f_l_FnExactHasPeriodicFactor_k aG0 aA1 aB2 k) (en := f_l_FnExactHasPeriodicFactor_en) Try.func6 E0ok f_l_FnExactHasPeriodicFactor_Mt (noL_true) f_l_FnExactHasPeriodicFactor_o (f_l_FnExactHasPeriodicFactor_e aG0 aA1 aB2) (f_l_FnExactHasPeriodicFactor_p aG0 aA1 aB2) h
def f_l_FnExactHasPeriodicFactor_c : CRow := fun args inh => match dec2 [.p .gr, .p (.int .i64), .p (.int .i64)] [] args inh with
  | some ([.l aG0, .i aA1, .i aB2], []) => some ((f_l_FnExactHasPeriodicFactor aG0 aA1 aB2).isSome, (f_l_FnExactHasPeriodicFactor_en ((f_l_FnExactHasPeriodicFactor aG0 aA1 aB2).getD false)).1, (f_l_FnExactHasPeriodicFactor_en ((f_l_FnExactHasPeriodicFactor aG0 aA1 aB2).getD false)).2)
  | _ => none
theorem f_l_FnExactHasPeriodicFactor_cc : CTrue Try.prog 6 f_l_FnExactHasPeriodicFactor_c := by
  intro args inh rs out h
  unfold f_l_FnExactHasPeriodicFactor_c at h
  split at h
  · rename_i hd
    obtain ⟨h1, h2⟩ := dec2_enc hd
    rw [← h1, ← h2]
    exact rowC (f_l_FnExactHasPeriodicFactor_ok _ _ _) h
  · cases h

def f_s_l16Part_F : Fi := { nv := 0, nc := 0, m := 0, vt := [], kl := [(0, ([2, 3, 4, 7, 8, 9, 10, 11, 12, 13, 14, 15, 16, 17, 18, 19, 20, 21, 22, 23, 24, 25, 26], [0, 1, 2, 3, 4, 6, 7, 8, 9, 10, 11, 12, 13, 14, 15, 16, 17, 18, 19, 20, 21, 22, 23, 24, 25, 26], [0, 1, 2, 3, 5, 6, 7, 8, 9, 10, 11, 12, 13, 14, 15, 16, 17, 18, 19, 20, 21, 22, 23, 24, 25, 26]))], sk := [], mvs := [], fz := [] }
def f_s_l16Part_a (l0 : List Sc) (code1 : Int) : List AV := enc [.p .sl, .p (.int .i64)] [.l l0, .i code1]
def f_s_l16Part_i (l0 : List Sc) (code1 : Int) : List AV := enc [] []
def f_s_l16Part_en (r : List Sc) : List AV × List AV := (enc [.p (.al 0)] [], enc [.own 3] [.l r])
def f_s_l16Part_M : Calling := noC
theorem f_s_l16Part_Mt : CallOk Try.prog (f_s_l16Part_M) := noC_true
theorem f_s_l16Part_o : loopsOnce Try.f66 = true := by kernel_rfl
def f_s_l16Part_h0 : List Sh := [.p .sl, .p (.int .i64), .u, .u, .u, .own 3, .p (.int .i64), .u, .u, .u, .u, .u, .u, .u, .u, .u, .u, .u, .u, .u, .u, .u, .u, .u, .u, .u, .u]
def f_s_l16Part_fr0 (l0 : List Sc) (code1 : Int) (s : List Sc × Int) : List AV := enc f_s_l16Part_h0 [.l l0, .i code1, .l s.1, .i s.2]
def f_s_l16Part_g0_1 : List Sh := [.u, .u, .u, .u, .u, .own 3, .u, .u, .u, .u, .u, .u, .u, .u, .u, .u, .u, .u, .u, .u, .u, .u, .u, .u, .u, .u, .u]
def f_s_l16Part_x0_1 (l0 : List Sc) (code1 : Int) (e : List Sc) : X × List AV := (.out 0, enc f_s_l16Part_g0_1 [.l e])
def f_s_l16Part_x0_2 (l0 : List Sc) (code1 : Int) (_e : Unit) : X × List AV := (.ret, [])
theorem f_s_l16Part_p0 {R : Type} (l0 : List Sc) (code1 : Int) (s : List Sc × Int) (kN : List Sc × Int → Option R) (kA : List Sc → Option R) (kB : Unit → Option R) : f_s_l16Part_k0 l0 code1 s.1 s.2 kN kA = (f_s_l16Part_r0 l0 code1 s).bind (Ro.el kN kA kB) := by
  simp only [f_s_l16Part_k0, f_s_l16Part_r0, brB, someB, noneB, Ro.el]
theorem f_s_l16Part_e0 (l0 : List Sc) (code1 : Int) (s : List Sc × Int) : EC E0 f_s_l16Part_M H0 f_s_l16Part_F (asL (noL)) 0 (bodyOf Try.f66 0) (f_s_l16Part_fr0 l0 code1 s) (done (klOf f_s_l16Part_F 0)) = f_s_l16Part_k0 l0 code1 s.1 s.2 (fun s => some (.norm, f_s_l16Part_fr0 l0 code1 s)) (fun e => some (f_s_l16Part_x0_1 l0 code1 e)) := by kernel_rfl
theorem f_s_l16Part_l0 (l0 : List Sc) (code1 : Int) : ∀ s r, loopL (f_s_l16Part_r0 l0 code1) s = some r → LS Try.prog f_s_l16Part_F (bodyOf Try.f66 0) (f_s_l16Part_fr0 l0 code1 s) (enX (f_s_l16Part_x0_1 l0 code1) (f_s_l16Part_x0_2 l0 code1) r) :=
  loop_true E0ok f_s_l16Part_Mt (noL_true) f_s_l16Part_o (fun _ h => by cases h) (fun _ h => by cases h) (fun s => (f_s_l16Part_e0 l0 code1 s).trans (f_s_l16Part_p0 l0 code1 s _ _ (fun e => some (f_s_l16Part_x0_2 l0 code1 e))))
def f_s_l16Part_t0 (σ : List AV) : Option (Bool × Bool × (X × List AV) × (X × List AV)) := match dec f_s_l16Part_h0 σ with
  | some [.l l0, .i code1, .l out5, .i i6] => some (isOne (loopL (f_s_l16Part_r0 l0 code1) (out5, i6)), true, f_s_l16Part_x0_1 l0 code1 (getOne [] (loopL (f_s_l16Part_r0 l0 code1) (out5, i6))), (.ret, []))
  | _ => none
theorem f_s_l16Part_tt0 : TTrue Try.prog f_s_l16Part_F Try.f66 0 (f_s_l16Part_t0) := by
  intro σ p r r' h
  unfold f_s_l16Part_t0 at h
  split at h
  · rename_i hd
    rw [← dec_enc hd]
    exact row1 (f_s_l16Part_l0 _ _ _) h
  · cases h
theorem f_s_l16Part_p {R : Type} (l0 : List Sc) (code1 : Int) (kR : List Sc → Option R) : f_s_l16Part_k l0 code1 kR = (f_s_l16Part_k l0 code1 some).bind kR := by
  simp only [f_s_l16Part_k, bl1B, someB]
theorem f_s_l16Part_e (l0 : List Sc) (code1 : Int) : runFn E0 f_s_l16Part_M H0 f_s_l16Part_F (asL (addL 0 (f_s_l16Part_t0) (noL))) Try.f66 (f_s_l16Part_a l0 code1) (f_s_l16Part_i l0 code1) = f_s_l16Part_k l0 code1 (fun r => some (f_s_l16Part_en r)) := by kernel_rfl
theorem f_s_l16Part_ok (l0 : List Sc) (code1 : Int) (r : List Sc) (h : f_s_l16Part l0 code1 = some r) : CS Try.prog 66 (f_s_l16Part_a l0 code1) (f_s_l16Part_i l0 code1) (f_s_l16Part_en r).1 (f_s_l16Part_en r).2 :=
  fn_true (Gk := fun k => f_s_l16Part_k l0 code1 k) (en := f_s_l16Part_en) Try.func66 E0ok f_s_l16Part_Mt (addL_true (f_s_l16Part_tt0) (noL_true)) f_s_l16Part_o (f_s_l16Part_e l0 code1) (f_s_l16Part_p l0 code1) h
def f_s_l16Part_c : CRow := fun args inh => match dec2 [.p .sl, .p (.int .i64)] [] args inh with
  | some ([.l l0, .i code1], []) => some ((f_s_l16Part l0 code1).isSome, (f_s_l16Part_en ((f_s_l16Part l0 code1).getD [])).1, (f_s_l16Part_en ((f_s_l16Part l0 code1).getD [])).2)
  | _ => none
theorem f_s_l16Part_cc : CTrue Try.prog 66 f_s_l16Part_c := by
  intro args inh rs out h
  unfold f_s_l16Part_c at h
  split at h
  · rename_i hd
    obtain ⟨h1, h2⟩ := dec2_enc hd
    rw [← h1, ← h2]
    exact rowC (f_s_l16Part_ok _ _) h
  · cases h

def f_s_ShortestZero_F : Fi := { nv := 0, nc := 0, m := 0, vt := [], kl := [(0, ([0, 3, 4, 5, 8, 9, 10, 11, 12, 13, 14, 15, 16, 17, 18, 19, 20, 21, 22, 23, 24, 25, 26, 27, 28, 29, 30, 31, 32, 33, 34, 35, 36, 37, 38, 39, 40, 41, 42, 43, 44, 45], [0, 1, 2, 3, 4, 5, 7, 8, 9, 10, 11, 12, 13, 14, 15, 16, 17, 18, 19, 20, 21, 22, 23, 24, 25, 26, 27, 28, 29, 30, 31, 32, 33, 34, 35, 36, 37, 38, 39, 40, 41, 42, 43, 44, 45], [0, 1, 2, 3, 6, 7, 8, 9, 10, 11, 12, 13, 14, 15, 16, 17, 18, 19, 20, 21, 22, 23, 24, 25, 26, 27, 28, 29, 30, 31, 32, 33, 34, 35, 36, 37, 38, 39, 40, 41, 42, 43, 44, 45]))], sk := [], mvs := [], fz := [] }
def f_s_ShortestZero_a (g0 : List Sc) (l1 : List Sc) : List AV := enc [.p .gr, .p .sl] [.l g0, .l l1]
def f_s_ShortestZero_i (g0 : List Sc) (l1 : List Sc) : List AV := enc [] []
def f_s_ShortestZero_en (r : List Sc × Bool) : List AV × List AV := (enc [.p (.al 0), .p .boo] [.b r.2], enc [.own 3] [.l r.1])
def f_s_ShortestZero_M : Calling := addC 45 f_s_IsSequence_c (addC 66 f_s_l16Part_c (addC 67 f_s_l16Sum_c (noC)))
theorem f_s_ShortestZero_Mt : CallOk Try.prog (f_s_ShortestZero_M) := addC_true f_s_IsSequence_cc (addC_true f_s_l16Part_cc (addC_true f_s_l16Sum_cc (noC_true)))
theorem f_s_ShortestZero_o : loopsOnce Try.f27 = true := by kernel_rfl
def f_s_ShortestZero_h0 : List Sh := [.u, .p .sl, .p .el, .u, .u, .u, .own 3, .p (.int .i64), .u, .u, .u, .u, .u, .u, .u, .u, .u, .u, .u, .u, .u, .u, .u, .u, .u, .u, .u, .u, .u, .u, .u, .u, .u, .u, .u, .u, .u, .u, .u, .u, .u, .u, .u, .u, .u, .u]
def f_s_ShortestZero_fr0 (l1 : List Sc) (g2 : List Sc) (s : List Sc × Int) : List AV := enc f_s_ShortestZero_h0 [.l l1, .l g2, .l s.1, .i s.2]
def f_s_ShortestZero_g0_1 : List Sh := [.u, .u, .u, .u, .u, .u, .own 3, .u, .u, .u, .u, .u, .u, .u, .u, .u, .u, .u, .u, .u, .u, .u, .u, .u, .u, .u, .u, .u, .u, .u, .u, .u, .u, .u, .u, .u, .u, .u, .u, .u, .u, .u, .u, .u, .u, .u]
def f_s_ShortestZero_x0_1 (l1 : List Sc) (g2 : List Sc) (e : List Sc) : X × List AV := (.out 0, enc f_s_ShortestZero_g0_1 [.l e])
def f_s_ShortestZero_x0_2 (l1 : List Sc) (g2 : List Sc) (_e : Unit) : X × List AV := (.ret, [])
theorem f_s_ShortestZero_p0 {R : Type} (l1 : List Sc) (g2 : List Sc) (s : List Sc × Int) (kN : List Sc × Int → Option R) (kA : List Sc → Option R) (kB : Unit → Option R) : f_s_ShortestZero_k0 l1 g2 s.1 s.2 kN kA = (f_s_ShortestZero_r0 l1 g2 s).bind (Ro.el kN kA kB) := by
  simp only [f_s_ShortestZero_k0, f_s_ShortestZero_r0, brB, boB, someB, noneB, Ro.el]
theorem f_s_ShortestZero_e0 (l1 : List Sc) (g2 : List Sc) (s : List Sc × Int) : EC E0 f_s_ShortestZero_M H0 f_s_ShortestZero_F (asL (noL)) 0 (bodyOf Try.f27 0) (f_s_ShortestZero_fr0 l1 g2 s) (done (klOf f_s_ShortestZero_F 0)) = f_s_ShortestZero_k0 l1 g2 s.1 s.2 (fun s => some (.norm, f_s_ShortestZero_fr0 l1 g2 s)) (fun e => some (f_s_ShortestZero_x0_1 l1 g2 e)) := by kernel_rfl
theorem f_s_ShortestZero_l0 (l1 : List Sc) (g2 : List Sc) : ∀ s r, loopL (f_s_ShortestZero_r0 l1 g2) s = some r → LS Try.prog f_s_ShortestZero_F (bodyOf Try.f27 0) (f_s_ShortestZero_fr0 l1 g2 s) (enX (f_s_ShortestZero_x0_1 l1 g2) (f_s_ShortestZero_x0_2 l1 g2) r) :=
  loop_true E0ok f_s_ShortestZero_Mt (noL_true) f_s_ShortestZero_o (fun _ h => by cases h) (fun _ h => by cases h) (fun s => (f_s_ShortestZero_e0 l1 g2 s).trans (f_s_ShortestZero_p0 l1 g2 s _ _ (fun e => some (f_s_ShortestZero_x0_2 l1 g2 e))))
def f_s_ShortestZero_t0 (σ : List AV) : Option (Bool × Bool × (X × List AV) × (X × List AV)) := match dec f_s_ShortestZero_h0 σ with
  | some [.l l1, .l g2, .l best6, .i code7] => some (isOne (loopL (f_s_ShortestZero_r0 l1 g2) (best6, code7)), true, f_s_ShortestZero_x0_1 l1 g2 (getOne [] (loopL (f_s_ShortestZero_r0 l1 g2) (best6, code7))), (.ret, []))
  | _ => none
theorem f_s_ShortestZero_tt0 : TTrue Try.prog f_s_ShortestZero_F Try.f27 0 (f_s_ShortestZero_t0) := by
  intro σ p r r' h
  unfold f_s_ShortestZero_t0 at h
  split at h
  · rename_i hd
    rw [← dec_enc hd]
    exact row1 (f_s_ShortestZero_l0 _ _ _) h
  · cases h
theorem f_s_ShortestZero_p {R : Type} (g0 : List Sc) (l1 : List Sc) (kR : List Sc × Bool → Option R) : f_s_ShortestZero_k g0 l1 kR = (f_s_ShortestZero_k g0 l1 some).bind kR := by
  simp only [f_s_ShortestZero_k, bl1B, someB]
theorem f_s_ShortestZero_e (g0 : List Sc) (l1 : List Sc) : runFn E0 f_s_ShortestZero_M H0 f_s_ShortestZero_F (asL (addL 0 (f_s_ShortestZero_t0) (noL))) Try.f27 (f_s_ShortestZero_a g0 l1) (f_s_ShortestZero_i g0 l1) = f_s_ShortestZero_k g0 l1 (fun r => some (f_s_ShortestZero_en r)) := by kernel_rfl
theorem f_s_ShortestZero_ok (g0 : List Sc) (l1 : List Sc) (r : List Sc × Bool) (h : f_s_ShortestZero g0 l1 = some r) : CS Try.prog 27 (f_s_ShortestZero_a g0 l1) (f_s_ShortestZero_i g0 l1) (f_s_ShortestZero_en r).1 (f_s_ShortestZero_en r).2 :=
  fn_true (Gk := fun k => f_s_ShortestZero_k g0 l1 k) (en := f_s_ShortestZero_en) Try.func27 E0ok f_s_ShortestZero_Mt (addL_true (f_s_ShortestZero_tt0) (noL_true)) f_s_ShortestZero_o (f_s_ShortestZero_e g0 l1) (f_s_ShortestZero_p g0 l1) h
def f_s_ShortestZero_c : CRow := fun args inh => match dec2 [.p .gr, .p .sl] [] args inh with
  | some ([.l g0, .l l1], []) => some ((f_s_ShortestZero g0 l1).isSome, (f_s_ShortestZero_en ((f_s_ShortestZero g0 l1).getD ([], false))).1, (f_s_ShortestZero_en ((f_s_ShortestZero g0 l1).getD ([], false))).2)
  | _ => none
theorem f_s_ShortestZero_cc : CTrue Try.prog 27 f_s_ShortestZero_c := by
  intro args inh rs out h
  unfold f_s_ShortestZero_c at h
  split at h
  · rename_i hd
    obtain ⟨h1, h2⟩ := dec2_enc hd
    rw [← h1, ← h2]
    exact rowC (f_s_ShortestZero_ok _ _) h
  · cases h

def f_i_ZeroOfLength_F : Fi := { nv := 0, nc := 0, m := 0, vt := [], kl := [(0, ([0, 4, 5, 6, 7, 8, 9, 10, 11, 12, 13, 14, 15, 16, 17, 18, 19, 20, 21, 22, 25, 26, 27, 28, 29, 30, 31, 32, 33, 34, 35, 36, 37, 38, 39, 40, 41, 42, 43], [0, 1, 2, 3, 4, 5, 6, 7, 8, 9, 10, 11, 12, 13, 14, 15, 16, 17, 18, 19, 20, 21, 22, 23, 24, 25, 26, 27, 28, 29, 30, 31, 32, 33, 34, 35, 36, 37, 38, 39, 40, 41, 42, 43], [0, 1, 2, 3, 4, 5, 8, 9, 10, 11, 12, 13, 14, 15, 16, 17, 18, 19, 20, 21, 22, 23, 24, 25, 26, 27, 28, 29, 30, 31, 32, 33, 34, 35, 36, 37, 38, 39, 40, 41, 42, 43]))], sk := [], mvs := [], fz := [] }
def f_i_ZeroOfLength_a (g0 : List Sc) (l1 : List Sc) (k2 : Int) : List AV := enc [.p .gr, .p .sl, .p (.int .i64)] [.l g0, .l l1, .i k2]
def f_i_ZeroOfLength_i (g0 : List Sc) (l1 : List Sc) (k2 : Int) : List AV := enc [] []
def f_i_ZeroOfLength_en (r : List Sc × Bool) : List AV × List AV := (enc [.p (.al 0), .p .boo] [.b r.2], enc [.own 3] [.l r.1])
def f_i_ZeroOfLength_M : Calling := addC 48 f_i_IsSequence_c (addC 70 f_i_within_c (addC 71 f_i_bits_c (addC 61 f_i_part_c (addC 60 f_i_Group_total_c (noC)))))
theorem f_i_ZeroOfLength_Mt : CallOk Try.prog (f_i_ZeroOfLength_M) := addC_true f_i_IsSequence_cc (addC_true f_i_within_cc (addC_true f_i_bits_cc (addC_true f_i_part_cc (addC_true f_i_Group_total_cc (noC_true)))))
theorem f_i_ZeroOfLength_o : loopsOnce Try.f33 = true := by kernel_rfl
def f_i_ZeroOfLength_h0 : List Sh := [.u, .p .sl, .p (.int .i64), .p .el, .u, .u, .u, .u, .u, .u, .u, .u, .u, .u, .u, .u, .u, .u, .u, .u, .u, .u, .u, .p (.int .i64), .p (.int .i64), .u, .u, .u, .u, .u, .u, .u, .u, .u, .u, .u, .u, .u, .u, .u, .u, .u, .u, .u]
def f_i_ZeroOfLength_fr0 (l1 : List Sc) (k2 : Int) (g3 : List Sc) (t23 : Int) (s : Int) : List AV := enc f_i_ZeroOfLength_h0 [.l l1, .i k2, .l g3, .i t23, .i s]
def f_i_ZeroOfLength_g0_1 : List Sh := [.u, .u, .u, .u, .u, .u, .u, .u, .u, .u, .u, .u, .u, .u, .u, .u, .u, .u, .u, .u, .u, .u, .u, .u, .u, .u, .u, .u, .u, .u, .u, .u, .u, .u, .u, .u, .u, .u, .u, .u, .u, .u, .u, .u]
def f_i_ZeroOfLength_x0_1 (l1 : List Sc) (k2 : Int) (g3 : List Sc) (t23 : Int) (e : Unit) : X × List AV := (.out 0, enc f_i_ZeroOfLength_g0_1 [])
def f_i_ZeroOfLength_g0_2 : List Sh := [.u, .u, .u, .u, .u, .u, .own 3, .p .boo, .u, .u, .u, .u, .u, .u, .u, .u, .u, .u, .u, .u, .u, .u, .u, .u, .u, .u, .u, .u, .u, .u, .u, .u, .u, .u, .u, .u, .u, .u, .u, .u, .u, .u, .u, .u]
def f_i_ZeroOfLength_x0_2 (l1 : List Sc) (k2 : Int) (g3 : List Sc) (t23 : Int) (e : List Sc) : X × List AV := (.ret, enc f_i_ZeroOfLength_g0_2 [.l e, .b true])
theorem f_i_ZeroOfLength_p0 {R : Type} (l1 : List Sc) (k2 : Int) (g3 : List Sc) (t23 : Int) (s : Int) (kN : Int → Option R) (kA : Unit → Option R) (kB : List Sc → Option R) : f_i_ZeroOfLength_k0 l1 k2 g3 t23 s kN kA kB = (f_i_ZeroOfLength_r0 l1 k2 g3 t23 s).bind (Ro.el kN kA kB) := by
  simp only [f_i_ZeroOfLength_k0, f_i_ZeroOfLength_r0, brB, boB, someB, Ro.el]
theorem f_i_ZeroOfLength_e0 (l1 : List Sc) (k2 : Int) (g3 : List Sc) (t23 : Int) (s : Int) : EC E0 f_i_ZeroOfLength_M H0 f_i_ZeroOfLength_F (asL (noL)) 0 (bodyOf Try.f33 0) (f_i_ZeroOfLength_fr0 l1 k2 g3 t23 s) (done (klOf f_i_ZeroOfLength_F 0)) = f_i_ZeroOfLength_k0 l1 k2 g3 t23 s (fun s => some (.norm, f_i_ZeroOfLength_fr0 l1 k2 g3 t23 s)) (fun e => some (f_i_ZeroOfLength_x0_1 l1 k2 g3 t23 e)) (fun e => some (f_i_ZeroOfLength_x0_2 l1 k2 g3 t23 e)) := by kernel_rfl
theorem f_i_ZeroOfLength_l0 (l1 : List Sc) (k2 : Int) (g3 : List Sc) (t23 : Int) : ∀ s r, loopL (f_i_ZeroOfLength_r0 l1 k2 g3 t23) s = some r → LS Try.prog f_i_ZeroOfLength_F (bodyOf Try.f33 0) (f_i_ZeroOfLength_fr0 l1 k2 g3 t23 s) (enX (f_i_ZeroOfLength_x0_1 l1 k2 g3 t23) (f_i_ZeroOfLength_x0_2 l1 k2 g3 t23) r) :=
  loop_true E0ok f_i_ZeroOfLength_Mt (noL_true) f_i_ZeroOfLength_o (fun _ h => by cases h) (fun _ h => by cases h) (fun s => (f_i_ZeroOfLength_e0 l1 k2 g3 t23 s).trans (f_i_ZeroOfLength_p0 l1 k2 g3 t23 s _ _ (fun e => some (f_i_ZeroOfLength_x0_2 l1 k2 g3 t23 e))))
def f_i_ZeroOfLength_t0 (σ : List AV) : Option (Bool × Bool × (X × List AV) × (X × List AV)) := match dec f_i_ZeroOfLength_h0 σ with
  | some [.l l1, .i k2, .l g3, .i t23, .i t24] => some ((loopL (f_i_ZeroOfLength_r0 l1 k2 g3 t23) t24).isSome, isOne (loopL (f_i_ZeroOfLength_r0 l1 k2 g3 t23) t24), f_i_ZeroOfLength_x0_1 l1 k2 g3 t23 (getOne () (loopL (f_i_ZeroOfLength_r0 l1 k2 g3 t23) t24)), f_i_ZeroOfLength_x0_2 l1 k2 g3 t23 (getTwo [] (loopL (f_i_ZeroOfLength_r0 l1 k2 g3 t23) t24)))
  | _ => none
theorem f_i_ZeroOfLength_tt0 : TTrue Try.prog f_i_ZeroOfLength_F Try.f33 0 (f_i_ZeroOfLength_t0) := by
  intro σ p r r' h
  unfold f_i_ZeroOfLength_t0 at h
  split at h
  · rename_i hd
    rw [← dec_enc hd]
    exact row2 (f_i_ZeroOfLength_l0 _ _ _ _ _) h
  · cases h
theorem f_i_ZeroOfLength_p {R : Type} (g0 : List Sc) (l1 : List Sc) (k2 : Int) (kR : List Sc × Bool → Option R) : f_i_ZeroOfLength_k g0 l1 k2 kR = (f_i_ZeroOfLength_k g0 l1 k2 some).bind kR := by
  simp only [f_i_ZeroOfLength_k, brB, boB, blB, someB, noneB]
theorem f_i_ZeroOfLength_e (g0 : List Sc) (l1 : List Sc) (k2 : Int) : runFn E0 f_i_ZeroOfLength_M H0 f_i_ZeroOfLength_F (asL (addL 0 (f_i_ZeroOfLength_t0) (noL))) Try.f33 (f_i_ZeroOfLength_a g0 l1 k2) (f_i_ZeroOfLength_i g0 l1 k2) = f_i_ZeroOfLength_k g0 l1 k2 (fun r => some (f_i_ZeroOfLength_en r)) := by kernel_rfl
theorem f_i_ZeroOfLength_ok (g0 : List Sc) (l1 : List Sc) (k2 : Int) (r : List Sc × Bool) (h : f_i_ZeroOfLength g0 l1 k2 = some r) : CS Try.prog 33 (f_i_ZeroOfLength_a g0 l1 k2) (f_i_ZeroOfLength_i g0 l1 k2) (f_i_ZeroOfLength_en r).1 (f_i_ZeroOfLength_en r).2 :=
  fn_true (Gk := fun k => f_i_ZeroOfLength_k g0 l1 k2 k) (en := f_i_ZeroOfLength_en) Try.func33 E0ok f_i_ZeroOfLength_Mt (addL_true (f_i_ZeroOfLength_tt0) (noL_true)) f_i_ZeroOfLength_o (f_i_ZeroOfLength_e g0 l1 k2) (f_i_ZeroOfLength_p g0 l1 k2) h
def f_i_ZeroOfLength_c : CRow := fun args inh => match dec2 [.p .gr, .p .sl, .p (.int .i64)] [] args inh with
  | some ([.l g0, .l l1, .i k2], []) => some ((f_i_ZeroOfLength g0 l1 k2).isSome, (f_i_ZeroOfLength_en ((f_i_ZeroOfLength g0 l1 k2).getD ([], false))).1, (f_i_ZeroOfLength_en ((f_i_ZeroOfLength g0 l1 k2).getD ([], false))).2)
  | _ => none
theorem f_i_ZeroOfLength_cc : CTrue Try.prog 33 f_i_ZeroOfLength_c := by
  intro args inh rs out h
  unfold f_i_ZeroOfLength_c at h
  split at h
  · rename_i hd
    obtain ⟨h1, h2⟩ := dec2_enc hd
    rw [← h1, ← h2]
    exact rowC (f_i_ZeroOfLength_ok _ _ _) h
  · cases h

def f_i_ShortestZero_F : Fi := { nv := 1, nc := 0, m := 0, vt := [(24, 0)], kl := [(0, ([0, 1, 4, 5, 6, 8, 9, 10, 11, 12, 13, 14, 15, 16, 17, 18, 19, 20, 21, 22, 23, 24, 25, 26, 27, 28, 29, 30], [0, 1, 2, 3, 4, 5, 6, 7, 8, 9, 10, 11, 12, 13, 14, 15, 16, 17, 18, 19, 20, 21, 22, 23, 24, 25, 26, 27, 28, 29, 30], [0, 1, 2, 3, 4, 7, 8, 9, 10, 11, 12, 13, 14, 15, 16, 17, 18, 19, 20, 21, 22, 23, 24, 25, 26, 27, 28, 29, 30]))], sk := [], mvs := [0], fz := [] }
def f_i_ShortestZero_a (g0 : List Sc) (l1 : List Sc) : List AV := enc [.p .gr, .p .sl] [.l g0, .l l1]
def f_i_ShortestZero_i (g0 : List Sc) (l1 : List Sc) : List AV := enc [] []
def f_i_ShortestZero_en (r : List Sc × Bool) : List AV × List AV := (enc [.p (.al 0), .p .boo] [.b r.2], enc [.own 3] [.l r.1])
def f_i_ShortestZero_M : Calling := addC 48 f_i_IsSequence_c (addC 33 f_i_ZeroOfLength_c (noC))
theorem f_i_ShortestZero_Mt : CallOk Try.prog (f_i_ShortestZero_M) := addC_true f_i_IsSequence_cc (addC_true f_i_ZeroOfLength_cc (noC_true))
theorem f_i_ShortestZero_o : loopsOnce Try.f28 = true := by kernel_rfl
def f_i_ShortestZero_h0 : List Sh := [.u, .u, .p .sl, .p .el, .u, .u, .u, .p (.int .i64), .u, .u, .u, .u, .u, .u, .u, .u, .u, .u, .u, .u, .u, .u, .u, .u, .u, .u, .u, .u, .u, .u, .u]
def f_i_ShortestZero_fr0 (l1 : List Sc) (g2 : List Sc) (s : Int) : List AV := enc f_i_ShortestZero_h0 [.l l1, .l g2, .i s]
def f_i_ShortestZero_g0_1 : List Sh := [.u, .u, .u, .u, .u, .u, .u, .u, .u, .u, .u, .u, .u, .u, .u, .u, .u, .u, .u, .u, .u, .u, .u, .u, .u, .u, .u, .u, .u, .u, .u]
def f_i_ShortestZero_x0_1 (l1 : List Sc) (g2 : List Sc) (e : Unit) : X × List AV := (.out 0, enc f_i_ShortestZero_g0_1 [])
def f_i_ShortestZero_g0_2 : List Sh := [.u, .u, .u, .u, .u, .own 3, .p .boo, .u, .u, .u, .u, .u, .u, .u, .u, .u, .u, .u, .u, .u, .u, .u, .u, .u, .u, .u, .u, .u, .u, .u, .u]
def f_i_ShortestZero_x0_2 (l1 : List Sc) (g2 : List Sc) (e : List Sc) : X × List AV := (.ret, enc f_i_ShortestZero_g0_2 [.l e, .b true])
theorem f_i_ShortestZero_p0 {R : Type} (l1 : List Sc) (g2 : List Sc) (s : Int) (kN : Int → Option R) (kA : Unit → Option R) (kB : List Sc → Option R) : f_i_ShortestZero_k0 l1 g2 s kN kA kB = (f_i_ShortestZero_r0 l1 g2 s).bind (Ro.el kN kA kB) := by
  simp only [f_i_ShortestZero_k0, f_i_ShortestZero_r0, brB, boB, someB, Ro.el]
theorem f_i_ShortestZero_e0 (l1 : List Sc) (g2 : List Sc) (s : Int) : EC E0 f_i_ShortestZero_M H0 f_i_ShortestZero_F (asL (noL)) 0 (bodyOf Try.f28 0) (f_i_ShortestZero_fr0 l1 g2 s) (done (klOf f_i_ShortestZero_F 0)) = f_i_ShortestZero_k0 l1 g2 s (fun s => some (.norm, f_i_ShortestZero_fr0 l1 g2 s)) (fun e => some (f_i_ShortestZero_x0_1 l1 g2 e)) (fun e => some (f_i_ShortestZero_x0_2 l1 g2 e)) := by kernel_rfl
theorem f_i_ShortestZero_l0 (l1 : List Sc) (g2 : List Sc) : ∀ s r, loopL (f_i_ShortestZero_r0 l1 g2) s = some r → LS Try.prog f_i_ShortestZero_F (bodyOf Try.f28 0) (f_i_ShortestZero_fr0 l1 g2 s) (enX (f_i_ShortestZero_x0_1 l1 g2) (f_i_ShortestZero_x0_2 l1 g2) r) :=
  loop_true E0ok f_i_ShortestZero_Mt (noL_true) f_i_ShortestZero_o (fun _ h => by cases h) (fun _ h => by cases h) (fun s => (f_i_ShortestZero_e0 l1 g2 s).trans (f_i_ShortestZero_p0 l1 g2 s _ _ (fun e => some (f_i_ShortestZero_x0_2 l1 g2 e))))
def f_i_ShortestZero_t0 (σ : List AV) : Option (Bool × Bool × (X × List AV) × (X × List AV)) := match dec f_i_ShortestZero_h0 σ with
  | some [.l l1, .l g2, .i k6] => some ((loopL (f_i_ShortestZero_r0 l1 g2) k6).isSome, isOne (loopL (f_i_ShortestZero_r0 l1 g2) k6), f_i_ShortestZero_x0_1 l1 g2 (getOne () (loopL (f_i_ShortestZero_r0 l1 g2) k6)), f_i_ShortestZero_x0_2 l1 g2 (getTwo [] (loopL (f_i_ShortestZero_r0 l1 g2) k6)))
  | _ => none
theorem f_i_ShortestZero_tt0 : TTrue Try.prog f_i_ShortestZero_F Try.f28 0 (f_i_ShortestZero_t0) := by
  intro σ p r r' h
  unfold f_i_ShortestZero_t0 at h
  split at h
  · rename_i hd
    rw [← dec_enc hd]
    exact row2 (f_i_ShortestZero_l0 _ _ _) h
  · cases h
theorem f_i_ShortestZero_p {R : Type} (g0 : List Sc) (l1 : List Sc) (kR : List Sc × Bool → Option R) : f_i_ShortestZero_k g0 l1 kR = (f_i_ShortestZero_k g0 l1 some).bind kR := by
  simp only [f_i_ShortestZero_k, blB, someB]
theorem f_i_ShortestZero_e (g0 : List Sc) (l1 : List Sc) : runFn E0 f_i_ShortestZero_M H0 f_i_ShortestZero_F (asL (addL 0 (f_i_ShortestZero_t0) (noL))) Try.f28 (f_i_ShortestZero_a g0 l1) (f_i_ShortestZero_i g0 l1) = f_i_ShortestZero_k g0 l1 (fun r => some (f_i_ShortestZero_en r)) := by kernel_rfl
theorem f_i_ShortestZero_ok (g0 : List Sc) (l1 : List Sc) (r : List Sc × Bool) (h : f_i_ShortestZero g0 l1 = some r) : CS Try.prog 28 (f_i_ShortestZero_a g0 l1) (f_i_ShortestZero_i g0 l1) (f_i_ShortestZero_en r).1 (f_i_ShortestZero_en r).2 :=
  fn_true (Gk := fun k => f_i_ShortestZero_k g0 l1 k) (en := f_i_ShortestZero_en) Try.func28 E0ok f_i_ShortestZero_Mt (addL_true (f_i_ShortestZero_tt0) (noL_true)) f_i_ShortestZero_o (f_i_ShortestZero_e g0 l1) (f_i_ShortestZero_p g0 l1) h
def f_i_ShortestZero_c : CRow := fun args inh => match dec2 [.p .gr, .p .sl] [] args inh with
  | some ([.l g0, .l l1], []) => some ((f_i_ShortestZero g0 l1).isSome, (f_i_ShortestZero_en ((f_i_ShortestZero g0 l1).getD ([], false))).1, (f_i_ShortestZero_en ((f_i_ShortestZero g0 l1).getD ([], false))).2)
  | _ => none
theorem f_i_ShortestZero_cc : CTrue Try.prog 28 f_i_ShortestZero_c := by
  intro args inh rs out h
  unfold f_i_ShortestZero_c at h
  split at h
  · rename_i hd
    obtain ⟨h1, h2⟩ := dec2_enc hd
    rw [← h1, ← h2]
    exact rowC (f_i_ShortestZero_ok _ _) h
  · cases h

def f_l_markIntS_io_F : Fi := { nv := 1, nc := 1, m := 1, vt := [], kl := [(0, ([3, 4, 5, 7, 8, 9, 10, 11, 12, 13, 14, 15, 16, 17, 18, 19], [1, 3, 4, 5, 6, 7, 8, 9, 10, 11, 12, 13, 14, 15, 16, 17, 18, 19], [1, 2, 3, 4, 6, 7, 8, 9, 10, 11, 12, 13, 14, 15, 16, 17, 18, 19]))], sk := [], mvs := [], fz := [] }
def f_l_markIntS_io_a (k1 : Int) (h0 : List Sc) : List AV := enc [.p (.al 0), .p (.int .i64)] [.i k1]
def f_l_markIntS_io_i (k1 : Int) (h0 : List Sc) : List AV := enc [.own 3] [.l h0]
def f_l_markIntS_io_en (r : Int × List Sc) : List AV × List AV := (enc [.p (.int .i64)] [.i r.1], enc [.own 3] [.l r.2])
def f_l_markIntS_io_M : Calling := noC
theorem f_l_markIntS_io_Mt : CallOk Try.prog (f_l_markIntS_io_M) := noC_true
theorem f_l_markIntS_io_o : loopsOnce Try.f30 = true := by kernel_rfl
def f_l_markIntS_io_h0 : List Sh := [.own 3, .p (.al 0), .p (.int .i64), .u, .u, .u, .p (.int .i64), .u, .u, .u, .u, .u, .u, .u, .u, .u, .u, .u, .u, .u]
def f_l_markIntS_io_fr0 (s : List Sc × Int × Int) : List AV := enc f_l_markIntS_io_h0 [.l s.1, .i s.2.1, .i s.2.2]
def f_l_markIntS_io_g0_1 : List Sh := [.own 3, .u, .p (.int .i64), .u, .u, .u, .u, .u, .u, .u, .u, .u, .u, .u, .u, .u, .u, .u, .u, .u]
def f_l_markIntS_io_x0_1 (e : List Sc × Int) : X × List AV := (.out 0, enc f_l_markIntS_io_g0_1 [.l e.1, .i e.2])
def f_l_markIntS_io_x0_2 (_e : Unit) : X × List AV := (.ret, [])
theorem f_l_markIntS_io_p0 {R : Type} (s : List Sc × Int × Int) (kN : List Sc × Int × Int → Option R) (kA : List Sc × Int → Option R) (kB : Unit → Option R) : f_l_markIntS_io_k0 s.1 s.2.1 s.2.2 kN kA = (f_l_markIntS_io_r0 s).bind (Ro.el kN kA kB) := by
  simp only [f_l_markIntS_io_k0, f_l_markIntS_io_r0, brB, someB, noneB, Ro.el]
theorem f_l_markIntS_io_e0 (s : List Sc × Int × Int) : EC E0 f_l_markIntS_io_M H0 f_l_markIntS_io_F (asL (noL)) 0 (bodyOf Try.f30 0) (f_l_markIntS_io_fr0 s) (done (klOf f_l_markIntS_io_F 0)) = f_l_markIntS_io_k0 s.1 s.2.1 s.2.2 (fun s => some (.norm, f_l_markIntS_io_fr0 s)) (fun e => some (f_l_markIntS_io_x0_1 e)) := by kernel_rfl
theorem f_l_markIntS_io_l0 : ∀ s r, loopL (f_l_markIntS_io_r0) s = some r → LS Try.prog f_l_markIntS_io_F (bodyOf Try.f30 0) (f_l_markIntS_io_fr0 s) (enX (f_l_markIntS_io_x0_1) (f_l_markIntS_io_x0_2) r) :=
  loop_true E0ok f_l_markIntS_io_Mt (noL_true) f_l_markIntS_io_o (fun _ h => by cases h) (fun _ h => by cases h) (fun s => (f_l_markIntS_io_e0 s).trans (f_l_markIntS_io_p0 s _ _ (fun e => some (f_l_markIntS_io_x0_2 e))))
def f_l_markIntS_io_t0 (σ : List AV) : Option (Bool × Bool × (X × List AV) × (X × List AV)) := match dec f_l_markIntS_io_h0 σ with
  | some [.l v0, .i k1, .i i5] => some (isOne (loopL (f_l_markIntS_io_r0) (v0, k1, i5)), true, f_l_markIntS_io_x0_1 (getOne ([], 0) (loopL (f_l_markIntS_io_r0) (v0, k1, i5))), (.ret, []))
  | _ => none
theorem f_l_markIntS_io_tt0 : TTrue Try.prog f_l_markIntS_io_F Try.f30 0 (f_l_markIntS_io_t0) := by
  intro σ p r r' h
  unfold f_l_markIntS_io_t0 at h
  split at h
  · rename_i hd
    rw [← dec_enc hd]
    exact row1 (f_l_markIntS_io_l0 _) h
  · cases h
theorem f_l_markIntS_io_p {R : Type} (k1 : Int) (h0 : List Sc) (kR : Int × List Sc → Option R) : f_l_markIntS_io_k k1 h0 kR = (f_l_markIntS_io_k k1 h0 some).bind kR := by
  simp only [f_l_markIntS_io_k, bl1B, someB]
theorem f_l_markIntS_io_e (k1 : Int) (h0 : List Sc) : runFn E0 f_l_markIntS_io_M H0 f_l_markIntS_io_F (asL (addL 0 (f_l_markIntS_io_t0) (noL))) Try.f30 (f_l_markIntS_io_a k1 h0) (f_l_markIntS_io_i k1 h0) = f_l_markIntS_io_k k1 h0 (fun r => some (f_l_markIntS_io_en r)) := by kernel_rfl
theorem f_l_markIntS_io_ok (k1 : Int) (h0 : List Sc) (r : Int × List Sc) (h : f_l_markIntS_io k1 h0 = some r) : CS Try.prog 30 (f_l_markIntS_io_a k1 h0) (f_l_markIntS_io_i k1 h0) (f_l_markIntS_io_en r).1 (f_l_markIntS_io_en r).2 :=
  fn_true (Gk := fun k => f_l_markIntS_io_k k1 h0 k) (en := f_l_markIntS_io_en) Try.func30 E0ok f_l_markIntS_io_Mt (addL_true (f_l_markIntS_io_tt0) (noL_true)) f_l_markIntS_io_o (f_l_markIntS_io_e k1 h0) (f_l_markIntS_io_p k1 h0) h
def f_l_markIntS_io_c : CRow := fun args inh => match dec2 [.p (.al 0), .p (.int .i64)] [.own 3] args inh with
  | some ([.i k1], [.l h0]) => some ((f_l_markIntS_io k1 h0).isSome, (f_l_markIntS_io_en ((f_l_markIntS_io k1 h0).getD (0, []))).1, (f_l_markIntS_io_en ((f_l_markIntS_io k1 h0).getD (0, []))).2)
  | _ => none
theorem f_l_markIntS_io_cc : CTrue Try.prog 30 f_l_markIntS_io_c := by
  intro args inh rs out h
  unfold f_l_markIntS_io_c at h
  split at h
  · rename_i hd
    obtain ⟨h1, h2⟩ := dec2_enc hd
    rw [← h1, ← h2]
    exact rowC (f_l_markIntS_io_ok _ _) h
  · cases h

def f_l_markGroup_io_F : Fi := { nv := 2, nc := 2, m := 1, vt := [(2, 1)], kl := [], sk := [], mvs := [], fz := [] }
def f_l_markGroup_io_a (k1 : Int) (h0 : List Sc) : List AV := enc [.p (.go 0), .p (.int .i64)] [.i k1]
def f_l_markGroup_io_i (k1 : Int) (h0 : List Sc) : List AV := enc [.own 3] [.l h0]
def f_l_markGroup_io_en (r : Int × List Sc) : List AV × List AV := (enc [.p (.int .i64)] [.i r.1], enc [.own 3] [.l r.2])
def f_l_markGroup_io_M : Calling := addC 30 f_l_markIntS_io_c (noC)
theorem f_l_markGroup_io_Mt : CallOk Try.prog (f_l_markGroup_io_M) := addC_true f_l_markIntS_io_cc (noC_true)
theorem f_l_markGroup_io_o : loopsOnce Try.f29 = true := by kernel_rfl
theorem f_l_markGroup_io_p {R : Type} (k1 : Int) (h0 : List Sc) (kR : Int × List Sc → Option R) : f_l_markGroup_io_k k1 h0 kR = (f_l_markGroup_io_k k1 h0 some).bind kR := by
  simp only [f_l_markGroup_io_k, boB, someB]
theorem f_l_markGroup_io_e (k1 : Int) (h0 : List Sc) : runFn E0 f_l_markGroup_io_M H0 f_l_markGroup_io_F (asL (noL)) Try.f29 (f_l_markGroup_io_a k1 h0) (f_l_markGroup_io_i k1 h0) = f_l_markGroup_io_k k1 h0 (fun r => some (f_l_markGroup_io_en r)) := by kernel_rfl
theorem f_l_markGroup_io_ok (k1 : Int) (h0 : List Sc) (r : Int × List Sc) (h : f_l_markGroup_io k1 h0 = some r) : CS Try.prog 29 (f_l_markGroup_io_a k1 h0) (f_l_markGroup_io_i k1 h0) (f_l_markGroup_io_en r).1 (f_l_markGroup_io_en r).2 :=
  fn_true (Gk := fun k => f_l_markGroup_io_k k1 h0 k) (en := f_l_markGroup_io_en) Try.func29 E0ok f_l_markGroup_io_Mt (noL_true) f_l_markGroup_io_o (f_l_markGroup_io_e k1 h0) (f_l_markGroup_io_p k1 h0) h
def f_l_markGroup_io_c : CRow := fun args inh => match dec2 [.p (.go 0), .p (.int .i64)] [.own 3] args inh with
  | some ([.i k1], [.l h0]) => some ((f_l_markGroup_io k1 h0).isSome, (f_l_markGroup_io_en ((f_l_markGroup_io k1 h0).getD (0, []))).1, (f_l_markGroup_io_en ((f_l_markGroup_io k1 h0).getD (0, []))).2)
  | _ => none
theorem f_l_markGroup_io_cc : CTrue Try.prog 29 f_l_markGroup_io_c := by
  intro args inh rs out h
  unfold f_l_markGroup_io_c at h
  split at h
  · rename_i hd
    obtain ⟨h1, h2⟩ := dec2_enc hd
    rw [← h1, ← h2]
    exact rowC (f_l_markGroup_io_ok _ _) h
  · cases h

def f_l_heldIntS_F : Fi := { nv := 0, nc := 0, m := 0, vt := [], kl := [(0, ([2, 3, 4, 6, 7, 8, 9, 10, 11, 12, 13, 14, 15, 16, 17, 18, 19, 20], [0, 2, 3, 4, 5, 6, 7, 8, 9, 10, 11, 12, 13, 14, 15, 16, 17, 18, 19, 20], [0, 1, 2, 3, 5, 6, 7, 8, 9, 10, 11, 12, 13, 14, 15, 16, 17, 18, 19, 20]))], sk := [], mvs := [], fz := [] }
def f_l_heldIntS_a (a0 : List Sc) (k1 : Int) : List AV := enc [.p .sl, .p (.int .i64)] [.l a0, .i k1]
def f_l_heldIntS_i (a0 : List Sc) (k1 : Int) : List AV := enc [] []
def f_l_heldIntS_en (r : Int) : List AV × List AV := (enc [.p (.int .i64)] [.i r], enc [] [])
def f_l_heldIntS_M : Calling := noC
theorem f_l_heldIntS_Mt : CallOk Try.prog (f_l_heldIntS_M) := noC_true
theorem f_l_heldIntS_o : loopsOnce Try.f31 = true := by kernel_rfl
def f_l_heldIntS_h0 : List Sh := [.p .sl, .p (.int .i64), .u, .u, .u, .p (.int .i64), .u, .u, .u, .u, .u, .u, .u, .u, .u, .u, .u, .u, .u, .u, .u]
def f_l_heldIntS_fr0 (a0 : List Sc) (s : Int × Int) : List AV := enc f_l_heldIntS_h0 [.l a0, .i s.1, .i s.2]
def f_l_heldIntS_g0_1 : List Sh := [.u, .p (.int .i64), .u, .u, .u, .u, .u, .u, .u, .u, .u, .u, .u, .u, .u, .u, .u, .u, .u, .u, .u]
def f_l_heldIntS_x0_1 (a0 : List Sc) (e : Int) : X × List AV := (.out 0, enc f_l_heldIntS_g0_1 [.i e])
def f_l_heldIntS_g0_2 : List Sh := [.u, .u, .u, .u, .p (.int .i64), .u, .u, .u, .u, .u, .u, .u, .u, .u, .u, .u, .u, .u, .u, .u, .u]
def f_l_heldIntS_x0_2 (a0 : List Sc) (e : Unit) : X × List AV := (.ret, enc f_l_heldIntS_g0_2 [.i (-1)])
theorem f_l_heldIntS_p0 {R : Type} (a0 : List Sc) (s : Int × Int) (kN : Int × Int → Option R) (kA : Int → Option R) (kB : Unit → Option R) : f_l_heldIntS_k0 a0 s.1 s.2 kN kA kB = (f_l_heldIntS_r0 a0 s).bind (Ro.el kN kA kB) := by
  simp only [f_l_heldIntS_k0, f_l_heldIntS_r0, brB, someB, noneB, Ro.el]
theorem f_l_heldIntS_e0 (a0 : List Sc) (s : Int × Int) : EC E0 f_l_heldIntS_M H0 f_l_heldIntS_F (asL (noL)) 0 (bodyOf Try.f31 0) (f_l_heldIntS_fr0 a0 s) (done (klOf f_l_heldIntS_F 0)) = f_l_heldIntS_k0 a0 s.1 s.2 (fun s => some (.norm, f_l_heldIntS_fr0 a0 s)) (fun e => some (f_l_heldIntS_x0_1 a0 e)) (fun e => some (f_l_heldIntS_x0_2 a0 e)) := by kernel_rfl
theorem f_l_heldIntS_l0 (a0 : List Sc) : ∀ s r, loopL (f_l_heldIntS_r0 a0) s = some r → LS Try.prog f_l_heldIntS_F (bodyOf Try.f31 0) (f_l_heldIntS_fr0 a0 s) (enX (f_l_heldIntS_x0_1 a0) (f_l_heldIntS_x0_2 a0) r) :=
  loop_true E0ok f_l_heldIntS_Mt (noL_true) f_l_heldIntS_o (fun _ h => by cases h) (fun _ h => by cases h) (fun s => (f_l_heldIntS_e0 a0 s).trans (f_l_heldIntS_p0 a0 s _ _ (fun e => some (f_l_heldIntS_x0_2 a0 e))))
def f_l_heldIntS_t0 (σ : List AV) : Option (Bool × Bool × (X × List AV) × (X × List AV)) := match dec f_l_heldIntS_h0 σ with
  | some [.l a0, .i k1, .i i5] => some ((loopL (f_l_heldIntS_r0 a0) (k1, i5)).isSome, isOne (loopL (f_l_heldIntS_r0 a0) (k1, i5)), f_l_heldIntS_x0_1 a0 (getOne 0 (loopL (f_l_heldIntS_r0 a0) (k1, i5))), f_l_heldIntS_x0_2 a0 (getTwo () (loopL (f_l_heldIntS_r0 a0) (k1, i5))))
  | _ => none
theorem f_l_heldIntS_tt0 : TTrue Try.prog f_l_heldIntS_F Try.f31 0 (f_l_heldIntS_t0) := by
  intro σ p r r' h
  unfold f_l_heldIntS_t0 at h
  split at h
  · rename_i hd
    rw [← dec_enc hd]
    exact row2 (f_l_heldIntS_l0 _ _) h
  · cases h
theorem f_l_heldIntS_p {R : Type} (a0 : List Sc) (k1 : Int) (kR : Int → Option R) : f_l_heldIntS_k a0 k1 kR = (f_l_heldIntS_k a0 k1 some).bind kR := by
  simp only [f_l_heldIntS_k, blB, someB]
theorem f_l_heldIntS_e (a0 : List Sc) (k1 : Int) : runFn E0 f_l_heldIntS_M H0 f_l_heldIntS_F (asL (addL 0 (f_l_heldIntS_t0) (noL))) Try.f31 (f_l_heldIntS_a a0 k1) (f_l_heldIntS_i a0 k1) = f_l_heldIntS_k a0 k1 (fun r => some (f_l_heldIntS_en r)) := by kernel_rfl
theorem f_l_heldIntS_ok (a0 : List Sc) (k1 : Int) (r : Int) (h : f_l_heldIntS a0 k1 = some r) : CS Try.prog 31 (f_l_heldIntS_a a0 k1) (f_l_heldIntS_i a0 k1) (f_l_heldIntS_en r).1 (f_l_heldIntS_en r).2 :=
  fn_true (Gk := fun k => f_l_heldIntS_k a0 k1 k) (en := f_l_heldIntS_en) Try.func31 E0ok f_l_heldIntS_Mt (addL_true (f_l_heldIntS_tt0) (noL_true)) f_l_heldIntS_o (f_l_heldIntS_e a0 k1) (f_l_heldIntS_p a0 k1) h
def f_l_heldIntS_c : CRow := fun args inh => match dec2 [.p .sl, .p (.int .i64)] [] args inh with
  | some ([.l a0, .i k1], []) => some ((f_l_heldIntS a0 k1).isSome, (f_l_heldIntS_en ((f_l_heldIntS a0 k1).getD 0)).1, (f_l_heldIntS_en ((f_l_heldIntS a0 k1).getD 0)).2)
  | _ => none
theorem f_l_heldIntS_cc : CTrue Try.prog 31 f_l_heldIntS_c := by
  intro args inh rs out h
  unfold f_l_heldIntS_c at h
  split at h
  · rename_i hd
    obtain ⟨h1, h2⟩ := dec2_enc hd
    rw [← h1, ← h2]
    exact rowC (f_l_heldIntS_ok _ _) h
  · cases h

def f_l_FnExactShortestZero_F : Fi := { nv := 7, nc := 1, m := 0, vt := [(8, 0), (27, 1), (30, 2), (34, 3), (40, 4), (94, 5), (97, 6)], kl := [], sk := [], mvs := [1, 2, 3, 4, 5, 6], fz := [] }
def f_l_FnExactShortestZero_a (L0 : List Sc) (p1 : List Sc) : List AV := enc [.p .gr, .p .sl] [.l L0, .l p1]
def f_l_FnExactShortestZero_i (L0 : List Sc) (p1 : List Sc) : List AV := enc [] []
def f_l_FnExactShortestZero_en (r : Bool) : List AV × List AV := (enc [.p .boo] [.b r], enc [] [])
def f_l_FnExactShortestZero_M : Calling := addC 14 f_l_szGroup_c (addC 16 f_l_toGroup_c (addC 17 f_l_toIntS_c (addC 27 f_s_ShortestZero_c (addC 28 f_i_ShortestZero_c (addC 20 f_l_eqIntS_c (addC 19 f_l_eqGroup_c (addC 29 f_l_markGroup_io_c (addC 30 f_l_markIntS_io_c (addC 31 f_l_heldIntS_c (noC))))))))))
theorem f_l_FnExactShortestZero_Mt : CallOk Try.prog (f_l_FnExactShortestZero_M) := addC_true f_l_szGroup_cc (addC_true f_l_toGroup_cc (addC_true f_l_toIntS_cc (addC_true f_s_ShortestZero_cc (addC_true f_i_ShortestZero_cc (addC_true f_l_eqIntS_cc (addC_true f_l_eqGroup_cc (addC_true f_l_markGroup_io_cc (addC_true f_l_markIntS_io_cc (addC_true f_l_heldIntS_cc (noC_true))))))))))
theorem f_l_FnExactShortestZero_o : loopsOnce Try.f7 = true := by kernel_rfl
theorem f_l_FnExactShortestZero_p {R : Type} (L0 : List Sc) (p1 : List Sc) (kR : Bool → Option R) : f_l_FnExactShortestZero_k L0 p1 kR = (f_l_FnExactShortestZero_k L0 p1 some).bind kR := by
  simp only [f_l_FnExactShortestZero_k, brB, boB, someB]
theorem f_l_FnExactShortestZero_e (L0 : List Sc) (p1 : List Sc) : runFn E0 f_l_FnExactShortestZero_M H0 f_l_FnExactShortestZero_F (asL (noL)) Try.f7 (f_l_FnExactShortestZero_a L0 p1) (f_l_FnExactShortestZero_i L0 p1) = f_l_FnExactShortestZero_k L0 p1 (fun r => some (f_l_FnExactShortestZero_en r)) := by kernel_rfl
theorem f_l_FnExactShortestZero_ok (L0 : List Sc) (p1 : List Sc) (r : Bool) (h : f_l_FnExactShortestZero L0 p1 = some r) : CS Try.prog 7 (f_l_FnExactShortestZero_a L0 p1) (f_l_FnExactShortestZero_i L0 p1) (f_l_FnExactShortestZero_en r).1 (f_l_FnExactShortestZero_en r).2 :=
  fn_true (Gk := fun k => f_l_FnExactShortestZero_k L0 p1 k) (en := f_l_FnExactShortestZero_en) Try.func7 E0ok f_l_FnExactShortestZero_Mt (noL_true) f_l_FnExactShortestZero_o (f_l_FnExactShortestZero_e L0 p1) (f_l_FnExactShortestZero_p L0 p1) h
def f_l_FnExactShortestZero_c : CRow := fun args inh => match dec2 [.p .gr, .p .sl] [] args inh with
  | some ([.l L0, .l p1], []) => some ((f_l_FnExactShortestZero L0 p1).isSome, (f_l_FnExactShortestZero_en ((f_l_FnExactShortestZero L0 p1).getD false)).1, (f_l_FnExactShortestZero_en ((f_l_FnExactShortestZero L0 p1).getD false)).2)
  | _ => none
theorem f_l_FnExactShortestZero_cc : CTrue Try.prog 7 f_l_FnExactShortestZero_c := by
  intro args inh rs out h
  unfold f_l_FnExactShortestZero_c at h
  split at h
  · rename_i hd
    obtain ⟨h1, h2⟩ := dec2_enc hd
    rw [← h1, ← h2]
    exact rowC (f_l_FnExactShortestZero_ok _ _) h
  · cases h

def f_s_ZeroOfLength_F : Fi := { nv := 0, nc := 0, m := 0, vt := [], kl := [(0, ([0, 4, 5, 6, 7, 9, 10, 11, 12, 13, 14, 15, 16, 17, 18, 19, 20, 21, 22, 23, 24, 25, 26, 27, 28, 29, 30, 31, 32, 33, 34, 35, 36, 37, 38, 39, 40, 41, 42, 43], [0, 1, 2, 3, 4, 5, 6, 7, 8, 9, 10, 11, 12, 13, 14, 15, 16, 17, 18, 19, 20, 21, 22, 23, 24, 25, 26, 27, 28, 29, 30, 31, 32, 33, 34, 35, 36, 37, 38, 39, 40, 41, 42, 43], [0, 1, 2, 3, 4, 5, 8, 9, 10, 11, 12, 13, 14, 15, 16, 17, 18, 19, 20, 21, 22, 23, 24, 25, 26, 27, 28, 29, 30, 31, 32, 33, 34, 35, 36, 37, 38, 39, 40, 41, 42, 43]))], sk := [], mvs := [], fz := [] }
def f_s_ZeroOfLength_a (g0 : List Sc) (l1 : List Sc) (k2 : Int) : List AV := enc [.p .gr, .p .sl, .p (.int .i64)] [.l g0, .l l1, .i k2]
def f_s_ZeroOfLength_i (g0 : List Sc) (l1 : List Sc) (k2 : Int) : List AV := enc [] []
def f_s_ZeroOfLength_en (r : List Sc × Bool) : List AV × List AV := (enc [.p (.al 0), .p .boo] [.b r.2], enc [.own 3] [.l r.1])
def f_s_ZeroOfLength_M : Calling := addC 45 f_s_IsSequence_c (addC 68 f_s_l1In_c (addC 69 f_s_l3Bits_c (addC 66 f_s_l16Part_c (addC 67 f_s_l16Sum_c (noC)))))
theorem f_s_ZeroOfLength_Mt : CallOk Try.prog (f_s_ZeroOfLength_M) := addC_true f_s_IsSequence_cc (addC_true f_s_l1In_cc (addC_true f_s_l3Bits_cc (addC_true f_s_l16Part_cc (addC_true f_s_l16Sum_cc (noC_true)))))
theorem f_s_ZeroOfLength_o : loopsOnce Try.f32 = true := by kernel_rfl
def f_s_ZeroOfLength_h0 : List Sh := [.u, .p .sl, .p (.int .i64), .p .el, .u, .u, .u, .u, .p (.int .i64), .u, .u, .u, .u, .u, .u, .u, .u, .u, .u, .u, .u, .u, .u, .u, .u, .u, .u, .u, .u, .u, .u, .u, .u, .u, .u, .u, .u, .u, .u, .u, .u, .u, .u, .u]
def f_s_ZeroOfLength_fr0 (l1 : List Sc) (k2 : Int) (g3 : List Sc) (s : Int) : List AV := enc f_s_ZeroOfLength_h0 [.l l1, .i k2, .l g3, .i s]
def f_s_ZeroOfLength_g0_1 : List Sh := [.u, .u, .u, .u, .u, .u, .u, .u, .u, .u, .u, .u, .u, .u, .u, .u, .u, .u, .u, .u, .u, .u, .u, .u, .u, .u, .u, .u, .u, .u, .u, .u, .u, .u, .u, .u, .u, .u, .u, .u, .u, .u, .u, .u]
def f_s_ZeroOfLength_x0_1 (l1 : List Sc) (k2 : Int) (g3 : List Sc) (e : Unit) : X × List AV := (.out 0, enc f_s_ZeroOfLength_g0_1 [])
def f_s_ZeroOfLength_g0_2 : List Sh := [.u, .u, .u, .u, .u, .u, .own 3, .p .boo, .u, .u, .u, .u, .u, .u, .u, .u, .u, .u, .u, .u, .u, .u, .u, .u, .u, .u, .u, .u, .u, .u, .u, .u, .u, .u, .u, .u, .u, .u, .u, .u, .u, .u, .u, .u]
def f_s_ZeroOfLength_x0_2 (l1 : List Sc) (k2 : Int) (g3 : List Sc) (e : List Sc) : X × List AV := (.ret, enc f_s_ZeroOfLength_g0_2 [.l e, .b true])
theorem f_s_ZeroOfLength_p0 {R : Type} (l1 : List Sc) (k2 : Int) (g3 : List Sc) (s : Int) (kN : Int → Option R) (kA : Unit → Option R) (kB : List Sc → Option R) : f_s_ZeroOfLength_k0 l1 k2 g3 s kN kA kB = (f_s_ZeroOfLength_r0 l1 k2 g3 s).bind (Ro.el kN kA kB) := by
  simp only [f_s_ZeroOfLength_k0, f_s_ZeroOfLength_r0, brB, boB, someB, noneB, Ro.el]
theorem f_s_ZeroOfLength_e0 (l1 : List Sc) (k2 : Int) (g3 : List Sc) (s : Int) : EC E0 f_s_ZeroOfLength_M H0 f_s_ZeroOfLength_F (asL (noL)) 0 (bodyOf Try.f32 0) (f_s_ZeroOfLength_fr0 l1 k2 g3 s) (done (klOf f_s_ZeroOfLength_F 0)) = f_s_ZeroOfLength_k0 l1 k2 g3 s (fun s => some (.norm, f_s_ZeroOfLength_fr0 l1 k2 g3 s)) (fun e => some (f_s_ZeroOfLength_x0_1 l1 k2 g3 e)) (fun e => some (f_s_ZeroOfLength_x0_2 l1 k2 g3 e)) := by kernel_rfl
theorem f_s_ZeroOfLength_l0 (l1 : List Sc) (k2 : Int) (g3 : List Sc) : ∀ s r, loopL (f_s_ZeroOfLength_r0 l1 k2 g3) s = some r → LS Try.prog f_s_ZeroOfLength_F (bodyOf Try.f32 0) (f_s_ZeroOfLength_fr0 l1 k2 g3 s) (enX (f_s_ZeroOfLength_x0_1 l1 k2 g3) (f_s_ZeroOfLength_x0_2 l1 k2 g3) r) :=
  loop_true E0ok f_s_ZeroOfLength_Mt (noL_true) f_s_ZeroOfLength_o (fun _ h => by cases h) (fun _ h => by cases h) (fun s => (f_s_ZeroOfLength_e0 l1 k2 g3 s).trans (f_s_ZeroOfLength_p0 l1 k2 g3 s _ _ (fun e => some (f_s_ZeroOfLength_x0_2 l1 k2 g3 e))))
def f_s_ZeroOfLength_t0 (σ : List AV) : Option (Bool × Bool × (X × List AV) × (X × List AV)) := match dec f_s_ZeroOfLength_h0 σ with
  | some [.l l1, .i k2, .l g3, .i code8] => some ((loopL (f_s_ZeroOfLength_r0 l1 k2 g3) code8).isSome, isOne (loopL (f_s_ZeroOfLength_r0 l1 k2 g3) code8), f_s_ZeroOfLength_x0_1 l1 k2 g3 (getOne () (loopL (f_s_ZeroOfLength_r0 l1 k2 g3) code8)), f_s_ZeroOfLength_x0_2 l1 k2 g3 (getTwo [] (loopL (f_s_ZeroOfLength_r0 l1 k2 g3) code8)))
  | _ => none
theorem f_s_ZeroOfLength_tt0 : TTrue Try.prog f_s_ZeroOfLength_F Try.f32 0 (f_s_ZeroOfLength_t0) := by
  intro σ p r r' h
  unfold f_s_ZeroOfLength_t0 at h
  split at h
  · rename_i hd
    rw [← dec_enc hd]
    exact row2 (f_s_ZeroOfLength_l0 _ _ _ _) h
  · cases h
theorem f_s_ZeroOfLength_p {R : Type} (g0 : List Sc) (l1 : List Sc) (k2 : Int) (kR : List Sc × Bool → Option R) : f_s_ZeroOfLength_k g0 l1 k2 kR = (f_s_ZeroOfLength_k g0 l1 k2 some).bind kR := by
  simp only [f_s_ZeroOfLength_k, brB, boB, blB, someB]
theorem f_s_ZeroOfLength_e (g0 : List Sc) (l1 : List Sc) (k2 : Int) : runFn E0 f_s_ZeroOfLength_M H0 f_s_ZeroOfLength_F (asL (addL 0 (f_s_ZeroOfLength_t0) (noL))) Try.f32 (f_s_ZeroOfLength_a g0 l1 k2) (f_s_ZeroOfLength_i g0 l1 k2) = f_s_ZeroOfLength_k g0 l1 k2 (fun r => some (f_s_ZeroOfLength_en r)) := by kernel_rfl
theorem f_s_ZeroOfLength_ok (g0 : List Sc) (l1 : List Sc) (k2 : Int) (r : List Sc × Bool) (h : f_s_ZeroOfLength g0 l1 k2 = some r) : CS Try.prog 32 (f_s_ZeroOfLength_a g0 l1 k2) (f_s_ZeroOfLength_i g0 l1 k2) (f_s_ZeroOfLength_en r).1 (f_s_ZeroOfLength_en r).2 :=
  fn_true (Gk := fun k => f_s_ZeroOfLength_k g0 l1 k2 k) (en := f_s_ZeroOfLength_en) Try.func32 E0ok f_s_ZeroOfLength_Mt (addL_true (f_s_ZeroOfLength_tt0) (noL_true)) f_s_ZeroOfLength_o (f_s_ZeroOfLength_e g0 l1 k2) (f_s_ZeroOfLength_p g0 l1 k2) h
def f_s_ZeroOfLength_c : CRow := fun args inh => match dec2 [.p .gr, .p .sl, .p (.int .i64)] [] args inh with
  | some ([.l g0, .l l1, .i k2], []) => some ((f_s_ZeroOfLength g0 l1 k2).isSome, (f_s_ZeroOfLength_en ((f_s_ZeroOfLength g0 l1 k2).getD ([], false))).1, (f_s_ZeroOfLength_en ((f_s_ZeroOfLength g0 l1 k2).getD ([], false))).2)
  | _ => none
theorem f_s_ZeroOfLength_cc : CTrue Try.prog 32 f_s_ZeroOfLength_c := by
  intro args inh rs out h
  unfold f_s_ZeroOfLength_c at h
  split at h
  · rename_i hd
    obtain ⟨h1, h2⟩ := dec2_enc hd
    rw [← h1, ← h2]
    exact rowC (f_s_ZeroOfLength_ok _ _ _) h
  · cases h

def f_l_FnExactZeroOfLength_F : Fi := { nv := 7, nc := 1, m := 0, vt := [(10, 0), (29, 1), (33, 2), (37, 3), (44, 4), (98, 5), (102, 6)], kl := [], sk := [], mvs := [1, 2, 3, 4, 5, 6], fz := [] }
def f_l_FnExactZeroOfLength_a (L0 : List Sc) (p1 : List Sc) (p2 : Int) : List AV := enc [.p .gr, .p .sl, .p (.int .i64)] [.l L0, .l p1, .i p2]
def f_l_FnExactZeroOfLength_i (L0 : List Sc) (p1 : List Sc) (p2 : Int) : List AV := enc [] []
def f_l_FnExactZeroOfLength_en (r : Bool) : List AV × List AV := (enc [.p .boo] [.b r], enc [] [])
def f_l_FnExactZeroOfLength_M : Calling := addC 14 f_l_szGroup_c (addC 16 f_l_toGroup_c (addC 17 f_l_toIntS_c (addC 32 f_s_ZeroOfLength_c (addC 33 f_i_ZeroOfLength_c (addC 20 f_l_eqIntS_c (addC 19 f_l_eqGroup_c (addC 29 f_l_markGroup_io_c (addC 30 f_l_markIntS_io_c (addC 31 f_l_heldIntS_c (noC))))))))))
theorem f_l_FnExactZeroOfLength_Mt : CallOk Try.prog (f_l_FnExactZeroOfLength_M) := addC_true f_l_szGroup_cc (addC_true f_l_toGroup_cc (addC_true f_l_toIntS_cc (addC_true f_s_ZeroOfLength_cc (addC_true f_i_ZeroOfLength_cc (addC_true f_l_eqIntS_cc (addC_true f_l_eqGroup_cc (addC_true f_l_markGroup_io_cc (addC_true f_l_markIntS_io_cc (addC_true f_l_heldIntS_cc (noC_true))))))))))
theorem f_l_FnExactZeroOfLength_o : loopsOnce Try.f8 = true := by kernel_rfl
theorem f_l_FnExactZeroOfLength_p {R : Type} (L0 : List Sc) (p1 : List Sc) (p2 : Int) (kR : Bool → Option R) : f_l_FnExactZeroOfLength_k L0 p1 p2 kR = (f_l_FnExactZeroOfLength_k L0 p1 p2 some).bind kR := by
  simp only [f_l_FnExactZeroOfLength_k, brB, boB, someB]
theorem f_l_FnExactZeroOfLength_e (L0 : List Sc) (p1 : List Sc) (p2 : Int) : runFn E0 f_l_FnExactZeroOfLength_M H0 f_l_FnExactZeroOfLength_F (asL (noL)) Try.f8 (f_l_FnExactZeroOfLength_a L0 p1 p2) (f_l_FnExactZeroOfLength_i L0 p1 p2) = f_l_FnExactZeroOfLength_k L0 p1 p2 (fun r => some (f_l_FnExactZeroOfLength_en r)) := by kernel_rfl
theorem f_l_FnExactZeroOfLength_ok (L0 : List Sc) (p1 : List Sc) (p2 : Int) (r : Bool) (h : f_l_FnExactZeroOfLength L0 p1 p2 = some r) : CS Try.prog 8 (f_l_FnExactZeroOfLength_a L0 p1 p2) (f_l_FnExactZeroOfLength_i L0 p1 p2) (f_l_FnExactZeroOfLength_en r).1 (f_l_FnExactZeroOfLength_en r).2 :=
  fn_true (Gk := fun k => f_l_FnExactZeroOfLength_k L0 p1 p2 k) (en := f_l_FnExactZeroOfLength_en) Try.func8 E0ok f_l_FnExactZeroOfLength_Mt (noL_true) f_l_FnExactZeroOfLength_o (f_l_FnExactZeroOfLength_e L0 p1 p2) (f_l_FnExactZeroOfLength_p L0 p1 p2) h
def f_l_FnExactZeroOfLength_c : CRow := fun args inh => match dec2 [.p .gr, .p .sl, .p (.int .i64)] [] args inh with
  | some ([.l L0, .l p1, .i p2], []) => some ((f_l_FnExactZeroOfLength L0 p1 p2).isSome, (f_l_FnExactZeroOfLength_en ((f_l_FnExactZeroOfLength L0 p1 p2).getD false)).1, (f_l_FnExactZeroOfLength_en ((f_l_FnExactZeroOfLength L0 p1 p2).getD false)).2)
  | _ => none
theorem f_l_FnExactZeroOfLength_cc : CTrue Try.prog 8 f_l_FnExactZeroOfLength_c := by
  intro args inh rs out h
  unfold f_l_FnExactZeroOfLength_c at h
  split at h
  · rename_i hd
    obtain ⟨h1, h2⟩ := dec2_enc hd
    rw [← h1, ← h2]
    exact rowC (f_l_FnExactZeroOfLength_ok _ _ _) h
  · cases h

def f_s_l14Fine_F : Fi := { nv := 0, nc := 0, m := 0, vt := [], kl := [(0, ([0, 4, 5, 6, 8, 9, 10, 11, 12, 13, 14, 15, 16, 17, 18, 19, 20, 21, 22, 23, 24, 25, 26, 27, 28, 29, 30, 31, 32, 33, 34, 35, 36, 37, 38, 39, 40, 41, 42, 43, 44, 45, 46, 47, 48], [0, 4, 5, 6, 7, 8, 9, 10, 11, 12, 13, 14, 15, 16, 17, 18, 19, 20, 21, 22, 23, 24, 25, 26, 27, 28, 29, 30, 31, 32, 33, 34, 35, 36, 37, 38, 39, 40, 41, 42, 43, 44, 45, 46, 47, 48], [0, 1, 2, 3, 4, 5, 7, 8, 9, 10, 11, 12, 13, 14, 15, 16, 17, 18, 19, 20, 21, 22, 23, 24, 25, 26, 27, 28, 29, 30, 31, 32, 33, 34, 35, 36, 37, 38, 39, 40, 41, 42, 43, 44, 45, 46, 47, 48]))], sk := [], mvs := [], fz := [] }
def f_s_l14Fine_a (g0 : List Sc) (steps1 : List Sc) (sizes2 : List Sc) : List AV := enc [.p .gr, .p .sl, .p .sl] [.l g0, .l steps1, .l sizes2]
def f_s_l14Fine_i (g0 : List Sc) (steps1 : List Sc) (sizes2 : List Sc) : List AV := enc [] []
def f_s_l14Fine_en (r : Bool) : List AV × List AV := (enc [.p .boo] [.b r], enc [] [])
def f_s_l14Fine_M : Calling := addC 88 f_s_l2Is_c (addC 68 f_s_l1In_c (addC 89 f_s_IsGroup_c (noC)))
theorem f_s_l14Fine_Mt : CallOk Try.prog (f_s_l14Fine_M) := addC_true f_s_l2Is_cc (addC_true f_s_l1In_cc (addC_true f_s_IsGroup_cc (noC_true)))
theorem f_s_l14Fine_o : loopsOnce Try.f72 = true := by kernel_rfl
def f_s_l14Fine_h0 : List Sh := [.u, .p .sl, .p .sl, .p .el, .u, .u, .u, .p (.int .i64), .u, .u, .u, .u, .u, .u, .u, .u, .u, .u, .u, .u, .u, .u, .u, .u, .u, .u, .u, .u, .u, .u, .u, .u, .u, .u, .u, .u, .u, .u, .u, .u, .u, .u, .u, .u, .u, .u, .u, .u, .u]
def f_s_l14Fine_fr0 (steps1 : List Sc) (sizes2 : List Sc) (g3 : List Sc) (s : Int) : List AV := enc f_s_l14Fine_h0 [.l steps1, .l sizes2, .l g3, .i s]
def f_s_l14Fine_g0_1 : List Sh := [.u, .p .sl, .p .sl, .p .el, .u, .u, .u, .u, .u, .u, .u, .u, .u, .u, .u, .u, .u, .u, .u, .u, .u, .u, .u, .u, .u, .u, .u, .u, .u, .u, .u, .u, .u, .u, .u, .u, .u, .u, .u, .u, .u, .u, .u, .u, .u, .u, .u, .u, .u]
def f_s_l14Fine_x0_1 (steps1 : List Sc) (sizes2 : List Sc) (g3 : List Sc) (e : Unit) : X × List AV := (.out 0, enc f_s_l14Fine_g0_1 [.l steps1, .l sizes2, .l g3])
def f_s_l14Fine_g0_2 : List Sh := [.u, .u, .u, .u, .u, .u, .p .boo, .u, .u, .u, .u, .u, .u, .u, .u, .u, .u, .u, .u, .u, .u, .u, .u, .u, .u, .u, .u, .u, .u, .u, .u, .u, .u, .u, .u, .u, .u, .u, .u, .u, .u, .u, .u, .u, .u, .u, .u, .u, .u]
def f_s_l14Fine_x0_2 (steps1 : List Sc) (sizes2 : List Sc) (g3 : List Sc) (e : Unit) : X × List AV := (.ret, enc f_s_l14Fine_g0_2 [.b false])
theorem f_s_l14Fine_p0 {R : Type} (steps1 : List Sc) (sizes2 : List Sc) (g3 : List Sc) (s : Int) (kN : Int → Option R) (kA : Unit → Option R) (kB : Unit → Option R) : f_s_l14Fine_k0 steps1 sizes2 g3 s kN kA kB = (f_s_l14Fine_r0 steps1 sizes2 g3 s).bind (Ro.el kN kA kB) := by
  simp only [f_s_l14Fine_k0, f_s_l14Fine_r0, brB, boB, someB, noneB, Ro.el]
theorem f_s_l14Fine_e0 (steps1 : List Sc) (sizes2 : List Sc) (g3 : List Sc) (s : Int) : EC E0 f_s_l14Fine_M H0 f_s_l14Fine_F (asL (noL)) 0 (bodyOf Try.f72 0) (f_s_l14Fine_fr0 steps1 sizes2 g3 s) (done (klOf f_s_l14Fine_F 0)) = f_s_l14Fine_k0 steps1 sizes2 g3 s (fun s => some (.norm, f_s_l14Fine_fr0 steps1 sizes2 g3 s)) (fun e => some (f_s_l14Fine_x0_1 steps1 sizes2 g3 e)) (fun e => some (f_s_l14Fine_x0_2 steps1 sizes2 g3 e)) := by kernel_rfl
theorem f_s_l14Fine_l0 (steps1 : List Sc) (sizes2 : List Sc) (g3 : List Sc) : ∀ s r, loopL (f_s_l14Fine_r0 steps1 sizes2 g3) s = some r → LS Try.prog f_s_l14Fine_F (bodyOf Try.f72 0) (f_s_l14Fine_fr0 steps1 sizes2 g3 s) (enX (f_s_l14Fine_x0_1 steps1 sizes2 g3) (f_s_l14Fine_x0_2 steps1 sizes2 g3) r) :=
  loop_true E0ok f_s_l14Fine_Mt (noL_true) f_s_l14Fine_o (fun _ h => by cases h) (fun _ h => by cases h) (fun s => (f_s_l14Fine_e0 steps1 sizes2 g3 s).trans (f_s_l14Fine_p0 steps1 sizes2 g3 s _ _ (fun e => some (f_s_l14Fine_x0_2 steps1 sizes2 g3 e))))
def f_s_l14Fine_t0 (σ : List AV) : Option (Bool × Bool × (X × List AV) × (X × List AV)) := match dec f_s_l14Fine_h0 σ with
  | some [.l steps1, .l sizes2, .l g3, .i i7] => some ((loopL (f_s_l14Fine_r0 steps1 sizes2 g3) i7).isSome, isOne (loopL (f_s_l14Fine_r0 steps1 sizes2 g3) i7), f_s_l14Fine_x0_1 steps1 sizes2 g3 (getOne () (loopL (f_s_l14Fine_r0 steps1 sizes2 g3) i7)), f_s_l14Fine_x0_2 steps1 sizes2 g3 (getTwo () (loopL (f_s_l14Fine_r0 steps1 sizes2 g3) i7)))
  | _ => none
theorem f_s_l14Fine_tt0 : TTrue Try.prog f_s_l14Fine_F Try.f72 0 (f_s_l14Fine_t0) := by
  intro σ p r r' h
  unfold f_s_l14Fine_t0 at h
  split at h
  · rename_i hd
    rw [← dec_enc hd]
    exact row2 (f_s_l14Fine_l0 _ _ _ _) h
  · cases h
theorem f_s_l14Fine_p {R : Type} (g0 : List Sc) (steps1 : List Sc) (sizes2 : List Sc) (kR : Bool → Option R) : f_s_l14Fine_k g0 steps1 sizes2 kR = (f_s_l14Fine_k g0 steps1 sizes2 some).bind kR := by
  simp only [f_s_l14Fine_k, brB, boB, blB, someB]
theorem f_s_l14Fine_e (g0 : List Sc) (steps1 : List Sc) (sizes2 : List Sc) : runFn E0 f_s_l14Fine_M H0 f_s_l14Fine_F (asL (addL 0 (f_s_l14Fine_t0) (noL))) Try.f72 (f_s_l14Fine_a g0 steps1 sizes2) (f_s_l14Fine_i g0 steps1 sizes2) = f_s_l14Fine_k g0 steps1 sizes2 (fun r => some (f_s_l14Fine_en r)) := by kernel_rfl
theorem f_s_l14Fine_ok (g0 : List Sc) (steps1 : List Sc) (sizes2 : List Sc) (r : Bool) (h : f_s_l14Fine g0 steps1 sizes2 = some r) : CS Try.prog 72 (f_s_l14Fine_a g0 steps1 sizes2) (f_s_l14Fine_i g0 steps1 sizes2) (f_s_l14Fine_en r).1 (f_s_l14Fine_en r).2 :=
  fn_true (Gk := fun k => f_s_l14Fine_k g0 steps1 sizes2 k) (en := f_s_l14Fine_en) Try.func72 E0ok f_s_l14Fine_Mt (addL_true (f_s_l14Fine_tt0) (noL_true)) f_s_l14Fine_o (f_s_l14Fine_e g0 steps1 sizes2) (f_s_l14Fine_p g0 steps1 sizes2) h
def f_s_l14Fine_c : CRow := fun args inh => match dec2 [.p .gr, .p .sl, .p .sl] [] args inh with
  | some ([.l g0, .l steps1, .l sizes2], []) => some ((f_s_l14Fine g0 steps1 sizes2).isSome, (f_s_l14Fine_en ((f_s_l14Fine g0 steps1 sizes2).getD false)).1, (f_s_l14Fine_en ((f_s_l14Fine g0 steps1 sizes2).getD false)).2)
  | _ => none
theorem f_s_l14Fine_cc : CTrue Try.prog 72 f_s_l14Fine_c := by
  intro args inh rs out h
  unfold f_s_l14Fine_c at h
  split at h
  · rename_i hd
    obtain ⟨h1, h2⟩ := dec2_enc hd
    rw [← h1, ← h2]
    exact rowC (f_s_l14Fine_ok _ _ _) h
  · cases h

def f_s_l10Progression_F : Fi := { nv := 0, nc := 0, m := 0, vt := [], kl := [(0, ([0, 1, 5, 6, 7, 8, 12, 13, 14, 15, 16, 17, 18, 19, 20, 21, 22, 23, 24, 25, 26], [0, 1, 2, 3, 4, 5, 6, 7, 8, 10, 11, 12, 13, 14, 15, 16, 17, 18, 19, 20, 21, 22, 23, 24, 25, 26], [0, 1, 2, 3, 4, 5, 6, 7, 9, 10, 11, 12, 13, 14, 15, 16, 17, 18, 19, 20, 21, 22, 23, 24, 25, 26]))], sk := [], mvs := [], fz := [] }
def f_s_l10Progression_a (g0 : List Sc) (start1 : Int) (step2 : Int) (n3 : Int) : List AV := enc [.p .gr, .p (.int .i64), .p (.int .i64), .p (.int .i64)] [.l g0, .i start1, .i step2, .i n3]
def f_s_l10Progression_i (g0 : List Sc) (start1 : Int) (step2 : Int) (n3 : Int) : List AV := enc [] []
def f_s_l10Progression_en (r : Int) : List AV × List AV := (enc [.p (.int .i64)] [.i r], enc [] [])
def f_s_l10Progression_M : Calling := addC 101 f_s_l2Add_c (noC)
theorem f_s_l10Progression_Mt : CallOk Try.prog (f_s_l10Progression_M) := addC_true f_s_l2Add_cc (noC_true)
theorem f_s_l10Progression_o : loopsOnce Try.f76 = true := by kernel_rfl
def f_s_l10Progression_h0 : List Sh := [.u, .u, .p (.int .i64), .p (.int .i64), .p .el, .u, .u, .u, .u, .p (.int .i64), .p (.int .i64), .p (.int .i64), .u, .u, .u, .u, .u, .u, .u, .u, .u, .u, .u, .u, .u, .u, .u]
def f_s_l10Progression_fr0 (step2 : Int) (n3 : Int) (g4 : List Sc) (s : Int × Int × Int) : List AV := enc f_s_l10Progression_h0 [.i step2, .i n3, .l g4, .i s.1, .i s.2.1, .i s.2.2]
def f_s_l10Progression_g0_1 : List Sh := [.u, .u, .u, .u, .u, .u, .u, .u, .u, .p (.int .i64), .u, .u, .u, .u, .u, .u, .u, .u, .u, .u, .u, .u, .u, .u, .u, .u, .u]
def f_s_l10Progression_x0_1 (step2 : Int) (n3 : Int) (g4 : List Sc) (e : Int) : X × List AV := (.out 0, enc f_s_l10Progression_g0_1 [.i e])
def f_s_l10Progression_x0_2 (step2 : Int) (n3 : Int) (g4 : List Sc) (_e : Unit) : X × List AV := (.ret, [])
theorem f_s_l10Progression_p0 {R : Type} (step2 : Int) (n3 : Int) (g4 : List Sc) (s : Int × Int × Int) (kN : Int × Int × Int → Option R) (kA : Int → Option R) (kB : Unit → Option R) : f_s_l10Progression_k0 step2 n3 g4 s.1 s.2.1 s.2.2 kN kA = (f_s_l10Progression_r0 step2 n3 g4 s).bind (Ro.el kN kA kB) := by
  simp only [f_s_l10Progression_k0, f_s_l10Progression_r0, brB, boB, someB, noneB, Ro.el]
theorem f_s_l10Progression_e0 (step2 : Int) (n3 : Int) (g4 : List Sc) (s : Int × Int × Int) : EC E0 f_s_l10Progression_M H0 f_s_l10Progression_F (asL (noL)) 0 (bodyOf Try.f76 0) (f_s_l10Progression_fr0 step2 n3 g4 s) (done (klOf f_s_l10Progression_F 0)) = f_s_l10Progression_k0 step2 n3 g4 s.1 s.2.1 s.2.2 (fun s => some (.norm, f_s_l10Progression_fr0 step2 n3 g4 s)) (fun e => some (f_s_l10Progression_x0_1 step2 n3 g4 e)) := by kernel_rfl
theorem f_s_l10Progression_l0 (step2 : Int) (n3 : Int) (g4 : List Sc) : ∀ s r, loopL (f_s_l10Progression_r0 step2 n3 g4) s = some r → LS Try.prog f_s_l10Progression_F (bodyOf Try.f76 0) (f_s_l10Progression_fr0 step2 n3 g4 s) (enX (f_s_l10Progression_x0_1 step2 n3 g4) (f_s_l10Progression_x0_2 step2 n3 g4) r) :=
  loop_true E0ok f_s_l10Progression_Mt (noL_true) f_s_l10Progression_o (fun _ h => by cases h) (fun _ h => by cases h) (fun s => (f_s_l10Progression_e0 step2 n3 g4 s).trans (f_s_l10Progression_p0 step2 n3 g4 s _ _ (fun e => some (f_s_l10Progression_x0_2 step2 n3 g4 e))))
def f_s_l10Progression_t0 (σ : List AV) : Option (Bool × Bool × (X × List AV) × (X × List AV)) := match dec f_s_l10Progression_h0 σ with
  | some [.i step2, .i n3, .l g4, .i out9, .i x10, .i i11] => some (isOne (loopL (f_s_l10Progression_r0 step2 n3 g4) (out9, x10, i11)), true, f_s_l10Progression_x0_1 step2 n3 g4 (getOne 0 (loopL (f_s_l10Progression_r0 step2 n3 g4) (out9, x10, i11))), (.ret, []))
  | _ => none
theorem f_s_l10Progression_tt0 : TTrue Try.prog f_s_l10Progression_F Try.f76 0 (f_s_l10Progression_t0) := by
  intro σ p r r' h
  unfold f_s_l10Progression_t0 at h
  split at h
  · rename_i hd
    rw [← dec_enc hd]
    exact row1 (f_s_l10Progression_l0 _ _ _ _) h
  · cases h
theorem f_s_l10Progression_p {R : Type} (g0 : List Sc) (start1 : Int) (step2 : Int) (n3 : Int) (kR : Int → Option R) : f_s_l10Progression_k g0 start1 step2 n3 kR = (f_s_l10Progression_k g0 start1 step2 n3 some).bind kR := by
  simp only [f_s_l10Progression_k, bl1B, someB]
theorem f_s_l10Progression_e (g0 : List Sc) (start1 : Int) (step2 : Int) (n3 : Int) : runFn E0 f_s_l10Progression_M H0 f_s_l10Progression_F (asL (addL 0 (f_s_l10Progression_t0) (noL))) Try.f76 (f_s_l10Progression_a g0 start1 step2 n3) (f_s_l10Progression_i g0 start1 step2 n3) = f_s_l10Progression_k g0 start1 step2 n3 (fun r => some (f_s_l10Progression_en r)) := by kernel_rfl
theorem f_s_l10Progression_ok (g0 : List Sc) (start1 : Int) (step2 : Int) (n3 : Int) (r : Int) (h : f_s_l10Progression g0 start1 step2 n3 = some r) : CS Try.prog 76 (f_s_l10Progression_a g0 start1 step2 n3) (f_s_l10Progression_i g0 start1 step2 n3) (f_s_l10Progression_en r).1 (f_s_l10Progression_en r).2 :=
  fn_true (Gk := fun k => f_s_l10Progression_k g0 start1 step2 n3 k) (en := f_s_l10Progression_en) Try.func76 E0ok f_s_l10Progression_Mt (addL_true (f_s_l10Progression_tt0) (noL_true)) f_s_l10Progression_o (f_s_l10Progression_e g0 start1 step2 n3) (f_s_l10Progression_p g0 start1 step2 n3) h
def f_s_l10Progression_c : CRow := fun args inh => match dec2 [.p .gr, .p (.int .i64), .p (.int .i64), .p (.int .i64)] [] args inh with
  | some ([.l g0, .i start1, .i step2, .i n3], []) => some ((f_s_l10Progression g0 start1 step2 n3).isSome, (f_s_l10Progression_en ((f_s_l10Progression g0 start1 step2 n3).getD 0)).1, (f_s_l10Progression_en ((f_s_l10Progression g0 start1 step2 n3).getD 0)).2)
  | _ => none
theorem f_s_l10Progression_cc : CTrue Try.prog 76 f_s_l10Progression_c := by
  intro args inh rs out h
  unfold f_s_l10Progression_c at h
  split at h
  · rename_i hd
    obtain ⟨h1, h2⟩ := dec2_enc hd
    rw [← h1, ← h2]
    exact rowC (f_s_l10Progression_ok _ _ _ _) h
  · cases h

def f_s_l14Box_F : Fi := { nv := 0, nc := 0, m := 0, vt := [], kl := [(0, ([0, 4, 5, 6, 9, 10, 11, 12, 13, 14, 15, 16, 17, 18, 19, 20, 21, 22, 23, 24, 25, 26, 27, 28], [0, 1, 2, 3, 4, 5, 6, 8, 9, 10, 11, 12, 13, 14, 15, 16, 17, 18, 19, 20, 21, 22, 23, 24, 25, 26, 27, 28], [0, 1, 2, 3, 4, 5, 7, 8, 9, 10, 11, 12, 13, 14, 15, 16, 17, 18, 19, 20, 21, 22, 23, 24, 25, 26, 27, 28]))], sk := [], mvs := [], fz := [] }
def f_s_l14Box_a (g0 : List Sc) (steps1 : List Sc) (sizes2 : List Sc) : List AV := enc [.p .gr, .p .sl, .p .sl] [.l g0, .l steps1, .l sizes2]
def f_s_l14Box_i (g0 : List Sc) (steps1 : List Sc) (sizes2 : List Sc) : List AV := enc [] []
def f_s_l14Box_en (r : Int) : List AV × List AV := (enc [.p (.int .i64)] [.i r], enc [] [])
def f_s_l14Box_M : Calling := addC 76 f_s_l10Progression_c (addC 77 f_s_l4Sum_c (noC))
theorem f_s_l14Box_Mt : CallOk Try.prog (f_s_l14Box_M) := addC_true f_s_l10Progression_cc (addC_true f_s_l4Sum_cc (noC_true))
theorem f_s_l14Box_o : loopsOnce Try.f73 = true := by kernel_rfl
def f_s_l14Box_h0 : List Sh := [.u, .p .sl, .p .sl, .p .el, .u, .u, .u, .p (.int .i64), .p (.int .i64), .u, .u, .u, .u, .u, .u, .u, .u, .u, .u, .u, .u, .u, .u, .u, .u, .u, .u, .u, .u]
def f_s_l14Box_fr0 (steps1 : List Sc) (sizes2 : List Sc) (g3 : List Sc) (s : Int × Int) : List AV := enc f_s_l14Box_h0 [.l steps1, .l sizes2, .l g3, .i s.1, .i s.2]
def f_s_l14Box_g0_1 : List Sh := [.u, .u, .u, .u, .u, .u, .u, .p (.int .i64), .u, .u, .u, .u, .u, .u, .u, .u, .u, .u, .u, .u, .u, .u, .u, .u, .u, .u, .u, .u, .u]
def f_s_l14Box_x0_1 (steps1 : List Sc) (sizes2 : List Sc) (g3 : List Sc) (e : Int) : X × List AV := (.out 0, enc f_s_l14Box_g0_1 [.i e])
def f_s_l14Box_x0_2 (steps1 : List Sc) (sizes2 : List Sc) (g3 : List Sc) (_e : Unit) : X × List AV := (.ret, [])
theorem f_s_l14Box_p0 {R : Type} (steps1 : List Sc) (sizes2 : List Sc) (g3 : List Sc) (s : Int × Int) (kN : Int × Int → Option R) (kA : Int → Option R) (kB : Unit → Option R) : f_s_l14Box_k0 steps1 sizes2 g3 s.1 s.2 kN kA = (f_s_l14Box_r0 steps1 sizes2 g3 s).bind (Ro.el kN kA kB) := by
  simp only [f_s_l14Box_k0, f_s_l14Box_r0, brB, boB, someB, noneB, Ro.el]
theorem f_s_l14Box_e0 (steps1 : List Sc) (sizes2 : List Sc) (g3 : List Sc) (s : Int × Int) : EC E0 f_s_l14Box_M H0 f_s_l14Box_F (asL (noL)) 0 (bodyOf Try.f73 0) (f_s_l14Box_fr0 steps1 sizes2 g3 s) (done (klOf f_s_l14Box_F 0)) = f_s_l14Box_k0 steps1 sizes2 g3 s.1 s.2 (fun s => some (.norm, f_s_l14Box_fr0 steps1 sizes2 g3 s)) (fun e => some (f_s_l14Box_x0_1 steps1 sizes2 g3 e)) := by kernel_rfl
theorem f_s_l14Box_l0 (steps1 : List Sc) (sizes2 : List Sc) (g3 : List Sc) : ∀ s r, loopL (f_s_l14Box_r0 steps1 sizes2 g3) s = some r → LS Try.prog f_s_l14Box_F (bodyOf Try.f73 0) (f_s_l14Box_fr0 steps1 sizes2 g3 s) (enX (f_s_l14Box_x0_1 steps1 sizes2 g3) (f_s_l14Box_x0_2 steps1 sizes2 g3) r) :=
  loop_true E0ok f_s_l14Box_Mt (noL_true) f_s_l14Box_o (fun _ h => by cases h) (fun _ h => by cases h) (fun s => (f_s_l14Box_e0 steps1 sizes2 g3 s).trans (f_s_l14Box_p0 steps1 sizes2 g3 s _ _ (fun e => some (f_s_l14Box_x0_2 steps1 sizes2 g3 e))))
def f_s_l14Box_t0 (σ : List AV) : Option (Bool × Bool × (X × List AV) × (X × List AV)) := match dec f_s_l14Box_h0 σ with
  | some [.l steps1, .l sizes2, .l g3, .i out7, .i i8] => some (isOne (loopL (f_s_l14Box_r0 steps1 sizes2 g3) (out7, i8)), true, f_s_l14Box_x0_1 steps1 sizes2 g3 (getOne 0 (loopL (f_s_l14Box_r0 steps1 sizes2 g3) (out7, i8))), (.ret, []))
  | _ => none
theorem f_s_l14Box_tt0 : TTrue Try.prog f_s_l14Box_F Try.f73 0 (f_s_l14Box_t0) := by
  intro σ p r r' h
  unfold f_s_l14Box_t0 at h
  split at h
  · rename_i hd
    rw [← dec_enc hd]
    exact row1 (f_s_l14Box_l0 _ _ _ _) h
  · cases h
theorem f_s_l14Box_p {R : Type} (g0 : List Sc) (steps1 : List Sc) (sizes2 : List Sc) (kR : Int → Option R) : f_s_l14Box_k g0 steps1 sizes2 kR = (f_s_l14Box_k g0 steps1 sizes2 some).bind kR := by
  simp only [f_s_l14Box_k, bl1B, someB]
theorem f_s_l14Box_e (g0 : List Sc) (steps1 : List Sc) (sizes2 : List Sc) : runFn E0 f_s_l14Box_M H0 f_s_l14Box_F (asL (addL 0 (f_s_l14Box_t0) (noL))) Try.f73 (f_s_l14Box_a g0 steps1 sizes2) (f_s_l14Box_i g0 steps1 sizes2) = f_s_l14Box_k g0 steps1 sizes2 (fun r => some (f_s_l14Box_en r)) := by kernel_rfl
theorem f_s_l14Box_ok (g0 : List Sc) (steps1 : List Sc) (sizes2 : List Sc) (r : Int) (h : f_s_l14Box g0 steps1 sizes2 = some r) : CS Try.prog 73 (f_s_l14Box_a g0 steps1 sizes2) (f_s_l14Box_i g0 steps1 sizes2) (f_s_l14Box_en r).1 (f_s_l14Box_en r).2 :=
  fn_true (Gk := fun k => f_s_l14Box_k g0 steps1 sizes2 k) (en := f_s_l14Box_en) Try.func73 E0ok f_s_l14Box_Mt (addL_true (f_s_l14Box_tt0) (noL_true)) f_s_l14Box_o (f_s_l14Box_e g0 steps1 sizes2) (f_s_l14Box_p g0 steps1 sizes2) h
def f_s_l14Box_c : CRow := fun args inh => match dec2 [.p .gr, .p .sl, .p .sl] [] args inh with
  | some ([.l g0, .l steps1, .l sizes2], []) => some ((f_s_l14Box g0 steps1 sizes2).isSome, (f_s_l14Box_en ((f_s_l14Box g0 steps1 sizes2).getD 0)).1, (f_s_l14Box_en ((f_s_l14Box g0 steps1 sizes2).getD 0)).2)
  | _ => none
theorem f_s_l14Box_cc : CTrue Try.prog 73 f_s_l14Box_c := by
  intro args inh rs out h
  unfold f_s_l14Box_c at h
  split at h
  · rename_i hd
    obtain ⟨h1, h2⟩ := dec2_enc hd
    rw [← h1, ← h2]
    exact rowC (f_s_l14Box_ok _ _ _) h
  · cases h

def f_s_IsProperBox_F : Fi := { nv := 0, nc := 0, m := 0, vt := [], kl := [(0, ([0, 4, 5, 6, 9, 10, 11, 12, 13, 14, 15, 16, 17, 18, 19, 20, 21, 22, 23, 24, 25, 26, 27, 28, 29, 30, 31, 32, 33], [0, 4, 5, 6, 8, 9, 10, 11, 12, 13, 14, 15, 16, 17, 18, 19, 20, 21, 22, 23, 24, 25, 26, 27, 28, 29, 30, 31, 32, 33], [0, 1, 2, 3, 4, 5, 7, 8, 9, 10, 11, 12, 13, 14, 15, 16, 17, 18, 19, 20, 21, 22, 23, 24, 25, 26, 27, 28, 29, 30, 31, 32, 33]))], sk := [], mvs := [], fz := [] }
def f_s_IsProperBox_a (g0 : List Sc) (steps1 : List Sc) (sizes2 : List Sc) : List AV := enc [.p .gr, .p .sl, .p .sl] [.l g0, .l steps1, .l sizes2]
def f_s_IsProperBox_i (g0 : List Sc) (steps1 : List Sc) (sizes2 : List Sc) : List AV := enc [] []
def f_s_IsProperBox_en (r : Bool) : List AV × List AV := (enc [.p .boo] [.b r], enc [] [])
def f_s_IsProperBox_M : Calling := addC 72 f_s_l14Fine_c (addC 73 f_s_l14Box_c (addC 69 f_s_l3Bits_c (noC)))
theorem f_s_IsProperBox_Mt : CallOk Try.prog (f_s_IsProperBox_M) := addC_true f_s_l14Fine_cc (addC_true f_s_l14Box_cc (addC_true f_s_l3Bits_cc (noC_true)))
theorem f_s_IsProperBox_o : loopsOnce Try.f34 = true := by kernel_rfl
def f_s_IsProperBox_h0 : List Sh := [.u, .p .sl, .p .sl, .p .el, .u, .u, .u, .p (.int .i64), .p (.int .i64), .u, .u, .u, .u, .u, .u, .u, .u, .u, .u, .u, .u, .u, .u, .u, .u, .u, .u, .u, .u, .u, .u, .u, .u, .u]
def f_s_IsProperBox_fr0 (steps1 : List Sc) (sizes2 : List Sc) (g3 : List Sc) (s : Int × Int) : List AV := enc f_s_IsProperBox_h0 [.l steps1, .l sizes2, .l g3, .i s.1, .i s.2]
def f_s_IsProperBox_g0_1 : List Sh := [.u, .p .sl, .p .sl, .p .el, .u, .u, .u, .p (.int .i64), .u, .u, .u, .u, .u, .u, .u, .u, .u, .u, .u, .u, .u, .u, .u, .u, .u, .u, .u, .u, .u, .u, .u, .u, .u, .u]
def f_s_IsProperBox_x0_1 (steps1 : List Sc) (sizes2 : List Sc) (g3 : List Sc) (e : Int) : X × List AV := (.out 0, enc f_s_IsProperBox_g0_1 [.l steps1, .l sizes2, .l g3, .i e])
def f_s_IsProperBox_x0_2 (steps1 : List Sc) (sizes2 : List Sc) (g3 : List Sc) (_e : Unit) : X × List AV := (.ret, [])
theorem f_s_IsProperBox_p0 {R : Type} (steps1 : List Sc) (sizes2 : List Sc) (g3 : List Sc) (s : Int × Int) (kN : Int × Int → Option R) (kA : Int → Option R) (kB : Unit → Option R) : f_s_IsProperBox_k0 steps1 sizes2 g3 s.1 s.2 kN kA = (f_s_IsProperBox_r0 steps1 sizes2 g3 s).bind (Ro.el kN kA kB) := by
  simp only [f_s_IsProperBox_k0, f_s_IsProperBox_r0, brB, someB, noneB, Ro.el]
theorem f_s_IsProperBox_e0 (steps1 : List Sc) (sizes2 : List Sc) (g3 : List Sc) (s : Int × Int) : EC E0 f_s_IsProperBox_M H0 f_s_IsProperBox_F (asL (noL)) 0 (bodyOf Try.f34 0) (f_s_IsProperBox_fr0 steps1 sizes2 g3 s) (done (klOf f_s_IsProperBox_F 0)) = f_s_IsProperBox_k0 steps1 sizes2 g3 s.1 s.2 (fun s => some (.norm, f_s_IsProperBox_fr0 steps1 sizes2 g3 s)) (fun e => some (f_s_IsProperBox_x0_1 steps1 sizes2 g3 e)) := by kernel_rfl
theorem f_s_IsProperBox_l0 (steps1 : List Sc) (sizes2 : List Sc) (g3 : List Sc) : ∀ s r, loopL (f_s_IsProperBox_r0 steps1 sizes2 g3) s = some r → LS Try.prog f_s_IsProperBox_F (bodyOf Try.f34 0) (f_s_IsProperBox_fr0 steps1 sizes2 g3 s) (enX (f_s_IsProperBox_x0_1 steps1 sizes2 g3) (f_s_IsProperBox_x0_2 steps1 sizes2 g3) r) :=
  loop_true E0ok f_s_IsProperBox_Mt (noL_true) f_s_IsProperBox_o (fun _ h => by cases h) (fun _ h => by cases h) (fun s => (f_s_IsProperBox_e0 steps1 sizes2 g3 s).trans (f_s_IsProperBox_p0 steps1 sizes2 g3 s _ _ (fun e => some (f_s_IsProperBox_x0_2 steps1 sizes2 g3 e))))
def f_s_IsProperBox_t0 (σ : List AV) : Option (Bool × Bool × (X × List AV) × (X × List AV)) := match dec f_s_IsProperBox_h0 σ with
  | some [.l steps1, .l sizes2, .l g3, .i n7, .i i8] => some (isOne (loopL (f_s_IsProperBox_r0 steps1 sizes2 g3) (n7, i8)), true, f_s_IsProperBox_x0_1 steps1 sizes2 g3 (getOne 0 (loopL (f_s_IsProperBox_r0 steps1 sizes2 g3) (n7, i8))), (.ret, []))
  | _ => none
theorem f_s_IsProperBox_tt0 : TTrue Try.prog f_s_IsProperBox_F Try.f34 0 (f_s_IsProperBox_t0) := by
  intro σ p r r' h
  unfold f_s_IsProperBox_t0 at h
  split at h
  · rename_i hd
    rw [← dec_enc hd]
    exact row1 (f_s_IsProperBox_l0 _ _ _ _) h
  · cases h
theorem f_s_IsProperBox_p {R : Type} (g0 : List Sc) (steps1 : List Sc) (sizes2 : List Sc) (kR : Bool → Option R) : f_s_IsProperBox_k g0 steps1 sizes2 kR = (f_s_IsProperBox_k g0 steps1 sizes2 some).bind kR := by
  simp only [f_s_IsProperBox_k, brB, boB, bl1B, someB]
theorem f_s_IsProperBox_e (g0 : List Sc) (steps1 : List Sc) (sizes2 : List Sc) : runFn E0 f_s_IsProperBox_M H0 f_s_IsProperBox_F (asL (addL 0 (f_s_IsProperBox_t0) (noL))) Try.f34 (f_s_IsProperBox_a g0 steps1 sizes2) (f_s_IsProperBox_i g0 steps1 sizes2) = f_s_IsProperBox_k g0 steps1 sizes2 (fun r => some (f_s_IsProperBox_en r)) := by kernel_rfl
theorem f_s_IsProperBox_ok (g0 : List Sc) (steps1 : List Sc) (sizes2 : List Sc) (r : Bool) (h : f_s_IsProperBox g0 steps1 sizes2 = some r) : CS Try.prog 34 (f_s_IsProperBox_a g0 steps1 sizes2) (f_s_IsProperBox_i g0 steps1 sizes2) (f_s_IsProperBox_en r).1 (f_s_IsProperBox_en r).2 :=
  fn_true (Gk := fun k => f_s_IsProperBox_k g0 steps1 sizes2 k) (en := f_s_IsProperBox_en) Try.func34 E0ok f_s_IsProperBox_Mt (addL_true (f_s_IsProperBox_tt0) (noL_true)) f_s_IsProperBox_o (f_s_IsProperBox_e g0 steps1 sizes2) (f_s_IsProperBox_p g0 steps1 sizes2) h
def f_s_IsProperBox_c : CRow := fun args inh => match dec2 [.p .gr, .p .sl, .p .sl] [] args inh with
  | some ([.l g0, .l steps1, .l sizes2], []) => some ((f_s_IsProperBox g0 steps1 sizes2).isSome, (f_s_IsProperBox_en ((f_s_IsProperBox g0 steps1 sizes2).getD false)).1, (f_s_IsProperBox_en ((f_s_IsProperBox g0 steps1 sizes2).getD false)).2)
  | _ => none
theorem f_s_IsProperBox_cc : CTrue Try.prog 34 f_s_IsProperBox_c := by
  intro args inh rs out h
  unfold f_s_IsProperBox_c at h
  split at h
  · rename_i hd
    obtain ⟨h1, h2⟩ := dec2_enc hd
    rw [← h1, ← h2]
    exact rowC (f_s_IsProperBox_ok _ _ _) h
  · cases h

def f_i_Group_progression_F : Fi := { nv := 0, nc := 0, m := 0, vt := [], kl := [(0, ([0, 3, 5, 6, 7, 8, 12, 13, 14, 15, 16, 17, 18, 19, 20, 21, 22], [0, 1, 2, 3, 4, 5, 6, 7, 8, 10, 11, 12, 13, 14, 15, 16, 17, 18, 19, 20, 21, 22], [0, 1, 2, 3, 4, 5, 6, 7, 9, 10, 11, 12, 13, 14, 15, 16, 17, 18, 19, 20, 21, 22]))], sk := [], mvs := [], fz := [] }
def f_i_Group_progression_a (g0 : List Sc) (start1 : Int) (step2 : Int) (n3 : Int) : List AV := enc [.p .gr, .p (.int .i64), .p (.int .i64), .p (.int .i64)] [.l g0, .i start1, .i step2, .i n3]
def f_i_Group_progression_i (g0 : List Sc) (start1 : Int) (step2 : Int) (n3 : Int) : List AV := enc [] []
def f_i_Group_progression_en (r : Int) : List AV × List AV := (enc [.p (.int .i64)] [.i r], enc [] [])
def f_i_Group_progression_M : Calling := addC 95 f_i_Group_add_c (noC)
theorem f_i_Group_progression_Mt : CallOk Try.prog (f_i_Group_progression_M) := addC_true f_i_Group_add_cc (noC_true)
theorem f_i_Group_progression_o : loopsOnce Try.f81 = true := by kernel_rfl
def f_i_Group_progression_h0 : List Sh := [.u, .p (.int .i64), .p (.int .i64), .u, .p .el, .u, .u, .u, .u, .p (.int .i64), .p (.int .i64), .p (.int .i64), .u, .u, .u, .u, .u, .u, .u, .u, .u, .u, .u]
def f_i_Group_progression_fr0 (step2 : Int) (g4 : List Sc) (t10 : Int) (s : Int × Int × Int) : List AV := enc f_i_Group_progression_h0 [.i s.1, .i step2, .l g4, .i s.2.1, .i t10, .i s.2.2]
def f_i_Group_progression_g0_1 : List Sh := [.u, .u, .u, .u, .u, .u, .u, .u, .u, .p (.int .i64), .u, .u, .u, .u, .u, .u, .u, .u, .u, .u, .u, .u, .u]
def f_i_Group_progression_x0_1 (step2 : Int) (g4 : List Sc) (t10 : Int) (e : Int) : X × List AV := (.out 0, enc f_i_Group_progression_g0_1 [.i e])
def f_i_Group_progression_x0_2 (step2 : Int) (g4 : List Sc) (t10 : Int) (_e : Unit) : X × List AV := (.ret, [])
theorem f_i_Group_progression_p0 {R : Type} (step2 : Int) (g4 : List Sc) (t10 : Int) (s : Int × Int × Int) (kN : Int × Int × Int → Option R) (kA : Int → Option R) (kB : Unit → Option R) : f_i_Group_progression_k0 step2 g4 t10 s.1 s.2.1 s.2.2 kN kA = (f_i_Group_progression_r0 step2 g4 t10 s).bind (Ro.el kN kA kB) := by
  simp only [f_i_Group_progression_k0, f_i_Group_progression_r0, brB, boB, someB, noneB, Ro.el]
theorem f_i_Group_progression_e0 (step2 : Int) (g4 : List Sc) (t10 : Int) (s : Int × Int × Int) : EC E0 f_i_Group_progression_M H0 f_i_Group_progression_F (asL (noL)) 0 (bodyOf Try.f81 0) (f_i_Group_progression_fr0 step2 g4 t10 s) (done (klOf f_i_Group_progression_F 0)) = f_i_Group_progression_k0 step2 g4 t10 s.1 s.2.1 s.2.2 (fun s => some (.norm, f_i_Group_progression_fr0 step2 g4 t10 s)) (fun e => some (f_i_Group_progression_x0_1 step2 g4 t10 e)) := by kernel_rfl
theorem f_i_Group_progression_l0 (step2 : Int) (g4 : List Sc) (t10 : Int) : ∀ s r, loopL (f_i_Group_progression_r0 step2 g4 t10) s = some r → LS Try.prog f_i_Group_progression_F (bodyOf Try.f81 0) (f_i_Group_progression_fr0 step2 g4 t10 s) (enX (f_i_Group_progression_x0_1 step2 g4 t10) (f_i_Group_progression_x0_2 step2 g4 t10) r) :=
  loop_true E0ok f_i_Group_progression_Mt (noL_true) f_i_Group_progression_o (fun _ h => by cases h) (fun _ h => by cases h) (fun s => (f_i_Group_progression_e0 step2 g4 t10 s).trans (f_i_Group_progression_p0 step2 g4 t10 s _ _ (fun e => some (f_i_Group_progression_x0_2 step2 g4 t10 e))))
def f_i_Group_progression_t0 (σ : List AV) : Option (Bool × Bool × (X × List AV) × (X × List AV)) := match dec f_i_Group_progression_h0 σ with
  | some [.i start1, .i step2, .l g4, .i out9, .i t10, .i t11] => some (isOne (loopL (f_i_Group_progression_r0 step2 g4 t10) (start1, out9, t11)), true, f_i_Group_progression_x0_1 step2 g4 t10 (getOne 0 (loopL (f_i_Group_progression_r0 step2 g4 t10) (start1, out9, t11))), (.ret, []))
  | _ => none
theorem f_i_Group_progression_tt0 : TTrue Try.prog f_i_Group_progression_F Try.f81 0 (f_i_Group_progression_t0) := by
  intro σ p r r' h
  unfold f_i_Group_progression_t0 at h
  split at h
  · rename_i hd
    rw [← dec_enc hd]
    exact row1 (f_i_Group_progression_l0 _ _ _ _) h
  · cases h
theorem f_i_Group_progression_p {R : Type} (g0 : List Sc) (start1 : Int) (step2 : Int) (n3 : Int) (kR : Int → Option R) : f_i_Group_progression_k g0 start1 step2 n3 kR = (f_i_Group_progression_k g0 start1 step2 n3 some).bind kR := by
  simp only [f_i_Group_progression_k, bl1B, someB]
theorem f_i_Group_progression_e (g0 : List Sc) (start1 : Int) (step2 : Int) (n3 : Int) : runFn E0 f_i_Group_progression_M H0 f_i_Group_progression_F (asL (addL 0 (f_i_Group_progression_t0) (noL))) Try.f81 (f_i_Group_progression_a g0 start1 step2 n3) (f_i_Group_progression_i g0 start1 step2 n3) = f_i_Group_progression_k g0 start1 step2 n3 (fun r => some (f_i_Group_progression_en r)) := by kernel_rfl
theorem f_i_Group_progression_ok (g0 : List Sc) (start1 : Int) (step2 : Int) (n3 : Int) (r : Int) (h : f_i_Group_progression g0 start1 step2 n3 = some r) : CS Try.prog 81 (f_i_Group_progression_a g0 start1 step2 n3) (f_i_Group_progression_i g0 start1 step2 n3) (f_i_Group_progression_en r).1 (f_i_Group_progression_en r).2 :=
  fn_true (Gk := fun k => f_i_Group_progression_k g0 start1 step2 n3 k) (en := f_i_Group_progression_en) Try.func81 E0ok f_i_Group_progression_Mt (addL_true (f_i_Group_progression_tt0) (noL_true)) f_i_Group_progression_o (f_i_Group_progression_e g0 start1 step2 n3) (f_i_Group_progression_p g0 start1 step2 n3) h
def f_i_Group_progression_c : CRow := fun args inh => match dec2 [.p .gr, .p (.int .i64), .p (.int .i64), .p (.int .i64)] [] args inh with
  | some ([.l g0, .i start1, .i step2, .i n3], []) => some ((f_i_Group_progression g0 start1 step2 n3).isSome, (f_i_Group_progression_en ((f_i_Group_progression g0 start1 step2 n3).getD 0)).1, (f_i_Group_progression_en ((f_i_Group_progression g0 start1 step2 n3).getD 0)).2)
  | _ => none
theorem f_i_Group_progression_cc : CTrue Try.prog 81 f_i_Group_progression_c := by
  intro args inh rs out h
  unfold f_i_Group_progression_c at h
  split at h
  · rename_i hd
    obtain ⟨h1, h2⟩ := dec2_enc hd
    rw [← h1, ← h2]
    exact rowC (f_i_Group_progression_ok _ _ _ _) h
  · cases h

def f_i_BoxOf_F : Fi := { nv := 0, nc := 0, m := 0, vt := [], kl := [(0, ([0, 1, 4, 5, 6, 7, 9, 10, 11, 12, 13, 14, 15, 16, 17, 18, 19, 20, 21, 22, 23, 24, 25, 29, 30, 31, 32, 33, 34, 35, 36, 37, 38, 39, 40, 41, 42, 43, 44, 45, 46, 47, 48, 49, 50, 51, 52, 53, 54, 55, 56], [0, 1, 2, 3, 4, 5, 6, 7, 9, 10, 11, 12, 13, 14, 15, 16, 17, 18, 19, 20, 21, 22, 23, 24, 25, 26, 27, 28, 29, 30, 31, 32, 33, 34, 35, 36, 37, 38, 39, 40, 41, 42, 43, 44, 45, 46, 47, 48, 49, 50, 51, 52, 53, 54, 55, 56], [0, 1, 2, 3, 4, 5, 8, 9, 10, 11, 12, 13, 14, 15, 16, 17, 18, 19, 20, 21, 22, 23, 24, 25, 26, 27, 28, 29, 30, 31, 32, 33, 34, 35, 36, 37, 38, 39, 40, 41, 42, 43, 44, 45, 46, 47, 48, 49, 50, 51, 52, 53, 54, 55, 56]))], sk := [], mvs := [], fz := [] }
def f_i_BoxOf_a (g0 : List Sc) (steps1 : List Sc) (sizes2 : List Sc) : List AV := enc [.p .gr, .p .sl, .p .sl] [.l g0, .l steps1, .l sizes2]
def f_i_BoxOf_i (g0 : List Sc) (steps1 : List Sc) (sizes2 : List Sc) : List AV := enc [] []
def f_i_BoxOf_en (r : Int × Bool) : List AV × List AV := (enc [.p (.int .i64), .p .boo] [.i r.1, .b r.2], enc [] [])
def f_i_BoxOf_M : Calling := addC 91 f_i_IsGroup_c (addC 90 f_i_Group_has_c (addC 70 f_i_within_c (addC 81 f_i_Group_progression_c (addC 80 f_i_Group_sum_c (noC)))))
theorem f_i_BoxOf_Mt : CallOk Try.prog (f_i_BoxOf_M) := addC_true f_i_IsGroup_cc (addC_true f_i_Group_has_cc (addC_true f_i_within_cc (addC_true f_i_Group_progression_cc (addC_true f_i_Group_sum_cc (noC_true)))))
theorem f_i_BoxOf_o : loopsOnce Try.f74 = true := by kernel_rfl
def f_i_BoxOf_h0 : List Sh := [.u, .u, .p .sl, .p .el, .u, .u, .u, .u, .p (.int .i64), .u, .u, .u, .u, .u, .u, .u, .u, .u, .u, .u, .u, .u, .u, .u, .u, .u, .p .sl, .p (.int .i64), .p (.int .i64), .u, .u, .u, .u, .u, .u, .u, .u, .u, .u, .u, .u, .u, .u, .u, .u, .u, .u, .u, .u, .u, .u, .u, .u, .u, .u, .u, .u]
def f_i_BoxOf_fr0 (sizes2 : List Sc) (g3 : List Sc) (t26 : List Sc) (t27 : Int) (s : Int × Int) : List AV := enc f_i_BoxOf_h0 [.l sizes2, .l g3, .i s.1, .l t26, .i t27, .i s.2]
def f_i_BoxOf_g0_1 : List Sh := [.u, .u, .u, .u, .u, .u, .u, .u, .p (.int .i64), .u, .u, .u, .u, .u, .u, .u, .u, .u, .u, .u, .u, .u, .u, .u, .u, .u, .u, .u, .u, .u, .u, .u, .u, .u, .u, .u, .u, .u, .u, .u, .u, .u, .u, .u, .u, .u, .u, .u, .u, .u, .u, .u, .u, .u, .u, .u, .u]
def f_i_BoxOf_x0_1 (sizes2 : List Sc) (g3 : List Sc) (t26 : List Sc) (t27 : Int) (e : Int) : X × List AV := (.out 0, enc f_i_BoxOf_g0_1 [.i e])
def f_i_BoxOf_g0_2 : List Sh := [.u, .u, .u, .u, .u, .u, .p (.int .i64), .p .boo, .u, .u, .u, .u, .u, .u, .u, .u, .u, .u, .u, .u, .u, .u, .u, .u, .u, .u, .u, .u, .u, .u, .u, .u, .u, .u, .u, .u, .u, .u, .u, .u, .u, .u, .u, .u, .u, .u, .u, .u, .u, .u, .u, .u, .u, .u, .u, .u, .u]
def f_i_BoxOf_x0_2 (sizes2 : List Sc) (g3 : List Sc) (t26 : List Sc) (t27 : Int) (e : Unit) : X × List AV := (.ret, enc f_i_BoxOf_g0_2 [.i 0, .b false])
theorem f_i_BoxOf_p0 {R : Type} (sizes2 : List Sc) (g3 : List Sc) (t26 : List Sc) (t27 : Int) (s : Int × Int) (kN : Int × Int → Option R) (kA : Int → Option R) (kB : Unit → Option R) : f_i_BoxOf_k0 sizes2 g3 t26 t27 s.1 s.2 kN kA kB = (f_i_BoxOf_r0 sizes2 g3 t26 t27 s).bind (Ro.el kN kA kB) := by
  simp only [f_i_BoxOf_k0, f_i_BoxOf_r0, brB, boB, someB, noneB, Ro.el]
theorem f_i_BoxOf_e0 (sizes2 : List Sc) (g3 : List Sc) (t26 : List Sc) (t27 : Int) (s : Int × Int) : EC E0 f_i_BoxOf_M H0 f_i_BoxOf_F (asL (noL)) 0 (bodyOf Try.f74 0) (f_i_BoxOf_fr0 sizes2 g3 t26 t27 s) (done (klOf f_i_BoxOf_F 0)) = f_i_BoxOf_k0 sizes2 g3 t26 t27 s.1 s.2 (fun s => some (.norm, f_i_BoxOf_fr0 sizes2 g3 t26 t27 s)) (fun e => some (f_i_BoxOf_x0_1 sizes2 g3 t26 t27 e)) (fun e => some (f_i_BoxOf_x0_2 sizes2 g3 t26 t27 e)) := by kernel_rfl
theorem f_i_BoxOf_l0 (sizes2 : List Sc) (g3 : List Sc) (t26 : List Sc) (t27 : Int) : ∀ s r, loopL (f_i_BoxOf_r0 sizes2 g3 t26 t27) s = some r → LS Try.prog f_i_BoxOf_F (bodyOf Try.f74 0) (f_i_BoxOf_fr0 sizes2 g3 t26 t27 s) (enX (f_i_BoxOf_x0_1 sizes2 g3 t26 t27) (f_i_BoxOf_x0_2 sizes2 g3 t26 t27) r) :=
  loop_true E0ok f_i_BoxOf_Mt (noL_true) f_i_BoxOf_o (fun _ h => by cases h) (fun _ h => by cases h) (fun s => (f_i_BoxOf_e0 sizes2 g3 t26 t27 s).trans (f_i_BoxOf_p0 sizes2 g3 t26 t27 s _ _ (fun e => some (f_i_BoxOf_x0_2 sizes2 g3 t26 t27 e))))
def f_i_BoxOf_t0 (σ : List AV) : Option (Bool × Bool × (X × List AV) × (X × List AV)) := match dec f_i_BoxOf_h0 σ with
  | some [.l sizes2, .l g3, .i out8, .l t26, .i t27, .i t28] => some ((loopL (f_i_BoxOf_r0 sizes2 g3 t26 t27) (out8, t28)).isSome, isOne (loopL (f_i_BoxOf_r0 sizes2 g3 t26 t27) (out8, t28)), f_i_BoxOf_x0_1 sizes2 g3 t26 t27 (getOne 0 (loopL (f_i_BoxOf_r0 sizes2 g3 t26 t27) (out8, t28))), f_i_BoxOf_x0_2 sizes2 g3 t26 t27 (getTwo () (loopL (f_i_BoxOf_r0 sizes2 g3 t26 t27) (out8, t28))))
  | _ => none
theorem f_i_BoxOf_tt0 : TTrue Try.prog f_i_BoxOf_F Try.f74 0 (f_i_BoxOf_t0) := by
  intro σ p r r' h
  unfold f_i_BoxOf_t0 at h
  split at h
  · rename_i hd
    rw [← dec_enc hd]
    exact row2 (f_i_BoxOf_l0 _ _ _ _ _) h
  · cases h
theorem f_i_BoxOf_p {R : Type} (g0 : List Sc) (steps1 : List Sc) (sizes2 : List Sc) (kR : Int × Bool → Option R) : f_i_BoxOf_k g0 steps1 sizes2 kR = (f_i_BoxOf_k g0 steps1 sizes2 some).bind kR := by
  simp only [f_i_BoxOf_k, brB, boB, blB, someB]
theorem f_i_BoxOf_e (g0 : List Sc) (steps1 : List Sc) (sizes2 : List Sc) : runFn E0 f_i_BoxOf_M H0 f_i_BoxOf_F (asL (addL 0 (f_i_BoxOf_t0) (noL))) Try.f74 (f_i_BoxOf_a g0 steps1 sizes2) (f_i_BoxOf_i g0 steps1 sizes2) = f_i_BoxOf_k g0 steps1 sizes2 (fun r => some (f_i_BoxOf_en r)) := by kernel_rfl
theorem f_i_BoxOf_ok (g0 : List Sc) (steps1 : List Sc) (sizes2 : List Sc) (r : Int × Bool) (h : f_i_BoxOf g0 steps1 sizes2 = some r) : CS Try.prog 74 (f_i_BoxOf_a g0 steps1 sizes2) (f_i_BoxOf_i g0 steps1 sizes2) (f_i_BoxOf_en r).1 (f_i_BoxOf_en r).2 :=
  fn_true (Gk := fun k => f_i_BoxOf_k g0 steps1 sizes2 k) (en := f_i_BoxOf_en) Try.func74 E0ok f_i_BoxOf_Mt (addL_true (f_i_BoxOf_tt0) (noL_true)) f_i_BoxOf_o (f_i_BoxOf_e g0 steps1 sizes2) (f_i_BoxOf_p g0 steps1 sizes2) h
def f_i_BoxOf_c : CRow := fun args inh => match dec2 [.p .gr, .p .sl, .p .sl] [] args inh with
  | some ([.l g0, .l steps1, .l sizes2], []) => some ((f_i_BoxOf g0 steps1 sizes2).isSome, (f_i_BoxOf_en ((f_i_BoxOf g0 steps1 sizes2).getD (0, false))).1, (f_i_BoxOf_en ((f_i_BoxOf g0 steps1 sizes2).getD (0, false))).2)
  | _ => none
theorem f_i_BoxOf_cc : CTrue Try.prog 74 f_i_BoxOf_c := by
  intro args inh rs out h
  unfold f_i_BoxOf_c at h
  split at h
  · rename_i hd
    obtain ⟨h1, h2⟩ := dec2_enc hd
    rw [← h1, ← h2]
    exact rowC (f_i_BoxOf_ok _ _ _) h
  · cases h

def f_i_IsProperBox_F : Fi := { nv := 0, nc := 0, m := 0, vt := [], kl := [(0, ([0, 1, 2, 3, 4, 5, 6, 10, 11, 12, 13, 14, 15, 16, 17, 18, 22, 23, 24, 25, 26, 27, 28, 29, 30, 31, 32, 33, 34, 35], [0, 1, 2, 3, 4, 5, 6, 10, 11, 12, 13, 14, 15, 16, 17, 18, 19, 20, 21, 22, 23, 24, 25, 26, 27, 28, 29, 30, 31, 32, 33, 34, 35], [0, 1, 2, 3, 4, 5, 7, 8, 9, 10, 11, 12, 13, 14, 15, 16, 17, 18, 19, 20, 21, 22, 23, 24, 25, 26, 27, 28, 29, 30, 31, 32, 33, 34, 35]))], sk := [], mvs := [], fz := [] }
def f_i_IsProperBox_a (g0 : List Sc) (steps1 : List Sc) (sizes2 : List Sc) : List AV := enc [.p .gr, .p .sl, .p .sl] [.l g0, .l steps1, .l sizes2]
def f_i_IsProperBox_i (g0 : List Sc) (steps1 : List Sc) (sizes2 : List Sc) : List AV := enc [] []
def f_i_IsProperBox_en (r : Bool) : List AV × List AV := (enc [.p .boo] [.b r], enc [] [])
def f_i_IsProperBox_M : Calling := addC 74 f_i_BoxOf_c (addC 71 f_i_bits_c (noC))
theorem f_i_IsProperBox_Mt : CallOk Try.prog (f_i_IsProperBox_M) := addC_true f_i_BoxOf_cc (addC_true f_i_bits_cc (noC_true))
theorem f_i_IsProperBox_o : loopsOnce Try.f35 = true := by kernel_rfl
def f_i_IsProperBox_h0 : List Sh := [.u, .u, .u, .u, .u, .u, .u, .p (.int .i64), .p .boo, .p (.int .i64), .u, .u, .u, .u, .u, .u, .u, .u, .u, .p .sl, .p (.int .i64), .p (.int .i64), .u, .u, .u, .u, .u, .u, .u, .u, .u, .u, .u, .u, .u, .u]
def f_i_IsProperBox_fr0 (a7 : Int) (ok8 : Bool) (t19 : List Sc) (t20 : Int) (s : Int × Int) : List AV := enc f_i_IsProperBox_h0 [.i a7, .b ok8, .i s.1, .l t19, .i t20, .i s.2]
def f_i_IsProperBox_g0_1 : List Sh := [.u, .u, .u, .u, .u, .u, .u, .p (.int .i64), .p .boo, .p (.int .i64), .u, .u, .u, .u, .u, .u, .u, .u, .u, .u, .u, .u, .u, .u, .u, .u, .u, .u, .u, .u, .u, .u, .u, .u, .u, .u]
def f_i_IsProperBox_x0_1 (a7 : Int) (ok8 : Bool) (t19 : List Sc) (t20 : Int) (e : Int) : X × List AV := (.out 0, enc f_i_IsProperBox_g0_1 [.i a7, .b ok8, .i e])
def f_i_IsProperBox_x0_2 (a7 : Int) (ok8 : Bool) (t19 : List Sc) (t20 : Int) (_e : Unit) : X × List AV := (.ret, [])
theorem f_i_IsProperBox_p0 {R : Type} (a7 : Int) (ok8 : Bool) (t19 : List Sc) (t20 : Int) (s : Int × Int) (kN : Int × Int → Option R) (kA : Int → Option R) (kB : Unit → Option R) : f_i_IsProperBox_k0 a7 ok8 t19 t20 s.1 s.2 kN kA = (f_i_IsProperBox_r0 a7 ok8 t19 t20 s).bind (Ro.el kN kA kB) := by
  simp only [f_i_IsProperBox_k0, f_i_IsProperBox_r0, brB, someB, noneB, Ro.el]
theorem f_i_IsProperBox_e0 (a7 : Int) (ok8 : Bool) (t19 : List Sc) (t20 : Int) (s : Int × Int) : EC E0 f_i_IsProperBox_M H0 f_i_IsProperBox_F (asL (noL)) 0 (bodyOf Try.f35 0) (f_i_IsProperBox_fr0 a7 ok8 t19 t20 s) (done (klOf f_i_IsProperBox_F 0)) = f_i_IsProperBox_k0 a7 ok8 t19 t20 s.1 s.2 (fun s => some (.norm, f_i_IsProperBox_fr0 a7 ok8 t19 t20 s)) (fun e => some (f_i_IsProperBox_x0_1 a7 ok8 t19 t20 e)) := by kernel_rfl
theorem f_i_IsProperBox_l0 (a7 : Int) (ok8 : Bool) (t19 : List Sc) (t20 : Int) : ∀ s r, loopL (f_i_IsProperBox_r0 a7 ok8 t19 t20) s = some r → LS Try.prog f_i_IsProperBox_F (bodyOf Try.f35 0) (f_i_IsProperBox_fr0 a7 ok8 t19 t20 s) (enX (f_i_IsProperBox_x0_1 a7 ok8 t19 t20) (f_i_IsProperBox_x0_2 a7 ok8 t19 t20) r) :=
  loop_true E0ok f_i_IsProperBox_Mt (noL_true) f_i_IsProperBox_o (fun _ h => by cases h) (fun _ h => by cases h) (fun s => (f_i_IsProperBox_e0 a7 ok8 t19 t20 s).trans (f_i_IsProperBox_p0 a7 ok8 t19 t20 s _ _ (fun e => some (f_i_IsProperBox_x0_2 a7 ok8 t19 t20 e))))
def f_i_IsProperBox_t0 (σ : List AV) : Option (Bool × Bool × (X × List AV) × (X × List AV)) := match dec f_i_IsProperBox_h0 σ with
  | some [.i a7, .b ok8, .i n9, .l t19, .i t20, .i t21] => some (isOne (loopL (f_i_IsProperBox_r0 a7 ok8 t19 t20) (n9, t21)), true, f_i_IsProperBox_x0_1 a7 ok8 t19 t20 (getOne 0 (loopL (f_i_IsProperBox_r0 a7 ok8 t19 t20) (n9, t21))), (.ret, []))
  | _ => none
theorem f_i_IsProperBox_tt0 : TTrue Try.prog f_i_IsProperBox_F Try.f35 0 (f_i_IsProperBox_t0) := by
  intro σ p r r' h
  unfold f_i_IsProperBox_t0 at h
  split at h
  · rename_i hd
    rw [← dec_enc hd]
    exact row1 (f_i_IsProperBox_l0 _ _ _ _ _) h
  · cases h
theorem f_i_IsProperBox_p {R : Type} (g0 : List Sc) (steps1 : List Sc) (sizes2 : List Sc) (kR : Bool → Option R) : f_i_IsProperBox_k g0 steps1 sizes2 kR = (f_i_IsProperBox_k g0 steps1 sizes2 some).bind kR := by
  simp only [f_i_IsProperBox_k, brB, boB, bl1B, someB]
theorem f_i_IsProperBox_e (g0 : List Sc) (steps1 : List Sc) (sizes2 : List Sc) : runFn E0 f_i_IsProperBox_M H0 f_i_IsProperBox_F (asL (addL 0 (f_i_IsProperBox_t0) (noL))) Try.f35 (f_i_IsProperBox_a g0 steps1 sizes2) (f_i_IsProperBox_i g0 steps1 sizes2) = f_i_IsProperBox_k g0 steps1 sizes2 (fun r => some (f_i_IsProperBox_en r)) := by kernel_rfl
theorem f_i_IsProperBox_ok (g0 : List Sc) (steps1 : List Sc) (sizes2 : List Sc) (r : Bool) (h : f_i_IsProperBox g0 steps1 sizes2 = some r) : CS Try.prog 35 (f_i_IsProperBox_a g0 steps1 sizes2) (f_i_IsProperBox_i g0 steps1 sizes2) (f_i_IsProperBox_en r).1 (f_i_IsProperBox_en r).2 :=
  fn_true (Gk := fun k => f_i_IsProperBox_k g0 steps1 sizes2 k) (en := f_i_IsProperBox_en) Try.func35 E0ok f_i_IsProperBox_Mt (addL_true (f_i_IsProperBox_tt0) (noL_true)) f_i_IsProperBox_o (f_i_IsProperBox_e g0 steps1 sizes2) (f_i_IsProperBox_p g0 steps1 sizes2) h
def f_i_IsProperBox_c : CRow := fun args inh => match dec2 [.p .gr, .p .sl, .p .sl] [] args inh with
  | some ([.l g0, .l steps1, .l sizes2], []) => some ((f_i_IsProperBox g0 steps1 sizes2).isSome, (f_i_IsProperBox_en ((f_i_IsProperBox g0 steps1 sizes2).getD false)).1, (f_i_IsProperBox_en ((f_i_IsProperBox g0 steps1 sizes2).getD false)).2)
  | _ => none
theorem f_i_IsProperBox_cc : CTrue Try.prog 35 f_i_IsProperBox_c := by
  intro args inh rs out h
  unfold f_i_IsProperBox_c at h
  split at h
  · rename_i hd
    obtain ⟨h1, h2⟩ := dec2_enc hd
    rw [← h1, ← h2]
    exact rowC (f_i_IsProperBox_ok _ _ _) h
  · cases h

def f_l_FnExactIsProperBox_F : Fi := { nv := 3, nc := 1, m := 0, vt := [(9, 0), (25, 1), (32, 2)], kl := [], sk := [], mvs := [1, 2], fz := [] }
def f_l_FnExactIsProperBox_a (aG0 : List Sc) (aSteps1 : List Sc) (aSizes2 : List Sc) : List AV := enc [.p .gr, .p .sl, .p .sl] [.l aG0, .l aSteps1, .l aSizes2]
def f_l_FnExactIsProperBox_i (aG0 : List Sc) (aSteps1 : List Sc) (aSizes2 : List Sc) : List AV := enc [] []
def f_l_FnExactIsProperBox_en (r : Bool) : List AV × List AV := (enc [.p .boo] [.b r], enc [] [])
def f_l_FnExactIsProperBox_M : Calling := addC 14 f_l_szGroup_c (addC 16 f_l_toGroup_c (addC 17 f_l_toIntS_c (addC 34 f_s_IsProperBox_c (addC 35 f_i_IsProperBox_c (addC 19 f_l_eqGroup_c (addC 20 f_l_eqIntS_c (noC)))))))
theorem f_l_FnExactIsProperBox_Mt : CallOk Try.prog (f_l_FnExactIsProperBox_M) := addC_true f_l_szGroup_cc (addC_true f_l_toGroup_cc (addC_true f_l_toIntS_cc (addC_true f_s_IsProperBox_cc (addC_true f_i_IsProperBox_cc (addC_true f_l_eqGroup_cc (addC_true f_l_eqIntS_cc (noC_true)))))))
theorem f_l_FnExactIsProperBox_o : loopsOnce Try.f9 = true := by kernel_rfl
theorem f_l_FnExactIsProperBox_p {R : Type} (aG0 : List Sc) (aSteps1 : List Sc) (aSizes2 : List Sc) (kR : Bool → Option R) : f_l_FnExactIsProperBox_k aG0 aSteps1 aSizes2 kR = (f_l_FnExactIsProperBox_k aG0 aSteps1 aSizes2 some).bind kR := by
  simp only [f_l_FnExactIsProperBox_k, brB, boB, someB]
theorem f_l_FnExactIsProperBox_e (aG0 : List Sc) (aSteps1 : List Sc) (aSizes2 : List Sc) : runFn E0 f_l_FnExactIsProperBox_M H0 f_l_FnExactIsProperBox_F (asL (noL)) Try.f9 (f_l_FnExactIsProperBox_a aG0 aSteps1 aSizes2) (f_l_FnExactIsProperBox_i aG0 aSteps1 aSizes2) = f_l_FnExactIsProperBox_k aG0 aSteps1 aSizes2 (fun r => some (f_l_FnExactIsProperBox_en r)) := by kernel_rfl
theorem f_l_FnExactIsProperBox_ok (aG0 : List Sc) (aSteps1 : List Sc) (aSizes2 : List Sc) (r : Bool) (h : f_l_FnExactIsProperBox aG0 aSteps1 aSizes2 = some r) : CS Try.prog 9 (f_l_FnExactIsProperBox_a aG0 aSteps1 aSizes2) (f_l_FnExactIsProperBox_i aG0 aSteps1 aSizes2) (f_l_FnExactIsProperBox_en r).1 (f_l_FnExactIsProperBox_en r).2 :=
  fn_true (Gk := fun k => f_l_FnExactIsProperBox_k aG0 aSteps1 aSizes2 k) (en := f_l_FnExactIsProperBox_en) Try.func9 E0ok f_l_FnExactIsProperBox_Mt (noL_true) f_l_FnExactIsProperBox_o (f_l_FnExactIsProperBox_e aG0 aSteps1 aSizes2) (f_l_FnExactIsProperBox_p aG0 aSteps1 aSizes2) h
def f_l_FnExactIsProperBox_c : CRow := fun args inh => match dec2 [.p .gr, .p .sl, .p .sl] [] args inh with
  | some ([.l aG0, .l aSteps1, .l aSizes2], []) => some ((f_l_FnExactIsProperBox aG0 aSteps1 aSizes2).isSome, (f_l_FnExactIsProperBox_en ((f_l_FnExactIsProperBox aG0 aSteps1 aSizes2).getD false)).1, (f_l_FnExactIsProperBox_en ((f_l_FnExactIsProperBox aG0 aSteps1 aSizes2).getD false)).2)
  | _ => none
theorem f_l_FnExactIsProperBox_cc : CTrue Try.prog 9 f_l_FnExactIsProperBox_c := by
  intro args inh rs out h
  unfold f_l_FnExactIsProperBox_c at h
  split at h
  · rename_i hd
    obtain ⟨h1, h2⟩ := dec2_enc hd
    rw [← h1, ← h2]
    exact rowC (f_l_FnExactIsProperBox_ok _ _ _) h
  · cases h

def f_s_FindBox_F : Fi := { nv := 0, nc := 0, m := 0, vt := [], kl := [(6, ([0, 3, 4, 5, 6, 15, 16, 17, 18, 19, 20, 21, 22, 23, 24, 25, 26, 27, 28, 29, 30, 31, 32, 33, 34, 35, 36, 37, 38, 39, 40, 41, 42, 43, 44, 45, 46, 47, 48, 49, 50, 51, 52, 53, 54, 55, 56, 57, 58, 59, 60, 61, 62, 63, 64, 65, 66, 67, 68, 69, 70, 71, 72, 73, 74, 75, 76, 77, 78, 79, 81, 82, 83, 84, 85, 86, 87], [0, 3, 4, 5, 6, 13, 14, 15, 16, 17, 18, 19, 20, 21, 22, 23, 24, 25, 26, 27, 28, 29, 30, 31, 32, 33, 34, 35, 36, 37, 38, 39, 40, 41, 42, 43, 44, 45, 46, 47, 48, 49, 50, 51, 52, 53, 54, 55, 56, 57, 58, 59, 60, 61, 62, 63, 64, 65, 66, 67, 68, 69, 70, 71, 72, 73, 74, 75, 76, 77, 78, 79, 81, 82, 83, 84, 85, 86, 87], [0, 1, 2, 3, 7, 8, 9, 10, 11, 12, 13, 14, 15, 16, 17, 18, 19, 20, 21, 22, 23, 24, 25, 26, 27, 28, 29, 30, 31, 32, 33, 34, 35, 36, 37, 38, 39, 40, 41, 42, 43, 44, 45, 46, 47, 48, 49, 50, 51, 52, 53, 54, 55, 56, 57, 58, 59, 60, 61, 62, 63, 64, 65, 66, 67, 68, 69, 70, 71, 72, 73, 74, 75, 76, 77, 78, 79, 81, 82, 83, 84, 85, 86, 87])), (4, ([0, 3, 4, 5, 6, 13, 14, 15, 16, 17, 18, 19, 20, 21, 22, 23, 24, 25, 26, 27, 28, 29, 30, 31, 32, 33, 34, 35, 36, 37, 38, 39, 40, 41, 42, 43, 44, 45, 46, 47, 48, 49, 50, 51, 52, 53, 54, 55, 56, 57, 58, 59, 60, 61, 62, 63, 64, 65, 66, 67, 68, 69, 70, 71, 72, 73, 74, 75, 76, 77, 78, 79, 81, 82, 83, 84, 85, 86, 87], [0, 3, 4, 5, 6, 13, 14, 15, 16, 17, 18, 19, 20, 21, 22, 23, 24, 25, 26, 27, 28, 29, 30, 31, 32, 33, 34, 35, 36, 37, 38, 39, 40, 41, 42, 43, 44, 45, 46, 47, 48, 49, 50, 51, 52, 53, 54, 55, 56, 57, 58, 59, 60, 61, 62, 63, 64, 65, 66, 67, 68, 69, 70, 71, 72, 73, 74, 75, 76, 77, 78, 79, 81, 82, 83, 84, 85, 86, 87], [0, 1, 2, 3, 7, 8, 9, 10, 11, 12, 13, 14, 15, 16, 17, 18, 19, 20, 21, 22, 23, 24, 25, 26, 27, 28, 29, 30, 31, 32, 33, 34, 35, 36, 37, 38, 39, 40, 41, 42, 43, 44, 45, 46, 47, 48, 49, 50, 51, 52, 53, 54, 55, 56, 57, 58, 59, 60, 61, 62, 63, 64, 65, 66, 67, 68, 69, 70, 71, 72, 73, 74, 75, 76, 77, 78, 79, 81, 82, 83, 84, 85, 86, 87])), (2, ([0, 3, 4, 5, 6, 11, 12, 13, 14, 15, 16, 17, 18, 19, 20, 21, 22, 23, 24, 25, 26, 27, 28, 29, 30, 31, 32, 33, 34, 35, 36, 37, 38, 39, 40, 41, 42, 43, 44, 45, 46, 47, 48, 49, 50, 51, 52, 53, 54, 55, 56, 57, 58, 59, 60, 61, 62, 63, 64, 65, 66, 67, 68, 69, 70, 71, 72, 73, 74, 75, 76, 77, 78, 79, 81, 82, 83, 84, 85, 86, 87], [0, 3, 4, 5, 6, 13, 14, 15, 16, 17, 18, 19, 20, 21, 22, 23, 24, 25, 26, 27, 28, 29, 30, 31, 32, 33, 34, 35, 36, 37, 38, 39, 40, 41, 42, 43, 44, 45, 46, 47, 48, 49, 50, 51, 52, 53, 54, 55, 56, 57, 58, 59, 60, 61, 62, 63, 64, 65, 66, 67, 68, 69, 70, 71, 72, 73, 74, 75, 76, 77, 78, 79, 81, 82, 83, 84, 85, 86, 87], [0, 1, 2, 3, 7, 8, 9, 10, 11, 12, 13, 14, 15, 16, 17, 18, 19, 20, 21, 22, 23, 24, 25, 26, 27, 28, 29, 30, 31, 32, 33, 34, 35, 36, 37, 38, 39, 40, 41, 42, 43, 44, 45, 46, 47, 48, 49, 50, 51, 52, 53, 54, 55, 56, 57, 58, 59, 60, 61, 62, 63, 64, 65, 66, 67, 68, 69, 70, 71, 72, 73, 74, 75, 76, 77, 78, 79, 81, 82, 83, 84, 85, 86, 87])), (0, ([0, 3, 4, 5, 6, 10, 11, 12, 13, 14, 15, 16, 17, 18, 19, 20, 21, 22, 23, 24, 25, 26, 27, 28, 29, 30, 31, 32, 33, 34, 35, 36, 37, 38, 39, 40, 41, 42, 43, 44, 45, 46, 47, 48, 49, 50, 51, 52, 53, 54, 55, 56, 57, 58, 59, 60, 61, 62, 63, 64, 65, 66, 67, 68, 69, 70, 71, 72, 73, 74, 75, 76, 77, 78, 79, 81, 82, 83, 84, 85, 86, 87], [0, 3, 4, 5, 6, 13, 14, 15, 16, 17, 18, 19, 20, 21, 22, 23, 24, 25, 26, 27, 28, 29, 30, 31, 32, 33, 34, 35, 36, 37, 38, 39, 40, 41, 42, 43, 44, 45, 46, 47, 48, 49, 50, 51, 52, 53, 54, 55, 56, 57, 58, 59, 60, 61, 62, 63, 64, 65, 66, 67, 68, 69, 70, 71, 72, 73, 74, 75, 76, 77, 78, 79, 81, 82, 83, 84, 85, 86, 87], [0, 1, 2, 3, 7, 8, 9, 10, 11, 12, 13, 14, 15, 16, 17, 18, 19, 20, 21, 22, 23, 24, 25, 26, 27, 28, 29, 30, 31, 32, 33, 34, 35, 36, 37, 38, 39, 40, 41, 42, 43, 44, 45, 46, 47, 48, 49, 50, 51, 52, 53, 54, 55, 56, 57, 58, 59, 60, 61, 62, 63, 64, 65, 66, 67, 68, 69, 70, 71, 72, 73, 74, 75, 76, 77, 78, 79, 81, 82, 83, 84, 85, 86, 87]))], sk := [], mvs := [], fz := [], na := [80] }
def f_s_FindBox_a (L0 : List Sc) (p1 : Int) : List AV := enc [.p .gr, .p (.int .i64)] [.l L0, .i p1]
def f_s_FindBox_i (L0 : List Sc) (p1 : Int) : List AV := enc [] []
def f_s_FindBox_en (r : List Sc × List Sc × Bool) : List AV × List AV := (enc [.p (.al 0), .p (.al 1), .p .boo] [.b r.2.2], enc [.own 3, .own 3] [.l r.1, .l r.2.1])
def f_s_FindBox_M : Calling := addC 75 f_s_IsSet_c (addC 69 f_s_l3Bits_c (addC 53 f_s_l2Order_c (addC 76 f_s_l10Progression_c (addC 77 f_s_l4Sum_c (addC 78 f_s_l3Shift_c (noC))))))
theorem f_s_FindBox_Mt : CallOk Try.prog (f_s_FindBox_M) := addC_true f_s_IsSet_cc (addC_true f_s_l3Bits_cc (addC_true f_s_l2Order_cc (addC_true f_s_l10Progression_cc (addC_true f_s_l4Sum_cc (addC_true f_s_l3Shift_cc (noC_true))))))
theorem f_s_FindBox_o : loopsOnce Try.f38 = true := by kernel_rfl
def f_s_FindBox_h6 : List Sh := [.u, .p (.int .i64), .p .el, .u, .u, .u, .u, .p (.int .i64), .p (.int .i64), .p (.int .i64), .p (.int .i64), .p (.int .i64), .p (.int .i64), .p (.int .i64), .p (.int .i64), .u, .u, .u, .u, .u, .u, .u, .u, .u, .u, .u, .u, .u, .u, .u, .u, .u, .u, .u, .u, .u, .u, .u, .u, .u, .u, .u, .u, .u, .u, .u, .u, .u, .u, .u, .u, .u, .u, .u, .u, .u, .u, .u, .u, .u, .u, .u, .u, .u, .u, .u, .u, .u, .u, .u, .u, .u, .u, .u, .u, .u, .u, .u, .u, .u, .und, .u, .u, .u, .u, .u, .u, .u]
def f_s_FindBox_fr6 (t1 : Int) (t2 : List Sc) (t7 : Int) (t8 : Int) (t9 : Int) (t10 : Int) (t11 : Int) (t12 : Int) (t13 : Int) (s : Int) : List AV := enc f_s_FindBox_h6 [.i t1, .l t2, .i t7, .i t8, .i t9, .i t10, .i t11, .i t12, .i t13, .i s]
def f_s_FindBox_g6_1 : List Sh := [.u, .p (.int .i64), .p .el, .u, .u, .u, .u, .p (.int .i64), .p (.int .i64), .p (.int .i64), .p (.int .i64), .p (.int .i64), .p (.int .i64), .u, .u, .u, .u, .u, .u, .u, .u, .u, .u, .u, .u, .u, .u, .u, .u, .u, .u, .u, .u, .u, .u, .u, .u, .u, .u, .u, .u, .u, .u, .u, .u, .u, .u, .u, .u, .u, .u, .u, .u, .u, .u, .u, .u, .u, .u, .u, .u, .u, .u, .u, .u, .u, .u, .u, .u, .u, .u, .u, .u, .u, .u, .u, .u, .u, .u, .u, .und, .u, .u, .u, .u, .u, .u, .u]
def f_s_FindBox_x6_1 (t1 : Int) (t2 : List Sc) (t7 : Int) (t8 : Int) (t9 : Int) (t10 : Int) (t11 : Int) (t12 : Int) (t13 : Int) (e : Unit) : X × List AV := (.out 6, enc f_s_FindBox_g6_1 [.i t1, .l t2, .i t7, .i t8, .i t9, .i t10, .i t11, .i t12])
def f_s_FindBox_g6_2 : List Sh := [.u, .u, .u, .u, .p (.al 80), .own 3, .p .boo, .u, .u, .u, .u, .u, .u, .u, .u, .u, .u, .u, .u, .u, .u, .u, .u, .u, .u, .u, .u, .u, .u, .u, .u, .u, .u, .u, .u, .u, .u, .u, .u, .u, .u, .u, .u, .u, .u, .u, .u, .u, .u, .u, .u, .u, .u, .u, .u, .u, .u, .u, .u, .u, .u, .u, .u, .u, .u, .u, .u, .u, .u, .u, .u, .u, .u, .u, .u, .u, .u, .u, .u, .u, .own 3, .u, .u, .u, .u, .u, .u, .u]
def f_s_FindBox_x6_2 (t1 : Int) (t2 : List Sc) (t7 : Int) (t8 : Int) (t9 : Int) (t10 : Int) (t11 : Int) (t12 : Int) (t13 : Int) (e : List Sc × List Sc) : X × List AV := (.ret, enc f_s_FindBox_g6_2 [.l e.1, .b true, .l e.2])
theorem f_s_FindBox_p6 {R : Type} (t1 : Int) (t2 : List Sc) (t7 : Int) (t8 : Int) (t9 : Int) (t10 : Int) (t11 : Int) (t12 : Int) (t13 : Int) (s : Int) (kN : Int → Option R) (kA : Unit → Option R) (kB : List Sc × List Sc → Option R) : f_s_FindBox_k6 t1 t2 t7 t8 t9 t10 t11 t12 t13 s kN kA kB = (f_s_FindBox_r6 t1 t2 t7 t8 t9 t10 t11 t12 t13 s).bind (Ro.el kN kA kB) := by
  simp only [f_s_FindBox_k6, f_s_FindBox_r6, brB, boB, someB, noneB, Ro.el]
theorem f_s_FindBox_e6 (t1 : Int) (t2 : List Sc) (t7 : Int) (t8 : Int) (t9 : Int) (t10 : Int) (t11 : Int) (t12 : Int) (t13 : Int) (s : Int) : EC E0 f_s_FindBox_M H0 f_s_FindBox_F (asL (noL)) 6 (bodyOf Try.f38 6) (f_s_FindBox_fr6 t1 t2 t7 t8 t9 t10 t11 t12 t13 s) (done (klOf f_s_FindBox_F 6)) = f_s_FindBox_k6 t1 t2 t7 t8 t9 t10 t11 t12 t13 s (fun s => some (.norm, f_s_FindBox_fr6 t1 t2 t7 t8 t9 t10 t11 t12 t13 s)) (fun e => some (f_s_FindBox_x6_1 t1 t2 t7 t8 t9 t10 t11 t12 t13 e)) (fun e => some (f_s_FindBox_x6_2 t1 t2 t7 t8 t9 t10 t11 t12 t13 e)) := by kernel_rfl
theorem f_s_FindBox_l6 (t1 : Int) (t2 : List Sc) (t7 : Int) (t8 : Int) (t9 : Int) (t10 : Int) (t11 : Int) (t12 : Int) (t13 : Int) : ∀ s r, loopL (f_s_FindBox_r6 t1 t2 t7 t8 t9 t10 t11 t12 t13) s = some r → LS Try.prog f_s_FindBox_F (bodyOf Try.f38 6) (f_s_FindBox_fr6 t1 t2 t7 t8 t9 t10 t11 t12 t13 s) (enX (f_s_FindBox_x6_1 t1 t2 t7 t8 t9 t10 t11 t12 t13) (f_s_FindBox_x6_2 t1 t2 t7 t8 t9 t10 t11 t12 t13) r) :=
  loop_true E0ok f_s_FindBox_Mt (noL_true) f_s_FindBox_o (fun _ h => by cases h) (fun _ h => by cases h) (fun s => (f_s_FindBox_e6 t1 t2 t7 t8 t9 t10 t11 t12 t13 s).trans (f_s_FindBox_p6 t1 t2 t7 t8 t9 t10 t11 t12 t13 s _ _ (fun e => some (f_s_FindBox_x6_2 t1 t2 t7 t8 t9 t10 t11 t12 t13 e))))
def f_s_FindBox_t6 (σ : List AV) : Option (Bool × Bool × (X × List AV) × (X × List AV)) := match dec f_s_FindBox_h6 σ with
  | some [.i t1, .l t2, .i t7, .i t8, .i t9, .i t10, .i t11, .i t12, .i t13, .i t14] => some ((loopL (f_s_FindBox_r6 t1 t2 t7 t8 t9 t10 t11 t12 t13) t14).isSome, isOne (loopL (f_s_FindBox_r6 t1 t2 t7 t8 t9 t10 t11 t12 t13) t14), f_s_FindBox_x6_1 t1 t2 t7 t8 t9 t10 t11 t12 t13 (getOne () (loopL (f_s_FindBox_r6 t1 t2 t7 t8 t9 t10 t11 t12 t13) t14)), f_s_FindBox_x6_2 t1 t2 t7 t8 t9 t10 t11 t12 t13 (getTwo ([], []) (loopL (f_s_FindBox_r6 t1 t2 t7 t8 t9 t10 t11 t12 t13) t14)))
  | _ => none
theorem f_s_FindBox_tt6 : TTrue Try.prog f_s_FindBox_F Try.f38 6 (f_s_FindBox_t6) := by
  intro σ p r r' h
  unfold f_s_FindBox_t6 at h
  split at h
  · rename_i hd
    rw [← dec_enc hd]
    exact row2 (f_s_FindBox_l6 _ _ _ _ _ _ _ _ _ _) h
  · cases h
def f_s_FindBox_h4 : List Sh := [.u, .p (.int .i64), .p .el, .u, .u, .u, .u, .p (.int .i64), .p (.int .i64), .p (.int .i64), .p (.int .i64), .p (.int .i64), .p (.int .i64), .u, .u, .u, .u, .u, .u, .u, .u, .u, .u, .u, .u, .u, .u, .u, .u, .u, .u, .u, .u, .u, .u, .u, .u, .u, .u, .u, .u, .u, .u, .u, .u, .u, .u, .u, .u, .u, .u, .u, .u, .u, .u, .u, .u, .u, .u, .u, .u, .u, .u, .u, .u, .u, .u, .u, .u, .u, .u, .u, .u, .u, .u, .u, .u, .u, .u, .u, .und, .u, .u, .u, .u, .u, .u, .u]
def f_s_FindBox_fr4 (t1 : Int) (t2 : List Sc) (t7 : Int) (t8 : Int) (t9 : Int) (t10 : Int) (t11 : Int) (s : Int) : List AV := enc f_s_FindBox_h4 [.i t1, .l t2, .i t7, .i t8, .i t9, .i t10, .i t11, .i s]
def f_s_FindBox_g4_1 : List Sh := [.u, .p (.int .i64), .p .el, .u, .u, .u, .u, .p (.int .i64), .p (.int .i64), .p (.int .i64), .p (.int .i64), .p (.int .i64), .p (.int .i64), .u, .u, .u, .u, .u, .u, .u, .u, .u, .u, .u, .u, .u, .u, .u, .u, .u, .u, .u, .u, .u, .u, .u, .u, .u, .u, .u, .u, .u, .u, .u, .u, .u, .u, .u, .u, .u, .u, .u, .u, .u, .u, .u, .u, .u, .u, .u, .u, .u, .u, .u, .u, .u, .u, .u, .u, .u, .u, .u, .u, .u, .u, .u, .u, .u, .u, .u, .und, .u, .u, .u, .u, .u, .u, .u]
def f_s_FindBox_x4_1 (t1 : Int) (t2 : List Sc) (t7 : Int) (t8 : Int) (t9 : Int) (t10 : Int) (t11 : Int) (e : Int) : X × List AV := (.out 4, enc f_s_FindBox_g4_1 [.i t1, .l t2, .i t7, .i t8, .i t9, .i t10, .i t11, .i e])
def f_s_FindBox_g4_2 : List Sh := [.u, .u, .u, .u, .p (.al 80), .own 3, .p .boo, .u, .u, .u, .u, .u, .u, .u, .u, .u, .u, .u, .u, .u, .u, .u, .u, .u, .u, .u, .u, .u, .u, .u, .u, .u, .u, .u, .u, .u, .u, .u, .u, .u, .u, .u, .u, .u, .u, .u, .u, .u, .u, .u, .u, .u, .u, .u, .u, .u, .u, .u, .u, .u, .u, .u, .u, .u, .u, .u, .u, .u, .u, .u, .u, .u, .u, .u, .u, .u, .u, .u, .u, .u, .own 3, .u, .u, .u, .u, .u, .u, .u]
def f_s_FindBox_x4_2 (t1 : Int) (t2 : List Sc) (t7 : Int) (t8 : Int) (t9 : Int) (t10 : Int) (t11 : Int) (e : List Sc × List Sc) : X × List AV := (.ret, enc f_s_FindBox_g4_2 [.l e.1, .b true, .l e.2])
theorem f_s_FindBox_p4 {R : Type} (t1 : Int) (t2 : List Sc) (t7 : Int) (t8 : Int) (t9 : Int) (t10 : Int) (t11 : Int) (s : Int) (kN : Int → Option R) (kA : Int → Option R) (kB : List Sc × List Sc → Option R) : f_s_FindBox_k4 t1 t2 t7 t8 t9 t10 t11 s kN kA kB = (f_s_FindBox_r4 t1 t2 t7 t8 t9 t10 t11 s).bind (Ro.el kN kA kB) := by
  simp only [f_s_FindBox_k4, f_s_FindBox_r4, brB, boB, blB, someB, noneB, Ro.el]
theorem f_s_FindBox_e4 (t1 : Int) (t2 : List Sc) (t7 : Int) (t8 : Int) (t9 : Int) (t10 : Int) (t11 : Int) (s : Int) : EC E0 f_s_FindBox_M H0 f_s_FindBox_F (asL (addL 6 (f_s_FindBox_t6) (noL))) 4 (bodyOf Try.f38 4) (f_s_FindBox_fr4 t1 t2 t7 t8 t9 t10 t11 s) (done (klOf f_s_FindBox_F 4)) = f_s_FindBox_k4 t1 t2 t7 t8 t9 t10 t11 s (fun s => some (.norm, f_s_FindBox_fr4 t1 t2 t7 t8 t9 t10 t11 s)) (fun e => some (f_s_FindBox_x4_1 t1 t2 t7 t8 t9 t10 t11 e)) (fun e => some (f_s_FindBox_x4_2 t1 t2 t7 t8 t9 t10 t11 e)) := by kernel_rfl
theorem f_s_FindBox_l4 (t1 : Int) (t2 : List Sc) (t7 : Int) (t8 : Int) (t9 : Int) (t10 : Int) (t11 : Int) : ∀ s r, loopL (f_s_FindBox_r4 t1 t2 t7 t8 t9 t10 t11) s = some r → LS Try.prog f_s_FindBox_F (bodyOf Try.f38 4) (f_s_FindBox_fr4 t1 t2 t7 t8 t9 t10 t11 s) (enX (f_s_FindBox_x4_1 t1 t2 t7 t8 t9 t10 t11) (f_s_FindBox_x4_2 t1 t2 t7 t8 t9 t10 t11) r) :=
  loop_true E0ok f_s_FindBox_Mt (addL_true (f_s_FindBox_tt6) (noL_true)) f_s_FindBox_o (fun _ h => by cases h) (fun _ h => by cases h) (fun s => (f_s_FindBox_e4 t1 t2 t7 t8 t9 t10 t11 s).trans (f_s_FindBox_p4 t1 t2 t7 t8 t9 t10 t11 s _ _ (fun e => some (f_s_FindBox_x4_2 t1 t2 t7 t8 t9 t10 t11 e))))
def f_s_FindBox_t4 (σ : List AV) : Option (Bool × Bool × (X × List AV) × (X × List AV)) := match dec f_s_FindBox_h4 σ with
  | some [.i t1, .l t2, .i t7, .i t8, .i t9, .i t10, .i t11, .i t12] => some ((loopL (f_s_FindBox_r4 t1 t2 t7 t8 t9 t10 t11) t12).isSome, isOne (loopL (f_s_FindBox_r4 t1 t2 t7 t8 t9 t10 t11) t12), f_s_FindBox_x4_1 t1 t2 t7 t8 t9 t10 t11 (getOne 0 (loopL (f_s_FindBox_r4 t1 t2 t7 t8 t9 t10 t11) t12)), f_s_FindBox_x4_2 t1 t2 t7 t8 t9 t10 t11 (getTwo ([], []) (loopL (f_s_FindBox_r4 t1 t2 t7 t8 t9 t10 t11) t12)))
  | _ => none
theorem f_s_FindBox_tt4 : TTrue Try.prog f_s_FindBox_F Try.f38 4 (f_s_FindBox_t4) := by
  intro σ p r r' h
  unfold f_s_FindBox_t4 at h
  split at h
  · rename_i hd
    rw [← dec_enc hd]
    exact row2 (f_s_FindBox_l4 _ _ _ _ _ _ _ _) h
  · cases h
def f_s_FindBox_h2 : List Sh := [.u, .p (.int .i64), .p .el, .u, .u, .u, .u, .p (.int .i64), .p (.int .i64), .p (.int .i64), .p (.int .i64), .u, .u, .u, .u, .u, .u, .u, .u, .u, .u, .u, .u, .u, .u, .u, .u, .u, .u, .u, .u, .u, .u, .u, .u, .u, .u, .u, .u, .u, .u, .u, .u, .u, .u, .u, .u, .u, .u, .u, .u, .u, .u, .u, .u, .u, .u, .u, .u, .u, .u, .u, .u, .u, .u, .u, .u, .u, .u, .u, .u, .u, .u, .u, .u, .u, .u, .u, .u, .u, .und, .u, .u, .u, .u, .u, .u, .u]
def f_s_FindBox_fr2 (t1 : Int) (t2 : List Sc) (t7 : Int) (t8 : Int) (t9 : Int) (s : Int) : List AV := enc f_s_FindBox_h2 [.i t1, .l t2, .i t7, .i t8, .i t9, .i s]
def f_s_FindBox_g2_1 : List Sh := [.u, .p (.int .i64), .p .el, .u, .u, .u, .u, .p (.int .i64), .p (.int .i64), .p (.int .i64), .p (.int .i64), .u, .u, .u, .u, .u, .u, .u, .u, .u, .u, .u, .u, .u, .u, .u, .u, .u, .u, .u, .u, .u, .u, .u, .u, .u, .u, .u, .u, .u, .u, .u, .u, .u, .u, .u, .u, .u, .u, .u, .u, .u, .u, .u, .u, .u, .u, .u, .u, .u, .u, .u, .u, .u, .u, .u, .u, .u, .u, .u, .u, .u, .u, .u, .u, .u, .u, .u, .u, .u, .und, .u, .u, .u, .u, .u, .u, .u]
def f_s_FindBox_x2_1 (t1 : Int) (t2 : List Sc) (t7 : Int) (t8 : Int) (t9 : Int) (e : Int) : X × List AV := (.out 2, enc f_s_FindBox_g2_1 [.i t1, .l t2, .i t7, .i t8, .i t9, .i e])
def f_s_FindBox_g2_2 : List Sh := [.u, .u, .u, .u, .p (.al 80), .own 3, .p .boo, .u, .u, .u, .u, .u, .u, .u, .u, .u, .u, .u, .u, .u, .u, .u, .u, .u, .u, .u, .u, .u, .u, .u, .u, .u, .u, .u, .u, .u, .u, .u, .u, .u, .u, .u, .u, .u, .u, .u, .u, .u, .u, .u, .u, .u, .u, .u, .u, .u, .u, .u, .u, .u, .u, .u, .u, .u, .u, .u, .u, .u, .u, .u, .u, .u, .u, .u, .u, .u, .u, .u, .u, .u, .own 3, .u, .u, .u, .u, .u, .u, .u]
def f_s_FindBox_x2_2 (t1 : Int) (t2 : List Sc) (t7 : Int) (t8 : Int) (t9 : Int) (e : List Sc × List Sc) : X × List AV := (.ret, enc f_s_FindBox_g2_2 [.l e.1, .b true, .l e.2])
theorem f_s_FindBox_p2 {R : Type} (t1 : Int) (t2 : List Sc) (t7 : Int) (t8 : Int) (t9 : Int) (s : Int) (kN : Int → Option R) (kA : Int → Option R) (kB : List Sc × List Sc → Option R) : f_s_FindBox_k2 t1 t2 t7 t8 t9 s kN kA kB = (f_s_FindBox_r2 t1 t2 t7 t8 t9 s).bind (Ro.el kN kA kB) := by
  simp only [f_s_FindBox_k2, f_s_FindBox_r2, brB, boB, blB, someB, Ro.el]
theorem f_s_FindBox_e2 (t1 : Int) (t2 : List Sc) (t7 : Int) (t8 : Int) (t9 : Int) (s : Int) : EC E0 f_s_FindBox_M H0 f_s_FindBox_F (asL (addL 4 (f_s_FindBox_t4) (addL 6 (f_s_FindBox_t6) (noL)))) 2 (bodyOf Try.f38 2) (f_s_FindBox_fr2 t1 t2 t7 t8 t9 s) (done (klOf f_s_FindBox_F 2)) = f_s_FindBox_k2 t1 t2 t7 t8 t9 s (fun s => some (.norm, f_s_FindBox_fr2 t1 t2 t7 t8 t9 s)) (fun e => some (f_s_FindBox_x2_1 t1 t2 t7 t8 t9 e)) (fun e => some (f_s_FindBox_x2_2 t1 t2 t7 t8 t9 e)) := by kernel_rfl
theorem f_s_FindBox_l2 (t1 : Int) (t2 : List Sc) (t7 : Int) (t8 : Int) (t9 : Int) : ∀ s r, loopL (f_s_FindBox_r2 t1 t2 t7 t8 t9) s = some r → LS Try.prog f_s_FindBox_F (bodyOf Try.f38 2) (f_s_FindBox_fr2 t1 t2 t7 t8 t9 s) (enX (f_s_FindBox_x2_1 t1 t2 t7 t8 t9) (f_s_FindBox_x2_2 t1 t2 t7 t8 t9) r) :=
  loop_true E0ok f_s_FindBox_Mt (addL_true (f_s_FindBox_tt4) (addL_true (f_s_FindBox_tt6) (noL_true))) f_s_FindBox_o (fun _ h => by cases h) (fun _ h => by cases h) (fun s => (f_s_FindBox_e2 t1 t2 t7 t8 t9 s).trans (f_s_FindBox_p2 t1 t2 t7 t8 t9 s _ _ (fun e => some (f_s_FindBox_x2_2 t1 t2 t7 t8 t9 e))))
def f_s_FindBox_t2 (σ : List AV) : Option (Bool × Bool × (X × List AV) × (X × List AV)) := match dec f_s_FindBox_h2 σ with
  | some [.i t1, .l t2, .i t7, .i t8, .i t9, .i t10] => some ((loopL (f_s_FindBox_r2 t1 t2 t7 t8 t9) t10).isSome, isOne (loopL (f_s_FindBox_r2 t1 t2 t7 t8 t9) t10), f_s_FindBox_x2_1 t1 t2 t7 t8 t9 (getOne 0 (loopL (f_s_FindBox_r2 t1 t2 t7 t8 t9) t10)), f_s_FindBox_x2_2 t1 t2 t7 t8 t9 (getTwo ([], []) (loopL (f_s_FindBox_r2 t1 t2 t7 t8 t9) t10)))
  | _ => none
theorem f_s_FindBox_tt2 : TTrue Try.prog f_s_FindBox_F Try.f38 2 (f_s_FindBox_t2) := by
  intro σ p r r' h
  unfold f_s_FindBox_t2 at h
  split at h
  · rename_i hd
    rw [← dec_enc hd]
    exact row2 (f_s_FindBox_l2 _ _ _ _ _ _) h
  · cases h
def f_s_FindBox_h0 : List Sh := [.u, .p (.int .i64), .p .el, .u, .u, .u, .u, .p (.int .i64), .p (.int .i64), .p (.int .i64), .u, .u, .u, .u, .u, .u, .u, .u, .u, .u, .u, .u, .u, .u, .u, .u, .u, .u, .u, .u, .u, .u, .u, .u, .u, .u, .u, .u, .u, .u, .u, .u, .u, .u, .u, .u, .u, .u, .u, .u, .u, .u, .u, .u, .u, .u, .u, .u, .u, .u, .u, .u, .u, .u, .u, .u, .u, .u, .u, .u, .u, .u, .u, .u, .u, .u, .u, .u, .u, .u, .und, .u, .u, .u, .u, .u, .u, .u]
def f_s_FindBox_fr0 (t1 : Int) (t2 : List Sc) (t7 : Int) (t8 : Int) (s : Int) : List AV := enc f_s_FindBox_h0 [.i t1, .l t2, .i t7, .i t8, .i s]
def f_s_FindBox_g0_1 : List Sh := [.u, .p (.int .i64), .p .el, .u, .u, .u, .u, .p (.int .i64), .p (.int .i64), .p (.int .i64), .u, .u, .u, .u, .u, .u, .u, .u, .u, .u, .u, .u, .u, .u, .u, .u, .u, .u, .u, .u, .u, .u, .u, .u, .u, .u, .u, .u, .u, .u, .u, .u, .u, .u, .u, .u, .u, .u, .u, .u, .u, .u, .u, .u, .u, .u, .u, .u, .u, .u, .u, .u, .u, .u, .u, .u, .u, .u, .u, .u, .u, .u, .u, .u, .u, .u, .u, .u, .u, .u, .und, .u, .u, .u, .u, .u, .u, .u]
def f_s_FindBox_x0_1 (t1 : Int) (t2 : List Sc) (t7 : Int) (t8 : Int) (e : Int) : X × List AV := (.out 0, enc f_s_FindBox_g0_1 [.i t1, .l t2, .i t7, .i t8, .i e])
def f_s_FindBox_g0_2 : List Sh := [.u, .u, .u, .u, .p (.al 80), .own 3, .p .boo, .u, .u, .u, .u, .u, .u, .u, .u, .u, .u, .u, .u, .u, .u, .u, .u, .u, .u, .u, .u, .u, .u, .u, .u, .u, .u, .u, .u, .u, .u, .u, .u, .u, .u, .u, .u, .u, .u, .u, .u, .u, .u, .u, .u, .u, .u, .u, .u, .u, .u, .u, .u, .u, .u, .u, .u, .u, .u, .u, .u, .u, .u, .u, .u, .u, .u, .u, .u, .u, .u, .u, .u, .u, .own 3, .u, .u, .u, .u, .u, .u, .u]
def f_s_FindBox_x0_2 (t1 : Int) (t2 : List Sc) (t7 : Int) (t8 : Int) (e : List Sc × List Sc) : X × List AV := (.ret, enc f_s_FindBox_g0_2 [.l e.1, .b true, .l e.2])
theorem f_s_FindBox_p0 {R : Type} (t1 : Int) (t2 : List Sc) (t7 : Int) (t8 : Int) (s : Int) (kN : Int → Option R) (kA : Int → Option R) (kB : List Sc × List Sc → Option R) : f_s_FindBox_k0 t1 t2 t7 t8 s kN kA kB = (f_s_FindBox_r0 t1 t2 t7 t8 s).bind (Ro.el kN kA kB) := by
  simp only [f_s_FindBox_k0, f_s_FindBox_r0, brB, blB, someB, noneB, Ro.el]
theorem f_s_FindBox_e0 (t1 : Int) (t2 : List Sc) (t7 : Int) (t8 : Int) (s : Int) : EC E0 f_s_FindBox_M H0 f_s_FindBox_F (asL (addL 2 (f_s_FindBox_t2) (addL 4 (f_s_FindBox_t4) (addL 6 (f_s_FindBox_t6) (noL))))) 0 (bodyOf Try.f38 0) (f_s_FindBox_fr0 t1 t2 t7 t8 s) (done (klOf f_s_FindBox_F 0)) = f_s_FindBox_k0 t1 t2 t7 t8 s (fun s => some (.norm, f_s_FindBox_fr0 t1 t2 t7 t8 s)) (fun e => some (f_s_FindBox_x0_1 t1 t2 t7 t8 e)) (fun e => some (f_s_FindBox_x0_2 t1 t2 t7 t8 e)) := by kernel_rfl
theorem f_s_FindBox_l0 (t1 : Int) (t2 : List Sc) (t7 : Int) (t8 : Int) : ∀ s r, loopL (f_s_FindBox_r0 t1 t2 t7 t8) s = some r → LS Try.prog f_s_FindBox_F (bodyOf Try.f38 0) (f_s_FindBox_fr0 t1 t2 t7 t8 s) (enX (f_s_FindBox_x0_1 t1 t2 t7 t8) (f_s_FindBox_x0_2 t1 t2 t7 t8) r) :=
  loop_true E0ok f_s_FindBox_Mt (addL_true (f_s_FindBox_tt2) (addL_true (f_s_FindBox_tt4) (addL_true (f_s_FindBox_tt6) (noL_true)))) f_s_FindBox_o (fun _ h => by cases h) (fun _ h => by cases h) (fun s => (f_s_FindBox_e0 t1 t2 t7 t8 s).trans (f_s_FindBox_p0 t1 t2 t7 t8 s _ _ (fun e => some (f_s_FindBox_x0_2 t1 t2 t7 t8 e))))
def f_s_FindBox_t0 (σ : List AV) : Option (Bool × Bool × (X × List AV) × (X × List AV)) := match dec f_s_FindBox_h0 σ with
  | some [.i t1, .l t2, .i t7, .i t8, .i t9] => some ((loopL (f_s_FindBox_r0 t1 t2 t7 t8) t9).isSome, isOne (loopL (f_s_FindBox_r0 t1 t2 t7 t8) t9), f_s_FindBox_x0_1 t1 t2 t7 t8 (getOne 0 (loopL (f_s_FindBox_r0 t1 t2 t7 t8) t9)), f_s_FindBox_x0_2 t1 t2 t7 t8 (getTwo ([], []) (loopL (f_s_FindBox_r0 t1 t2 t7 t8) t9)))
  | _ => none
theorem f_s_FindBox_tt0 : TTrue Try.prog f_s_FindBox_F Try.f38 0 (f_s_FindBox_t0) := by
  intro σ p r r' h
  unfold f_s_FindBox_t0 at h
  split at h
  · rename_i hd
    rw [← dec_enc hd]
    exact row2 (f_s_FindBox_l0 _ _ _ _ _) h
  · cases h
theorem f_s_FindBox_p {R : Type} (L0 : List Sc) (p1 : Int) (kR : List Sc × List Sc × Bool → Option R) : f_s_FindBox_k L0 p1 kR = (f_s_FindBox_k L0 p1 some).bind kR := by
  simp only [f_s_FindBox_k, brB, boB, blB, someB]
theorem f_s_FindBox_e (L0 : List Sc) (p1 : Int) : runFn E0 f_s_FindBox_M H0 f_s_FindBox_F (asL (addL 0 (f_s_FindBox_t0) (addL 2 (f_s_FindBox_t2) (addL 4 (f_s_FindBox_t4) (addL 6 (f_s_FindBox_t6) (noL)))))) Try.f38 (f_s_FindBox_a L0 p1) (f_s_FindBox_i L0 p1) = f_s_FindBox_k L0 p1 (fun r => some (f_s_FindBox_en r)) := by kernel_rfl
theorem f_s_FindBox_ok (L0 : List Sc) (p1 : Int) (r : List Sc × List Sc × Bool) (h : f_s_FindBox L0 p1 = some r) : CS Try.prog 38 (f_s_FindBox_a L0 p1) (f_s_FindBox_i L0 p1) (f_s_FindBox_en r).1 (f_s_FindBox_en r).2 :=
  fn_true (Gk := fun k => f_s_FindBox_k L0 p1 k) (en := f_s_FindBox_en) Try.func38 E0ok f_s_FindBox_Mt (addL_true (f_s_FindBox_tt0) (addL_true (f_s_FindBox_tt2) (addL_true (f_s_FindBox_tt4) (addL_true (f_s_FindBox_tt6) (noL_true))))) f_s_FindBox_o (f_s_FindBox_e L0 p1) (f_s_FindBox_p L0 p1) h
def f_s_FindBox_c : CRow := fun args inh => match dec2 [.p .gr, .p (.int .i64)] [] args inh with
  | some ([.l L0, .i p1], []) => some ((f_s_FindBox L0 p1).isSome, (f_s_FindBox_en ((f_s_FindBox L0 p1).getD ([], [], false))).1, (f_s_FindBox_en ((f_s_FindBox L0 p1).getD ([], [], false))).2)
  | _ => none
theorem f_s_FindBox_cc : CTrue Try.prog 38 f_s_FindBox_c := by
  intro args inh rs out h
  unfold f_s_FindBox_c at h
  split at h
  · rename_i hd
    obtain ⟨h1, h2⟩ := dec2_enc hd
    rw [← h1, ← h2]
    exact rowC (f_s_FindBox_ok _ _) h
  · cases h

def f_s_IsBox_F : Fi := { nv := 2, nc := 0, m := 0, vt := [(11, 0)], kl := [], sk := [], mvs := [0, 1], fz := [] }
def f_s_IsBox_a (g0 : List Sc) (a1 : Int) : List AV := enc [.p .gr, .p (.int .i64)] [.l g0, .i a1]
def f_s_IsBox_i (g0 : List Sc) (a1 : Int) : List AV := enc [] []
def f_s_IsBox_en (r : Bool) : List AV × List AV := (enc [.p .boo] [.b r], enc [] [])
def f_s_IsBox_M : Calling := addC 38 f_s_FindBox_c (noC)
theorem f_s_IsBox_Mt : CallOk Try.prog (f_s_IsBox_M) := addC_true f_s_FindBox_cc (noC_true)
theorem f_s_IsBox_o : loopsOnce Try.f36 = true := by kernel_rfl
theorem f_s_IsBox_p {R : Type} (g0 : List Sc) (a1 : Int) (kR : Bool → Option R) : f_s_IsBox_k g0 a1 kR = (f_s_IsBox_k g0 a1 some).bind kR := by
  simp only [f_s_IsBox_k, boB, someB]
theorem f_s_IsBox_e (g0 : List Sc) (a1 : Int) : runFn E0 f_s_IsBox_M H0 f_s_IsBox_F (asL (noL)) Try.f36 (f_s_IsBox_a g0 a1) (f_s_IsBox_i g0 a1) = f_s_IsBox_k g0 a1 (fun r => some (f_s_IsBox_en r)) := by kernel_rfl
theorem f_s_IsBox_ok (g0 : List Sc) (a1 : Int) (r : Bool) (h : f_s_IsBox g0 a1 = some r) : CS Try.prog 36 (f_s_IsBox_a g0 a1) (f_s_IsBox_i g0 a1) (f_s_IsBox_en r).1 (f_s_IsBox_en r).2 :=
  fn_true (Gk := fun k => f_s_IsBox_k g0 a1 k) (en := f_s_IsBox_en) Try.func36 E0ok f_s_IsBox_Mt (noL_true) f_s_IsBox_o (f_s_IsBox_e g0 a1) (f_s_IsBox_p g0 a1) h
def f_s_IsBox_c : CRow := fun args inh => match dec2 [.p .gr, .p (.int .i64)] [] args inh with
  | some ([.l g0, .i a1], []) => some ((f_s_IsBox g0 a1).isSome, (f_s_IsBox_en ((f_s_IsBox g0 a1).getD false)).1, (f_s_IsBox_en ((f_s_IsBox g0 a1).getD false)).2)
  | _ => none
theorem f_s_IsBox_cc : CTrue Try.prog 36 f_s_IsBox_c := by
  intro args inh rs out h
  unfold f_s_IsBox_c at h
  split at h
  · rename_i hd
    obtain ⟨h1, h2⟩ := dec2_enc hd
    rw [← h1, ← h2]
    exact rowC (f_s_IsBox_ok _ _) h
  · cases h

def f_i_FindBox_F : Fi := { nv := 0, nc := 0, m := 0, vt := [], kl := [(6, ([0, 3, 4, 5, 6, 13, 14, 15, 16, 17, 18, 19, 20, 21, 22, 23, 24, 25, 26, 27, 28, 29, 30, 31, 32, 33, 34, 35, 36, 37, 38, 41, 42, 45, 46, 47, 48, 49, 50, 51, 52, 53, 54, 55, 56, 57, 58, 59, 60, 61, 62, 65, 66, 67, 68, 69, 70, 71, 72, 73, 74, 76, 77, 78, 79, 80, 81, 82, 83, 84, 85], [0, 3, 4, 5, 6, 11, 12, 13, 14, 15, 16, 17, 18, 19, 20, 21, 22, 23, 24, 25, 26, 27, 28, 29, 30, 31, 32, 33, 34, 35, 36, 37, 38, 41, 42, 45, 46, 47, 48, 49, 50, 51, 52, 53, 54, 55, 56, 57, 58, 59, 60, 61, 62, 63, 64, 65, 66, 67, 68, 69, 70, 71, 72, 73, 74, 76, 77, 78, 79, 80, 81, 82, 83, 84, 85], [0, 1, 2, 3, 7, 8, 9, 10, 11, 12, 13, 14, 15, 16, 17, 18, 19, 20, 21, 22, 23, 24, 25, 26, 27, 28, 29, 30, 31, 32, 33, 34, 35, 36, 37, 38, 39, 40, 41, 42, 43, 44, 45, 46, 47, 48, 49, 50, 51, 52, 53, 54, 55, 56, 57, 58, 59, 60, 61, 62, 63, 64, 65, 66, 67, 68, 69, 70, 71, 72, 73, 74, 76, 77, 78, 79, 80, 81, 82, 83, 84, 85])), (4, ([0, 3, 4, 5, 6, 11, 12, 13, 14, 15, 16, 17, 18, 19, 20, 21, 22, 23, 24, 25, 26, 27, 28, 29, 30, 31, 32, 33, 34, 35, 36, 37, 38, 41, 42, 45, 46, 47, 48, 49, 50, 51, 52, 53, 54, 55, 56, 57, 58, 59, 60, 61, 62, 63, 64, 65, 66, 67, 68, 69, 70, 71, 72, 73, 74, 76, 77, 78, 79, 80, 81, 82, 83, 84, 85], [0, 3, 4, 5, 6, 11, 12, 13, 14, 15, 16, 17, 18, 19, 20, 21, 22, 23, 24, 25, 26, 27, 28, 29, 30, 31, 32, 33, 34, 35, 36, 37, 38, 41, 42, 45, 46, 47, 48, 49, 50, 51, 52, 53, 54, 55, 56, 57, 58, 59, 60, 61, 62, 63, 64, 65, 66, 67, 68, 69, 70, 71, 72, 73, 74, 76, 77, 78, 79, 80, 81, 82, 83, 84, 85], [0, 1, 2, 3, 7, 8, 9, 10, 11, 12, 13, 14, 15, 16, 17, 18, 19, 20, 21, 22, 23, 24, 25, 26, 27, 28, 29, 30, 31, 32, 33, 34, 35, 36, 37, 38, 39, 40, 41, 42, 43, 44, 45, 46, 47, 48, 49, 50, 51, 52, 53, 54, 55, 56, 57, 58, 59, 60, 61, 62, 63, 64, 65, 66, 67, 68, 69, 70, 71, 72, 73, 74, 76, 77, 78, 79, 80, 81, 82, 83, 84, 85])), (2, ([0, 3, 4, 5, 6, 10, 11, 12, 13, 14, 15, 16, 17, 18, 19, 20, 21, 22, 23, 24, 25, 26, 27, 28, 29, 30, 31, 32, 33, 34, 35, 36, 37, 38, 41, 42, 43, 44, 45, 46, 47, 48, 49, 50, 51, 52, 53, 54, 55, 56, 57, 58, 59, 60, 61, 62, 63, 64, 65, 66, 67, 68, 69, 70, 71, 72, 73, 74, 76, 77, 78, 79, 80, 81, 82, 83, 84, 85], [0, 3, 4, 5, 6, 11, 12, 13, 14, 15, 16, 17, 18, 19, 20, 21, 22, 23, 24, 25, 26, 27, 28, 29, 30, 31, 32, 33, 34, 35, 36, 37, 38, 41, 42, 45, 46, 47, 48, 49, 50, 51, 52, 53, 54, 55, 56, 57, 58, 59, 60, 61, 62, 63, 64, 65, 66, 67, 68, 69, 70, 71, 72, 73, 74, 76, 77, 78, 79, 80, 81, 82, 83, 84, 85], [0, 1, 2, 3, 7, 8, 9, 10, 11, 12, 13, 14, 15, 16, 17, 18, 19, 20, 21, 22, 23, 24, 25, 26, 27, 28, 29, 30, 31, 32, 33, 34, 35, 36, 37, 38, 39, 40, 41, 42, 43, 44, 45, 46, 47, 48, 49, 50, 51, 52, 53, 54, 55, 56, 57, 58, 59, 60, 61, 62, 63, 64, 65, 66, 67, 68, 69, 70, 71, 72, 73, 74, 76, 77, 78, 79, 80, 81, 82, 83, 84, 85])), (0, ([0, 3, 4, 5, 6, 10, 11, 12, 13, 14, 15, 16, 17, 18, 19, 20, 21, 22, 23, 24, 25, 26, 27, 28, 29, 30, 31, 32, 33, 34, 35, 36, 37, 38, 39, 40, 41, 42, 43, 44, 45, 46, 47, 48, 49, 50, 51, 52, 53, 54, 55, 56, 57, 58, 59, 60, 61, 62, 63, 64, 65, 66, 67, 68, 69, 70, 71, 72, 73, 74, 76, 77, 78, 79, 80, 81, 82, 83, 84, 85], [0, 3, 4, 5, 6, 11, 12, 13, 14, 15, 16, 17, 18, 19, 20, 21, 22, 23, 24, 25, 26, 27, 28, 29, 30, 31, 32, 33, 34, 35, 36, 37, 38, 41, 42, 45, 46, 47, 48, 49, 50, 51, 52, 53, 54, 55, 56, 57, 58, 59, 60, 61, 62, 63, 64, 65, 66, 67, 68, 69, 70, 71, 72, 73, 74, 76, 77, 78, 79, 80, 81, 82, 83, 84, 85], [0, 1, 2, 3, 7, 8, 9, 10, 11, 12, 13, 14, 15, 16, 17, 18, 19, 20, 21, 22, 23, 24, 25, 26, 27, 28, 29, 30, 31, 32, 33, 34, 35, 36, 37, 38, 39, 40, 41, 42, 43, 44, 45, 46, 47, 48, 49, 50, 51, 52, 53, 54, 55, 56, 57, 58, 59, 60, 61, 62, 63, 64, 65, 66, 67, 68, 69, 70, 71, 72, 73, 74, 76, 77, 78, 79, 80, 81, 82, 83, 84, 85]))], sk := [], mvs := [], fz := [], na := [75] }
def f_i_FindBox_a (L0 : List Sc) (p1 : Int) : List AV := enc [.p .gr, .p (.int .i64)] [.l L0, .i p1]
def f_i_FindBox_i (L0 : List Sc) (p1 : Int) : List AV := enc [] []
def f_i_FindBox_en (r : List Sc × List Sc × Bool) : List AV × List AV := (enc [.p (.al 0), .p (.al 1), .p .boo] [.b r.2.2], enc [.own 3, .own 3] [.l r.1, .l r.2.1])
def f_i_FindBox_M : Calling := addC 55 f_i_OrderOf_c (addC 79 f_i_IsSet_c (addC 71 f_i_bits_c (addC 81 f_i_Group_progression_c (addC 80 f_i_Group_sum_c (addC 82 f_i_Group_shift_c (noC))))))
theorem f_i_FindBox_Mt : CallOk Try.prog (f_i_FindBox_M) := addC_true f_i_OrderOf_cc (addC_true f_i_IsSet_cc (addC_true f_i_bits_cc (addC_true f_i_Group_progression_cc (addC_true f_i_Group_sum_cc (addC_true f_i_Group_shift_cc (noC_true))))))
theorem f_i_FindBox_o : loopsOnce Try.f39 = true := by kernel_rfl
def f_i_FindBox_h6 : List Sh := [.u, .p (.int .i64), .p .el, .u, .u, .u, .u, .p (.int .i64), .p (.int .i64), .p (.int .i64), .p (.int .i64), .p (.int .i64), .p (.int .i64), .u, .u, .u, .u, .u, .u, .u, .u, .u, .u, .u, .u, .u, .u, .u, .u, .u, .u, .u, .u, .u, .u, .u, .u, .u, .u, .p (.int .i64), .p (.int .i64), .u, .u, .p (.int .i64), .p (.int .i64), .u, .u, .u, .u, .u, .u, .u, .u, .u, .u, .u, .u, .u, .u, .u, .u, .u, .u, .p (.int .i64), .p (.int .i64), .u, .u, .u, .u, .u, .u, .u, .u, .u, .u, .und, .u, .u, .u, .u, .u, .u, .u, .u, .u, .u]
def f_i_FindBox_fr6 (t1 : Int) (t2 : List Sc) (t7 : Int) (t8 : Int) (t9 : Int) (t10 : Int) (t11 : Int) (t12 : Int) (t39 : Int) (t40 : Int) (t43 : Int) (t44 : Int) (t63 : Int) (s : Int) : List AV := enc f_i_FindBox_h6 [.i t1, .l t2, .i t7, .i t8, .i t9, .i t10, .i t11, .i t12, .i t39, .i t40, .i t43, .i t44, .i t63, .i s]
def f_i_FindBox_g6_1 : List Sh := [.u, .p (.int .i64), .p .el, .u, .u, .u, .u, .p (.int .i64), .p (.int .i64), .p (.int .i64), .p (.int .i64), .u, .u, .u, .u, .u, .u, .u, .u, .u, .u, .u, .u, .u, .u, .u, .u, .u, .u, .u, .u, .u, .u, .u, .u, .u, .u, .u, .u, .p (.int .i64), .p (.int .i64), .u, .u, .p (.int .i64), .p (.int .i64), .u, .u, .u, .u, .u, .u, .u, .u, .u, .u, .u, .u, .u, .u, .u, .u, .u, .u, .u, .u, .u, .u, .u, .u, .u, .u, .u, .u, .u, .u, .und, .u, .u, .u, .u, .u, .u, .u, .u, .u, .u]
def f_i_FindBox_x6_1 (t1 : Int) (t2 : List Sc) (t7 : Int) (t8 : Int) (t9 : Int) (t10 : Int) (t11 : Int) (t12 : Int) (t39 : Int) (t40 : Int) (t43 : Int) (t44 : Int) (t63 : Int) (e : Unit) : X × List AV := (.out 6, enc f_i_FindBox_g6_1 [.i t1, .l t2, .i t7, .i t8, .i t9, .i t10, .i t39, .i t40, .i t43, .i t44])
def f_i_FindBox_g6_2 : List Sh := [.u, .u, .u, .u, .p (.al 75), .own 3, .p .boo, .u, .u, .u, .u, .u, .u, .u, .u, .u, .u, .u, .u, .u, .u, .u, .u, .u, .u, .u, .u, .u, .u, .u, .u, .u, .u, .u, .u, .u, .u, .u, .u, .u, .u, .u, .u, .u, .u, .u, .u, .u, .u, .u, .u, .u, .u, .u, .u, .u, .u, .u, .u, .u, .u, .u, .u, .u, .u, .u, .u, .u, .u, .u, .u, .u, .u, .u, .u, .own 3, .u, .u, .u, .u, .u, .u, .u, .u, .u, .u]
def f_i_FindBox_x6_2 (t1 : Int) (t2 : List Sc) (t7 : Int) (t8 : Int) (t9 : Int) (t10 : Int) (t11 : Int) (t12 : Int) (t39 : Int) (t40 : Int) (t43 : Int) (t44 : Int) (t63 : Int) (e : List Sc × List Sc) : X × List AV := (.ret, enc f_i_FindBox_g6_2 [.l e.1, .b true, .l e.2])
theorem f_i_FindBox_p6 {R : Type} (t1 : Int) (t2 : List Sc) (t7 : Int) (t8 : Int) (t9 : Int) (t10 : Int) (t11 : Int) (t12 : Int) (t39 : Int) (t40 : Int) (t43 : Int) (t44 : Int) (t63 : Int) (s : Int) (kN : Int → Option R) (kA : Unit → Option R) (kB : List Sc × List Sc → Option R) : f_i_FindBox_k6 t1 t2 t7 t8 t9 t10 t11 t12 t39 t40 t43 t44 t63 s kN kA kB = (f_i_FindBox_r6 t1 t2 t7 t8 t9 t10 t11 t12 t39 t40 t43 t44 t63 s).bind (Ro.el kN kA kB) := by
  simp only [f_i_FindBox_k6, f_i_FindBox_r6, brB, boB, someB, noneB, Ro.el]
theorem f_i_FindBox_e6 (t1 : Int) (t2 : List Sc) (t7 : Int) (t8 : Int) (t9 : Int) (t10 : Int) (t11 : Int) (t12 : Int) (t39 : Int) (t40 : Int) (t43 : Int) (t44 : Int) (t63 : Int) (s : Int) : EC E0 f_i_FindBox_M H0 f_i_FindBox_F (asL (noL)) 6 (bodyOf Try.f39 6) (f_i_FindBox_fr6 t1 t2 t7 t8 t9 t10 t11 t12 t39 t40 t43 t44 t63 s) (done (klOf f_i_FindBox_F 6)) = f_i_FindBox_k6 t1 t2 t7 t8 t9 t10 t11 t12 t39 t40 t43 t44 t63 s (fun s => some (.norm, f_i_FindBox_fr6 t1 t2 t7 t8 t9 t10 t11 t12 t39 t40 t43 t44 t63 s)) (fun e => some (f_i_FindBox_x6_1 t1 t2 t7 t8 t9 t10 t11 t12 t39 t40 t43 t44 t63 e)) (fun e => some (f_i_FindBox_x6_2 t1 t2 t7 t8 t9 t10 t11 t12 t39 t40 t43 t44 t63 e)) := by kernel_rfl
theorem f_i_FindBox_l6 (t1 : Int) (t2 : List Sc) (t7 : Int) (t8 : Int) (t9 : Int) (t10 : Int) (t11 : Int) (t12 : Int) (t39 : Int) (t40 : Int) (t43 : Int) (t44 : Int) (t63 : Int) : ∀ s r, loopL (f_i_FindBox_r6 t1 t2 t7 t8 t9 t10 t11 t12 t39 t40 t43 t44 t63) s = some r → LS Try.prog f_i_FindBox_F (bodyOf Try.f39 6) (f_i_FindBox_fr6 t1 t2 t7 t8 t9 t10 t11 t12 t39 t40 t43 t44 t63 s) (enX (f_i_FindBox_x6_1 t1 t2 t7 t8 t9 t10 t11 t12 t39 t40 t43 t44 t63) (f_i_FindBox_x6_2 t1 t2 t7 t8 t9 t10 t11 t12 t39 t40 t43 t44 t63) r) :=
  loop_true E0ok f_i_FindBox_Mt (noL_true) f_i_FindBox_o (fun _ h => by cases h) (fun _ h => by cases h) (fun s => (f_i_FindBox_e6 t1 t2 t7 t8 t9 t10 t11 t12 t39 t40 t43 t44 t63 s).trans (f_i_FindBox_p6 t1 t2 t7 t8 t9 t10 t11 t12 t39 t40 t43 t44 t63 s _ _ (fun e => some (f_i_FindBox_x6_2 t1 t2 t7 t8 t9 t10 t11 t12 t39 t40 t43 t44 t63 e))))
def f_i_FindBox_t6 (σ : List AV) : Option (Bool × Bool × (X × List AV) × (X × List AV)) := match dec f_i_FindBox_h6 σ with
  | some [.i t1, .l t2, .i t7, .i t8, .i t9, .i t10, .i t11, .i t12, .i t39, .i t40, .i t43, .i t44, .i t63, .i t64] => some ((loopL (f_i_FindBox_r6 t1 t2 t7 t8 t9 t10 t11 t12 t39 t40 t43 t44 t63) t64).isSome, isOne (loopL (f_i_FindBox_r6 t1 t2 t7 t8 t9 t10 t11 t12 t39 t40 t43 t44 t63) t64), f_i_FindBox_x6_1 t1 t2 t7 t8 t9 t10 t11 t12 t39 t40 t43 t44 t63 (getOne () (loopL (f_i_FindBox_r6 t1 t2 t7 t8 t9 t10 t11 t12 t39 t40 t43 t44 t63) t64)), f_i_FindBox_x6_2 t1 t2 t7 t8 t9 t10 t11 t12 t39 t40 t43 t44 t63 (getTwo ([], []) (loopL (f_i_FindBox_r6 t1 t2 t7 t8 t9 t10 t11 t12 t39 t40 t43 t44 t63) t64)))
  | _ => none
theorem f_i_FindBox_tt6 : TTrue Try.prog f_i_FindBox_F Try.f39 6 (f_i_FindBox_t6) := by
  intro σ p r r' h
  unfold f_i_FindBox_t6 at h
  split at h
  · rename_i hd
    rw [← dec_enc hd]
    exact row2 (f_i_FindBox_l6 _ _ _ _ _ _ _ _ _ _ _ _ _ _) h
  · cases h
def f_i_FindBox_h4 : List Sh := [.u, .p (.int .i64), .p .el, .u, .u, .u, .u, .p (.int .i64), .p (.int .i64), .p (.int .i64), .p (.int .i64), .u, .u, .u, .u, .u, .u, .u, .u, .u, .u, .u, .u, .u, .u, .u, .u, .u, .u, .u, .u, .u, .u, .u, .u, .u, .u, .u, .u, .p (.int .i64), .p (.int .i64), .u, .u, .p (.int .i64), .p (.int .i64), .u, .u, .u, .u, .u, .u, .u, .u, .u, .u, .u, .u, .u, .u, .u, .u, .u, .u, .u, .u, .u, .u, .u, .u, .u, .u, .u, .u, .u, .u, .und, .u, .u, .u, .u, .u, .u, .u, .u, .u, .u]
def f_i_FindBox_fr4 (t1 : Int) (t2 : List Sc) (t7 : Int) (t8 : Int) (t9 : Int) (t10 : Int) (t39 : Int) (t40 : Int) (t43 : Int) (s : Int) : List AV := enc f_i_FindBox_h4 [.i t1, .l t2, .i t7, .i t8, .i t9, .i t10, .i t39, .i t40, .i t43, .i s]
def f_i_FindBox_g4_1 : List Sh := [.u, .p (.int .i64), .p .el, .u, .u, .u, .u, .p (.int .i64), .p (.int .i64), .p (.int .i64), .p (.int .i64), .u, .u, .u, .u, .u, .u, .u, .u, .u, .u, .u, .u, .u, .u, .u, .u, .u, .u, .u, .u, .u, .u, .u, .u, .u, .u, .u, .u, .p (.int .i64), .p (.int .i64), .u, .u, .p (.int .i64), .p (.int .i64), .u, .u, .u, .u, .u, .u, .u, .u, .u, .u, .u, .u, .u, .u, .u, .u, .u, .u, .u, .u, .u, .u, .u, .u, .u, .u, .u, .u, .u, .u, .und, .u, .u, .u, .u, .u, .u, .u, .u, .u, .u]
def f_i_FindBox_x4_1 (t1 : Int) (t2 : List Sc) (t7 : Int) (t8 : Int) (t9 : Int) (t10 : Int) (t39 : Int) (t40 : Int) (t43 : Int) (e : Int) : X × List AV := (.out 4, enc f_i_FindBox_g4_1 [.i t1, .l t2, .i t7, .i t8, .i t9, .i t10, .i t39, .i t40, .i t43, .i e])
def f_i_FindBox_g4_2 : List Sh := [.u, .u, .u, .u, .p (.al 75), .own 3, .p .boo, .u, .u, .u, .u, .u, .u, .u, .u, .u, .u, .u, .u, .u, .u, .u, .u, .u, .u, .u, .u, .u, .u, .u, .u, .u, .u, .u, .u, .u, .u, .u, .u, .u, .u, .u, .u, .u, .u, .u, .u, .u, .u, .u, .u, .u, .u, .u, .u, .u, .u, .u, .u, .u, .u, .u, .u, .u, .u, .u, .u, .u, .u, .u, .u, .u, .u, .u, .u, .own 3, .u, .u, .u, .u, .u, .u, .u, .u, .u, .u]
def f_i_FindBox_x4_2 (t1 : Int) (t2 : List Sc) (t7 : Int) (t8 : Int) (t9 : Int) (t10 : Int) (t39 : Int) (t40 : Int) (t43 : Int) (e : List Sc × List Sc) : X × List AV := (.ret, enc f_i_FindBox_g4_2 [.l e.1, .b true, .l e.2])
theorem f_i_FindBox_p4 {R : Type} (t1 : Int) (t2 : List Sc) (t7 : Int) (t8 : Int) (t9 : Int) (t10 : Int) (t39 : Int) (t40 : Int) (t43 : Int) (s : Int) (kN : Int → Option R) (kA : Int → Option R) (kB : List Sc × List Sc → Option R) : f_i_FindBox_k4 t1 t2 t7 t8 t9 t10 t39 t40 t43 s kN kA kB = (f_i_FindBox_r4 t1 t2 t7 t8 t9 t10 t39 t40 t43 s).bind (Ro.el kN kA kB) := by
  simp only [f_i_FindBox_k4, f_i_FindBox_r4, brB, boB, blB, someB, noneB, Ro.el]
theorem f_i_FindBox_e4 (t1 : Int) (t2 : List Sc) (t7 : Int) (t8 : Int) (t9 : Int) (t10 : Int) (t39 : Int) (t40 : Int) (t43 : Int) (s : Int) : EC E0 f_i_FindBox_M H0 f_i_FindBox_F (asL (addL 6 (f_i_FindBox_t6) (noL))) 4 (bodyOf Try.f39 4) (f_i_FindBox_fr4 t1 t2 t7 t8 t9 t10 t39 t40 t43 s) (done (klOf f_i_FindBox_F 4)) = f_i_FindBox_k4 t1 t2 t7 t8 t9 t10 t39 t40 t43 s (fun s => some (.norm, f_i_FindBox_fr4 t1 t2 t7 t8 t9 t10 t39 t40 t43 s)) (fun e => some (f_i_FindBox_x4_1 t1 t2 t7 t8 t9 t10 t39 t40 t43 e)) (fun e => some (f_i_FindBox_x4_2 t1 t2 t7 t8 t9 t10 t39 t40 t43 e)) := by kernel_rfl
theorem f_i_FindBox_l4 (t1 : Int) (t2 : List Sc) (t7 : Int) (t8 : Int) (t9 : Int) (t10 : Int) (t39 : Int) (t40 : Int) (t43 : Int) : ∀ s r, loopL (f_i_FindBox_r4 t1 t2 t7 t8 t9 t10 t39 t40 t43) s = some r → LS Try.prog f_i_FindBox_F (bodyOf Try.f39 4) (f_i_FindBox_fr4 t1 t2 t7 t8 t9 t10 t39 t40 t43 s) (enX (f_i_FindBox_x4_1 t1 t2 t7 t8 t9 t10 t39 t40 t43) (f_i_FindBox_x4_2 t1 t2 t7 t8 t9 t10 t39 t40 t43) r) :=
  loop_true E0ok f_i_FindBox_Mt (addL_true (f_i_FindBox_tt6) (noL_true)) f_i_FindBox_o (fun _ h => by cases h) (fun _ h => by cases h) (fun s => (f_i_FindBox_e4 t1 t2 t7 t8 t9 t10 t39 t40 t43 s).trans (f_i_FindBox_p4 t1 t2 t7 t8 t9 t10 t39 t40 t43 s _ _ (fun e => some (f_i_FindBox_x4_2 t1 t2 t7 t8 t9 t10 t39 t40 t43 e))))
def f_i_FindBox_t4 (σ : List AV) : Option (Bool × Bool × (X × List AV) × (X × List AV)) := match dec f_i_FindBox_h4 σ with
  | some [.i t1, .l t2, .i t7, .i t8, .i t9, .i t10, .i t39, .i t40, .i t43, .i t44] => some ((loopL (f_i_FindBox_r4 t1 t2 t7 t8 t9 t10 t39 t40 t43) t44).isSome, isOne (loopL (f_i_FindBox_r4 t1 t2 t7 t8 t9 t10 t39 t40 t43) t44), f_i_FindBox_x4_1 t1 t2 t7 t8 t9 t10 t39 t40 t43 (getOne 0 (loopL (f_i_FindBox_r4 t1 t2 t7 t8 t9 t10 t39 t40 t43) t44)), f_i_FindBox_x4_2 t1 t2 t7 t8 t9 t10 t39 t40 t43 (getTwo ([], []) (loopL (f_i_FindBox_r4 t1 t2 t7 t8 t9 t10 t39 t40 t43) t44)))
  | _ => none
theorem f_i_FindBox_tt4 : TTrue Try.prog f_i_FindBox_F Try.f39 4 (f_i_FindBox_t4) := by
  intro σ p r r' h
  unfold f_i_FindBox_t4 at h
  split at h
  · rename_i hd
    rw [← dec_enc hd]
    exact row2 (f_i_FindBox_l4 _ _ _ _ _ _ _ _ _ _) h
  · cases h
def f_i_FindBox_h2 : List Sh := [.u, .p (.int .i64), .p .el, .u, .u, .u, .u, .p (.int .i64), .p (.int .i64), .p (.int .i64), .u, .u, .u, .u, .u, .u, .u, .u, .u, .u, .u, .u, .u, .u, .u, .u, .u, .u, .u, .u, .u, .u, .u, .u, .u, .u, .u, .u, .u, .p (.int .i64), .p (.int .i64), .u, .u, .u, .u, .u, .u, .u, .u, .u, .u, .u, .u, .u, .u, .u, .u, .u, .u, .u, .u, .u, .u, .u, .u, .u, .u, .u, .u, .u, .u, .u, .u, .u, .u, .und, .u, .u, .u, .u, .u, .u, .u, .u, .u, .u]
def f_i_FindBox_fr2 (t1 : Int) (t2 : List Sc) (t7 : Int) (t8 : Int) (t9 : Int) (t39 : Int) (s : Int) : List AV := enc f_i_FindBox_h2 [.i t1, .l t2, .i t7, .i t8, .i t9, .i t39, .i s]
def f_i_FindBox_g2_1 : List Sh := [.u, .p (.int .i64), .p .el, .u, .u, .u, .u, .p (.int .i64), .p (.int .i64), .p (.int .i64), .u, .u, .u, .u, .u, .u, .u, .u, .u, .u, .u, .u, .u, .u, .u, .u, .u, .u, .u, .u, .u, .u, .u, .u, .u, .u, .u, .u, .u, .p (.int .i64), .p (.int .i64), .u, .u, .u, .u, .u, .u, .u, .u, .u, .u, .u, .u, .u, .u, .u, .u, .u, .u, .u, .u, .u, .u, .u, .u, .u, .u, .u, .u, .u, .u, .u, .u, .u, .u, .und, .u, .u, .u, .u, .u, .u, .u, .u, .u, .u]
def f_i_FindBox_x2_1 (t1 : Int) (t2 : List Sc) (t7 : Int) (t8 : Int) (t9 : Int) (t39 : Int) (e : Int) : X × List AV := (.out 2, enc f_i_FindBox_g2_1 [.i t1, .l t2, .i t7, .i t8, .i t9, .i t39, .i e])
def f_i_FindBox_g2_2 : List Sh := [.u, .u, .u, .u, .p (.al 75), .own 3, .p .boo, .u, .u, .u, .u, .u, .u, .u, .u, .u, .u, .u, .u, .u, .u, .u, .u, .u, .u, .u, .u, .u, .u, .u, .u, .u, .u, .u, .u, .u, .u, .u, .u, .u, .u, .u, .u, .u, .u, .u, .u, .u, .u, .u, .u, .u, .u, .u, .u, .u, .u, .u, .u, .u, .u, .u, .u, .u, .u, .u, .u, .u, .u, .u, .u, .u, .u, .u, .u, .own 3, .u, .u, .u, .u, .u, .u, .u, .u, .u, .u]
def f_i_FindBox_x2_2 (t1 : Int) (t2 : List Sc) (t7 : Int) (t8 : Int) (t9 : Int) (t39 : Int) (e : List Sc × List Sc) : X × List AV := (.ret, enc f_i_FindBox_g2_2 [.l e.1, .b true, .l e.2])
theorem f_i_FindBox_p2 {R : Type} (t1 : Int) (t2 : List Sc) (t7 : Int) (t8 : Int) (t9 : Int) (t39 : Int) (s : Int) (kN : Int → Option R) (kA : Int → Option R) (kB : List Sc × List Sc → Option R) : f_i_FindBox_k2 t1 t2 t7 t8 t9 t39 s kN kA kB = (f_i_FindBox_r2 t1 t2 t7 t8 t9 t39 s).bind (Ro.el kN kA kB) := by
  simp only [f_i_FindBox_k2, f_i_FindBox_r2, brB, blB, someB, Ro.el]
theorem f_i_FindBox_e2 (t1 : Int) (t2 : List Sc) (t7 : Int) (t8 : Int) (t9 : Int) (t39 : Int) (s : Int) : EC E0 f_i_FindBox_M H0 f_i_FindBox_F (asL (addL 4 (f_i_FindBox_t4) (addL 6 (f_i_FindBox_t6) (noL)))) 2 (bodyOf Try.f39 2) (f_i_FindBox_fr2 t1 t2 t7 t8 t9 t39 s) (done (klOf f_i_FindBox_F 2)) = f_i_FindBox_k2 t1 t2 t7 t8 t9 t39 s (fun s => some (.norm, f_i_FindBox_fr2 t1 t2 t7 t8 t9 t39 s)) (fun e => some (f_i_FindBox_x2_1 t1 t2 t7 t8 t9 t39 e)) (fun e => some (f_i_FindBox_x2_2 t1 t2 t7 t8 t9 t39 e)) := by kernel_rfl
theorem f_i_FindBox_l2 (t1 : Int) (t2 : List Sc) (t7 : Int) (t8 : Int) (t9 : Int) (t39 : Int) : ∀ s r, loopL (f_i_FindBox_r2 t1 t2 t7 t8 t9 t39) s = some r → LS Try.prog f_i_FindBox_F (bodyOf Try.f39 2) (f_i_FindBox_fr2 t1 t2 t7 t8 t9 t39 s) (enX (f_i_FindBox_x2_1 t1 t2 t7 t8 t9 t39) (f_i_FindBox_x2_2 t1 t2 t7 t8 t9 t39) r) :=
  loop_true E0ok f_i_FindBox_Mt (addL_true (f_i_FindBox_tt4) (addL_true (f_i_FindBox_tt6) (noL_true))) f_i_FindBox_o (fun _ h => by cases h) (fun _ h => by cases h) (fun s => (f_i_FindBox_e2 t1 t2 t7 t8 t9 t39 s).trans (f_i_FindBox_p2 t1 t2 t7 t8 t9 t39 s _ _ (fun e => some (f_i_FindBox_x2_2 t1 t2 t7 t8 t9 t39 e))))
def f_i_FindBox_t2 (σ : List AV) : Option (Bool × Bool × (X × List AV) × (X × List AV)) := match dec f_i_FindBox_h2 σ with
  | some [.i t1, .l t2, .i t7, .i t8, .i t9, .i t39, .i t40] => some ((loopL (f_i_FindBox_r2 t1 t2 t7 t8 t9 t39) t40).isSome, isOne (loopL (f_i_FindBox_r2 t1 t2 t7 t8 t9 t39) t40), f_i_FindBox_x2_1 t1 t2 t7 t8 t9 t39 (getOne 0 (loopL (f_i_FindBox_r2 t1 t2 t7 t8 t9 t39) t40)), f_i_FindBox_x2_2 t1 t2 t7 t8 t9 t39 (getTwo ([], []) (loopL (f_i_FindBox_r2 t1 t2 t7 t8 t9 t39) t40)))
  | _ => none
theorem f_i_FindBox_tt2 : TTrue Try.prog f_i_FindBox_F Try.f39 2 (f_i_FindBox_t2) := by
  intro σ p r r' h
  unfold f_i_FindBox_t2 at h
  split at h
  · rename_i hd
    rw [← dec_enc hd]
    exact row2 (f_i_FindBox_l2 _ _ _ _ _ _ _) h
  · cases h
def f_i_FindBox_h0 : List Sh := [.u, .p (.int .i64), .p .el, .u, .u, .u, .u, .p (.int .i64), .p (.int .i64), .p (.int .i64), .u, .u, .u, .u, .u, .u, .u, .u, .u, .u, .u, .u, .u, .u, .u, .u, .u, .u, .u, .u, .u, .u, .u, .u, .u, .u, .u, .u, .u, .u, .u, .u, .u, .u, .u, .u, .u, .u, .u, .u, .u, .u, .u, .u, .u, .u, .u, .u, .u, .u, .u, .u, .u, .u, .u, .u, .u, .u, .u, .u, .u, .u, .u, .u, .u, .und, .u, .u, .u, .u, .u, .u, .u, .u, .u, .u]
def f_i_FindBox_fr0 (t1 : Int) (t2 : List Sc) (t7 : Int) (t8 : Int) (s : Int) : List AV := enc f_i_FindBox_h0 [.i t1, .l t2, .i t7, .i t8, .i s]
def f_i_FindBox_g0_1 : List Sh := [.u, .p (.int .i64), .p .el, .u, .u, .u, .u, .p (.int .i64), .p (.int .i64), .p (.int .i64), .u, .u, .u, .u, .u, .u, .u, .u, .u, .u, .u, .u, .u, .u, .u, .u, .u, .u, .u, .u, .u, .u, .u, .u, .u, .u, .u, .u, .u, .u, .u, .u, .u, .u, .u, .u, .u, .u, .u, .u, .u, .u, .u, .u, .u, .u, .u, .u, .u, .u, .u, .u, .u, .u, .u, .u, .u, .u, .u, .u, .u, .u, .u, .u, .u, .und, .u, .u, .u, .u, .u, .u, .u, .u, .u, .u]
def f_i_FindBox_x0_1 (t1 : Int) (t2 : List Sc) (t7 : Int) (t8 : Int) (e : Int) : X × List AV := (.out 0, enc f_i_FindBox_g0_1 [.i t1, .l t2, .i t7, .i t8, .i e])
def f_i_FindBox_g0_2 : List Sh := [.u, .u, .u, .u, .p (.al 75), .own 3, .p .boo, .u, .u, .u, .u, .u, .u, .u, .u, .u, .u, .u, .u, .u, .u, .u, .u, .u, .u, .u, .u, .u, .u, .u, .u, .u, .u, .u, .u, .u, .u, .u, .u, .u, .u, .u, .u, .u, .u, .u, .u, .u, .u, .u, .u, .u, .u, .u, .u, .u, .u, .u, .u, .u, .u, .u, .u, .u, .u, .u, .u, .u, .u, .u, .u, .u, .u, .u, .u, .own 3, .u, .u, .u, .u, .u, .u, .u, .u, .u, .u]
def f_i_FindBox_x0_2 (t1 : Int) (t2 : List Sc) (t7 : Int) (t8 : Int) (e : List Sc × List Sc) : X × List AV := (.ret, enc f_i_FindBox_g0_2 [.l e.1, .b true, .l e.2])
theorem f_i_FindBox_p0 {R : Type} (t1 : Int) (t2 : List Sc) (t7 : Int) (t8 : Int) (s : Int) (kN : Int → Option R) (kA : Int → Option R) (kB : List Sc × List Sc → Option R) : f_i_FindBox_k0 t1 t2 t7 t8 s kN kA kB = (f_i_FindBox_r0 t1 t2 t7 t8 s).bind (Ro.el kN kA kB) := by
  simp only [f_i_FindBox_k0, f_i_FindBox_r0, brB, blB, someB, noneB, Ro.el]
theorem f_i_FindBox_e0 (t1 : Int) (t2 : List Sc) (t7 : Int) (t8 : Int) (s : Int) : EC E0 f_i_FindBox_M H0 f_i_FindBox_F (asL (addL 2 (f_i_FindBox_t2) (addL 4 (f_i_FindBox_t4) (addL 6 (f_i_FindBox_t6) (noL))))) 0 (bodyOf Try.f39 0) (f_i_FindBox_fr0 t1 t2 t7 t8 s) (done (klOf f_i_FindBox_F 0)) = f_i_FindBox_k0 t1 t2 t7 t8 s (fun s => some (.norm, f_i_FindBox_fr0 t1 t2 t7 t8 s)) (fun e => some (f_i_FindBox_x0_1 t1 t2 t7 t8 e)) (fun e => some (f_i_FindBox_x0_2 t1 t2 t7 t8 e)) := by kernel_rfl
theorem f_i_FindBox_l0 (t1 : Int) (t2 : List Sc) (t7 : Int) (t8 : Int) : ∀ s r, loopL (f_i_FindBox_r0 t1 t2 t7 t8) s = some r → LS Try.prog f_i_FindBox_F (bodyOf Try.f39 0) (f_i_FindBox_fr0 t1 t2 t7 t8 s) (enX (f_i_FindBox_x0_1 t1 t2 t7 t8) (f_i_FindBox_x0_2 t1 t2 t7 t8) r) :=
  loop_true E0ok f_i_FindBox_Mt (addL_true (f_i_FindBox_tt2) (addL_true (f_i_FindBox_tt4) (addL_true (f_i_FindBox_tt6) (noL_true)))) f_i_FindBox_o (fun _ h => by cases h) (fun _ h => by cases h) (fun s => (f_i_FindBox_e0 t1 t2 t7 t8 s).trans (f_i_FindBox_p0 t1 t2 t7 t8 s _ _ (fun e => some (f_i_FindBox_x0_2 t1 t2 t7 t8 e))))
def f_i_FindBox_t0 (σ : List AV) : Option (Bool × Bool × (X × List AV) × (X × List AV)) := match dec f_i_FindBox_h0 σ with
  | some [.i t1, .l t2, .i t7, .i t8, .i t9] => some ((loopL (f_i_FindBox_r0 t1 t2 t7 t8) t9).isSome, isOne (loopL (f_i_FindBox_r0 t1 t2 t7 t8) t9), f_i_FindBox_x0_1 t1 t2 t7 t8 (getOne 0 (loopL (f_i_FindBox_r0 t1 t2 t7 t8) t9)), f_i_FindBox_x0_2 t1 t2 t7 t8 (getTwo ([], []) (loopL (f_i_FindBox_r0 t1 t2 t7 t8) t9)))
  | _ => none
theorem f_i_FindBox_tt0 : TTrue Try.prog f_i_FindBox_F Try.f39 0 (f_i_FindBox_t0) := by
  intro σ p r r' h
  unfold f_i_FindBox_t0 at h
  split at h
  · rename_i hd
    rw [← dec_enc hd]
    exact row2 (f_i_FindBox_l0 _ _ _ _ _) h
  · cases h
theorem f_i_FindBox_p {R : Type} (L0 : List Sc) (p1 : Int) (kR : List Sc × List Sc × Bool → Option R) : f_i_FindBox_k L0 p1 kR = (f_i_FindBox_k L0 p1 some).bind kR := by
  simp only [f_i_FindBox_k, brB, boB, blB, someB]
theorem f_i_FindBox_e (L0 : List Sc) (p1 : Int) : runFn E0 f_i_FindBox_M H0 f_i_FindBox_F (asL (addL 0 (f_i_FindBox_t0) (addL 2 (f_i_FindBox_t2) (addL 4 (f_i_FindBox_t4) (addL 6 (f_i_FindBox_t6) (noL)))))) Try.f39 (f_i_FindBox_a L0 p1) (f_i_FindBox_i L0 p1) = f_i_FindBox_k L0 p1 (fun r => some (f_i_FindBox_en r)) := by kernel_rfl
theorem f_i_FindBox_ok (L0 : List Sc) (p1 : Int) (r : List Sc × List Sc × Bool) (h : f_i_FindBox L0 p1 = some r) : CS Try.prog 39 (f_i_FindBox_a L0 p1) (f_i_FindBox_i L0 p1) (f_i_FindBox_en r).1 (f_i_FindBox_en r).2 :=
  fn_true (Gk := fun k => f_i_FindBox_k L0 p1 k) (en := f_i_FindBox_en) Try.func39 E0ok f_i_FindBox_Mt (addL_true (f_i_FindBox_tt0) (addL_true (f_i_FindBox_tt2) (addL_true (f_i_FindBox_tt4) (addL_true (f_i_FindBox_tt6) (noL_true))))) f_i_FindBox_o (f_i_FindBox_e L0 p1) (f_i_FindBox_p L0 p1) h
def f_i_FindBox_c : CRow := fun args inh => match dec2 [.p .gr, .p (.int .i64)] [] args inh with
  | some ([.l L0, .i p1], []) => some ((f_i_FindBox L0 p1).isSome, (f_i_FindBox_en ((f_i_FindBox L0 p1).getD ([], [], false))).1, (f_i_FindBox_en ((f_i_FindBox L0 p1).getD ([], [], false))).2)
  | _ => none
theorem f_i_FindBox_cc : CTrue Try.prog 39 f_i_FindBox_c := by
  intro args inh rs out h
  unfold f_i_FindBox_c at h
  split at h
  · rename_i hd
    obtain ⟨h1, h2⟩ := dec2_enc hd
    rw [← h1, ← h2]
    exact rowC (f_i_FindBox_ok _ _) h
  · cases h

def f_i_IsBox_F : Fi := { nv := 2, nc := 0, m := 0, vt := [(11, 0)], kl := [], sk := [], mvs := [0, 1], fz := [] }
def f_i_IsBox_a (g0 : List Sc) (a1 : Int) : List AV := enc [.p .gr, .p (.int .i64)] [.l g0, .i a1]
def f_i_IsBox_i (g0 : List Sc) (a1 : Int) : List AV := enc [] []
def f_i_IsBox_en (r : Bool) : List AV × List AV := (enc [.p .boo] [.b r], enc [] [])
def f_i_IsBox_M : Calling := addC 39 f_i_FindBox_c (noC)
theorem f_i_IsBox_Mt : CallOk Try.prog (f_i_IsBox_M) := addC_true f_i_FindBox_cc (noC_true)
theorem f_i_IsBox_o : loopsOnce Try.f37 = true := by kernel_rfl
theorem f_i_IsBox_p {R : Type} (g0 : List Sc) (a1 : Int) (kR : Bool → Option R) : f_i_IsBox_k g0 a1 kR = (f_i_IsBox_k g0 a1 some).bind kR := by
  simp only [f_i_IsBox_k, boB, someB]
theorem f_i_IsBox_e (g0 : List Sc) (a1 : Int) : runFn E0 f_i_IsBox_M H0 f_i_IsBox_F (asL (noL)) Try.f37 (f_i_IsBox_a g0 a1) (f_i_IsBox_i g0 a1) = f_i_IsBox_k g0 a1 (fun r => some (f_i_IsBox_en r)) := by kernel_rfl
theorem f_i_IsBox_ok (g0 : List Sc) (a1 : Int) (r : Bool) (h : f_i_IsBox g0 a1 = some r) : CS Try.prog 37 (f_i_IsBox_a g0 a1) (f_i_IsBox_i g0 a1) (f_i_IsBox_en r).1 (f_i_IsBox_en r).2 :=
  fn_true (Gk := fun k => f_i_IsBox_k g0 a1 k) (en := f_i_IsBox_en) Try.func37 E0ok f_i_IsBox_Mt (noL_true) f_i_IsBox_o (f_i_IsBox_e g0 a1) (f_i_IsBox_p g0 a1) h
def f_i_IsBox_c : CRow := fun args inh => match dec2 [.p .gr, .p (.int .i64)] [] args inh with
  | some ([.l g0, .i a1], []) => some ((f_i_IsBox g0 a1).isSome, (f_i_IsBox_en ((f_i_IsBox g0 a1).getD false)).1, (f_i_IsBox_en ((f_i_IsBox g0 a1).getD false)).2)
  | _ => none
theorem f_i_IsBox_cc : CTrue Try.prog 37 f_i_IsBox_c := by
  intro args inh rs out h
  unfold f_i_IsBox_c at h
  split at h
  · rename_i hd
    obtain ⟨h1, h2⟩ := dec2_enc hd
    rw [← h1, ← h2]
    exact rowC (f_i_IsBox_ok _ _) h
  · cases h

def f_l_FnExactIsBox_F : Fi := { nv := 3, nc := 1, m := 0, vt := [(7, 0), (15, 1), (19, 2)], kl := [], sk := [], mvs := [1, 2], fz := [] }
def f_l_FnExactIsBox_a (aG0 : List Sc) (aA1 : Int) : List AV := enc [.p .gr, .p (.int .i64)] [.l aG0, .i aA1]
def f_l_FnExactIsBox_i (aG0 : List Sc) (aA1 : Int) : List AV := enc [] []
def f_l_FnExactIsBox_en (r : Bool) : List AV × List AV := (enc [.p .boo] [.b r], enc [] [])
def f_l_FnExactIsBox_M : Calling := addC 14 f_l_szGroup_c (addC 16 f_l_toGroup_c (addC 36 f_s_IsBox_c (addC 37 f_i_IsBox_c (addC 19 f_l_eqGroup_c (noC)))))
theorem f_l_FnExactIsBox_Mt : CallOk Try.prog (f_l_FnExactIsBox_M) := addC_true f_l_szGroup_cc (addC_true f_l_toGroup_cc (addC_true f_s_IsBox_cc (addC_true f_i_IsBox_cc (addC_true f_l_eqGroup_cc (noC_true)))))
theorem f_l_FnExactIsBox_o : loopsOnce Try.f10 = true := by kernel_rfl
theorem f_l_FnExactIsBox_p {R : Type} (aG0 : List Sc) (aA1 : Int) (kR : Bool → Option R) : f_l_FnExactIsBox_k aG0 aA1 kR = (f_l_FnExactIsBox_k aG0 aA1 some).bind kR := by
  simp only [f_l_FnExactIsBox_k, brB, boB, someB]
theorem f_l_FnExactIsBox_e (aG0 : List Sc) (aA1 : Int) : runFn E0 f_l_FnExactIsBox_M H0 f_l_FnExactIsBox_F (asL (noL)) Try.f10 (f_l_FnExactIsBox_a aG0 aA1) (f_l_FnExactIsBox_i aG0 aA1) = f_l_FnExactIsBox_k aG0 aA1 (fun r => some (f_l_FnExactIsBox_en r)) := by kernel_rfl
theorem f_l_FnExactIsBox_ok (aG0 : List Sc) (aA1 : Int) (r : Bool) (h : f_l_FnExactIsBox aG0 aA1 = some r) : CS Try.prog 10 (f_l_FnExactIsBox_a aG0 aA1) (f_l_FnExactIsBox_i aG0 aA1) (f_l_FnExactIsBox_en r).1 (f_l_FnExactIsBox_en r).2 :=
  fn_true (Gk := fun k => f_l_FnExactIsBox_k aG0 aA1 k) (en := f_l_FnExactIsBox_en) Try.func10 E0ok f_l_FnExactIsBox_Mt (noL_true) f_l_FnExactIsBox_o (f_l_FnExactIsBox_e aG0 aA1) (f_l_FnExactIsBox_p aG0 aA1) h
def f_l_FnExactIsBox_c : CRow := fun args inh => match dec2 [.p .gr, .p (.int .i64)] [] args inh with
  | some ([.l aG0, .i aA1], []) => some ((f_l_FnExactIsBox aG0 aA1).isSome, (f_l_FnExactIsBox_en ((f_l_FnExactIsBox aG0 aA1).getD false)).1, (f_l_FnExactIsBox_en ((f_l_FnExactIsBox aG0 aA1).getD false)).2)
  | _ => none
theorem f_l_FnExactIsBox_cc : CTrue Try.prog 10 f_l_FnExactIsBox_c := by
  intro args inh rs out h
  unfold f_l_FnExactIsBox_c at h
  split at h
  · rename_i hd
    obtain ⟨h1, h2⟩ := dec2_enc hd
    rw [← h1, ← h2]
    exact rowC (f_l_FnExactIsBox_ok _ _) h
  · cases h

def f_l_FnExactFindBox_F : Fi := { nv := 10, nc := 1, m := 0, vt := [(9, 0), (26, 1), (28, 2), (33, 4), (37, 5), (104, 7), (106, 8)], kl := [], sk := [], mvs := [1, 2, 3, 4, 5, 6, 7, 8, 9], fz := [] }
def f_l_FnExactFindBox_a (L0 : List Sc) (p1 : Int) : List AV := enc [.p .gr, .p (.int .i64)] [.l L0, .i p1]
def f_l_FnExactFindBox_i (L0 : List Sc) (p1 : Int) : List AV := enc [] []
def f_l_FnExactFindBox_en (r : Bool) : List AV × List AV := (enc [.p .boo] [.b r], enc [] [])
def f_l_FnExactFindBox_M : Calling := addC 14 f_l_szGroup_c (addC 16 f_l_toGroup_c (addC 38 f_s_FindBox_c (addC 39 f_i_FindBox_c (addC 20 f_l_eqIntS_c (addC 19 f_l_eqGroup_c (addC 29 f_l_markGroup_io_c (addC 30 f_l_markIntS_io_c (addC 31 f_l_heldIntS_c (noC)))))))))
theorem f_l_FnExactFindBox_Mt : CallOk Try.prog (f_l_FnExactFindBox_M) := addC_true f_l_szGroup_cc (addC_true f_l_toGroup_cc (addC_true f_s_FindBox_cc (addC_true f_i_FindBox_cc (addC_true f_l_eqIntS_cc (addC_true f_l_eqGroup_cc (addC_true f_l_markGroup_io_cc (addC_true f_l_markIntS_io_cc (addC_true f_l_heldIntS_cc (noC_true)))))))))
theorem f_l_FnExactFindBox_o : loopsOnce Try.f11 = true := by kernel_rfl
theorem f_l_FnExactFindBox_p {R : Type} (L0 : List Sc) (p1 : Int) (kR : Bool → Option R) : f_l_FnExactFindBox_k L0 p1 kR = (f_l_FnExactFindBox_k L0 p1 some).bind kR := by
  simp only [f_l_FnExactFindBox_k, brB, boB, someB]
theorem f_l_FnExactFindBox_e (L0 : List Sc) (p1 : Int) : runFn E0 f_l_FnExactFindBox_M H0 f_l_FnExactFindBox_F (asL (noL)) Try.f11 (f_l_FnExactFindBox_a L0 p1) (f_l_FnExactFindBox_i L0 p1) = f_l_FnExactFindBox_k L0 p1 (fun r => some (f_l_FnExactFindBox_en r)) := by kernel_rfl
theorem f_l_FnExactFindBox_ok (L0 : List Sc) (p1 : Int) (r : Bool) (h : f_l_FnExactFindBox L0 p1 = some r) : CS Try.prog 11 (f_l_FnExactFindBox_a L0 p1) (f_l_FnExactFindBox_i L0 p1) (f_l_FnExactFindBox_en r).1 (f_l_FnExactFindBox_en r).2 :=
  fn_true (Gk := fun k => f_l_FnExactFindBox_k L0 p1 k) (en := f_l_FnExactFindBox_en) Try.func11 E0ok f_l_FnExactFindBox_Mt (noL_true) f_l_FnExactFindBox_o (f_l_FnExactFindBox_e L0 p1) (f_l_FnExactFindBox_p L0 p1) h
def f_l_FnExactFindBox_c : CRow := fun args inh => match dec2 [.p .gr, .p (.int .i64)] [] args inh with
  | some ([.l L0, .i p1], []) => some ((f_l_FnExactFindBox L0 p1).isSome, (f_l_FnExactFindBox_en ((f_l_FnExactFindBox L0 p1).getD false)).1, (f_l_FnExactFindBox_en ((f_l_FnExactFindBox L0 p1).getD false)).2)
  | _ => none
theorem f_l_FnExactFindBox_cc : CTrue Try.prog 11 f_l_FnExactFindBox_c := by
  intro args inh rs out h
  unfold f_l_FnExactFindBox_c at h
  split at h
  · rename_i hd
    obtain ⟨h1, h2⟩ := dec2_enc hd
    rw [← h1, ← h2]
    exact rowC (f_l_FnExactFindBox_ok _ _) h
  · cases h

def f_s_l2Negate_F : Fi := { nv := 0, nc := 0, m := 0, vt := [], kl := [(0, ([0, 3, 4, 8, 9, 10, 11, 12, 13, 14, 15, 16, 17, 18, 19, 20, 21, 22, 23, 24, 25, 26, 27, 28, 29, 30, 31, 32, 33, 34, 35, 36, 37, 38], [0, 1, 2, 3, 4, 6, 7, 8, 9, 10, 11, 12, 13, 14, 15, 16, 17, 18, 19, 20, 21, 22, 23, 24, 25, 26, 27, 28, 29, 30, 31, 32, 33, 34, 35, 36, 37, 38], [0, 1, 2, 3, 5, 6, 7, 8, 9, 10, 11, 12, 13, 14, 15, 16, 17, 18, 19, 20, 21, 22, 23, 24, 25, 26, 27, 28, 29, 30, 31, 32, 33, 34, 35, 36, 37, 38]))], sk := [], mvs := [], fz := [] }
def f_s_l2Negate_a (g0 : List Sc) (x1 : Int) : List AV := enc [.p .gr, .p (.int .i64)] [.l g0, .i x1]
def f_s_l2Negate_i (g0 : List Sc) (x1 : Int) : List AV := enc [] []
def f_s_l2Negate_en (r : Int) : List AV × List AV := (enc [.p (.int .i64)] [.i r], enc [] [])
def f_s_l2Negate_M : Calling := noC
theorem f_s_l2Negate_Mt : CallOk Try.prog (f_s_l2Negate_M) := noC_true
theorem f_s_l2Negate_o : loopsOnce Try.f111 = true := by kernel_rfl
def f_s_l2Negate_h0 : List Sh := [.u, .p (.int .i64), .p .el, .u, .u, .p (.int .i64), .p (.int .i64), .p (.int .i64), .u, .u, .u, .u, .u, .u, .u, .u, .u, .u, .u, .u, .u, .u, .u, .u, .u, .u, .u, .u, .u, .u, .u, .u, .u, .u, .u, .u, .u, .u, .u]
def f_s_l2Negate_fr0 (g2 : List Sc) (s : Int × Int × Int × Int) : List AV := enc f_s_l2Negate_h0 [.i s.1, .l g2, .i s.2.1, .i s.2.2.1, .i s.2.2.2]
def f_s_l2Negate_g0_1 : List Sh := [.u, .u, .u, .u, .u, .p (.int .i64), .u, .u, .u, .u, .u, .u, .u, .u, .u, .u, .u, .u, .u, .u, .u, .u, .u, .u, .u, .u, .u, .u, .u, .u, .u, .u, .u, .u, .u, .u, .u, .u, .u]
def f_s_l2Negate_x0_1 (g2 : List Sc) (e : Int) : X × List AV := (.out 0, enc f_s_l2Negate_g0_1 [.i e])
def f_s_l2Negate_x0_2 (g2 : List Sc) (_e : Unit) : X × List AV := (.ret, [])
theorem f_s_l2Negate_p0 {R : Type} (g2 : List Sc) (s : Int × Int × Int × Int) (kN : Int × Int × Int × Int → Option R) (kA : Int → Option R) (kB : Unit → Option R) : f_s_l2Negate_k0 g2 s.1 s.2.1 s.2.2.1 s.2.2.2 kN kA = (f_s_l2Negate_r0 g2 s).bind (Ro.el kN kA kB) := by
  simp only [f_s_l2Negate_k0, f_s_l2Negate_r0, brB, someB, noneB, Ro.el]
theorem f_s_l2Negate_e0 (g2 : List Sc) (s : Int × Int × Int × Int) : EC E0 f_s_l2Negate_M H0 f_s_l2Negate_F (asL (noL)) 0 (bodyOf Try.f111 0) (f_s_l2Negate_fr0 g2 s) (done (klOf f_s_l2Negate_F 0)) = f_s_l2Negate_k0 g2 s.1 s.2.1 s.2.2.1 s.2.2.2 (fun s => some (.norm, f_s_l2Negate_fr0 g2 s)) (fun e => some (f_s_l2Negate_x0_1 g2 e)) := by kernel_rfl
theorem f_s_l2Negate_l0 (g2 : List Sc) : ∀ s r, loopL (f_s_l2Negate_r0 g2) s = some r → LS Try.prog f_s_l2Negate_F (bodyOf Try.f111 0) (f_s_l2Negate_fr0 g2 s) (enX (f_s_l2Negate_x0_1 g2) (f_s_l2Negate_x0_2 g2) r) :=
  loop_true E0ok f_s_l2Negate_Mt (noL_true) f_s_l2Negate_o (fun _ h => by cases h) (fun _ h => by cases h) (fun s => (f_s_l2Negate_e0 g2 s).trans (f_s_l2Negate_p0 g2 s _ _ (fun e => some (f_s_l2Negate_x0_2 g2 e))))
def f_s_l2Negate_t0 (σ : List AV) : Option (Bool × Bool × (X × List AV) × (X × List AV)) := match dec f_s_l2Negate_h0 σ with
  | some [.i x1, .l g2, .i z5, .i step6, .i i7] => some (isOne (loopL (f_s_l2Negate_r0 g2) (x1, z5, step6, i7)), true, f_s_l2Negate_x0_1 g2 (getOne 0 (loopL (f_s_l2Negate_r0 g2) (x1, z5, step6, i7))), (.ret, []))
  | _ => none
theorem f_s_l2Negate_tt0 : TTrue Try.prog f_s_l2Negate_F Try.f111 0 (f_s_l2Negate_t0) := by
  intro σ p r r' h
  unfold f_s_l2Negate_t0 at h
  split at h
  · rename_i hd
    rw [← dec_enc hd]
    exact row1 (f_s_l2Negate_l0 _ _) h
  · cases h
theorem f_s_l2Negate_p {R : Type} (g0 : List Sc) (x1 : Int) (kR : Int → Option R) : f_s_l2Negate_k g0 x1 kR = (f_s_l2Negate_k g0 x1 some).bind kR := by
  simp only [f_s_l2Negate_k, bl1B, someB]
theorem f_s_l2Negate_e (g0 : List Sc) (x1 : Int) : runFn E0 f_s_l2Negate_M H0 f_s_l2Negate_F (asL (addL 0 (f_s_l2Negate_t0) (noL))) Try.f111 (f_s_l2Negate_a g0 x1) (f_s_l2Negate_i g0 x1) = f_s_l2Negate_k g0 x1 (fun r => some (f_s_l2Negate_en r)) := by kernel_rfl
theorem f_s_l2Negate_ok (g0 : List Sc) (x1 : Int) (r : Int) (h : f_s_l2Negate g0 x1 = some r) : CS Try.prog 111 (f_s_l2Negate_a g0 x1) (f_s_l2Negate_i g0 x1) (f_s_l2Negate_en r).1 (f_s_l2Negate_en r).2 :=
  fn_true (Gk := fun k => f_s_l2Negate_k g0 x1 k) (en := f_s_l2Negate_en) Try.func111 E0ok f_s_l2Negate_Mt (addL_true (f_s_l2Negate_tt0) (noL_true)) f_s_l2Negate_o (f_s_l2Negate_e g0 x1) (f_s_l2Negate_p g0 x1) h
def f_s_l2Negate_c : CRow := fun args inh => match dec2 [.p .gr, .p (.int .i64)] [] args inh with
  | some ([.l g0, .i x1], []) => some ((f_s_l2Negate g0 x1).isSome, (f_s_l2Negate_en ((f_s_l2Negate g0 x1).getD 0)).1, (f_s_l2Negate_en ((f_s_l2Negate g0 x1).getD 0)).2)
  | _ => none
theorem f_s_l2Negate_cc : CTrue Try.prog 111 f_s_l2Negate_c := by
  intro args inh rs out h
  unfold f_s_l2Negate_c at h
  split at h
  · rename_i hd
    obtain ⟨h1, h2⟩ := dec2_enc hd
    rw [← h1, ← h2]
    exact rowC (f_s_l2Negate_ok _ _) h
  · cases h

def f_s_MultipleOf_F : Fi := { nv := 0, nc := 0, m := 0, vt := [], kl := [(0, ([0, 4, 5, 6, 9, 10, 11, 12, 13, 14, 15, 16, 17, 18, 19, 20, 21, 22, 23, 24, 25, 26, 27, 28, 29, 30, 31, 32, 33, 34], [0, 1, 2, 3, 4, 5, 6, 8, 9, 10, 11, 12, 13, 14, 15, 16, 17, 18, 19, 20, 21, 22, 23, 24, 25, 26, 27, 28, 29, 30, 31, 32, 33, 34], [0, 1, 2, 3, 4, 5, 7, 8, 9, 10, 11, 12, 13, 14, 15, 16, 17, 18, 19, 20, 21, 22, 23, 24, 25, 26, 27, 28, 29, 30, 31, 32, 33, 34]))], sk := [], mvs := [], fz := [] }
def f_s_MultipleOf_a (g0 : List Sc) (x1 : Int) (n2 : Int) : List AV := enc [.p .gr, .p (.int .i64), .p (.int .i64)] [.l g0, .i x1, .i n2]
def f_s_MultipleOf_i (g0 : List Sc) (x1 : Int) (n2 : Int) : List AV := enc [] []
def f_s_MultipleOf_en (r : Int) : List AV × List AV := (enc [.p (.int .i64)] [.i r], enc [] [])
def f_s_MultipleOf_M : Calling := addC 88 f_s_l2Is_c (addC 68 f_s_l1In_c (addC 111 f_s_l2Negate_c (addC 101 f_s_l2Add_c (noC))))
theorem f_s_MultipleOf_Mt : CallOk Try.prog (f_s_MultipleOf_M) := addC_true f_s_l2Is_cc (addC_true f_s_l1In_cc (addC_true f_s_l2Negate_cc (addC_true f_s_l2Add_cc (noC_true))))
theorem f_s_MultipleOf_o : loopsOnce Try.f104 = true := by kernel_rfl
def f_s_MultipleOf_h0 : List Sh := [.u, .p (.int .i64), .p (.int .i64), .p .el, .u, .u, .u, .p (.int .i64), .p (.int .i64), .u, .u, .u, .u, .u, .u, .u, .u, .u, .u, .u, .u, .u, .u, .u, .u, .u, .u, .u, .u, .u, .u, .u, .u, .u, .u]
def f_s_MultipleOf_fr0 (x1 : Int) (n2 : Int) (g3 : List Sc) (s : Int × Int) : List AV := enc f_s_MultipleOf_h0 [.i x1, .i n2, .l g3, .i s.1, .i s.2]
def f_s_MultipleOf_g0_1 : List Sh := [.u, .u, .u, .u, .u, .u, .u, .p (.int .i64), .u, .u, .u, .u, .u, .u, .u, .u, .u, .u, .u, .u, .u, .u, .u, .u, .u, .u, .u, .u, .u, .u, .u, .u, .u, .u, .u]
def f_s_MultipleOf_x0_1 (x1 : Int) (n2 : Int) (g3 : List Sc) (e : Int) : X × List AV := (.out 0, enc f_s_MultipleOf_g0_1 [.i e])
def f_s_MultipleOf_x0_2 (x1 : Int) (n2 : Int) (g3 : List Sc) (_e : Unit) : X × List AV := (.ret, [])
theorem f_s_MultipleOf_p0 {R : Type} (x1 : Int) (n2 : Int) (g3 : List Sc) (s : Int × Int) (kN : Int × Int → Option R) (kA : Int → Option R) (kB : Unit → Option R) : f_s_MultipleOf_k0 x1 n2 g3 s.1 s.2 kN kA = (f_s_MultipleOf_r0 x1 n2 g3 s).bind (Ro.el kN kA kB) := by
  simp only [f_s_MultipleOf_k0, f_s_MultipleOf_r0, brB, boB, someB, Ro.el]
theorem f_s_MultipleOf_e0 (x1 : Int) (n2 : Int) (g3 : List Sc) (s : Int × Int) : EC E0 f_s_MultipleOf_M H0 f_s_MultipleOf_F (asL (noL)) 0 (bodyOf Try.f104 0) (f_s_MultipleOf_fr0 x1 n2 g3 s) (done (klOf f_s_MultipleOf_F 0)) = f_s_MultipleOf_k0 x1 n2 g3 s.1 s.2 (fun s => some (.norm, f_s_MultipleOf_fr0 x1 n2 g3 s)) (fun e => some (f_s_MultipleOf_x0_1 x1 n2 g3 e)) := by kernel_rfl
theorem f_s_MultipleOf_l0 (x1 : Int) (n2 : Int) (g3 : List Sc) : ∀ s r, loopL (f_s_MultipleOf_r0 x1 n2 g3) s = some r → LS Try.prog f_s_MultipleOf_F (bodyOf Try.f104 0) (f_s_MultipleOf_fr0 x1 n2 g3 s) (enX (f_s_MultipleOf_x0_1 x1 n2 g3) (f_s_MultipleOf_x0_2 x1 n2 g3) r) :=
  loop_true E0ok f_s_MultipleOf_Mt (noL_true) f_s_MultipleOf_o (fun _ h => by cases h) (fun _ h => by cases h) (fun s => (f_s_MultipleOf_e0 x1 n2 g3 s).trans (f_s_MultipleOf_p0 x1 n2 g3 s _ _ (fun e => some (f_s_MultipleOf_x0_2 x1 n2 g3 e))))
def f_s_MultipleOf_t0 (σ : List AV) : Option (Bool × Bool × (X × List AV) × (X × List AV)) := match dec f_s_MultipleOf_h0 σ with
  | some [.i x1, .i n2, .l g3, .i z7, .i i8] => some (isOne (loopL (f_s_MultipleOf_r0 x1 n2 g3) (z7, i8)), true, f_s_MultipleOf_x0_1 x1 n2 g3 (getOne 0 (loopL (f_s_MultipleOf_r0 x1 n2 g3) (z7, i8))), (.ret, []))
  | _ => none
theorem f_s_MultipleOf_tt0 : TTrue Try.prog f_s_MultipleOf_F Try.f104 0 (f_s_MultipleOf_t0) := by
  intro σ p r r' h
  unfold f_s_MultipleOf_t0 at h
  split at h
  · rename_i hd
    rw [← dec_enc hd]
    exact row1 (f_s_MultipleOf_l0 _ _ _ _) h
  · cases h
theorem f_s_MultipleOf_p {R : Type} (g0 : List Sc) (x1 : Int) (n2 : Int) (kR : Int → Option R) : f_s_MultipleOf_k g0 x1 n2 kR = (f_s_MultipleOf_k g0 x1 n2 some).bind kR := by
  simp only [f_s_MultipleOf_k, brB, boB, bl1B, someB]
theorem f_s_MultipleOf_e (g0 : List Sc) (x1 : Int) (n2 : Int) : runFn E0 f_s_MultipleOf_M H0 f_s_MultipleOf_F (asL (addL 0 (f_s_MultipleOf_t0) (noL))) Try.f104 (f_s_MultipleOf_a g0 x1 n2) (f_s_MultipleOf_i g0 x1 n2) = f_s_MultipleOf_k g0 x1 n2 (fun r => some (f_s_MultipleOf_en r)) := by kernel_rfl
theorem f_s_MultipleOf_ok (g0 : List Sc) (x1 : Int) (n2 : Int) (r : Int) (h : f_s_MultipleOf g0 x1 n2 = some r) : CS Try.prog 104 (f_s_MultipleOf_a g0 x1 n2) (f_s_MultipleOf_i g0 x1 n2) (f_s_MultipleOf_en r).1 (f_s_MultipleOf_en r).2 :=
  fn_true (Gk := fun k => f_s_MultipleOf_k g0 x1 n2 k) (en := f_s_MultipleOf_en) Try.func104 E0ok f_s_MultipleOf_Mt (addL_true (f_s_MultipleOf_tt0) (noL_true)) f_s_MultipleOf_o (f_s_MultipleOf_e g0 x1 n2) (f_s_MultipleOf_p g0 x1 n2) h
def f_s_MultipleOf_c : CRow := fun args inh => match dec2 [.p .gr, .p (.int .i64), .p (.int .i64)] [] args inh with
  | some ([.l g0, .i x1, .i n2], []) => some ((f_s_MultipleOf g0 x1 n2).isSome, (f_s_MultipleOf_en ((f_s_MultipleOf g0 x1 n2).getD 0)).1, (f_s_MultipleOf_en ((f_s_MultipleOf g0 x1 n2).getD 0)).2)
  | _ => none
theorem f_s_MultipleOf_cc : CTrue Try.prog 104 f_s_MultipleOf_c := by
  intro args inh rs out h
  unfold f_s_MultipleOf_c at h
  split at h
  · rename_i hd
    obtain ⟨h1, h2⟩ := dec2_enc hd
    rw [← h1, ← h2]
    exact rowC (f_s_MultipleOf_ok _ _ _) h
  · cases h

def f_s_DilateSet_F : Fi := { nv := 0, nc := 0, m := 0, vt := [], kl := [(0, ([0, 1, 4, 5, 6, 10, 11, 12, 13, 14, 15, 16, 17, 18, 19, 20, 21, 22, 23, 24, 25, 26, 27, 28, 29, 30, 31, 32, 33, 34, 35, 36, 37], [0, 1, 2, 3, 4, 5, 6, 8, 9, 10, 11, 12, 13, 14, 15, 16, 17, 18, 19, 20, 21, 22, 23, 24, 25, 26, 27, 28, 29, 30, 31, 32, 33, 34, 35, 36, 37], [0, 1, 2, 3, 4, 5, 7, 8, 9, 10, 11, 12, 13, 14, 15, 16, 17, 18, 19, 20, 21, 22, 23, 24, 25, 26, 27, 28, 29, 30, 31, 32, 33, 34, 35, 36, 37]))], sk := [], mvs := [], fz := [] }
def f_s_DilateSet_a (g0 : List Sc) (a1 : Int) (n2 : Int) : List AV := enc [.p .gr, .p (.int .i64), .p (.int .i64)] [.l g0, .i a1, .i n2]
def f_s_DilateSet_i (g0 : List Sc) (a1 : Int) (n2 : Int) : List AV := enc [] []
def f_s_DilateSet_en (r : Int) : List AV × List AV := (enc [.p (.int .i64)] [.i r], enc [] [])
def f_s_DilateSet_M : Calling := addC 75 f_s_IsSet_c (addC 68 f_s_l1In_c (addC 102 f_s_l3List_c (addC 104 f_s_MultipleOf_c (noC))))
theorem f_s_DilateSet_Mt : CallOk Try.prog (f_s_DilateSet_M) := addC_true f_s_IsSet_cc (addC_true f_s_l1In_cc (addC_true f_s_l3List_cc (addC_true f_s_MultipleOf_cc (noC_true))))
theorem f_s_DilateSet_o : loopsOnce Try.f83 = true := by kernel_rfl
def f_s_DilateSet_h0 : List Sh := [.u, .u, .p (.int .i64), .p .el, .u, .u, .u, .p (.int .i64), .own 3, .p (.int .i64), .u, .u, .u, .u, .u, .u, .u, .u, .u, .u, .u, .u, .u, .u, .u, .u, .u, .u, .u, .u, .u, .u, .u, .u, .u, .u, .u, .u]
def f_s_DilateSet_fr0 (n2 : Int) (g3 : List Sc) (s : Int × List Sc × Int) : List AV := enc f_s_DilateSet_h0 [.i n2, .l g3, .i s.1, .l s.2.1, .i s.2.2]
def f_s_DilateSet_g0_1 : List Sh := [.u, .u, .u, .u, .u, .u, .u, .p (.int .i64), .u, .u, .u, .u, .u, .u, .u, .u, .u, .u, .u, .u, .u, .u, .u, .u, .u, .u, .u, .u, .u, .u, .u, .u, .u, .u, .u, .u, .u, .u]
def f_s_DilateSet_x0_1 (n2 : Int) (g3 : List Sc) (e : Int) : X × List AV := (.out 0, enc f_s_DilateSet_g0_1 [.i e])
def f_s_DilateSet_x0_2 (n2 : Int) (g3 : List Sc) (_e : Unit) : X × List AV := (.ret, [])
theorem f_s_DilateSet_p0 {R : Type} (n2 : Int) (g3 : List Sc) (s : Int × List Sc × Int) (kN : Int × List Sc × Int → Option R) (kA : Int → Option R) (kB : Unit → Option R) : f_s_DilateSet_k0 n2 g3 s.1 s.2.1 s.2.2 kN kA = (f_s_DilateSet_r0 n2 g3 s).bind (Ro.el kN kA kB) := by
  simp only [f_s_DilateSet_k0, f_s_DilateSet_r0, brB, boB, someB, noneB, Ro.el]
theorem f_s_DilateSet_e0 (n2 : Int) (g3 : List Sc) (s : Int × List Sc × Int) : EC E0 f_s_DilateSet_M H0 f_s_DilateSet_F (asL (noL)) 0 (bodyOf Try.f83 0) (f_s_DilateSet_fr0 n2 g3 s) (done (klOf f_s_DilateSet_F 0)) = f_s_DilateSet_k0 n2 g3 s.1 s.2.1 s.2.2 (fun s => some (.norm, f_s_DilateSet_fr0 n2 g3 s)) (fun e => some (f_s_DilateSet_x0_1 n2 g3 e)) := by kernel_rfl
theorem f_s_DilateSet_l0 (n2 : Int) (g3 : List Sc) : ∀ s r, loopL (f_s_DilateSet_r0 n2 g3) s = some r → LS Try.prog f_s_DilateSet_F (bodyOf Try.f83 0) (f_s_DilateSet_fr0 n2 g3 s) (enX (f_s_DilateSet_x0_1 n2 g3) (f_s_DilateSet_x0_2 n2 g3) r) :=
  loop_true E0ok f_s_DilateSet_Mt (noL_true) f_s_DilateSet_o (fun _ h => by cases h) (fun _ h => by cases h) (fun s => (f_s_DilateSet_e0 n2 g3 s).trans (f_s_DilateSet_p0 n2 g3 s _ _ (fun e => some (f_s_DilateSet_x0_2 n2 g3 e))))
def f_s_DilateSet_t0 (σ : List AV) : Option (Bool × Bool × (X × List AV) × (X × List AV)) := match dec f_s_DilateSet_h0 σ with
  | some [.i n2, .l g3, .i out7, .l l8, .i i9] => some (isOne (loopL (f_s_DilateSet_r0 n2 g3) (out7, l8, i9)), true, f_s_DilateSet_x0_1 n2 g3 (getOne 0 (loopL (f_s_DilateSet_r0 n2 g3) (out7, l8, i9))), (.ret, []))
  | _ => none
theorem f_s_DilateSet_tt0 : TTrue Try.prog f_s_DilateSet_F Try.f83 0 (f_s_DilateSet_t0) := by
  intro σ p r r' h
  unfold f_s_DilateSet_t0 at h
  split at h
  · rename_i hd
    rw [← dec_enc hd]
    exact row1 (f_s_DilateSet_l0 _ _ _) h
  · cases h
theorem f_s_DilateSet_p {R : Type} (g0 : List Sc) (a1 : Int) (n2 : Int) (kR : Int → Option R) : f_s_DilateSet_k g0 a1 n2 kR = (f_s_DilateSet_k g0 a1 n2 some).bind kR := by
  simp only [f_s_DilateSet_k, brB, boB, bl1B, someB]
theorem f_s_DilateSet_e (g0 : List Sc) (a1 : Int) (n2 : Int) : runFn E0 f_s_DilateSet_M H0 f_s_DilateSet_F (asL (addL 0 (f_s_DilateSet_t0) (noL))) Try.f83 (f_s_DilateSet_a g0 a1 n2) (f_s_DilateSet_i g0 a1 n2) = f_s_DilateSet_k g0 a1 n2 (fun r => some (f_s_DilateSet_en r)) := by kernel_rfl
theorem f_s_DilateSet_ok (g0 : List Sc) (a1 : Int) (n2 : Int) (r : Int) (h : f_s_DilateSet g0 a1 n2 = some r) : CS Try.prog 83 (f_s_DilateSet_a g0 a1 n2) (f_s_DilateSet_i g0 a1 n2) (f_s_DilateSet_en r).1 (f_s_DilateSet_en r).2 :=
  fn_true (Gk := fun k => f_s_DilateSet_k g0 a1 n2 k) (en := f_s_DilateSet_en) Try.func83 E0ok f_s_DilateSet_Mt (addL_true (f_s_DilateSet_tt0) (noL_true)) f_s_DilateSet_o (f_s_DilateSet_e g0 a1 n2) (f_s_DilateSet_p g0 a1 n2) h
def f_s_DilateSet_c : CRow := fun args inh => match dec2 [.p .gr, .p (.int .i64), .p (.int .i64)] [] args inh with
  | some ([.l g0, .i a1, .i n2], []) => some ((f_s_DilateSet g0 a1 n2).isSome, (f_s_DilateSet_en ((f_s_DilateSet g0 a1 n2).getD 0)).1, (f_s_DilateSet_en ((f_s_DilateSet g0 a1 n2).getD 0)).2)
  | _ => none
theorem f_s_DilateSet_cc : CTrue Try.prog 83 f_s_DilateSet_c := by
  intro args inh rs out h
  unfold f_s_DilateSet_c at h
  split at h
  · rename_i hd
    obtain ⟨h1, h2⟩ := dec2_enc hd
    rw [← h1, ← h2]
    exact rowC (f_s_DilateSet_ok _ _ _) h
  · cases h

def f_s_ReplaceFactor_F : Fi := { nv := 0, nc := 0, m := 0, vt := [], kl := [], sk := [], mvs := [], fz := [] }
def f_s_ReplaceFactor_a (g0 : List Sc) (a1 : Int) (b2 : Int) (n3 : Int) : List AV := enc [.p .gr, .p (.int .i64), .p (.int .i64), .p (.int .i64)] [.l g0, .i a1, .i b2, .i n3]
def f_s_ReplaceFactor_i (g0 : List Sc) (a1 : Int) (b2 : Int) (n3 : Int) : List AV := enc [] []
def f_s_ReplaceFactor_en (r : Bool) : List AV × List AV := (enc [.p .boo] [.b r], enc [] [])
def f_s_ReplaceFactor_M : Calling := addC 83 f_s_DilateSet_c (addC 62 f_s_IsTiling_c (addC 69 f_s_l3Bits_c (noC)))
theorem f_s_ReplaceFactor_Mt : CallOk Try.prog (f_s_ReplaceFactor_M) := addC_true f_s_DilateSet_cc (addC_true f_s_IsTiling_cc (addC_true f_s_l3Bits_cc (noC_true)))
theorem f_s_ReplaceFactor_o : loopsOnce Try.f40 = true := by kernel_rfl
theorem f_s_ReplaceFactor_p {R : Type} (g0 : List Sc) (a1 : Int) (b2 : Int) (n3 : Int) (kR : Bool → Option R) : f_s_ReplaceFactor_k g0 a1 b2 n3 kR = (f_s_ReplaceFactor_k g0 a1 b2 n3 some).bind kR := by
  simp only [f_s_ReplaceFactor_k, brB, boB, someB]
theorem f_s_ReplaceFactor_e (g0 : List Sc) (a1 : Int) (b2 : Int) (n3 : Int) : runFn E0 f_s_ReplaceFactor_M H0 f_s_ReplaceFactor_F (asL (noL)) Try.f40 (f_s_ReplaceFactor_a g0 a1 b2 n3) (f_s_ReplaceFactor_i g0 a1 b2 n3) = f_s_ReplaceFactor_k g0 a1 b2 n3 (fun r => some (f_s_ReplaceFactor_en r)) := by kernel_rfl
theorem f_s_ReplaceFactor_ok (g0 : List Sc) (a1 : Int) (b2 : Int) (n3 : Int) (r : Bool) (h : f_s_ReplaceFactor g0 a1 b2 n3 = some r) : CS Try.prog 40 (f_s_ReplaceFactor_a g0 a1 b2 n3) (f_s_ReplaceFactor_i g0 a1 b2 n3) (f_s_ReplaceFactor_en r).1 (f_s_ReplaceFactor_en r).2 :=
  fn_true (Gk := fun k => f_s_ReplaceFactor_k g0 a1 b2 n3 k) (en := f_s_ReplaceFactor_en) Try.func40 E0ok f_s_ReplaceFactor_Mt (noL_true) f_s_ReplaceFactor_o (f_s_ReplaceFactor_e g0 a1 b2 n3) (f_s_ReplaceFactor_p g0 a1 b2 n3) h
def f_s_ReplaceFactor_c : CRow := fun args inh => match dec2 [.p .gr, .p (.int .i64), .p (.int .i64), .p (.int .i64)] [] args inh with
  | some ([.l g0, .i a1, .i b2, .i n3], []) => some ((f_s_ReplaceFactor g0 a1 b2 n3).isSome, (f_s_ReplaceFactor_en ((f_s_ReplaceFactor g0 a1 b2 n3).getD false)).1, (f_s_ReplaceFactor_en ((f_s_ReplaceFactor g0 a1 b2 n3).getD false)).2)
  | _ => none
theorem f_s_ReplaceFactor_cc : CTrue Try.prog 40 f_s_ReplaceFactor_c := by
  intro args inh rs out h
  unfold f_s_ReplaceFactor_c at h
  split at h
  · rename_i hd
    obtain ⟨h1, h2⟩ := dec2_enc hd
    rw [← h1, ← h2]
    exact rowC (f_s_ReplaceFactor_ok _ _ _ _) h
  · cases h

def f_i_Group_negate_F : Fi := { nv := 0, nc := 0, m := 0, vt := [], kl := [(0, ([0, 2, 3, 4, 7, 8, 9, 13, 14, 15, 16, 17, 18, 19, 20, 21, 22, 23, 24, 25, 26, 27, 28, 29, 30, 31, 32, 33, 34], [0, 1, 2, 3, 4, 6, 7, 8, 9, 10, 11, 12, 13, 14, 15, 16, 17, 18, 19, 20, 21, 22, 23, 24, 25, 26, 27, 28, 29, 30, 31, 32, 33, 34], [0, 1, 2, 3, 5, 6, 7, 8, 9, 10, 11, 12, 13, 14, 15, 16, 17, 18, 19, 20, 21, 22, 23, 24, 25, 26, 27, 28, 29, 30, 31, 32, 33, 34]))], sk := [], mvs := [], fz := [] }
def f_i_Group_negate_a (g0 : List Sc) (x1 : Int) : List AV := enc [.p .gr, .p (.int .i64)] [.l g0, .i x1]
def f_i_Group_negate_i (g0 : List Sc) (x1 : Int) : List AV := enc [] []
def f_i_Group_negate_en (r : Int) : List AV × List AV := (enc [.p (.int .i64)] [.i r], enc [] [])
def f_i_Group_negate_M : Calling := noC
theorem f_i_Group_negate_Mt : CallOk Try.prog (f_i_Group_negate_M) := noC_true
theorem f_i_Group_negate_o : loopsOnce Try.f112 = true := by kernel_rfl
def f_i_Group_negate_h0 : List Sh := [.u, .p (.int .i64), .u, .u, .u, .p (.int .i64), .p (.int .i64), .u, .u, .u, .p .sl, .p (.int .i64), .p (.int .i64), .u, .u, .u, .u, .u, .u, .u, .u, .u, .u, .u, .u, .u, .u, .u, .u, .u, .u, .u, .u, .u, .u]
def f_i_Group_negate_fr0 (t10 : List Sc) (t11 : Int) (s : Int × Int × Int × Int) : List AV := enc f_i_Group_negate_h0 [.i s.1, .i s.2.1, .i s.2.2.1, .l t10, .i t11, .i s.2.2.2]
def f_i_Group_negate_g0_1 : List Sh := [.u, .u, .u, .u, .u, .p (.int .i64), .u, .u, .u, .u, .u, .u, .u, .u, .u, .u, .u, .u, .u, .u, .u, .u, .u, .u, .u, .u, .u, .u, .u, .u, .u, .u, .u, .u, .u]
def f_i_Group_negate_x0_1 (t10 : List Sc) (t11 : Int) (e : Int) : X × List AV := (.out 0, enc f_i_Group_negate_g0_1 [.i e])
def f_i_Group_negate_x0_2 (t10 : List Sc) (t11 : Int) (_e : Unit) : X × List AV := (.ret, [])
theorem f_i_Group_negate_p0 {R : Type} (t10 : List Sc) (t11 : Int) (s : Int × Int × Int × Int) (kN : Int × Int × Int × Int → Option R) (kA : Int → Option R) (kB : Unit → Option R) : f_i_Group_negate_k0 t10 t11 s.1 s.2.1 s.2.2.1 s.2.2.2 kN kA = (f_i_Group_negate_r0 t10 t11 s).bind (Ro.el kN kA kB) := by
  simp only [f_i_Group_negate_k0, f_i_Group_negate_r0, brB, someB, noneB, Ro.el]
theorem f_i_Group_negate_e0 (t10 : List Sc) (t11 : Int) (s : Int × Int × Int × Int) : EC E0 f_i_Group_negate_M H0 f_i_Group_negate_F (asL (noL)) 0 (bodyOf Try.f112 0) (f_i_Group_negate_fr0 t10 t11 s) (done (klOf f_i_Group_negate_F 0)) = f_i_Group_negate_k0 t10 t11 s.1 s.2.1 s.2.2.1 s.2.2.2 (fun s => some (.norm, f_i_Group_negate_fr0 t10 t11 s)) (fun e => some (f_i_Group_negate_x0_1 t10 t11 e)) := by kernel_rfl
theorem f_i_Group_negate_l0 (t10 : List Sc) (t11 : Int) : ∀ s r, loopL (f_i_Group_negate_r0 t10 t11) s = some r → LS Try.prog f_i_Group_negate_F (bodyOf Try.f112 0) (f_i_Group_negate_fr0 t10 t11 s) (enX (f_i_Group_negate_x0_1 t10 t11) (f_i_Group_negate_x0_2 t10 t11) r) :=
  loop_true E0ok f_i_Group_negate_Mt (noL_true) f_i_Group_negate_o (fun _ h => by cases h) (fun _ h => by cases h) (fun s => (f_i_Group_negate_e0 t10 t11 s).trans (f_i_Group_negate_p0 t10 t11 s _ _ (fun e => some (f_i_Group_negate_x0_2 t10 t11 e))))
def f_i_Group_negate_t0 (σ : List AV) : Option (Bool × Bool × (X × List AV) × (X × List AV)) := match dec f_i_Group_negate_h0 σ with
  | some [.i x1, .i sum5, .i unit6, .l t10, .i t11, .i t12] => some (isOne (loopL (f_i_Group_negate_r0 t10 t11) (x1, sum5, unit6, t12)), true, f_i_Group_negate_x0_1 t10 t11 (getOne 0 (loopL (f_i_Group_negate_r0 t10 t11) (x1, sum5, unit6, t12))), (.ret, []))
  | _ => none
theorem f_i_Group_negate_tt0 : TTrue Try.prog f_i_Group_negate_F Try.f112 0 (f_i_Group_negate_t0) := by
  intro σ p r r' h
  unfold f_i_Group_negate_t0 at h
  split at h
  · rename_i hd
    rw [← dec_enc hd]
    exact row1 (f_i_Group_negate_l0 _ _ _) h
  · cases h
theorem f_i_Group_negate_p {R : Type} (g0 : List Sc) (x1 : Int) (kR : Int → Option R) : f_i_Group_negate_k g0 x1 kR = (f_i_Group_negate_k g0 x1 some).bind kR := by
  simp only [f_i_Group_negate_k, bl1B, someB]
theorem f_i_Group_negate_e (g0 : List Sc) (x1 : Int) : runFn E0 f_i_Group_negate_M H0 f_i_Group_negate_F (asL (addL 0 (f_i_Group_negate_t0) (noL))) Try.f112 (f_i_Group_negate_a g0 x1) (f_i_Group_negate_i g0 x1) = f_i_Group_negate_k g0 x1 (fun r => some (f_i_Group_negate_en r)) := by kernel_rfl
theorem f_i_Group_negate_ok (g0 : List Sc) (x1 : Int) (r : Int) (h : f_i_Group_negate g0 x1 = some r) : CS Try.prog 112 (f_i_Group_negate_a g0 x1) (f_i_Group_negate_i g0 x1) (f_i_Group_negate_en r).1 (f_i_Group_negate_en r).2 :=
  fn_true (Gk := fun k => f_i_Group_negate_k g0 x1 k) (en := f_i_Group_negate_en) Try.func112 E0ok f_i_Group_negate_Mt (addL_true (f_i_Group_negate_tt0) (noL_true)) f_i_Group_negate_o (f_i_Group_negate_e g0 x1) (f_i_Group_negate_p g0 x1) h
def f_i_Group_negate_c : CRow := fun args inh => match dec2 [.p .gr, .p (.int .i64)] [] args inh with
  | some ([.l g0, .i x1], []) => some ((f_i_Group_negate g0 x1).isSome, (f_i_Group_negate_en ((f_i_Group_negate g0 x1).getD 0)).1, (f_i_Group_negate_en ((f_i_Group_negate g0 x1).getD 0)).2)
  | _ => none
theorem f_i_Group_negate_cc : CTrue Try.prog 112 f_i_Group_negate_c := by
  intro args inh rs out h
  unfold f_i_Group_negate_c at h
  split at h
  · rename_i hd
    obtain ⟨h1, h2⟩ := dec2_enc hd
    rw [← h1, ← h2]
    exact rowC (f_i_Group_negate_ok _ _) h
  · cases h
end
end Go.Proofs.Ytgbjnchipnbohaa
