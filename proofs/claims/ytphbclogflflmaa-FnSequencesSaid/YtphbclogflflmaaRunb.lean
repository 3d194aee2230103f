/-
  That the program computes just that (printed by gen2.py).
-/
import Derived.Test.YtphbclogflflmaaRuna
set_option linter.unusedVariables false
set_option linter.unusedSimpArgs false
namespace Go.Proofs.Ytphbclogflflmaa
open Go Ev
noncomputable section
def f_i_Group_byLength_F : Fi := { nv := 0, nc := 0, m := 0, vt := [], kl := [(2, ([0, 1, 3, 4, 6, 9, 10, 11, 12, 13, 14, 18, 19, 20, 21, 22, 23, 24, 25, 26, 27, 28, 29, 30, 31, 32, 33, 34, 35, 36, 37, 38, 39, 40, 41, 42, 43, 44, 45], [0, 1, 3, 4, 6, 7, 8, 9, 10, 11, 12, 13, 14, 18, 19, 20, 21, 22, 23, 24, 25, 26, 27, 28, 29, 30, 31, 32, 33, 34, 35, 36, 37, 38, 39, 40, 41, 42, 43, 44, 45], [0, 1, 2, 3, 5, 6, 7, 8, 9, 10, 11, 12, 13, 14, 15, 16, 17, 18, 19, 20, 21, 22, 23, 24, 25, 26, 27, 28, 29, 30, 31, 32, 33, 34, 35, 36, 37, 38, 39, 40, 41, 42, 43, 44, 45])), (0, ([0, 1, 3, 4, 6, 7, 8, 9, 10, 11, 12, 13, 14, 18, 19, 20, 21, 22, 23, 24, 25, 26, 27, 28, 29, 30, 31, 32, 33, 34, 35, 36, 37, 38, 39, 40, 41, 42, 43, 44, 45], [0, 1, 3, 4, 6, 7, 8, 9, 10, 11, 12, 13, 14, 18, 19, 20, 21, 22, 23, 24, 25, 26, 27, 28, 29, 30, 31, 32, 33, 34, 35, 36, 37, 38, 39, 40, 41, 42, 43, 44, 45], [0, 1, 2, 3, 5, 6, 7, 8, 9, 10, 11, 12, 13, 14, 15, 16, 17, 18, 19, 20, 21, 22, 23, 24, 25, 26, 27, 28, 29, 30, 31, 32, 33, 34, 35, 36, 37, 38, 39, 40, 41, 42, 43, 44, 45]))], sk := [], mvs := [], fz := [] }
def f_i_Group_byLength_a (g0 : List Sc) (l1 : List Sc) : List AV := enc [.p .gr, .p .sl] [.l g0, .l l1]
def f_i_Group_byLength_i (g0 : List Sc) (l1 : List Sc) : List AV := enc [] []
def f_i_Group_byLength_en (r : List Sc) : List AV × List AV := (enc [.p (.al 0)] [], enc [.own 3] [.l r])
def f_i_Group_byLength_M : Calling := addC 123 f_i_Group_shift_c (noC)
theorem f_i_Group_byLength_Mt : CallOk Try.prog (f_i_Group_byLength_M) := addC_true f_i_Group_shift_cc (noC_true)
theorem f_i_Group_byLength_o : loopsOnce Try.f178 = true := by kernel_rfl
def f_i_Group_byLength_h2 : List Sh := [.u, .u, .p .el, .u, .u, .own 3, .u, .p (.int .i64), .p (.int .i64), .u, .u, .u, .u, .u, .u, .p .sl, .p (.int .i64), .p (.int .i64), .u, .u, .u, .u, .u, .u, .u, .u, .u, .u, .u, .u, .u, .u, .u, .u, .u, .u, .u, .u, .u, .u, .u, .u, .u, .u, .u, .u]
def f_i_Group_byLength_fr2 (g2 : List Sc) (x7 : Int) (t15 : List Sc) (t16 : Int) (t17 : Int) (s : List Sc × Int) : List AV := enc f_i_Group_byLength_h2 [.l g2, .l s.1, .i x7, .i s.2, .l t15, .i t16, .i t17]
def f_i_Group_byLength_g2_1 : List Sh := [.u, .u, .p .el, .u, .u, .own 3, .u, .u, .u, .u, .u, .u, .u, .u, .u, .p .sl, .p (.int .i64), .p (.int .i64), .u, .u, .u, .u, .u, .u, .u, .u, .u, .u, .u, .u, .u, .u, .u, .u, .u, .u, .u, .u, .u, .u, .u, .u, .u, .u, .u, .u]
def f_i_Group_byLength_x2_1 (g2 : List Sc) (x7 : Int) (t15 : List Sc) (t16 : Int) (t17 : Int) (e : List Sc) : X × List AV := (.out 2, enc f_i_Group_byLength_g2_1 [.l g2, .l e, .l t15, .i t16, .i t17])
def f_i_Group_byLength_x2_2 (g2 : List Sc) (x7 : Int) (t15 : List Sc) (t16 : Int) (t17 : Int) (_e : Unit) : X × List AV := (.ret, [])
theorem f_i_Group_byLength_p2 {R : Type} (g2 : List Sc) (x7 : Int) (t15 : List Sc) (t16 : Int) (t17 : Int) (s : List Sc × Int) (kN : List Sc × Int → Option R) (kA : List Sc → Option R) (kB : Unit → Option R) : f_i_Group_byLength_k2 g2 x7 t15 t16 t17 s.1 s.2 kN kA = (f_i_Group_byLength_r2 g2 x7 t15 t16 t17 s).bind (Ro.el kN kA kB) := by
  simp only [f_i_Group_byLength_k2, f_i_Group_byLength_r2, brB, boB, someB, noneB, Ro.el]
theorem f_i_Group_byLength_e2 (g2 : List Sc) (x7 : Int) (t15 : List Sc) (t16 : Int) (t17 : Int) (s : List Sc × Int) : EC E0 f_i_Group_byLength_M H0 f_i_Group_byLength_F (asL (noL)) 2 (bodyOf Try.f178 2) (f_i_Group_byLength_fr2 g2 x7 t15 t16 t17 s) (done (klOf f_i_Group_byLength_F 2)) = f_i_Group_byLength_k2 g2 x7 t15 t16 t17 s.1 s.2 (fun s => some (.norm, f_i_Group_byLength_fr2 g2 x7 t15 t16 t17 s)) (fun e => some (f_i_Group_byLength_x2_1 g2 x7 t15 t16 t17 e)) := by kernel_rfl
theorem f_i_Group_byLength_l2 (g2 : List Sc) (x7 : Int) (t15 : List Sc) (t16 : Int) (t17 : Int) : ∀ s r, loopL (f_i_Group_byLength_r2 g2 x7 t15 t16 t17) s = some r → LS Try.prog f_i_Group_byLength_F (bodyOf Try.f178 2) (f_i_Group_byLength_fr2 g2 x7 t15 t16 t17 s) (enX (f_i_Group_byLength_x2_1 g2 x7 t15 t16 t17) (f_i_Group_byLength_x2_2 g2 x7 t15 t16 t17) r) :=
  loop_true E0ok f_i_Group_byLength_Mt (noL_true) f_i_Group_byLength_o (fun _ h => by cases h) (fun _ h => by cases h) (fun s => (f_i_Group_byLength_e2 g2 x7 t15 t16 t17 s).trans (f_i_Group_byLength_p2 g2 x7 t15 t16 t17 s _ _ (fun e => some (f_i_Group_byLength_x2_2 g2 x7 t15 t16 t17 e))))
def f_i_Group_byLength_t2 (σ : List AV) : Option (Bool × Bool × (X × List AV) × (X × List AV)) := match dec f_i_Group_byLength_h2 σ with
  | some [.l g2, .l out5, .i x7, .i k8, .l t15, .i t16, .i t17] => some (isOne (loopL (f_i_Group_byLength_r2 g2 x7 t15 t16 t17) (out5, k8)), true, f_i_Group_byLength_x2_1 g2 x7 t15 t16 t17 (getOne [] (loopL (f_i_Group_byLength_r2 g2 x7 t15 t16 t17) (out5, k8))), (.ret, []))
  | _ => none
theorem f_i_Group_byLength_tt2 : TTrue Try.prog f_i_Group_byLength_F Try.f178 2 (f_i_Group_byLength_t2) := by
  intro σ p r r' h
  unfold f_i_Group_byLength_t2 at h
  split at h
  · rename_i hd
    rw [← dec_enc hd]
    exact row1 (f_i_Group_byLength_l2 _ _ _ _ _ _) h
  · cases h
def f_i_Group_byLength_h0 : List Sh := [.u, .u, .p .el, .u, .u, .own 3, .u, .u, .u, .u, .u, .u, .u, .u, .u, .p .sl, .p (.int .i64), .p (.int .i64), .u, .u, .u, .u, .u, .u, .u, .u, .u, .u, .u, .u, .u, .u, .u, .u, .u, .u, .u, .u, .u, .u, .u, .u, .u, .u, .u, .u]
def f_i_Group_byLength_fr0 (g2 : List Sc) (t15 : List Sc) (t16 : Int) (s : List Sc × Int) : List AV := enc f_i_Group_byLength_h0 [.l g2, .l s.1, .l t15, .i t16, .i s.2]
def f_i_Group_byLength_g0_1 : List Sh := [.u, .u, .p .el, .u, .u, .own 3, .u, .u, .u, .u, .u, .u, .u, .u, .u, .p .sl, .p (.int .i64), .p (.int .i64), .u, .u, .u, .u, .u, .u, .u, .u, .u, .u, .u, .u, .u, .u, .u, .u, .u, .u, .u, .u, .u, .u, .u, .u, .u, .u, .u, .u]
def f_i_Group_byLength_x0_1 (g2 : List Sc) (t15 : List Sc) (t16 : Int) (e : List Sc × Int) : X × List AV := (.out 0, enc f_i_Group_byLength_g0_1 [.l g2, .l e.1, .l t15, .i t16, .i e.2])
def f_i_Group_byLength_x0_2 (g2 : List Sc) (t15 : List Sc) (t16 : Int) (_e : Unit) : X × List AV := (.ret, [])
theorem f_i_Group_byLength_p0 {R : Type} (g2 : List Sc) (t15 : List Sc) (t16 : Int) (s : List Sc × Int) (kN : List Sc × Int → Option R) (kA : List Sc × Int → Option R) (kB : Unit → Option R) : f_i_Group_byLength_k0 g2 t15 t16 s.1 s.2 kN kA = (f_i_Group_byLength_r0 g2 t15 t16 s).bind (Ro.el kN kA kB) := by
  simp only [f_i_Group_byLength_k0, f_i_Group_byLength_r0, brB, bl1B, someB, noneB, Ro.el]
theorem f_i_Group_byLength_e0 (g2 : List Sc) (t15 : List Sc) (t16 : Int) (s : List Sc × Int) : EC E0 f_i_Group_byLength_M H0 f_i_Group_byLength_F (asL (addL 2 (f_i_Group_byLength_t2) (noL))) 0 (bodyOf Try.f178 0) (f_i_Group_byLength_fr0 g2 t15 t16 s) (done (klOf f_i_Group_byLength_F 0)) = f_i_Group_byLength_k0 g2 t15 t16 s.1 s.2 (fun s => some (.norm, f_i_Group_byLength_fr0 g2 t15 t16 s)) (fun e => some (f_i_Group_byLength_x0_1 g2 t15 t16 e)) := by kernel_rfl
theorem f_i_Group_byLength_l0 (g2 : List Sc) (t15 : List Sc) (t16 : Int) : ∀ s r, loopL (f_i_Group_byLength_r0 g2 t15 t16) s = some r → LS Try.prog f_i_Group_byLength_F (bodyOf Try.f178 0) (f_i_Group_byLength_fr0 g2 t15 t16 s) (enX (f_i_Group_byLength_x0_1 g2 t15 t16) (f_i_Group_byLength_x0_2 g2 t15 t16) r) :=
  loop_true E0ok f_i_Group_byLength_Mt (addL_true (f_i_Group_byLength_tt2) (noL_true)) f_i_Group_byLength_o (fun _ h => by cases h) (fun _ h => by cases h) (fun s => (f_i_Group_byLength_e0 g2 t15 t16 s).trans (f_i_Group_byLength_p0 g2 t15 t16 s _ _ (fun e => some (f_i_Group_byLength_x0_2 g2 t15 t16 e))))
def f_i_Group_byLength_t0 (σ : List AV) : Option (Bool × Bool × (X × List AV) × (X × List AV)) := match dec f_i_Group_byLength_h0 σ with
  | some [.l g2, .l out5, .l t15, .i t16, .i t17] => some (isOne (loopL (f_i_Group_byLength_r0 g2 t15 t16) (out5, t17)), true, f_i_Group_byLength_x0_1 g2 t15 t16 (getOne ([], 0) (loopL (f_i_Group_byLength_r0 g2 t15 t16) (out5, t17))), (.ret, []))
  | _ => none
theorem f_i_Group_byLength_tt0 : TTrue Try.prog f_i_Group_byLength_F Try.f178 0 (f_i_Group_byLength_t0) := by
  intro σ p r r' h
  unfold f_i_Group_byLength_t0 at h
  split at h
  · rename_i hd
    rw [← dec_enc hd]
    exact row1 (f_i_Group_byLength_l0 _ _ _ _) h
  · cases h
theorem f_i_Group_byLength_p {R : Type} (g0 : List Sc) (l1 : List Sc) (kR : List Sc → Option R) : f_i_Group_byLength_k g0 l1 kR = (f_i_Group_byLength_k g0 l1 some).bind kR := by
  simp only [f_i_Group_byLength_k, brB, bl1B, someB, noneB]
theorem f_i_Group_byLength_e (g0 : List Sc) (l1 : List Sc) : runFn E0 f_i_Group_byLength_M H0 f_i_Group_byLength_F (asL (addL 0 (f_i_Group_byLength_t0) (addL 2 (f_i_Group_byLength_t2) (noL)))) Try.f178 (f_i_Group_byLength_a g0 l1) (f_i_Group_byLength_i g0 l1) = f_i_Group_byLength_k g0 l1 (fun r => some (f_i_Group_byLength_en r)) := by kernel_rfl
theorem f_i_Group_byLength_ok (g0 : List Sc) (l1 : List Sc) (r : List Sc) (h : f_i_Group_byLength g0 l1 = some r) : CS Try.prog 178 (f_i_Group_byLength_a g0 l1) (f_i_Group_byLength_i g0 l1) (f_i_Group_byLength_en r).1 (f_i_Group_byLength_en r).2 :=
  fn_true (Gk := fun k => f_i_Group_byLength_k g0 l1 k) (en := f_i_Group_byLength_en) Try.func178 E0ok f_i_Group_byLength_Mt (addL_true (f_i_Group_byLength_tt0) (addL_true (f_i_Group_byLength_tt2) (noL_true))) f_i_Group_byLength_o (f_i_Group_byLength_e g0 l1) (f_i_Group_byLength_p g0 l1) h
def f_i_Group_byLength_c : CRow := fun args inh => match dec2 [.p .gr, .p .sl] [] args inh with
  | some ([.l g0, .l l1], []) => some ((f_i_Group_byLength g0 l1).isSome, (f_i_Group_byLength_en ((f_i_Group_byLength g0 l1).getD [])).1, (f_i_Group_byLength_en ((f_i_Group_byLength g0 l1).getD [])).2)
  | _ => none
theorem f_i_Group_byLength_cc : CTrue Try.prog 178 f_i_Group_byLength_c := by
  intro args inh rs out h
  unfold f_i_Group_byLength_c at h
  split at h
  · rename_i hd
    obtain ⟨h1, h2⟩ := dec2_enc hd
    rw [← h1, ← h2]
    exact rowC (f_i_Group_byLength_ok _ _) h
  · cases h

def f_i_SubsumsOfLength_F : Fi := { nv := 0, nc := 0, m := 0, vt := [], kl := [], sk := [], mvs := [], fz := [] }
def f_i_SubsumsOfLength_a (g0 : List Sc) (l1 : List Sc) (k2 : Int) : List AV := enc [.p .gr, .p .sl, .p (.int .i64)] [.l g0, .l l1, .i k2]
def f_i_SubsumsOfLength_i (g0 : List Sc) (l1 : List Sc) (k2 : Int) : List AV := enc [] []
def f_i_SubsumsOfLength_en (r : Int) : List AV × List AV := (enc [.p (.int .i64)] [.i r], enc [] [])
def f_i_SubsumsOfLength_M : Calling := addC 104 f_i_IsSequence_c (addC 144 f_i_within_c (addC 178 f_i_Group_byLength_c (noC)))
theorem f_i_SubsumsOfLength_Mt : CallOk Try.prog (f_i_SubsumsOfLength_M) := addC_true f_i_IsSequence_cc (addC_true f_i_within_cc (addC_true f_i_Group_byLength_cc (noC_true)))
theorem f_i_SubsumsOfLength_o : loopsOnce Try.f107 = true := by kernel_rfl
theorem f_i_SubsumsOfLength_p {R : Type} (g0 : List Sc) (l1 : List Sc) (k2 : Int) (kR : Int → Option R) : f_i_SubsumsOfLength_k g0 l1 k2 kR = (f_i_SubsumsOfLength_k g0 l1 k2 some).bind kR := by
  simp only [f_i_SubsumsOfLength_k, brB, boB, someB, noneB]
theorem f_i_SubsumsOfLength_e (g0 : List Sc) (l1 : List Sc) (k2 : Int) : runFn E0 f_i_SubsumsOfLength_M H0 f_i_SubsumsOfLength_F (asL (noL)) Try.f107 (f_i_SubsumsOfLength_a g0 l1 k2) (f_i_SubsumsOfLength_i g0 l1 k2) = f_i_SubsumsOfLength_k g0 l1 k2 (fun r => some (f_i_SubsumsOfLength_en r)) := by kernel_rfl
theorem f_i_SubsumsOfLength_ok (g0 : List Sc) (l1 : List Sc) (k2 : Int) (r : Int) (h : f_i_SubsumsOfLength g0 l1 k2 = some r) : CS Try.prog 107 (f_i_SubsumsOfLength_a g0 l1 k2) (f_i_SubsumsOfLength_i g0 l1 k2) (f_i_SubsumsOfLength_en r).1 (f_i_SubsumsOfLength_en r).2 :=
  fn_true (Gk := fun k => f_i_SubsumsOfLength_k g0 l1 k2 k) (en := f_i_SubsumsOfLength_en) Try.func107 E0ok f_i_SubsumsOfLength_Mt (noL_true) f_i_SubsumsOfLength_o (f_i_SubsumsOfLength_e g0 l1 k2) (f_i_SubsumsOfLength_p g0 l1 k2) h
def f_i_SubsumsOfLength_c : CRow := fun args inh => match dec2 [.p .gr, .p .sl, .p (.int .i64)] [] args inh with
  | some ([.l g0, .l l1, .i k2], []) => some ((f_i_SubsumsOfLength g0 l1 k2).isSome, (f_i_SubsumsOfLength_en ((f_i_SubsumsOfLength g0 l1 k2).getD 0)).1, (f_i_SubsumsOfLength_en ((f_i_SubsumsOfLength g0 l1 k2).getD 0)).2)
  | _ => none
theorem f_i_SubsumsOfLength_cc : CTrue Try.prog 107 f_i_SubsumsOfLength_c := by
  intro args inh rs out h
  unfold f_i_SubsumsOfLength_c at h
  split at h
  · rename_i hd
    obtain ⟨h1, h2⟩ := dec2_enc hd
    rw [← h1, ← h2]
    exact rowC (f_i_SubsumsOfLength_ok _ _ _) h
  · cases h

def f_s_DrawSortSequence_F : Fi := { nv := 4, nc := 2, m := 0, vt := [(2, 0), (4, 1), (9, 2)], kl := [], sk := [], mvs := [2, 3], fz := [] }
def f_s_DrawSortSequence_a (code0 : List Sc) : List AV := enc [.p .sl] [.l code0]
def f_s_DrawSortSequence_i (code0 : List Sc) : List AV := enc [] []
def f_s_DrawSortSequence_en (r : List Sc × List Sc) : List AV × List AV := (enc [.p (.go 0), .p (.al 1)] [], enc [.own 3, .own 3] [.l r.1, .l r.2])
def f_s_DrawSortSequence_M : Calling := addC 182 f_s_l16Both_c (noC)
theorem f_s_DrawSortSequence_Mt : CallOk Try.prog (f_s_DrawSortSequence_M) := addC_true f_s_l16Both_cc (noC_true)
theorem f_s_DrawSortSequence_o : loopsOnce Try.f108 = true := by kernel_rfl
theorem f_s_DrawSortSequence_p {R : Type} (code0 : List Sc) (kR : List Sc × List Sc → Option R) : f_s_DrawSortSequence_k code0 kR = (f_s_DrawSortSequence_k code0 some).bind kR := by
  simp only [f_s_DrawSortSequence_k, brB, boB, someB, noneB]
theorem f_s_DrawSortSequence_e (code0 : List Sc) : runFn E0 f_s_DrawSortSequence_M H0 f_s_DrawSortSequence_F (asL (noL)) Try.f108 (f_s_DrawSortSequence_a code0) (f_s_DrawSortSequence_i code0) = f_s_DrawSortSequence_k code0 (fun r => some (f_s_DrawSortSequence_en r)) := by kernel_rfl
theorem f_s_DrawSortSequence_ok (code0 : List Sc) (r : List Sc × List Sc) (h : f_s_DrawSortSequence code0 = some r) : CS Try.prog 108 (f_s_DrawSortSequence_a code0) (f_s_DrawSortSequence_i code0) (f_s_DrawSortSequence_en r).1 (f_s_DrawSortSequence_en r).2 :=
  fn_true (Gk := fun k => f_s_DrawSortSequence_k code0 k) (en := f_s_DrawSortSequence_en) Try.func108 E0ok f_s_DrawSortSequence_Mt (noL_true) f_s_DrawSortSequence_o (f_s_DrawSortSequence_e code0) (f_s_DrawSortSequence_p code0) h
def f_s_DrawSortSequence_c : CRow := fun args inh => match dec2 [.p .sl] [] args inh with
  | some ([.l code0], []) => some ((f_s_DrawSortSequence code0).isSome, (f_s_DrawSortSequence_en ((f_s_DrawSortSequence code0).getD ([], []))).1, (f_s_DrawSortSequence_en ((f_s_DrawSortSequence code0).getD ([], []))).2)
  | _ => none
theorem f_s_DrawSortSequence_cc : CTrue Try.prog 108 f_s_DrawSortSequence_c := by
  intro args inh rs out h
  unfold f_s_DrawSortSequence_c at h
  split at h
  · rename_i hd
    obtain ⟨h1, h2⟩ := dec2_enc hd
    rw [← h1, ← h2]
    exact rowC (f_s_DrawSortSequence_ok _) h
  · cases h

def f_i_copyInts_F : Fi := { nv := 0, nc := 0, m := 0, vt := [], kl := [], sk := [], mvs := [], fz := [] }
def f_i_copyInts_a (l0 : List Sc) : List AV := enc [.p .sl] [.l l0]
def f_i_copyInts_i (l0 : List Sc) : List AV := enc [] []
def f_i_copyInts_en (r : List Sc) : List AV × List AV := (enc [.p (.al 0)] [], enc [.own 3] [.l r])
def f_i_copyInts_M : Calling := noC
theorem f_i_copyInts_Mt : CallOk Try.prog (f_i_copyInts_M) := noC_true
theorem f_i_copyInts_o : loopsOnce Try.f169 = true := by kernel_rfl
theorem f_i_copyInts_p {R : Type} (l0 : List Sc) (kR : List Sc → Option R) : f_i_copyInts_k l0 kR = (f_i_copyInts_k l0 some).bind kR := by
  simp only [f_i_copyInts_k, brB, someB, noneB]
theorem f_i_copyInts_e (l0 : List Sc) : runFn E0 f_i_copyInts_M H0 f_i_copyInts_F (asL (noL)) Try.f169 (f_i_copyInts_a l0) (f_i_copyInts_i l0) = f_i_copyInts_k l0 (fun r => some (f_i_copyInts_en r)) := by kernel_rfl
theorem f_i_copyInts_ok (l0 : List Sc) (r : List Sc) (h : f_i_copyInts l0 = some r) : CS Try.prog 169 (f_i_copyInts_a l0) (f_i_copyInts_i l0) (f_i_copyInts_en r).1 (f_i_copyInts_en r).2 :=
  fn_true (Gk := fun k => f_i_copyInts_k l0 k) (en := f_i_copyInts_en) Try.func169 E0ok f_i_copyInts_Mt (noL_true) f_i_copyInts_o (f_i_copyInts_e l0) (f_i_copyInts_p l0) h
def f_i_copyInts_c : CRow := fun args inh => match dec2 [.p .sl] [] args inh with
  | some ([.l l0], []) => some ((f_i_copyInts l0).isSome, (f_i_copyInts_en ((f_i_copyInts l0).getD [])).1, (f_i_copyInts_en ((f_i_copyInts l0).getD [])).2)
  | _ => none
theorem f_i_copyInts_cc : CTrue Try.prog 169 f_i_copyInts_c := by
  intro args inh rs out h
  unfold f_i_copyInts_c at h
  split at h
  · rename_i hd
    obtain ⟨h1, h2⟩ := dec2_enc hd
    rw [← h1, ← h2]
    exact rowC (f_i_copyInts_ok _) h
  · cases h

def f_slices_Sort_a (h0 : List Sc) : List AV := enc [.p (.al 0)] []
def f_slices_Sort_i (h0 : List Sc) : List AV := enc [.own 3] [.l h0]
def f_slices_Sort_en (r : List Sc) : List AV × List AV := (enc [] [], enc [.own 3] [.l r])
theorem f_slices_Sort_ok (h0 : List Sc) (r : List Sc) (h : f_slices_Sort h0 = some r) : CS Try.prog 198 (f_slices_Sort_a h0) (f_slices_Sort_i h0) (f_slices_Sort_en r).1 (f_slices_Sort_en r).2 :=
  sort_CS (e := 3) ⟨_, Try.func198, by kernel_rfl⟩ Try.slices_Sort_int Try.slices_Sort_int_none h
def f_slices_Sort_c : CRow := fun args inh => match dec2 [.p (.al 0)] [.own 3] args inh with
  | some ([], [.l h0]) => some ((f_slices_Sort h0).isSome, (f_slices_Sort_en ((f_slices_Sort h0).getD [])).1, (f_slices_Sort_en ((f_slices_Sort h0).getD [])).2)
  | _ => none
theorem f_slices_Sort_cc : CTrue Try.prog 198 f_slices_Sort_c := by
  intro args inh rs out h
  unfold f_slices_Sort_c at h
  split at h
  · rename_i hd
    obtain ⟨h1, h2⟩ := dec2_enc hd
    rw [← h1, ← h2]
    exact rowC (f_slices_Sort_ok _) h
  · cases h

def f_i_SortSequence_F : Fi := { nv := 0, nc := 0, m := 0, vt := [], kl := [], sk := [], mvs := [], fz := [] }
def f_i_SortSequence_a (g0 : List Sc) (l1 : List Sc) : List AV := enc [.p .gr, .p .sl] [.l g0, .l l1]
def f_i_SortSequence_i (g0 : List Sc) (l1 : List Sc) : List AV := enc [] []
def f_i_SortSequence_en (r : List Sc × Bool) : List AV × List AV := (enc [.p (.al 0), .p .boo] [.b r.2], enc [.own 3] [.l r.1])
def f_i_SortSequence_M : Calling := addC 169 f_i_copyInts_c (addC 198 f_slices_Sort_c (addC 104 f_i_IsSequence_c (noC)))
theorem f_i_SortSequence_Mt : CallOk Try.prog (f_i_SortSequence_M) := addC_true f_i_copyInts_cc (addC_true f_slices_Sort_cc (addC_true f_i_IsSequence_cc (noC_true)))
theorem f_i_SortSequence_o : loopsOnce Try.f109 = true := by kernel_rfl
theorem f_i_SortSequence_p {R : Type} (g0 : List Sc) (l1 : List Sc) (kR : List Sc × Bool → Option R) : f_i_SortSequence_k g0 l1 kR = (f_i_SortSequence_k g0 l1 some).bind kR := by
  simp only [f_i_SortSequence_k, brB, boB, someB]
theorem f_i_SortSequence_e (g0 : List Sc) (l1 : List Sc) : runFn E0 f_i_SortSequence_M H0 f_i_SortSequence_F (asL (noL)) Try.f109 (f_i_SortSequence_a g0 l1) (f_i_SortSequence_i g0 l1) = f_i_SortSequence_k g0 l1 (fun r => some (f_i_SortSequence_en r)) := by kernel_rfl
theorem f_i_SortSequence_ok (g0 : List Sc) (l1 : List Sc) (r : List Sc × Bool) (h : f_i_SortSequence g0 l1 = some r) : CS Try.prog 109 (f_i_SortSequence_a g0 l1) (f_i_SortSequence_i g0 l1) (f_i_SortSequence_en r).1 (f_i_SortSequence_en r).2 :=
  fn_true (Gk := fun k => f_i_SortSequence_k g0 l1 k) (en := f_i_SortSequence_en) Try.func109 E0ok f_i_SortSequence_Mt (noL_true) f_i_SortSequence_o (f_i_SortSequence_e g0 l1) (f_i_SortSequence_p g0 l1) h
def f_i_SortSequence_c : CRow := fun args inh => match dec2 [.p .gr, .p .sl] [] args inh with
  | some ([.l g0, .l l1], []) => some ((f_i_SortSequence g0 l1).isSome, (f_i_SortSequence_en ((f_i_SortSequence g0 l1).getD ([], false))).1, (f_i_SortSequence_en ((f_i_SortSequence g0 l1).getD ([], false))).2)
  | _ => none
theorem f_i_SortSequence_cc : CTrue Try.prog 109 f_i_SortSequence_c := by
  intro args inh rs out h
  unfold f_i_SortSequence_c at h
  split at h
  · rename_i hd
    obtain ⟨h1, h2⟩ := dec2_enc hd
    rw [← h1, ← h2]
    exact rowC (f_i_SortSequence_ok _ _) h
  · cases h

def f_s_SortSequence_F : Fi := { nv := 0, nc := 0, m := 0, vt := [], kl := [], sk := [], mvs := [], fz := [] }
def f_s_SortSequence_a (g0 : List Sc) (l1 : List Sc) : List AV := enc [.p .gr, .p .sl] [.l g0, .l l1]
def f_s_SortSequence_i (g0 : List Sc) (l1 : List Sc) : List AV := enc [] []
def f_s_SortSequence_en (r : List Sc × Bool) : List AV × List AV := (enc [.p (.al 0), .p .boo] [.b r.2], enc [.own 3] [.l r.1])
def f_s_SortSequence_M : Calling := addC 199 f_s_l16Sort_c (addC 101 f_s_IsSequence_c (noC))
theorem f_s_SortSequence_Mt : CallOk Try.prog (f_s_SortSequence_M) := addC_true f_s_l16Sort_cc (addC_true f_s_IsSequence_cc (noC_true))
theorem f_s_SortSequence_o : loopsOnce Try.f110 = true := by kernel_rfl
theorem f_s_SortSequence_p {R : Type} (g0 : List Sc) (l1 : List Sc) (kR : List Sc × Bool → Option R) : f_s_SortSequence_k g0 l1 kR = (f_s_SortSequence_k g0 l1 some).bind kR := by
  simp only [f_s_SortSequence_k, brB, boB, someB]
theorem f_s_SortSequence_e (g0 : List Sc) (l1 : List Sc) : runFn E0 f_s_SortSequence_M H0 f_s_SortSequence_F (asL (noL)) Try.f110 (f_s_SortSequence_a g0 l1) (f_s_SortSequence_i g0 l1) = f_s_SortSequence_k g0 l1 (fun r => some (f_s_SortSequence_en r)) := by kernel_rfl
theorem f_s_SortSequence_ok (g0 : List Sc) (l1 : List Sc) (r : List Sc × Bool) (h : f_s_SortSequence g0 l1 = some r) : CS Try.prog 110 (f_s_SortSequence_a g0 l1) (f_s_SortSequence_i g0 l1) (f_s_SortSequence_en r).1 (f_s_SortSequence_en r).2 :=
  fn_true (Gk := fun k => f_s_SortSequence_k g0 l1 k) (en := f_s_SortSequence_en) Try.func110 E0ok f_s_SortSequence_Mt (noL_true) f_s_SortSequence_o (f_s_SortSequence_e g0 l1) (f_s_SortSequence_p g0 l1) h
def f_s_SortSequence_c : CRow := fun args inh => match dec2 [.p .gr, .p .sl] [] args inh with
  | some ([.l g0, .l l1], []) => some ((f_s_SortSequence g0 l1).isSome, (f_s_SortSequence_en ((f_s_SortSequence g0 l1).getD ([], false))).1, (f_s_SortSequence_en ((f_s_SortSequence g0 l1).getD ([], false))).2)
  | _ => none
theorem f_s_SortSequence_cc : CTrue Try.prog 110 f_s_SortSequence_c := by
  intro args inh rs out h
  unfold f_s_SortSequence_c at h
  split at h
  · rename_i hd
    obtain ⟨h1, h2⟩ := dec2_enc hd
    rw [← h1, ← h2]
    exact rowC (f_s_SortSequence_ok _ _) h
  · cases h

def f_s_DrawSubsumsOfLength_F : Fi := { nv := 4, nc := 2, m := 0, vt := [(2, 0), (5, 1), (9, 2)], kl := [(100002, ([2, 3, 5, 7, 8, 11, 12, 13, 14, 15, 16, 17, 18, 19, 20, 21, 22, 23], [1, 2, 3, 4, 5, 9, 10, 11, 12, 13, 14, 15, 16, 17, 18, 19, 20, 21, 22, 23], []))], sk := [], mvs := [2, 3], fz := [], tb := [2] }
def f_s_DrawSubsumsOfLength_a (code0 : List Sc) : List AV := enc [.p .sl] [.l code0]
def f_s_DrawSubsumsOfLength_i (code0 : List Sc) : List AV := enc [] []
def f_s_DrawSubsumsOfLength_en (r : List Sc × List Sc × Int) : List AV × List AV := (enc [.p (.go 0), .p (.al 1), .p (.int .i64)] [.i r.2.2], enc [.own 3, .own 3] [.l r.1, .l r.2.1])
def f_s_DrawSubsumsOfLength_M : Calling := addC 182 f_s_l16Both_c (noC)
theorem f_s_DrawSubsumsOfLength_Mt : CallOk Try.prog (f_s_DrawSubsumsOfLength_M) := addC_true f_s_l16Both_cc (noC_true)
theorem f_s_DrawSubsumsOfLength_o : loopsOnce Try.f111 = true := by kernel_rfl
def f_s_DrawSubsumsOfLength_hg2 : List Sh := [.p .sl, .own 3, .u, .u, .p .sl, .u, .p (.pt 0 1), .u, .u, .p (.pt 1 1), .own 3, .u, .u, .u, .u, .u, .u, .u, .u, .u, .u, .u, .u, .u]
def f_s_DrawSubsumsOfLength_frg2 (v0 : List Sc) (v1 : List Sc) (t0 : List Sc) (t6 : List Sc) : List AV := enc f_s_DrawSubsumsOfLength_hg2 [.l v0, .l v1, .l t0, .l t6]
def f_s_DrawSubsumsOfLength_xg2 (v0 : List Sc) (v1 : List Sc) (t0 : List Sc) (t6 : List Sc) (e : Int) : X × List AV := (.norm, enc [.own 3, .u, .u, .u, .u, .u, .p (.pt 0 1), .own 3, .p (.int .i64), .u, .u, .u, .u, .u, .u, .u, .u, .u, .u, .u, .u, .u, .u, .u] [.l v1, .l t6, .i e])
theorem f_s_DrawSubsumsOfLength_pg2 {R : Type} (v0 : List Sc) (v1 : List Sc) (t0 : List Sc) (t6 : List Sc) (kA : Int → Option R) : f_s_DrawSubsumsOfLength_g2_k v0 v1 t0 t6 kA = (f_s_DrawSubsumsOfLength_g2 v0 v1 t0 t6).bind kA := by
  simp only [f_s_DrawSubsumsOfLength_g2_k, f_s_DrawSubsumsOfLength_g2, brB, someB, noneB]
theorem f_s_DrawSubsumsOfLength_bg2 : bodyOf Try.f111 100002 = .region 2 (opsAt (bodyOf Try.f111 100002)) true := by kernel_rfl
def f_s_DrawSubsumsOfLength_Dg2 : List (Array Bool) := [#[false, false, false, false, false, false, false, false, false, false, false], #[true, false, false, false, false, false, false, false, false, false, false], #[false, true, false, false, false, false, false, false, false, false, false], #[false, false, true, false, false, false, false, false, false, false, false], #[false, false, false, true, false, false, false, false, false, false, false], #[true, true, false, false, false, false, false, false, false, false, false], #[true, false, true, false, false, false, false, false, false, false, false], #[true, false, false, true, false, false, false, false, false, false, false], #[true, false, false, false, false, false, false, false, true, false, false], #[false, true, true, false, false, false, false, false, false, false, false], #[false, true, false, true, false, false, false, false, false, false, false], #[false, false, true, true, false, false, false, false, false, false, false], #[false, false, false, true, true, false, false, false, false, false, false], #[true, true, true, false, false, false, false, false, false, false, false], #[true, true, false, true, false, false, false, false, false, false, false], #[true, true, false, false, false, false, false, false, true, false, false], #[true, false, true, true, false, false, false, false, false, false, false], #[true, false, true, false, false, false, false, false, true, false, false], #[true, false, false, true, true, false, false, false, false, false, false], #[true, false, false, true, false, false, false, false, true, false, false], #[false, true, true, true, false, false, false, false, false, false, false], #[false, true, false, true, true, false, false, false, false, false, false], #[false, false, true, true, true, false, false, false, false, false, false], #[false, false, false, true, true, true, false, false, false, false, false], #[true, true, true, true, false, false, false, false, false, false, false], #[true, true, true, false, false, false, false, false, true, false, false], #[true, true, false, true, true, false, false, false, false, false, false], #[true, true, false, true, false, false, false, false, true, false, false], #[true, true, false, false, false, false, false, false, true, true, false], #[true, false, true, true, true, false, false, false, false, false, false], #[true, false, true, true, false, false, false, false, true, false, false], #[true, false, false, true, true, true, false, false, false, false, false], #[true, false, false, true, true, false, false, false, true, false, false], #[false, true, true, true, true, false, false, false, false, false, false], #[false, true, false, true, true, true, false, false, false, false, false], #[false, false, true, true, true, true, false, false, false, false, false], #[true, true, true, true, true, false, false, false, false, false, false], #[true, true, true, true, false, false, false, false, true, false, false], #[true, true, true, false, false, false, false, false, true, true, false], #[true, true, false, true, true, true, false, false, false, false, false], #[true, true, false, true, true, false, false, false, true, false, false], #[true, true, false, true, false, false, false, false, true, true, false], #[true, false, true, true, true, true, false, false, false, false, false], #[true, false, true, true, true, false, false, false, true, false, false], #[true, false, false, true, true, true, false, false, true, false, false], #[false, true, true, true, true, true, false, false, false, false, false], #[false, false, true, true, true, true, true, false, false, false, false], #[true, true, true, true, true, true, false, false, false, false, false], #[true, true, true, true, true, false, false, false, true, false, false], #[true, true, true, true, false, false, false, false, true, true, false], #[true, true, false, true, true, true, false, false, true, false, false], #[true, true, false, true, true, false, false, false, true, true, false], #[true, false, true, true, true, true, true, false, false, false, false], #[true, false, true, true, true, true, false, false, true, false, false], #[false, true, true, true, true, true, true, false, false, false, false], #[false, false, true, true, true, true, true, true, false, false, false], #[true, true, true, true, true, true, true, false, false, false, false], #[true, true, true, true, true, true, false, false, true, false, false], #[true, true, true, true, true, false, false, false, true, true, false], #[true, true, false, true, true, true, false, false, true, true, false], #[true, false, true, true, true, true, true, true, false, false, false], #[true, false, true, true, true, true, true, false, true, false, false], #[false, true, true, true, true, true, true, true, false, false, false], #[true, true, true, true, true, true, true, true, false, false, false], #[true, true, true, true, true, true, true, false, true, false, false], #[true, true, true, true, true, true, false, false, true, true, false], #[true, false, true, true, true, true, true, true, true, false, false], #[true, true, true, true, true, true, true, true, true, false, false], #[true, true, true, true, true, true, true, false, true, true, false], #[true, true, true, true, true, true, true, true, true, true, false], #[true, true, true, true, true, true, true, true, true, true, true]]
theorem f_s_DrawSubsumsOfLength_cg2 : closedB (opsAt (bodyOf Try.f111 100002)) f_s_DrawSubsumsOfLength_Dg2 = true := by kernel_rfl
def f_s_DrawSubsumsOfLength_sg2_0 (v0 : List Sc) (v1 : List Sc) (t0 : List Sc) (t6 : List Sc) (fr : List AV) : Option (List AV) :=
  some (setAll [] fr)
def f_s_DrawSubsumsOfLength_sg2_1 (v0 : List Sc) (v1 : List Sc) (t0 : List Sc) (t6 : List Sc) (fr : List AV) : Option (List AV) :=
  some (setAll [(16, .p (.go 1))] fr)
def f_s_DrawSubsumsOfLength_sg2_2 (v0 : List Sc) (v1 : List Sc) (t0 : List Sc) (t6 : List Sc) (fr : List AV) : Option (List AV) :=
  some (setAll [(17, .p (.al 10))] fr)
def f_s_DrawSubsumsOfLength_sg2_4 (v0 : List Sc) (v1 : List Sc) (t0 : List Sc) (t6 : List Sc) (fr : List AV) : Option (List AV) :=
  some (setAll [(18, .own 3 [(Sc.n .i64 0), (Sc.n .i64 1), (Sc.n .i64 2), (Sc.n .i64 3), (Sc.n .i64 (-1)), (Sc.n .i64 13)])] fr)
def f_s_DrawSubsumsOfLength_sg2_8 (v0 : List Sc) (v1 : List Sc) (t0 : List Sc) (t6 : List Sc) (fr : List AV) : Option (List AV) :=
  some (setAll [(19, .p (.sl t0))] fr)
def f_s_DrawSubsumsOfLength_sg2_3 (v0 : List Sc) (v1 : List Sc) (t0 : List Sc) (t6 : List Sc) (fr : List AV) : Option (List AV) :=
  some (setAll [(16, .p (.go 1)), (17, .p (.al 10))] fr)
def f_s_DrawSubsumsOfLength_sg2_5 (v0 : List Sc) (v1 : List Sc) (t0 : List Sc) (t6 : List Sc) (fr : List AV) : Option (List AV) :=
  some (setAll [(16, .p (.go 1)), (18, .own 3 [(Sc.n .i64 0), (Sc.n .i64 1), (Sc.n .i64 2), (Sc.n .i64 3), (Sc.n .i64 (-1)), (Sc.n .i64 13)])] fr)
def f_s_DrawSubsumsOfLength_sg2_9 (v0 : List Sc) (v1 : List Sc) (t0 : List Sc) (t6 : List Sc) (fr : List AV) : Option (List AV) :=
  some (setAll [(16, .p (.go 1)), (19, .p (.sl t0))] fr)
def f_s_DrawSubsumsOfLength_sg2_257 (v0 : List Sc) (v1 : List Sc) (t0 : List Sc) (t6 : List Sc) (fr : List AV) : Option (List AV) :=
  some (setAll [(0, .own 3 v1), (1, .p (.al 0)), (16, .p (.go 0))] fr)
def f_s_DrawSubsumsOfLength_sg2_6 (v0 : List Sc) (v1 : List Sc) (t0 : List Sc) (t6 : List Sc) (fr : List AV) : Option (List AV) :=
  some (setAll [(17, .p (.al 10)), (18, .own 3 [(Sc.n .i64 0), (Sc.n .i64 1), (Sc.n .i64 2), (Sc.n .i64 3), (Sc.n .i64 (-1)), (Sc.n .i64 13)])] fr)
def f_s_DrawSubsumsOfLength_sg2_10 (v0 : List Sc) (v1 : List Sc) (t0 : List Sc) (t6 : List Sc) (fr : List AV) : Option (List AV) :=
  some (setAll [(17, .p (.al 10)), (19, .p (.sl t0))] fr)
def f_s_DrawSubsumsOfLength_sg2_12 (v0 : List Sc) (v1 : List Sc) (t0 : List Sc) (t6 : List Sc) (fr : List AV) : Option (List AV) :=
  some (setAll [(18, .own 3 [(Sc.n .i64 0), (Sc.n .i64 1), (Sc.n .i64 2), (Sc.n .i64 3), (Sc.n .i64 (-1)), (Sc.n .i64 13)]), (19, .p (.sl t0))] fr)
def f_s_DrawSubsumsOfLength_sg2_24 (v0 : List Sc) (v1 : List Sc) (t0 : List Sc) (t6 : List Sc) (fr : List AV) : Option (List AV) :=
  some (setAll [(19, .p (.sl t0)), (20, .p (.sc (Sc.n .i64 (t0.length : Int))))] fr)
def f_s_DrawSubsumsOfLength_sg2_7 (v0 : List Sc) (v1 : List Sc) (t0 : List Sc) (t6 : List Sc) (fr : List AV) : Option (List AV) :=
  some (setAll [(16, .p (.go 1)), (17, .p (.al 10)), (18, .own 3 [(Sc.n .i64 0), (Sc.n .i64 1), (Sc.n .i64 2), (Sc.n .i64 3), (Sc.n .i64 (-1)), (Sc.n .i64 13)])] fr)
def f_s_DrawSubsumsOfLength_sg2_11 (v0 : List Sc) (v1 : List Sc) (t0 : List Sc) (t6 : List Sc) (fr : List AV) : Option (List AV) :=
  some (setAll [(16, .p (.go 1)), (17, .p (.al 10)), (19, .p (.sl t0))] fr)
def f_s_DrawSubsumsOfLength_sg2_259 (v0 : List Sc) (v1 : List Sc) (t0 : List Sc) (t6 : List Sc) (fr : List AV) : Option (List AV) :=
  some (setAll [(0, .own 3 v1), (1, .p (.al 0)), (16, .p (.go 0)), (17, .p (.al 10))] fr)
def f_s_DrawSubsumsOfLength_sg2_13 (v0 : List Sc) (v1 : List Sc) (t0 : List Sc) (t6 : List Sc) (fr : List AV) : Option (List AV) :=
  some (setAll [(16, .p (.go 1)), (18, .own 3 [(Sc.n .i64 0), (Sc.n .i64 1), (Sc.n .i64 2), (Sc.n .i64 3), (Sc.n .i64 (-1)), (Sc.n .i64 13)]), (19, .p (.sl t0))] fr)
def f_s_DrawSubsumsOfLength_sg2_261 (v0 : List Sc) (v1 : List Sc) (t0 : List Sc) (t6 : List Sc) (fr : List AV) : Option (List AV) :=
  some (setAll [(0, .own 3 v1), (1, .p (.al 0)), (16, .p (.go 0)), (18, .own 3 [(Sc.n .i64 0), (Sc.n .i64 1), (Sc.n .i64 2), (Sc.n .i64 3), (Sc.n .i64 (-1)), (Sc.n .i64 13)])] fr)
def f_s_DrawSubsumsOfLength_sg2_25 (v0 : List Sc) (v1 : List Sc) (t0 : List Sc) (t6 : List Sc) (fr : List AV) : Option (List AV) :=
  some (setAll [(16, .p (.go 1)), (19, .p (.sl t0)), (20, .p (.sc (Sc.n .i64 (t0.length : Int))))] fr)
def f_s_DrawSubsumsOfLength_sg2_265 (v0 : List Sc) (v1 : List Sc) (t0 : List Sc) (t6 : List Sc) (fr : List AV) : Option (List AV) :=
  some (setAll [(0, .own 3 v1), (1, .p (.al 0)), (16, .p (.go 0)), (19, .p (.sl t0))] fr)
def f_s_DrawSubsumsOfLength_sg2_14 (v0 : List Sc) (v1 : List Sc) (t0 : List Sc) (t6 : List Sc) (fr : List AV) : Option (List AV) :=
  some (setAll [(17, .p (.al 10)), (18, .own 3 [(Sc.n .i64 0), (Sc.n .i64 1), (Sc.n .i64 2), (Sc.n .i64 3), (Sc.n .i64 (-1)), (Sc.n .i64 13)]), (19, .p (.sl t0))] fr)
def f_s_DrawSubsumsOfLength_sg2_26 (v0 : List Sc) (v1 : List Sc) (t0 : List Sc) (t6 : List Sc) (fr : List AV) : Option (List AV) :=
  some (setAll [(17, .p (.al 10)), (19, .p (.sl t0)), (20, .p (.sc (Sc.n .i64 (t0.length : Int))))] fr)
def f_s_DrawSubsumsOfLength_sg2_28 (v0 : List Sc) (v1 : List Sc) (t0 : List Sc) (t6 : List Sc) (fr : List AV) : Option (List AV) :=
  some (setAll [(18, .own 3 [(Sc.n .i64 0), (Sc.n .i64 1), (Sc.n .i64 2), (Sc.n .i64 3), (Sc.n .i64 (-1)), (Sc.n .i64 13)]), (19, .p (.sl t0)), (20, .p (.sc (Sc.n .i64 (t0.length : Int))))] fr)
def f_s_DrawSubsumsOfLength_sg2_56 (v0 : List Sc) (v1 : List Sc) (t0 : List Sc) (t6 : List Sc) (fr : List AV) : Option (List AV) :=
  some (setAll [(19, .p (.sl t0)), (20, .p (.sc (Sc.n .i64 (t0.length : Int)))), (21, .p (.sc (Sc.n .i64 ((t0.length : Int).tmod 6))))] fr)
def f_s_DrawSubsumsOfLength_sg2_15 (v0 : List Sc) (v1 : List Sc) (t0 : List Sc) (t6 : List Sc) (fr : List AV) : Option (List AV) :=
  some (setAll [(16, .p (.go 1)), (17, .p (.al 10)), (18, .own 3 [(Sc.n .i64 0), (Sc.n .i64 1), (Sc.n .i64 2), (Sc.n .i64 3), (Sc.n .i64 (-1)), (Sc.n .i64 13)]), (19, .p (.sl t0))] fr)
def f_s_DrawSubsumsOfLength_sg2_263 (v0 : List Sc) (v1 : List Sc) (t0 : List Sc) (t6 : List Sc) (fr : List AV) : Option (List AV) :=
  some (setAll [(0, .own 3 v1), (1, .p (.al 0)), (16, .p (.go 0)), (17, .p (.al 10)), (18, .own 3 [(Sc.n .i64 0), (Sc.n .i64 1), (Sc.n .i64 2), (Sc.n .i64 3), (Sc.n .i64 (-1)), (Sc.n .i64 13)])] fr)
def f_s_DrawSubsumsOfLength_sg2_27 (v0 : List Sc) (v1 : List Sc) (t0 : List Sc) (t6 : List Sc) (fr : List AV) : Option (List AV) :=
  some (setAll [(16, .p (.go 1)), (17, .p (.al 10)), (19, .p (.sl t0)), (20, .p (.sc (Sc.n .i64 (t0.length : Int))))] fr)
def f_s_DrawSubsumsOfLength_sg2_267 (v0 : List Sc) (v1 : List Sc) (t0 : List Sc) (t6 : List Sc) (fr : List AV) : Option (List AV) :=
  some (setAll [(0, .own 3 v1), (1, .p (.al 0)), (16, .p (.go 0)), (17, .p (.al 10)), (19, .p (.sl t0))] fr)
def f_s_DrawSubsumsOfLength_sg2_771 (v0 : List Sc) (v1 : List Sc) (t0 : List Sc) (t6 : List Sc) (fr : List AV) : Option (List AV) :=
  some (setAll [(0, .own 3 v1), (1, .p (.al 0)), (7, .own 3 t6), (10, .p (.al 7)), (16, .p (.go 0)), (17, .p (.al 7))] fr)
def f_s_DrawSubsumsOfLength_sg2_29 (v0 : List Sc) (v1 : List Sc) (t0 : List Sc) (t6 : List Sc) (fr : List AV) : Option (List AV) :=
  some (setAll [(16, .p (.go 1)), (18, .own 3 [(Sc.n .i64 0), (Sc.n .i64 1), (Sc.n .i64 2), (Sc.n .i64 3), (Sc.n .i64 (-1)), (Sc.n .i64 13)]), (19, .p (.sl t0)), (20, .p (.sc (Sc.n .i64 (t0.length : Int))))] fr)
def f_s_DrawSubsumsOfLength_sg2_269 (v0 : List Sc) (v1 : List Sc) (t0 : List Sc) (t6 : List Sc) (fr : List AV) : Option (List AV) :=
  some (setAll [(0, .own 3 v1), (1, .p (.al 0)), (16, .p (.go 0)), (18, .own 3 [(Sc.n .i64 0), (Sc.n .i64 1), (Sc.n .i64 2), (Sc.n .i64 3), (Sc.n .i64 (-1)), (Sc.n .i64 13)]), (19, .p (.sl t0))] fr)
def f_s_DrawSubsumsOfLength_sg2_57 (v0 : List Sc) (v1 : List Sc) (t0 : List Sc) (t6 : List Sc) (fr : List AV) : Option (List AV) :=
  some (setAll [(16, .p (.go 1)), (19, .p (.sl t0)), (20, .p (.sc (Sc.n .i64 (t0.length : Int)))), (21, .p (.sc (Sc.n .i64 ((t0.length : Int).tmod 6))))] fr)
def f_s_DrawSubsumsOfLength_sg2_281 (v0 : List Sc) (v1 : List Sc) (t0 : List Sc) (t6 : List Sc) (fr : List AV) : Option (List AV) :=
  some (setAll [(0, .own 3 v1), (1, .p (.al 0)), (16, .p (.go 0)), (19, .p (.sl t0)), (20, .p (.sc (Sc.n .i64 (t0.length : Int))))] fr)
def f_s_DrawSubsumsOfLength_sg2_30 (v0 : List Sc) (v1 : List Sc) (t0 : List Sc) (t6 : List Sc) (fr : List AV) : Option (List AV) :=
  some (setAll [(17, .p (.al 10)), (18, .own 3 [(Sc.n .i64 0), (Sc.n .i64 1), (Sc.n .i64 2), (Sc.n .i64 3), (Sc.n .i64 (-1)), (Sc.n .i64 13)]), (19, .p (.sl t0)), (20, .p (.sc (Sc.n .i64 (t0.length : Int))))] fr)
def f_s_DrawSubsumsOfLength_sg2_58 (v0 : List Sc) (v1 : List Sc) (t0 : List Sc) (t6 : List Sc) (fr : List AV) : Option (List AV) :=
  some (setAll [(17, .p (.al 10)), (19, .p (.sl t0)), (20, .p (.sc (Sc.n .i64 (t0.length : Int)))), (21, .p (.sc (Sc.n .i64 ((t0.length : Int).tmod 6))))] fr)
def f_s_DrawSubsumsOfLength_sg2_60 (v0 : List Sc) (v1 : List Sc) (t0 : List Sc) (t6 : List Sc) (fr : List AV) : Option (List AV) :=
  some (setAll [(18, .own 3 [(Sc.n .i64 0), (Sc.n .i64 1), (Sc.n .i64 2), (Sc.n .i64 3), (Sc.n .i64 (-1)), (Sc.n .i64 13)]), (19, .p (.sl t0)), (20, .p (.sc (Sc.n .i64 (t0.length : Int)))), (21, .p (.sc (Sc.n .i64 ((t0.length : Int).tmod 6))))] fr)
def f_s_DrawSubsumsOfLength_sg2_31 (v0 : List Sc) (v1 : List Sc) (t0 : List Sc) (t6 : List Sc) (fr : List AV) : Option (List AV) :=
  some (setAll [(16, .p (.go 1)), (17, .p (.al 10)), (18, .own 3 [(Sc.n .i64 0), (Sc.n .i64 1), (Sc.n .i64 2), (Sc.n .i64 3), (Sc.n .i64 (-1)), (Sc.n .i64 13)]), (19, .p (.sl t0)), (20, .p (.sc (Sc.n .i64 (t0.length : Int))))] fr)
def f_s_DrawSubsumsOfLength_sg2_271 (v0 : List Sc) (v1 : List Sc) (t0 : List Sc) (t6 : List Sc) (fr : List AV) : Option (List AV) :=
  some (setAll [(0, .own 3 v1), (1, .p (.al 0)), (16, .p (.go 0)), (17, .p (.al 10)), (18, .own 3 [(Sc.n .i64 0), (Sc.n .i64 1), (Sc.n .i64 2), (Sc.n .i64 3), (Sc.n .i64 (-1)), (Sc.n .i64 13)]), (19, .p (.sl t0))] fr)
def f_s_DrawSubsumsOfLength_sg2_775 (v0 : List Sc) (v1 : List Sc) (t0 : List Sc) (t6 : List Sc) (fr : List AV) : Option (List AV) :=
  some (setAll [(0, .own 3 v1), (1, .p (.al 0)), (7, .own 3 t6), (10, .p (.al 7)), (16, .p (.go 0)), (17, .p (.al 7)), (18, .own 3 [(Sc.n .i64 0), (Sc.n .i64 1), (Sc.n .i64 2), (Sc.n .i64 3), (Sc.n .i64 (-1)), (Sc.n .i64 13)])] fr)
def f_s_DrawSubsumsOfLength_sg2_59 (v0 : List Sc) (v1 : List Sc) (t0 : List Sc) (t6 : List Sc) (fr : List AV) : Option (List AV) :=
  some (setAll [(16, .p (.go 1)), (17, .p (.al 10)), (19, .p (.sl t0)), (20, .p (.sc (Sc.n .i64 (t0.length : Int)))), (21, .p (.sc (Sc.n .i64 ((t0.length : Int).tmod 6))))] fr)
def f_s_DrawSubsumsOfLength_sg2_283 (v0 : List Sc) (v1 : List Sc) (t0 : List Sc) (t6 : List Sc) (fr : List AV) : Option (List AV) :=
  some (setAll [(0, .own 3 v1), (1, .p (.al 0)), (16, .p (.go 0)), (17, .p (.al 10)), (19, .p (.sl t0)), (20, .p (.sc (Sc.n .i64 (t0.length : Int))))] fr)
def f_s_DrawSubsumsOfLength_sg2_779 (v0 : List Sc) (v1 : List Sc) (t0 : List Sc) (t6 : List Sc) (fr : List AV) : Option (List AV) :=
  some (setAll [(0, .own 3 v1), (1, .p (.al 0)), (7, .own 3 t6), (10, .p (.al 7)), (16, .p (.go 0)), (17, .p (.al 7)), (19, .p (.sl t0))] fr)
def f_s_DrawSubsumsOfLength_sg2_61 (v0 : List Sc) (v1 : List Sc) (t0 : List Sc) (t6 : List Sc) (fr : List AV) : Option (List AV) :=
  some (setAll [(16, .p (.go 1)), (18, .own 3 [(Sc.n .i64 0), (Sc.n .i64 1), (Sc.n .i64 2), (Sc.n .i64 3), (Sc.n .i64 (-1)), (Sc.n .i64 13)]), (19, .p (.sl t0)), (20, .p (.sc (Sc.n .i64 (t0.length : Int)))), (21, .p (.sc (Sc.n .i64 ((t0.length : Int).tmod 6))))] fr)
def f_s_DrawSubsumsOfLength_sg2_285 (v0 : List Sc) (v1 : List Sc) (t0 : List Sc) (t6 : List Sc) (fr : List AV) : Option (List AV) :=
  some (setAll [(0, .own 3 v1), (1, .p (.al 0)), (16, .p (.go 0)), (18, .own 3 [(Sc.n .i64 0), (Sc.n .i64 1), (Sc.n .i64 2), (Sc.n .i64 3), (Sc.n .i64 (-1)), (Sc.n .i64 13)]), (19, .p (.sl t0)), (20, .p (.sc (Sc.n .i64 (t0.length : Int))))] fr)
def f_s_DrawSubsumsOfLength_sg2_313 (v0 : List Sc) (v1 : List Sc) (t0 : List Sc) (t6 : List Sc) (fr : List AV) : Option (List AV) :=
  some (setAll [(0, .own 3 v1), (1, .p (.al 0)), (16, .p (.go 0)), (19, .p (.sl t0)), (20, .p (.sc (Sc.n .i64 (t0.length : Int)))), (21, .p (.sc (Sc.n .i64 ((t0.length : Int).tmod 6))))] fr)
def f_s_DrawSubsumsOfLength_sg2_62 (v0 : List Sc) (v1 : List Sc) (t0 : List Sc) (t6 : List Sc) (fr : List AV) : Option (List AV) :=
  some (setAll [(17, .p (.al 10)), (18, .own 3 [(Sc.n .i64 0), (Sc.n .i64 1), (Sc.n .i64 2), (Sc.n .i64 3), (Sc.n .i64 (-1)), (Sc.n .i64 13)]), (19, .p (.sl t0)), (20, .p (.sc (Sc.n .i64 (t0.length : Int)))), (21, .p (.sc (Sc.n .i64 ((t0.length : Int).tmod 6))))] fr)
def f_s_DrawSubsumsOfLength_sg2_124 (v0 : List Sc) (v1 : List Sc) (t0 : List Sc) (t6 : List Sc) (fr : List AV) : Option (List AV) :=
  br (inRange ((t0.length : Int).tmod 6) ([(Sc.n .i64 0), (Sc.n .i64 1), (Sc.n .i64 2), (Sc.n .i64 3), (Sc.n .i64 (-1)), (Sc.n .i64 13)]).length)
    (some (setAll [(18, .own 3 [(Sc.n .i64 0), (Sc.n .i64 1), (Sc.n .i64 2), (Sc.n .i64 3), (Sc.n .i64 (-1)), (Sc.n .i64 13)]), (19, .p (.sl t0)), (20, .p (.sc (Sc.n .i64 (t0.length : Int)))), (21, .p (.sc (Sc.n .i64 ((t0.length : Int).tmod 6)))), (22, .ep 18 (((t0.length : Int).tmod 6).toNat))] fr))
    none
def f_s_DrawSubsumsOfLength_sg2_63 (v0 : List Sc) (v1 : List Sc) (t0 : List Sc) (t6 : List Sc) (fr : List AV) : Option (List AV) :=
  some (setAll [(16, .p (.go 1)), (17, .p (.al 10)), (18, .own 3 [(Sc.n .i64 0), (Sc.n .i64 1), (Sc.n .i64 2), (Sc.n .i64 3), (Sc.n .i64 (-1)), (Sc.n .i64 13)]), (19, .p (.sl t0)), (20, .p (.sc (Sc.n .i64 (t0.length : Int)))), (21, .p (.sc (Sc.n .i64 ((t0.length : Int).tmod 6))))] fr)
def f_s_DrawSubsumsOfLength_sg2_287 (v0 : List Sc) (v1 : List Sc) (t0 : List Sc) (t6 : List Sc) (fr : List AV) : Option (List AV) :=
  some (setAll [(0, .own 3 v1), (1, .p (.al 0)), (16, .p (.go 0)), (17, .p (.al 10)), (18, .own 3 [(Sc.n .i64 0), (Sc.n .i64 1), (Sc.n .i64 2), (Sc.n .i64 3), (Sc.n .i64 (-1)), (Sc.n .i64 13)]), (19, .p (.sl t0)), (20, .p (.sc (Sc.n .i64 (t0.length : Int))))] fr)
def f_s_DrawSubsumsOfLength_sg2_783 (v0 : List Sc) (v1 : List Sc) (t0 : List Sc) (t6 : List Sc) (fr : List AV) : Option (List AV) :=
  some (setAll [(0, .own 3 v1), (1, .p (.al 0)), (7, .own 3 t6), (10, .p (.al 7)), (16, .p (.go 0)), (17, .p (.al 7)), (18, .own 3 [(Sc.n .i64 0), (Sc.n .i64 1), (Sc.n .i64 2), (Sc.n .i64 3), (Sc.n .i64 (-1)), (Sc.n .i64 13)]), (19, .p (.sl t0))] fr)
def f_s_DrawSubsumsOfLength_sg2_315 (v0 : List Sc) (v1 : List Sc) (t0 : List Sc) (t6 : List Sc) (fr : List AV) : Option (List AV) :=
  some (setAll [(0, .own 3 v1), (1, .p (.al 0)), (16, .p (.go 0)), (17, .p (.al 10)), (19, .p (.sl t0)), (20, .p (.sc (Sc.n .i64 (t0.length : Int)))), (21, .p (.sc (Sc.n .i64 ((t0.length : Int).tmod 6))))] fr)
def f_s_DrawSubsumsOfLength_sg2_795 (v0 : List Sc) (v1 : List Sc) (t0 : List Sc) (t6 : List Sc) (fr : List AV) : Option (List AV) :=
  some (setAll [(0, .own 3 v1), (1, .p (.al 0)), (7, .own 3 t6), (10, .p (.al 7)), (16, .p (.go 0)), (17, .p (.al 7)), (19, .p (.sl t0)), (20, .p (.sc (Sc.n .i64 (t0.length : Int))))] fr)
def f_s_DrawSubsumsOfLength_sg2_125 (v0 : List Sc) (v1 : List Sc) (t0 : List Sc) (t6 : List Sc) (fr : List AV) : Option (List AV) :=
  br (inRange ((t0.length : Int).tmod 6) ([(Sc.n .i64 0), (Sc.n .i64 1), (Sc.n .i64 2), (Sc.n .i64 3), (Sc.n .i64 (-1)), (Sc.n .i64 13)]).length)
    (some (setAll [(16, .p (.go 1)), (18, .own 3 [(Sc.n .i64 0), (Sc.n .i64 1), (Sc.n .i64 2), (Sc.n .i64 3), (Sc.n .i64 (-1)), (Sc.n .i64 13)]), (19, .p (.sl t0)), (20, .p (.sc (Sc.n .i64 (t0.length : Int)))), (21, .p (.sc (Sc.n .i64 ((t0.length : Int).tmod 6)))), (22, .ep 18 (((t0.length : Int).tmod 6).toNat))] fr))
    none
def f_s_DrawSubsumsOfLength_sg2_317 (v0 : List Sc) (v1 : List Sc) (t0 : List Sc) (t6 : List Sc) (fr : List AV) : Option (List AV) :=
  some (setAll [(0, .own 3 v1), (1, .p (.al 0)), (16, .p (.go 0)), (18, .own 3 [(Sc.n .i64 0), (Sc.n .i64 1), (Sc.n .i64 2), (Sc.n .i64 3), (Sc.n .i64 (-1)), (Sc.n .i64 13)]), (19, .p (.sl t0)), (20, .p (.sc (Sc.n .i64 (t0.length : Int)))), (21, .p (.sc (Sc.n .i64 ((t0.length : Int).tmod 6))))] fr)
def f_s_DrawSubsumsOfLength_sg2_126 (v0 : List Sc) (v1 : List Sc) (t0 : List Sc) (t6 : List Sc) (fr : List AV) : Option (List AV) :=
  br (inRange ((t0.length : Int).tmod 6) ([(Sc.n .i64 0), (Sc.n .i64 1), (Sc.n .i64 2), (Sc.n .i64 3), (Sc.n .i64 (-1)), (Sc.n .i64 13)]).length)
    (some (setAll [(17, .p (.al 10)), (18, .own 3 [(Sc.n .i64 0), (Sc.n .i64 1), (Sc.n .i64 2), (Sc.n .i64 3), (Sc.n .i64 (-1)), (Sc.n .i64 13)]), (19, .p (.sl t0)), (20, .p (.sc (Sc.n .i64 (t0.length : Int)))), (21, .p (.sc (Sc.n .i64 ((t0.length : Int).tmod 6)))), (22, .ep 18 (((t0.length : Int).tmod 6).toNat))] fr))
    none
def f_s_DrawSubsumsOfLength_sg2_252 (v0 : List Sc) (v1 : List Sc) (t0 : List Sc) (t6 : List Sc) (fr : List AV) : Option (List AV) :=
  br (inRange ((t0.length : Int).tmod 6) ([(Sc.n .i64 0), (Sc.n .i64 1), (Sc.n .i64 2), (Sc.n .i64 3), (Sc.n .i64 (-1)), (Sc.n .i64 13)]).length)
    (br (kAt [(Sc.n .i64 0), (Sc.n .i64 1), (Sc.n .i64 2), (Sc.n .i64 3), (Sc.n .i64 (-1)), (Sc.n .i64 13)] ((t0.length : Int).tmod 6).toNat)
      (some (setAll [(18, .own 3 [(Sc.n .i64 0), (Sc.n .i64 1), (Sc.n .i64 2), (Sc.n .i64 3), (Sc.n .i64 (-1)), (Sc.n .i64 13)]), (19, .p (.sl t0)), (20, .p (.sc (Sc.n .i64 (t0.length : Int)))), (21, .p (.sc (Sc.n .i64 ((t0.length : Int).tmod 6)))), (22, .ep 18 (((t0.length : Int).tmod 6).toNat)), (23, .p (.sc (Sc.n .i64 (atN [(Sc.n .i64 0), (Sc.n .i64 1), (Sc.n .i64 2), (Sc.n .i64 3), (Sc.n .i64 (-1)), (Sc.n .i64 13)] ((t0.length : Int).tmod 6).toNat))))] fr))
      none)
    none
def f_s_DrawSubsumsOfLength_sg2_127 (v0 : List Sc) (v1 : List Sc) (t0 : List Sc) (t6 : List Sc) (fr : List AV) : Option (List AV) :=
  br (inRange ((t0.length : Int).tmod 6) ([(Sc.n .i64 0), (Sc.n .i64 1), (Sc.n .i64 2), (Sc.n .i64 3), (Sc.n .i64 (-1)), (Sc.n .i64 13)]).length)
    (some (setAll [(16, .p (.go 1)), (17, .p (.al 10)), (18, .own 3 [(Sc.n .i64 0), (Sc.n .i64 1), (Sc.n .i64 2), (Sc.n .i64 3), (Sc.n .i64 (-1)), (Sc.n .i64 13)]), (19, .p (.sl t0)), (20, .p (.sc (Sc.n .i64 (t0.length : Int)))), (21, .p (.sc (Sc.n .i64 ((t0.length : Int).tmod 6)))), (22, .ep 18 (((t0.length : Int).tmod 6).toNat))] fr))
    none
def f_s_DrawSubsumsOfLength_sg2_319 (v0 : List Sc) (v1 : List Sc) (t0 : List Sc) (t6 : List Sc) (fr : List AV) : Option (List AV) :=
  some (setAll [(0, .own 3 v1), (1, .p (.al 0)), (16, .p (.go 0)), (17, .p (.al 10)), (18, .own 3 [(Sc.n .i64 0), (Sc.n .i64 1), (Sc.n .i64 2), (Sc.n .i64 3), (Sc.n .i64 (-1)), (Sc.n .i64 13)]), (19, .p (.sl t0)), (20, .p (.sc (Sc.n .i64 (t0.length : Int)))), (21, .p (.sc (Sc.n .i64 ((t0.length : Int).tmod 6))))] fr)
def f_s_DrawSubsumsOfLength_sg2_799 (v0 : List Sc) (v1 : List Sc) (t0 : List Sc) (t6 : List Sc) (fr : List AV) : Option (List AV) :=
  some (setAll [(0, .own 3 v1), (1, .p (.al 0)), (7, .own 3 t6), (10, .p (.al 7)), (16, .p (.go 0)), (17, .p (.al 7)), (18, .own 3 [(Sc.n .i64 0), (Sc.n .i64 1), (Sc.n .i64 2), (Sc.n .i64 3), (Sc.n .i64 (-1)), (Sc.n .i64 13)]), (19, .p (.sl t0)), (20, .p (.sc (Sc.n .i64 (t0.length : Int))))] fr)
def f_s_DrawSubsumsOfLength_sg2_827 (v0 : List Sc) (v1 : List Sc) (t0 : List Sc) (t6 : List Sc) (fr : List AV) : Option (List AV) :=
  some (setAll [(0, .own 3 v1), (1, .p (.al 0)), (7, .own 3 t6), (10, .p (.al 7)), (16, .p (.go 0)), (17, .p (.al 7)), (19, .p (.sl t0)), (20, .p (.sc (Sc.n .i64 (t0.length : Int)))), (21, .p (.sc (Sc.n .i64 ((t0.length : Int).tmod 6))))] fr)
def f_s_DrawSubsumsOfLength_sg2_253 (v0 : List Sc) (v1 : List Sc) (t0 : List Sc) (t6 : List Sc) (fr : List AV) : Option (List AV) :=
  br (inRange ((t0.length : Int).tmod 6) ([(Sc.n .i64 0), (Sc.n .i64 1), (Sc.n .i64 2), (Sc.n .i64 3), (Sc.n .i64 (-1)), (Sc.n .i64 13)]).length)
    (br (kAt [(Sc.n .i64 0), (Sc.n .i64 1), (Sc.n .i64 2), (Sc.n .i64 3), (Sc.n .i64 (-1)), (Sc.n .i64 13)] ((t0.length : Int).tmod 6).toNat)
      (some (setAll [(16, .p (.go 1)), (18, .own 3 [(Sc.n .i64 0), (Sc.n .i64 1), (Sc.n .i64 2), (Sc.n .i64 3), (Sc.n .i64 (-1)), (Sc.n .i64 13)]), (19, .p (.sl t0)), (20, .p (.sc (Sc.n .i64 (t0.length : Int)))), (21, .p (.sc (Sc.n .i64 ((t0.length : Int).tmod 6)))), (22, .ep 18 (((t0.length : Int).tmod 6).toNat)), (23, .p (.sc (Sc.n .i64 (atN [(Sc.n .i64 0), (Sc.n .i64 1), (Sc.n .i64 2), (Sc.n .i64 3), (Sc.n .i64 (-1)), (Sc.n .i64 13)] ((t0.length : Int).tmod 6).toNat))))] fr))
      none)
    none
def f_s_DrawSubsumsOfLength_sg2_381 (v0 : List Sc) (v1 : List Sc) (t0 : List Sc) (t6 : List Sc) (fr : List AV) : Option (List AV) :=
  br (inRange ((t0.length : Int).tmod 6) ([(Sc.n .i64 0), (Sc.n .i64 1), (Sc.n .i64 2), (Sc.n .i64 3), (Sc.n .i64 (-1)), (Sc.n .i64 13)]).length)
    (some (setAll [(0, .own 3 v1), (1, .p (.al 0)), (16, .p (.go 0)), (18, .own 3 [(Sc.n .i64 0), (Sc.n .i64 1), (Sc.n .i64 2), (Sc.n .i64 3), (Sc.n .i64 (-1)), (Sc.n .i64 13)]), (19, .p (.sl t0)), (20, .p (.sc (Sc.n .i64 (t0.length : Int)))), (21, .p (.sc (Sc.n .i64 ((t0.length : Int).tmod 6)))), (22, .ep 18 (((t0.length : Int).tmod 6).toNat))] fr))
    none
def f_s_DrawSubsumsOfLength_sg2_254 (v0 : List Sc) (v1 : List Sc) (t0 : List Sc) (t6 : List Sc) (fr : List AV) : Option (List AV) :=
  br (inRange ((t0.length : Int).tmod 6) ([(Sc.n .i64 0), (Sc.n .i64 1), (Sc.n .i64 2), (Sc.n .i64 3), (Sc.n .i64 (-1)), (Sc.n .i64 13)]).length)
    (br (kAt [(Sc.n .i64 0), (Sc.n .i64 1), (Sc.n .i64 2), (Sc.n .i64 3), (Sc.n .i64 (-1)), (Sc.n .i64 13)] ((t0.length : Int).tmod 6).toNat)
      (some (setAll [(17, .p (.al 10)), (18, .own 3 [(Sc.n .i64 0), (Sc.n .i64 1), (Sc.n .i64 2), (Sc.n .i64 3), (Sc.n .i64 (-1)), (Sc.n .i64 13)]), (19, .p (.sl t0)), (20, .p (.sc (Sc.n .i64 (t0.length : Int)))), (21, .p (.sc (Sc.n .i64 ((t0.length : Int).tmod 6)))), (22, .ep 18 (((t0.length : Int).tmod 6).toNat)), (23, .p (.sc (Sc.n .i64 (atN [(Sc.n .i64 0), (Sc.n .i64 1), (Sc.n .i64 2), (Sc.n .i64 3), (Sc.n .i64 (-1)), (Sc.n .i64 13)] ((t0.length : Int).tmod 6).toNat))))] fr))
      none)
    none
def f_s_DrawSubsumsOfLength_sg2_255 (v0 : List Sc) (v1 : List Sc) (t0 : List Sc) (t6 : List Sc) (fr : List AV) : Option (List AV) :=
  br (inRange ((t0.length : Int).tmod 6) ([(Sc.n .i64 0), (Sc.n .i64 1), (Sc.n .i64 2), (Sc.n .i64 3), (Sc.n .i64 (-1)), (Sc.n .i64 13)]).length)
    (br (kAt [(Sc.n .i64 0), (Sc.n .i64 1), (Sc.n .i64 2), (Sc.n .i64 3), (Sc.n .i64 (-1)), (Sc.n .i64 13)] ((t0.length : Int).tmod 6).toNat)
      (some (setAll [(16, .p (.go 1)), (17, .p (.al 10)), (18, .own 3 [(Sc.n .i64 0), (Sc.n .i64 1), (Sc.n .i64 2), (Sc.n .i64 3), (Sc.n .i64 (-1)), (Sc.n .i64 13)]), (19, .p (.sl t0)), (20, .p (.sc (Sc.n .i64 (t0.length : Int)))), (21, .p (.sc (Sc.n .i64 ((t0.length : Int).tmod 6)))), (22, .ep 18 (((t0.length : Int).tmod 6).toNat)), (23, .p (.sc (Sc.n .i64 (atN [(Sc.n .i64 0), (Sc.n .i64 1), (Sc.n .i64 2), (Sc.n .i64 3), (Sc.n .i64 (-1)), (Sc.n .i64 13)] ((t0.length : Int).tmod 6).toNat))))] fr))
      none)
    none
def f_s_DrawSubsumsOfLength_sg2_383 (v0 : List Sc) (v1 : List Sc) (t0 : List Sc) (t6 : List Sc) (fr : List AV) : Option (List AV) :=
  br (inRange ((t0.length : Int).tmod 6) ([(Sc.n .i64 0), (Sc.n .i64 1), (Sc.n .i64 2), (Sc.n .i64 3), (Sc.n .i64 (-1)), (Sc.n .i64 13)]).length)
    (some (setAll [(0, .own 3 v1), (1, .p (.al 0)), (16, .p (.go 0)), (17, .p (.al 10)), (18, .own 3 [(Sc.n .i64 0), (Sc.n .i64 1), (Sc.n .i64 2), (Sc.n .i64 3), (Sc.n .i64 (-1)), (Sc.n .i64 13)]), (19, .p (.sl t0)), (20, .p (.sc (Sc.n .i64 (t0.length : Int)))), (21, .p (.sc (Sc.n .i64 ((t0.length : Int).tmod 6)))), (22, .ep 18 (((t0.length : Int).tmod 6).toNat))] fr))
    none
def f_s_DrawSubsumsOfLength_sg2_831 (v0 : List Sc) (v1 : List Sc) (t0 : List Sc) (t6 : List Sc) (fr : List AV) : Option (List AV) :=
  some (setAll [(0, .own 3 v1), (1, .p (.al 0)), (7, .own 3 t6), (10, .p (.al 7)), (16, .p (.go 0)), (17, .p (.al 7)), (18, .own 3 [(Sc.n .i64 0), (Sc.n .i64 1), (Sc.n .i64 2), (Sc.n .i64 3), (Sc.n .i64 (-1)), (Sc.n .i64 13)]), (19, .p (.sl t0)), (20, .p (.sc (Sc.n .i64 (t0.length : Int)))), (21, .p (.sc (Sc.n .i64 ((t0.length : Int).tmod 6))))] fr)
def f_s_DrawSubsumsOfLength_sg2_509 (v0 : List Sc) (v1 : List Sc) (t0 : List Sc) (t6 : List Sc) (fr : List AV) : Option (List AV) :=
  br (inRange ((t0.length : Int).tmod 6) ([(Sc.n .i64 0), (Sc.n .i64 1), (Sc.n .i64 2), (Sc.n .i64 3), (Sc.n .i64 (-1)), (Sc.n .i64 13)]).length)
    (br (kAt [(Sc.n .i64 0), (Sc.n .i64 1), (Sc.n .i64 2), (Sc.n .i64 3), (Sc.n .i64 (-1)), (Sc.n .i64 13)] ((t0.length : Int).tmod 6).toNat)
      (some (setAll [(0, .own 3 v1), (1, .p (.al 0)), (16, .p (.go 0)), (18, .own 3 [(Sc.n .i64 0), (Sc.n .i64 1), (Sc.n .i64 2), (Sc.n .i64 3), (Sc.n .i64 (-1)), (Sc.n .i64 13)]), (19, .p (.sl t0)), (20, .p (.sc (Sc.n .i64 (t0.length : Int)))), (21, .p (.sc (Sc.n .i64 ((t0.length : Int).tmod 6)))), (22, .ep 18 (((t0.length : Int).tmod 6).toNat)), (23, .p (.sc (Sc.n .i64 (atN [(Sc.n .i64 0), (Sc.n .i64 1), (Sc.n .i64 2), (Sc.n .i64 3), (Sc.n .i64 (-1)), (Sc.n .i64 13)] ((t0.length : Int).tmod 6).toNat))))] fr))
      none)
    none
def f_s_DrawSubsumsOfLength_sg2_511 (v0 : List Sc) (v1 : List Sc) (t0 : List Sc) (t6 : List Sc) (fr : List AV) : Option (List AV) :=
  br (inRange ((t0.length : Int).tmod 6) ([(Sc.n .i64 0), (Sc.n .i64 1), (Sc.n .i64 2), (Sc.n .i64 3), (Sc.n .i64 (-1)), (Sc.n .i64 13)]).length)
    (br (kAt [(Sc.n .i64 0), (Sc.n .i64 1), (Sc.n .i64 2), (Sc.n .i64 3), (Sc.n .i64 (-1)), (Sc.n .i64 13)] ((t0.length : Int).tmod 6).toNat)
      (some (setAll [(0, .own 3 v1), (1, .p (.al 0)), (16, .p (.go 0)), (17, .p (.al 10)), (18, .own 3 [(Sc.n .i64 0), (Sc.n .i64 1), (Sc.n .i64 2), (Sc.n .i64 3), (Sc.n .i64 (-1)), (Sc.n .i64 13)]), (19, .p (.sl t0)), (20, .p (.sc (Sc.n .i64 (t0.length : Int)))), (21, .p (.sc (Sc.n .i64 ((t0.length : Int).tmod 6)))), (22, .ep 18 (((t0.length : Int).tmod 6).toNat)), (23, .p (.sc (Sc.n .i64 (atN [(Sc.n .i64 0), (Sc.n .i64 1), (Sc.n .i64 2), (Sc.n .i64 3), (Sc.n .i64 (-1)), (Sc.n .i64 13)] ((t0.length : Int).tmod 6).toNat))))] fr))
      none)
    none
def f_s_DrawSubsumsOfLength_sg2_895 (v0 : List Sc) (v1 : List Sc) (t0 : List Sc) (t6 : List Sc) (fr : List AV) : Option (List AV) :=
  br (inRange ((t0.length : Int).tmod 6) ([(Sc.n .i64 0), (Sc.n .i64 1), (Sc.n .i64 2), (Sc.n .i64 3), (Sc.n .i64 (-1)), (Sc.n .i64 13)]).length)
    (some (setAll [(0, .own 3 v1), (1, .p (.al 0)), (7, .own 3 t6), (10, .p (.al 7)), (16, .p (.go 0)), (17, .p (.al 7)), (18, .own 3 [(Sc.n .i64 0), (Sc.n .i64 1), (Sc.n .i64 2), (Sc.n .i64 3), (Sc.n .i64 (-1)), (Sc.n .i64 13)]), (19, .p (.sl t0)), (20, .p (.sc (Sc.n .i64 (t0.length : Int)))), (21, .p (.sc (Sc.n .i64 ((t0.length : Int).tmod 6)))), (22, .ep 18 (((t0.length : Int).tmod 6).toNat))] fr))
    none
def f_s_DrawSubsumsOfLength_sg2_1023 (v0 : List Sc) (v1 : List Sc) (t0 : List Sc) (t6 : List Sc) (fr : List AV) : Option (List AV) :=
  br (inRange ((t0.length : Int).tmod 6) ([(Sc.n .i64 0), (Sc.n .i64 1), (Sc.n .i64 2), (Sc.n .i64 3), (Sc.n .i64 (-1)), (Sc.n .i64 13)]).length)
    (br (kAt [(Sc.n .i64 0), (Sc.n .i64 1), (Sc.n .i64 2), (Sc.n .i64 3), (Sc.n .i64 (-1)), (Sc.n .i64 13)] ((t0.length : Int).tmod 6).toNat)
      (some (setAll [(0, .own 3 v1), (1, .p (.al 0)), (7, .own 3 t6), (10, .p (.al 7)), (16, .p (.go 0)), (17, .p (.al 7)), (18, .own 3 [(Sc.n .i64 0), (Sc.n .i64 1), (Sc.n .i64 2), (Sc.n .i64 3), (Sc.n .i64 (-1)), (Sc.n .i64 13)]), (19, .p (.sl t0)), (20, .p (.sc (Sc.n .i64 (t0.length : Int)))), (21, .p (.sc (Sc.n .i64 ((t0.length : Int).tmod 6)))), (22, .ep 18 (((t0.length : Int).tmod 6).toNat)), (23, .p (.sc (Sc.n .i64 (atN [(Sc.n .i64 0), (Sc.n .i64 1), (Sc.n .i64 2), (Sc.n .i64 3), (Sc.n .i64 (-1)), (Sc.n .i64 13)] ((t0.length : Int).tmod 6).toNat))))] fr))
      none)
    none
def f_s_DrawSubsumsOfLength_sg2_2047 (v0 : List Sc) (v1 : List Sc) (t0 : List Sc) (t6 : List Sc) (fr : List AV) : Option (List AV) :=
  br (inRange ((t0.length : Int).tmod 6) ([(Sc.n .i64 0), (Sc.n .i64 1), (Sc.n .i64 2), (Sc.n .i64 3), (Sc.n .i64 (-1)), (Sc.n .i64 13)]).length)
    (br (kAt [(Sc.n .i64 0), (Sc.n .i64 1), (Sc.n .i64 2), (Sc.n .i64 3), (Sc.n .i64 (-1)), (Sc.n .i64 13)] ((t0.length : Int).tmod 6).toNat)
      (some (setAll [(0, .own 3 v1), (1, .p (.al 0)), (7, .own 3 t6), (8, .p (.sc (Sc.n .i64 (atN [(Sc.n .i64 0), (Sc.n .i64 1), (Sc.n .i64 2), (Sc.n .i64 3), (Sc.n .i64 (-1)), (Sc.n .i64 13)] ((t0.length : Int).tmod 6).toNat)))), (10, .p (.al 7)), (16, .p (.go 0)), (17, .p (.al 7)), (18, .own 3 [(Sc.n .i64 0), (Sc.n .i64 1), (Sc.n .i64 2), (Sc.n .i64 3), (Sc.n .i64 (-1)), (Sc.n .i64 13)]), (19, .p (.sl t0)), (20, .p (.sc (Sc.n .i64 (t0.length : Int)))), (21, .p (.sc (Sc.n .i64 ((t0.length : Int).tmod 6)))), (22, .ep 18 (((t0.length : Int).tmod 6).toNat)), (23, .p (.sc (Sc.n .i64 (atN [(Sc.n .i64 0), (Sc.n .i64 1), (Sc.n .i64 2), (Sc.n .i64 3), (Sc.n .i64 (-1)), (Sc.n .i64 13)] ((t0.length : Int).tmod 6).toNat))))] fr))
      none)
    none
def f_s_DrawSubsumsOfLength_Eg2 (v0 : List Sc) (v1 : List Sc) (t0 : List Sc) (t6 : List Sc) (fr : List AV) : List (Option (List AV)) := [f_s_DrawSubsumsOfLength_sg2_1 v0 v1 t0 t6 fr, f_s_DrawSubsumsOfLength_sg2_2 v0 v1 t0 t6 fr, f_s_DrawSubsumsOfLength_sg2_4 v0 v1 t0 t6 fr, f_s_DrawSubsumsOfLength_sg2_8 v0 v1 t0 t6 fr, f_s_DrawSubsumsOfLength_sg2_3 v0 v1 t0 t6 fr, f_s_DrawSubsumsOfLength_sg2_5 v0 v1 t0 t6 fr, f_s_DrawSubsumsOfLength_sg2_9 v0 v1 t0 t6 fr, f_s_DrawSubsumsOfLength_sg2_257 v0 v1 t0 t6 fr, f_s_DrawSubsumsOfLength_sg2_3 v0 v1 t0 t6 fr, f_s_DrawSubsumsOfLength_sg2_6 v0 v1 t0 t6 fr, f_s_DrawSubsumsOfLength_sg2_10 v0 v1 t0 t6 fr, f_s_DrawSubsumsOfLength_sg2_5 v0 v1 t0 t6 fr, f_s_DrawSubsumsOfLength_sg2_6 v0 v1 t0 t6 fr, f_s_DrawSubsumsOfLength_sg2_12 v0 v1 t0 t6 fr, f_s_DrawSubsumsOfLength_sg2_9 v0 v1 t0 t6 fr, f_s_DrawSubsumsOfLength_sg2_10 v0 v1 t0 t6 fr, f_s_DrawSubsumsOfLength_sg2_12 v0 v1 t0 t6 fr, f_s_DrawSubsumsOfLength_sg2_24 v0 v1 t0 t6 fr, f_s_DrawSubsumsOfLength_sg2_7 v0 v1 t0 t6 fr, f_s_DrawSubsumsOfLength_sg2_11 v0 v1 t0 t6 fr, f_s_DrawSubsumsOfLength_sg2_259 v0 v1 t0 t6 fr, f_s_DrawSubsumsOfLength_sg2_7 v0 v1 t0 t6 fr, f_s_DrawSubsumsOfLength_sg2_13 v0 v1 t0 t6 fr, f_s_DrawSubsumsOfLength_sg2_261 v0 v1 t0 t6 fr, f_s_DrawSubsumsOfLength_sg2_11 v0 v1 t0 t6 fr, f_s_DrawSubsumsOfLength_sg2_13 v0 v1 t0 t6 fr, f_s_DrawSubsumsOfLength_sg2_25 v0 v1 t0 t6 fr, f_s_DrawSubsumsOfLength_sg2_265 v0 v1 t0 t6 fr, f_s_DrawSubsumsOfLength_sg2_259 v0 v1 t0 t6 fr, f_s_DrawSubsumsOfLength_sg2_261 v0 v1 t0 t6 fr, f_s_DrawSubsumsOfLength_sg2_265 v0 v1 t0 t6 fr, f_s_DrawSubsumsOfLength_sg2_7 v0 v1 t0 t6 fr, f_s_DrawSubsumsOfLength_sg2_14 v0 v1 t0 t6 fr, f_s_DrawSubsumsOfLength_sg2_11 v0 v1 t0 t6 fr, f_s_DrawSubsumsOfLength_sg2_14 v0 v1 t0 t6 fr, f_s_DrawSubsumsOfLength_sg2_26 v0 v1 t0 t6 fr, f_s_DrawSubsumsOfLength_sg2_13 v0 v1 t0 t6 fr, f_s_DrawSubsumsOfLength_sg2_14 v0 v1 t0 t6 fr, f_s_DrawSubsumsOfLength_sg2_28 v0 v1 t0 t6 fr, f_s_DrawSubsumsOfLength_sg2_25 v0 v1 t0 t6 fr, f_s_DrawSubsumsOfLength_sg2_26 v0 v1 t0 t6 fr, f_s_DrawSubsumsOfLength_sg2_28 v0 v1 t0 t6 fr, f_s_DrawSubsumsOfLength_sg2_56 v0 v1 t0 t6 fr, f_s_DrawSubsumsOfLength_sg2_15 v0 v1 t0 t6 fr, f_s_DrawSubsumsOfLength_sg2_263 v0 v1 t0 t6 fr, f_s_DrawSubsumsOfLength_sg2_15 v0 v1 t0 t6 fr, f_s_DrawSubsumsOfLength_sg2_27 v0 v1 t0 t6 fr, f_s_DrawSubsumsOfLength_sg2_267 v0 v1 t0 t6 fr, f_s_DrawSubsumsOfLength_sg2_263 v0 v1 t0 t6 fr, f_s_DrawSubsumsOfLength_sg2_267 v0 v1 t0 t6 fr, f_s_DrawSubsumsOfLength_sg2_771 v0 v1 t0 t6 fr, f_s_DrawSubsumsOfLength_sg2_15 v0 v1 t0 t6 fr, f_s_DrawSubsumsOfLength_sg2_29 v0 v1 t0 t6 fr, f_s_DrawSubsumsOfLength_sg2_269 v0 v1 t0 t6 fr, f_s_DrawSubsumsOfLength_sg2_263 v0 v1 t0 t6 fr, f_s_DrawSubsumsOfLength_sg2_269 v0 v1 t0 t6 fr, f_s_DrawSubsumsOfLength_sg2_27 v0 v1 t0 t6 fr, f_s_DrawSubsumsOfLength_sg2_29 v0 v1 t0 t6 fr, f_s_DrawSubsumsOfLength_sg2_57 v0 v1 t0 t6 fr, f_s_DrawSubsumsOfLength_sg2_281 v0 v1 t0 t6 fr, f_s_DrawSubsumsOfLength_sg2_267 v0 v1 t0 t6 fr, f_s_DrawSubsumsOfLength_sg2_269 v0 v1 t0 t6 fr, f_s_DrawSubsumsOfLength_sg2_281 v0 v1 t0 t6 fr, f_s_DrawSubsumsOfLength_sg2_15 v0 v1 t0 t6 fr, f_s_DrawSubsumsOfLength_sg2_30 v0 v1 t0 t6 fr, f_s_DrawSubsumsOfLength_sg2_27 v0 v1 t0 t6 fr, f_s_DrawSubsumsOfLength_sg2_30 v0 v1 t0 t6 fr, f_s_DrawSubsumsOfLength_sg2_58 v0 v1 t0 t6 fr, f_s_DrawSubsumsOfLength_sg2_29 v0 v1 t0 t6 fr, f_s_DrawSubsumsOfLength_sg2_30 v0 v1 t0 t6 fr, f_s_DrawSubsumsOfLength_sg2_60 v0 v1 t0 t6 fr, f_s_DrawSubsumsOfLength_sg2_57 v0 v1 t0 t6 fr, f_s_DrawSubsumsOfLength_sg2_58 v0 v1 t0 t6 fr, f_s_DrawSubsumsOfLength_sg2_60 v0 v1 t0 t6 fr, f_s_DrawSubsumsOfLength_sg2_31 v0 v1 t0 t6 fr, f_s_DrawSubsumsOfLength_sg2_271 v0 v1 t0 t6 fr, f_s_DrawSubsumsOfLength_sg2_271 v0 v1 t0 t6 fr, f_s_DrawSubsumsOfLength_sg2_775 v0 v1 t0 t6 fr, f_s_DrawSubsumsOfLength_sg2_31 v0 v1 t0 t6 fr, f_s_DrawSubsumsOfLength_sg2_59 v0 v1 t0 t6 fr, f_s_DrawSubsumsOfLength_sg2_283 v0 v1 t0 t6 fr, f_s_DrawSubsumsOfLength_sg2_271 v0 v1 t0 t6 fr, f_s_DrawSubsumsOfLength_sg2_283 v0 v1 t0 t6 fr, f_s_DrawSubsumsOfLength_sg2_779 v0 v1 t0 t6 fr, f_s_DrawSubsumsOfLength_sg2_775 v0 v1 t0 t6 fr, f_s_DrawSubsumsOfLength_sg2_779 v0 v1 t0 t6 fr, f_s_DrawSubsumsOfLength_sg2_31 v0 v1 t0 t6 fr, f_s_DrawSubsumsOfLength_sg2_61 v0 v1 t0 t6 fr, f_s_DrawSubsumsOfLength_sg2_285 v0 v1 t0 t6 fr, f_s_DrawSubsumsOfLength_sg2_271 v0 v1 t0 t6 fr, f_s_DrawSubsumsOfLength_sg2_285 v0 v1 t0 t6 fr, f_s_DrawSubsumsOfLength_sg2_59 v0 v1 t0 t6 fr, f_s_DrawSubsumsOfLength_sg2_61 v0 v1 t0 t6 fr, f_s_DrawSubsumsOfLength_sg2_313 v0 v1 t0 t6 fr, f_s_DrawSubsumsOfLength_sg2_283 v0 v1 t0 t6 fr, f_s_DrawSubsumsOfLength_sg2_285 v0 v1 t0 t6 fr, f_s_DrawSubsumsOfLength_sg2_313 v0 v1 t0 t6 fr, f_s_DrawSubsumsOfLength_sg2_31 v0 v1 t0 t6 fr, f_s_DrawSubsumsOfLength_sg2_62 v0 v1 t0 t6 fr, f_s_DrawSubsumsOfLength_sg2_59 v0 v1 t0 t6 fr, f_s_DrawSubsumsOfLength_sg2_62 v0 v1 t0 t6 fr, f_s_DrawSubsumsOfLength_sg2_61 v0 v1 t0 t6 fr, f_s_DrawSubsumsOfLength_sg2_62 v0 v1 t0 t6 fr, f_s_DrawSubsumsOfLength_sg2_124 v0 v1 t0 t6 fr, f_s_DrawSubsumsOfLength_sg2_63 v0 v1 t0 t6 fr, f_s_DrawSubsumsOfLength_sg2_287 v0 v1 t0 t6 fr, f_s_DrawSubsumsOfLength_sg2_287 v0 v1 t0 t6 fr, f_s_DrawSubsumsOfLength_sg2_783 v0 v1 t0 t6 fr, f_s_DrawSubsumsOfLength_sg2_783 v0 v1 t0 t6 fr, f_s_DrawSubsumsOfLength_sg2_63 v0 v1 t0 t6 fr, f_s_DrawSubsumsOfLength_sg2_315 v0 v1 t0 t6 fr, f_s_DrawSubsumsOfLength_sg2_287 v0 v1 t0 t6 fr, f_s_DrawSubsumsOfLength_sg2_315 v0 v1 t0 t6 fr, f_s_DrawSubsumsOfLength_sg2_795 v0 v1 t0 t6 fr, f_s_DrawSubsumsOfLength_sg2_783 v0 v1 t0 t6 fr, f_s_DrawSubsumsOfLength_sg2_795 v0 v1 t0 t6 fr, f_s_DrawSubsumsOfLength_sg2_63 v0 v1 t0 t6 fr, f_s_DrawSubsumsOfLength_sg2_125 v0 v1 t0 t6 fr, f_s_DrawSubsumsOfLength_sg2_317 v0 v1 t0 t6 fr, f_s_DrawSubsumsOfLength_sg2_287 v0 v1 t0 t6 fr, f_s_DrawSubsumsOfLength_sg2_317 v0 v1 t0 t6 fr, f_s_DrawSubsumsOfLength_sg2_315 v0 v1 t0 t6 fr, f_s_DrawSubsumsOfLength_sg2_317 v0 v1 t0 t6 fr, f_s_DrawSubsumsOfLength_sg2_63 v0 v1 t0 t6 fr, f_s_DrawSubsumsOfLength_sg2_126 v0 v1 t0 t6 fr, f_s_DrawSubsumsOfLength_sg2_125 v0 v1 t0 t6 fr, f_s_DrawSubsumsOfLength_sg2_126 v0 v1 t0 t6 fr, f_s_DrawSubsumsOfLength_sg2_252 v0 v1 t0 t6 fr, f_s_DrawSubsumsOfLength_sg2_127 v0 v1 t0 t6 fr, f_s_DrawSubsumsOfLength_sg2_319 v0 v1 t0 t6 fr, f_s_DrawSubsumsOfLength_sg2_319 v0 v1 t0 t6 fr, f_s_DrawSubsumsOfLength_sg2_799 v0 v1 t0 t6 fr, f_s_DrawSubsumsOfLength_sg2_799 v0 v1 t0 t6 fr, f_s_DrawSubsumsOfLength_sg2_319 v0 v1 t0 t6 fr, f_s_DrawSubsumsOfLength_sg2_827 v0 v1 t0 t6 fr, f_s_DrawSubsumsOfLength_sg2_799 v0 v1 t0 t6 fr, f_s_DrawSubsumsOfLength_sg2_827 v0 v1 t0 t6 fr, f_s_DrawSubsumsOfLength_sg2_127 v0 v1 t0 t6 fr, f_s_DrawSubsumsOfLength_sg2_253 v0 v1 t0 t6 fr, f_s_DrawSubsumsOfLength_sg2_381 v0 v1 t0 t6 fr, f_s_DrawSubsumsOfLength_sg2_319 v0 v1 t0 t6 fr, f_s_DrawSubsumsOfLength_sg2_381 v0 v1 t0 t6 fr, f_s_DrawSubsumsOfLength_sg2_127 v0 v1 t0 t6 fr, f_s_DrawSubsumsOfLength_sg2_254 v0 v1 t0 t6 fr, f_s_DrawSubsumsOfLength_sg2_253 v0 v1 t0 t6 fr, f_s_DrawSubsumsOfLength_sg2_254 v0 v1 t0 t6 fr, f_s_DrawSubsumsOfLength_sg2_255 v0 v1 t0 t6 fr, f_s_DrawSubsumsOfLength_sg2_383 v0 v1 t0 t6 fr, f_s_DrawSubsumsOfLength_sg2_383 v0 v1 t0 t6 fr, f_s_DrawSubsumsOfLength_sg2_831 v0 v1 t0 t6 fr, f_s_DrawSubsumsOfLength_sg2_831 v0 v1 t0 t6 fr, f_s_DrawSubsumsOfLength_sg2_831 v0 v1 t0 t6 fr, f_s_DrawSubsumsOfLength_sg2_255 v0 v1 t0 t6 fr, f_s_DrawSubsumsOfLength_sg2_509 v0 v1 t0 t6 fr, f_s_DrawSubsumsOfLength_sg2_383 v0 v1 t0 t6 fr, f_s_DrawSubsumsOfLength_sg2_509 v0 v1 t0 t6 fr, f_s_DrawSubsumsOfLength_sg2_255 v0 v1 t0 t6 fr, f_s_DrawSubsumsOfLength_sg2_511 v0 v1 t0 t6 fr, f_s_DrawSubsumsOfLength_sg2_511 v0 v1 t0 t6 fr, f_s_DrawSubsumsOfLength_sg2_895 v0 v1 t0 t6 fr, f_s_DrawSubsumsOfLength_sg2_895 v0 v1 t0 t6 fr, f_s_DrawSubsumsOfLength_sg2_511 v0 v1 t0 t6 fr, f_s_DrawSubsumsOfLength_sg2_1023 v0 v1 t0 t6 fr, f_s_DrawSubsumsOfLength_sg2_1023 v0 v1 t0 t6 fr, f_s_DrawSubsumsOfLength_sg2_2047 v0 v1 t0 t6 fr]
theorem f_s_DrawSubsumsOfLength_dLg2 (v0 : List Sc) (v1 : List Sc) (t0 : List Sc) (t6 : List Sc) : edgeL E0 f_s_DrawSubsumsOfLength_M H0 f_s_DrawSubsumsOfLength_F (opsAt (bodyOf Try.f111 100002)) f_s_DrawSubsumsOfLength_Dg2 (f_s_DrawSubsumsOfLength_frg2 v0 v1 t0 t6) = f_s_DrawSubsumsOfLength_Eg2 v0 v1 t0 t6 (f_s_DrawSubsumsOfLength_frg2 v0 v1 t0 t6) := by kernel_rfl
theorem f_s_DrawSubsumsOfLength_dRg2 (v0 : List Sc) (v1 : List Sc) (t0 : List Sc) (t6 : List Sc) : edgeR E0 f_s_DrawSubsumsOfLength_M H0 f_s_DrawSubsumsOfLength_F (opsAt (bodyOf Try.f111 100002)) f_s_DrawSubsumsOfLength_Dg2 (f_s_DrawSubsumsOfLength_frg2 v0 v1 t0 t6) = f_s_DrawSubsumsOfLength_Eg2 v0 v1 t0 t6 (f_s_DrawSubsumsOfLength_frg2 v0 v1 t0 t6) := by kernel_rfl
theorem f_s_DrawSubsumsOfLength_dg2 (v0 : List Sc) (v1 : List Sc) (t0 : List Sc) (t6 : List Sc) : edgeL E0 f_s_DrawSubsumsOfLength_M H0 f_s_DrawSubsumsOfLength_F (opsAt (bodyOf Try.f111 100002)) f_s_DrawSubsumsOfLength_Dg2 (f_s_DrawSubsumsOfLength_frg2 v0 v1 t0 t6) = edgeR E0 f_s_DrawSubsumsOfLength_M H0 f_s_DrawSubsumsOfLength_F (opsAt (bodyOf Try.f111 100002)) f_s_DrawSubsumsOfLength_Dg2 (f_s_DrawSubsumsOfLength_frg2 v0 v1 t0 t6) := (f_s_DrawSubsumsOfLength_dLg2 v0 v1 t0 t6).trans (f_s_DrawSubsumsOfLength_dRg2 v0 v1 t0 t6).symm
theorem f_s_DrawSubsumsOfLength_eg2 (v0 : List Sc) (v1 : List Sc) (t0 : List Sc) (t6 : List Sc) : goL E0 f_s_DrawSubsumsOfLength_M H0 f_s_DrawSubsumsOfLength_F (opsAt (bodyOf Try.f111 100002)) (Array.replicate (opsAt (bodyOf Try.f111 100002)).size true) (opsAt (bodyOf Try.f111 100002)).toList 0 (f_s_DrawSubsumsOfLength_frg2 v0 v1 t0 t6) (fun s => some (X.norm, clear (klOf f_s_DrawSubsumsOfLength_F 100002).2.1 s)) = f_s_DrawSubsumsOfLength_g2_k v0 v1 t0 t6 (fun e => some (f_s_DrawSubsumsOfLength_xg2 v0 v1 t0 t6 e)) := by kernel_rfl
theorem f_s_DrawSubsumsOfLength_lg2 (v0 : List Sc) (v1 : List Sc) (t0 : List Sc) (t6 : List Sc) (r : Int) (h : f_s_DrawSubsumsOfLength_g2 v0 v1 t0 t6 = some r) : LS Try.prog f_s_DrawSubsumsOfLength_F (bodyOf Try.f111 100002) (f_s_DrawSubsumsOfLength_frg2 v0 v1 t0 t6) (f_s_DrawSubsumsOfLength_xg2 v0 v1 t0 t6 r) :=
  region_true (S := Unit) (id := 2) (G := fun _ => f_s_DrawSubsumsOfLength_g2 v0 v1 t0 t6) (Gk := fun _ k => f_s_DrawSubsumsOfLength_g2_k v0 v1 t0 t6 k) (fr := fun _ => f_s_DrawSubsumsOfLength_frg2 v0 v1 t0 t6) (f1 := fun e => f_s_DrawSubsumsOfLength_xg2 v0 v1 t0 t6 e) E0ok f_s_DrawSubsumsOfLength_Mt f_s_DrawSubsumsOfLength_bg2 f_s_DrawSubsumsOfLength_cg2 (fun _ => f_s_DrawSubsumsOfLength_dg2 v0 v1 t0 t6) (fun _ => rfl) (fun _ => f_s_DrawSubsumsOfLength_eg2 v0 v1 t0 t6) (fun _ k => f_s_DrawSubsumsOfLength_pg2 v0 v1 t0 t6 k) () r h
def f_s_DrawSubsumsOfLength_tg2 (σ : List AV) : Option (Bool × Bool × (X × List AV) × (X × List AV)) := match dec f_s_DrawSubsumsOfLength_hg2 σ with
  | some [.l v0, .l v1, .l t0, .l t6] => some ((f_s_DrawSubsumsOfLength_g2 v0 v1 t0 t6).isSome, true, f_s_DrawSubsumsOfLength_xg2 v0 v1 t0 t6 ((f_s_DrawSubsumsOfLength_g2 v0 v1 t0 t6).getD 0), (.ret, []))
  | _ => none
theorem f_s_DrawSubsumsOfLength_ttg2 : TTrue Try.prog f_s_DrawSubsumsOfLength_F Try.f111 100002 f_s_DrawSubsumsOfLength_tg2 := by
  intro σ p r r' h
  unfold f_s_DrawSubsumsOfLength_tg2 at h
  split at h
  · rename_i hd
    rw [← dec_enc hd]
    exact rowR (f_s_DrawSubsumsOfLength_lg2 _ _ _ _) h
  · cases h
theorem f_s_DrawSubsumsOfLength_p {R : Type} (code0 : List Sc) (kR : List Sc × List Sc × Int → Option R) : f_s_DrawSubsumsOfLength_k code0 kR = (f_s_DrawSubsumsOfLength_k code0 some).bind kR := by
  simp only [f_s_DrawSubsumsOfLength_k, boB, someB]
theorem f_s_DrawSubsumsOfLength_e (code0 : List Sc) : runFn E0 f_s_DrawSubsumsOfLength_M H0 f_s_DrawSubsumsOfLength_F (asL (addL 100002 f_s_DrawSubsumsOfLength_tg2 (noL))) Try.f111 (f_s_DrawSubsumsOfLength_a code0) (f_s_DrawSubsumsOfLength_i code0) = f_s_DrawSubsumsOfLength_k code0 (fun r => some (f_s_DrawSubsumsOfLength_en r)) := by kernel_rfl
theorem f_s_DrawSubsumsOfLength_ok (code0 : List Sc) (r : List Sc × List Sc × Int) (h : f_s_DrawSubsumsOfLength code0 = some r) : CS Try.prog 111 (f_s_DrawSubsumsOfLength_a code0) (f_s_DrawSubsumsOfLength_i code0) (f_s_DrawSubsumsOfLength_en r).1 (f_s_DrawSubsumsOfLength_en r).2 :=
  fn_true (Gk := fun k => f_s_DrawSubsumsOfLength_k code0 k) (en := f_s_DrawSubsumsOfLength_en) Try.func111 E0ok f_s_DrawSubsumsOfLength_Mt (addL_true f_s_DrawSubsumsOfLength_ttg2 (noL_true)) f_s_DrawSubsumsOfLength_o (f_s_DrawSubsumsOfLength_e code0) (f_s_DrawSubsumsOfLength_p code0) h
def f_s_DrawSubsumsOfLength_c : CRow := fun args inh => match dec2 [.p .sl] [] args inh with
  | some ([.l code0], []) => some ((f_s_DrawSubsumsOfLength code0).isSome, (f_s_DrawSubsumsOfLength_en ((f_s_DrawSubsumsOfLength code0).getD ([], [], 0))).1, (f_s_DrawSubsumsOfLength_en ((f_s_DrawSubsumsOfLength code0).getD ([], [], 0))).2)
  | _ => none
theorem f_s_DrawSubsumsOfLength_cc : CTrue Try.prog 111 f_s_DrawSubsumsOfLength_c := by
  intro args inh rs out h
  unfold f_s_DrawSubsumsOfLength_c at h
  split at h
  · rename_i hd
    obtain ⟨h1, h2⟩ := dec2_enc hd
    rw [← h1, ← h2]
    exact rowC (f_s_DrawSubsumsOfLength_ok _) h
  · cases h

def f_s_l2Element_io_F : Fi := { nv := 3, nc := 3, m := 3, vt := [], kl := [], sk := [], mvs := [], fz := [] }
def f_s_l2Element_io_a (g1 : List Sc) (h0 : List Sc) (h1 : Int) (h2 : Int) : List AV := enc [.p (.pt 0 3), .p .gr] [.l g1]
def f_s_l2Element_io_i (g1 : List Sc) (h0 : List Sc) (h1 : Int) (h2 : Int) : List AV := enc [.p .sl, .p (.int .i64), .p (.int .i64)] [.l h0, .i h1, .i h2]
def f_s_l2Element_io_en (r : Int × List Sc × Int × Int) : List AV × List AV := (enc [.p (.int .i64)] [.i r.1], enc [.p .sl, .p (.int .i64), .p (.int .i64)] [.l r.2.1, .i r.2.2.1, .i r.2.2.2])
def f_s_l2Element_io_M : Calling := addC 167 f_s_l1Once_io_c (addC 168 f_s_l1PickInt_io_c (addC 72 f_s_OrderOf_c (addC 166 f_s_l1Below_io_c (noC))))
theorem f_s_l2Element_io_Mt : CallOk Try.prog (f_s_l2Element_io_M) := addC_true f_s_l1Once_io_cc (addC_true f_s_l1PickInt_io_cc (addC_true f_s_OrderOf_cc (addC_true f_s_l1Below_io_cc (noC_true))))
theorem f_s_l2Element_io_o : loopsOnce Try.f200 = true := by kernel_rfl
theorem f_s_l2Element_io_p {R : Type} (g1 : List Sc) (h0 : List Sc) (h1 : Int) (h2 : Int) (kR : Int × List Sc × Int × Int → Option R) : f_s_l2Element_io_k g1 h0 h1 h2 kR = (f_s_l2Element_io_k g1 h0 h1 h2 some).bind kR := by
  simp only [f_s_l2Element_io_k, brB, boB, someB]
theorem f_s_l2Element_io_e (g1 : List Sc) (h0 : List Sc) (h1 : Int) (h2 : Int) : runFn E0 f_s_l2Element_io_M H0 f_s_l2Element_io_F (asL (noL)) Try.f200 (f_s_l2Element_io_a g1 h0 h1 h2) (f_s_l2Element_io_i g1 h0 h1 h2) = f_s_l2Element_io_k g1 h0 h1 h2 (fun r => some (f_s_l2Element_io_en r)) := by kernel_rfl
theorem f_s_l2Element_io_ok (g1 : List Sc) (h0 : List Sc) (h1 : Int) (h2 : Int) (r : Int × List Sc × Int × Int) (h : f_s_l2Element_io g1 h0 h1 h2 = some r) : CS Try.prog 200 (f_s_l2Element_io_a g1 h0 h1 h2) (f_s_l2Element_io_i g1 h0 h1 h2) (f_s_l2Element_io_en r).1 (f_s_l2Element_io_en r).2 :=
  fn_true (Gk := fun k => f_s_l2Element_io_k g1 h0 h1 h2 k) (en := f_s_l2Element_io_en) Try.func200 E0ok f_s_l2Element_io_Mt (noL_true) f_s_l2Element_io_o (f_s_l2Element_io_e g1 h0 h1 h2) (f_s_l2Element_io_p g1 h0 h1 h2) h
def f_s_l2Element_io_c : CRow := fun args inh => match dec2 [.p (.pt 0 3), .p .gr] [.p .sl, .p (.int .i64), .p (.int .i64)] args inh with
  | some ([.l g1], [.l h0, .i h1, .i h2]) => some ((f_s_l2Element_io g1 h0 h1 h2).isSome, (f_s_l2Element_io_en ((f_s_l2Element_io g1 h0 h1 h2).getD (0, [], 0, 0))).1, (f_s_l2Element_io_en ((f_s_l2Element_io g1 h0 h1 h2).getD (0, [], 0, 0))).2)
  | _ => none
theorem f_s_l2Element_io_cc : CTrue Try.prog 200 f_s_l2Element_io_c := by
  intro args inh rs out h
  unfold f_s_l2Element_io_c at h
  split at h
  · rename_i hd
    obtain ⟨h1, h2⟩ := dec2_enc hd
    rw [← h1, ← h2]
    exact rowC (f_s_l2Element_io_ok _ _ _ _) h
  · cases h

def f_s_DrawMultiplicityIn_F : Fi := { nv := 6, nc := 4, m := 0, vt := [(4, 0), (8, 4), (13, 1)], kl := [(100002, ([1, 2, 3, 4, 5, 7, 8, 9, 12, 13, 14, 15, 16, 17, 18, 19, 20, 21], [0, 1, 2, 3, 4, 5, 6, 7, 10, 11, 12, 13, 14, 15, 16, 17, 18, 19, 20, 21], []))], sk := [], mvs := [4, 5], fz := [], tb := [2] }
def f_s_DrawMultiplicityIn_a (code0 : List Sc) : List AV := enc [.p .sl] [.l code0]
def f_s_DrawMultiplicityIn_i (code0 : List Sc) : List AV := enc [] []
def f_s_DrawMultiplicityIn_en (r : List Sc × Int) : List AV × List AV := (enc [.p (.al 0), .p (.int .i64)] [.i r.2], enc [.own 3] [.l r.1])
def f_s_DrawMultiplicityIn_M : Calling := addC 182 f_s_l16Both_c (addC 162 f_s_l1New_c (addC 200 f_s_l2Element_io_c (noC)))
theorem f_s_DrawMultiplicityIn_Mt : CallOk Try.prog (f_s_DrawMultiplicityIn_M) := addC_true f_s_l16Both_cc (addC_true f_s_l1New_cc (addC_true f_s_l2Element_io_cc (noC_true)))
theorem f_s_DrawMultiplicityIn_o : loopsOnce Try.f112 = true := by kernel_rfl
def f_s_DrawMultiplicityIn_hg2 : List Sh := [.own 3, .u, .u, .u, .u, .u, .p .sl, .u, .u, .u, .p (.pt 0 1), .own 3, .u, .u, .u, .u, .u, .u, .u, .u, .u, .u]
def f_s_DrawMultiplicityIn_frg2 (v0 : List Sc) (t0 : List Sc) (t5 : List Sc) : List AV := enc f_s_DrawMultiplicityIn_hg2 [.l v0, .l t0, .l t5]
def f_s_DrawMultiplicityIn_xg2 (v0 : List Sc) (t0 : List Sc) (t5 : List Sc) (e : Int) : X × List AV := (.norm, enc [.u, .u, .u, .u, .u, .u, .u, .u, .own 3, .p (.int .i64), .u, .u, .u, .u, .u, .u, .u, .u, .u, .u, .u, .u] [.l t5, .i e])
theorem f_s_DrawMultiplicityIn_pg2 {R : Type} (v0 : List Sc) (t0 : List Sc) (t5 : List Sc) (kA : Int → Option R) : f_s_DrawMultiplicityIn_g2_k v0 t0 t5 kA = (f_s_DrawMultiplicityIn_g2 v0 t0 t5).bind kA := by
  simp only [f_s_DrawMultiplicityIn_g2_k, f_s_DrawMultiplicityIn_g2, boB, someB]
theorem f_s_DrawMultiplicityIn_bg2 : bodyOf Try.f112 100002 = .region 2 (opsAt (bodyOf Try.f112 100002)) true := by kernel_rfl
def f_s_DrawMultiplicityIn_Dg2 : List (Array Bool) := [#[false, false, false, false, false, false, false], #[true, false, false, false, false, false, false], #[false, true, false, false, false, false, false], #[false, false, false, true, false, false, false], #[true, true, false, false, false, false, false], #[true, false, false, true, false, false, false], #[false, true, true, false, false, false, false], #[false, true, false, true, false, false, false], #[true, true, true, false, false, false, false], #[true, true, false, true, false, false, false], #[false, true, true, true, false, false, false], #[true, true, true, true, false, false, false], #[false, true, true, true, true, false, false], #[true, true, true, true, true, false, false], #[true, true, true, true, true, true, false], #[true, true, true, true, true, true, true]]
theorem f_s_DrawMultiplicityIn_cg2 : closedB (opsAt (bodyOf Try.f112 100002)) f_s_DrawMultiplicityIn_Dg2 = true := by kernel_rfl
def f_s_DrawMultiplicityIn_sg2_0 (v0 : List Sc) (t0 : List Sc) (t5 : List Sc) (fr : List AV) : Option (List AV) :=
  some (setAll [] fr)
def f_s_DrawMultiplicityIn_sg2_1 (v0 : List Sc) (t0 : List Sc) (t5 : List Sc) (fr : List AV) : Option (List AV) :=
  some (setAll [(17, .p (.al 11))] fr)
def f_s_DrawMultiplicityIn_sg2_2 (v0 : List Sc) (t0 : List Sc) (t5 : List Sc) (fr : List AV) : Option (List AV) :=
  some (setAll [(18, .p (.sl t0))] fr)
def f_s_DrawMultiplicityIn_sg2_8 (v0 : List Sc) (t0 : List Sc) (t5 : List Sc) (fr : List AV) : Option (List AV) :=
  some (setAll [(20, .p (.go 0))] fr)
def f_s_DrawMultiplicityIn_sg2_3 (v0 : List Sc) (t0 : List Sc) (t5 : List Sc) (fr : List AV) : Option (List AV) :=
  some (setAll [(17, .p (.al 11)), (18, .p (.sl t0))] fr)
def f_s_DrawMultiplicityIn_sg2_9 (v0 : List Sc) (t0 : List Sc) (t5 : List Sc) (fr : List AV) : Option (List AV) :=
  some (setAll [(17, .p (.al 11)), (20, .p (.go 0))] fr)
def f_s_DrawMultiplicityIn_sg2_6 (v0 : List Sc) (t0 : List Sc) (t5 : List Sc) (fr : List AV) : Option (List AV) :=
  bo (f_s_l1New t0) ([], 0, 0) fun r4 =>
  some (setAll [(1, .p (.sl r4.1)), (2, .p (.sc (Sc.n .i64 r4.2.1))), (3, .p (.sc (Sc.n .i64 r4.2.2))), (18, .p (.sl t0)), (19, .p (.pt 1 3))] fr)
def f_s_DrawMultiplicityIn_sg2_10 (v0 : List Sc) (t0 : List Sc) (t5 : List Sc) (fr : List AV) : Option (List AV) :=
  some (setAll [(18, .p (.sl t0)), (20, .p (.go 0))] fr)
def f_s_DrawMultiplicityIn_sg2_7 (v0 : List Sc) (t0 : List Sc) (t5 : List Sc) (fr : List AV) : Option (List AV) :=
  bo (f_s_l1New t0) ([], 0, 0) fun r5 =>
  some (setAll [(1, .p (.sl r5.1)), (2, .p (.sc (Sc.n .i64 r5.2.1))), (3, .p (.sc (Sc.n .i64 r5.2.2))), (17, .p (.al 11)), (18, .p (.sl t0)), (19, .p (.pt 1 3))] fr)
def f_s_DrawMultiplicityIn_sg2_11 (v0 : List Sc) (t0 : List Sc) (t5 : List Sc) (fr : List AV) : Option (List AV) :=
  some (setAll [(17, .p (.al 11)), (18, .p (.sl t0)), (20, .p (.go 0))] fr)
def f_s_DrawMultiplicityIn_sg2_14 (v0 : List Sc) (t0 : List Sc) (t5 : List Sc) (fr : List AV) : Option (List AV) :=
  bo (f_s_l1New t0) ([], 0, 0) fun r6 =>
  some (setAll [(1, .p (.sl r6.1)), (2, .p (.sc (Sc.n .i64 r6.2.1))), (3, .p (.sc (Sc.n .i64 r6.2.2))), (18, .p (.sl t0)), (19, .p (.pt 1 3)), (20, .p (.go 0))] fr)
def f_s_DrawMultiplicityIn_sg2_15 (v0 : List Sc) (t0 : List Sc) (t5 : List Sc) (fr : List AV) : Option (List AV) :=
  bo (f_s_l1New t0) ([], 0, 0) fun r7 =>
  some (setAll [(1, .p (.sl r7.1)), (2, .p (.sc (Sc.n .i64 r7.2.1))), (3, .p (.sc (Sc.n .i64 r7.2.2))), (17, .p (.al 11)), (18, .p (.sl t0)), (19, .p (.pt 1 3)), (20, .p (.go 0))] fr)
def f_s_DrawMultiplicityIn_sg2_30 (v0 : List Sc) (t0 : List Sc) (t5 : List Sc) (fr : List AV) : Option (List AV) :=
  bo (f_s_l1New t0) ([], 0, 0) fun r8 =>
  bo (f_s_l2Element_io v0 r8.1 r8.2.1 r8.2.2) (0, [], 0, 0) fun r9 =>
  some (setAll [(0, .fr 3 v0), (1, .p (.sl r9.2.1)), (2, .p (.sc (Sc.n .i64 r9.2.2.1))), (3, .p (.sc (Sc.n .i64 r9.2.2.2))), (18, .p (.sl t0)), (19, .p (.pt 1 3)), (20, .p (.gr v0)), (21, .p (.sc (Sc.n .i64 r9.1)))] fr)
def f_s_DrawMultiplicityIn_sg2_31 (v0 : List Sc) (t0 : List Sc) (t5 : List Sc) (fr : List AV) : Option (List AV) :=
  bo (f_s_l1New t0) ([], 0, 0) fun r10 =>
  bo (f_s_l2Element_io v0 r10.1 r10.2.1 r10.2.2) (0, [], 0, 0) fun r11 =>
  some (setAll [(0, .fr 3 v0), (1, .p (.sl r11.2.1)), (2, .p (.sc (Sc.n .i64 r11.2.2.1))), (3, .p (.sc (Sc.n .i64 r11.2.2.2))), (17, .p (.al 11)), (18, .p (.sl t0)), (19, .p (.pt 1 3)), (20, .p (.gr v0)), (21, .p (.sc (Sc.n .i64 r11.1)))] fr)
def f_s_DrawMultiplicityIn_sg2_63 (v0 : List Sc) (t0 : List Sc) (t5 : List Sc) (fr : List AV) : Option (List AV) :=
  bo (f_s_l1New t0) ([], 0, 0) fun r12 =>
  bo (f_s_l2Element_io v0 r12.1 r12.2.1 r12.2.2) (0, [], 0, 0) fun r13 =>
  some (setAll [(0, .fr 3 v0), (1, .p (.sl r13.2.1)), (2, .p (.sc (Sc.n .i64 r13.2.2.1))), (3, .p (.sc (Sc.n .i64 r13.2.2.2))), (8, .own 3 t5), (11, .p (.al 8)), (17, .p (.al 8)), (18, .p (.sl t0)), (19, .p (.pt 1 3)), (20, .p (.gr v0)), (21, .p (.sc (Sc.n .i64 r13.1)))] fr)
def f_s_DrawMultiplicityIn_sg2_127 (v0 : List Sc) (t0 : List Sc) (t5 : List Sc) (fr : List AV) : Option (List AV) :=
  bo (f_s_l1New t0) ([], 0, 0) fun r14 =>
  bo (f_s_l2Element_io v0 r14.1 r14.2.1 r14.2.2) (0, [], 0, 0) fun r15 =>
  some (setAll [(0, .fr 3 v0), (1, .p (.sl r15.2.1)), (2, .p (.sc (Sc.n .i64 r15.2.2.1))), (3, .p (.sc (Sc.n .i64 r15.2.2.2))), (8, .own 3 t5), (9, .p (.sc (Sc.n .i64 r15.1))), (11, .p (.al 8)), (17, .p (.al 8)), (18, .p (.sl t0)), (19, .p (.pt 1 3)), (20, .p (.gr v0)), (21, .p (.sc (Sc.n .i64 r15.1)))] fr)
def f_s_DrawMultiplicityIn_Eg2 (v0 : List Sc) (t0 : List Sc) (t5 : List Sc) (fr : List AV) : List (Option (List AV)) := [f_s_DrawMultiplicityIn_sg2_1 v0 t0 t5 fr, f_s_DrawMultiplicityIn_sg2_2 v0 t0 t5 fr, f_s_DrawMultiplicityIn_sg2_8 v0 t0 t5 fr, f_s_DrawMultiplicityIn_sg2_3 v0 t0 t5 fr, f_s_DrawMultiplicityIn_sg2_9 v0 t0 t5 fr, f_s_DrawMultiplicityIn_sg2_3 v0 t0 t5 fr, f_s_DrawMultiplicityIn_sg2_6 v0 t0 t5 fr, f_s_DrawMultiplicityIn_sg2_10 v0 t0 t5 fr, f_s_DrawMultiplicityIn_sg2_9 v0 t0 t5 fr, f_s_DrawMultiplicityIn_sg2_10 v0 t0 t5 fr, f_s_DrawMultiplicityIn_sg2_7 v0 t0 t5 fr, f_s_DrawMultiplicityIn_sg2_11 v0 t0 t5 fr, f_s_DrawMultiplicityIn_sg2_11 v0 t0 t5 fr, f_s_DrawMultiplicityIn_sg2_7 v0 t0 t5 fr, f_s_DrawMultiplicityIn_sg2_14 v0 t0 t5 fr, f_s_DrawMultiplicityIn_sg2_11 v0 t0 t5 fr, f_s_DrawMultiplicityIn_sg2_14 v0 t0 t5 fr, f_s_DrawMultiplicityIn_sg2_15 v0 t0 t5 fr, f_s_DrawMultiplicityIn_sg2_15 v0 t0 t5 fr, f_s_DrawMultiplicityIn_sg2_15 v0 t0 t5 fr, f_s_DrawMultiplicityIn_sg2_30 v0 t0 t5 fr, f_s_DrawMultiplicityIn_sg2_31 v0 t0 t5 fr, f_s_DrawMultiplicityIn_sg2_31 v0 t0 t5 fr, f_s_DrawMultiplicityIn_sg2_63 v0 t0 t5 fr, f_s_DrawMultiplicityIn_sg2_127 v0 t0 t5 fr]
theorem f_s_DrawMultiplicityIn_dLg2 (v0 : List Sc) (t0 : List Sc) (t5 : List Sc) : edgeL E0 f_s_DrawMultiplicityIn_M H0 f_s_DrawMultiplicityIn_F (opsAt (bodyOf Try.f112 100002)) f_s_DrawMultiplicityIn_Dg2 (f_s_DrawMultiplicityIn_frg2 v0 t0 t5) = f_s_DrawMultiplicityIn_Eg2 v0 t0 t5 (f_s_DrawMultiplicityIn_frg2 v0 t0 t5) := by kernel_rfl
theorem f_s_DrawMultiplicityIn_dRg2 (v0 : List Sc) (t0 : List Sc) (t5 : List Sc) : edgeR E0 f_s_DrawMultiplicityIn_M H0 f_s_DrawMultiplicityIn_F (opsAt (bodyOf Try.f112 100002)) f_s_DrawMultiplicityIn_Dg2 (f_s_DrawMultiplicityIn_frg2 v0 t0 t5) = f_s_DrawMultiplicityIn_Eg2 v0 t0 t5 (f_s_DrawMultiplicityIn_frg2 v0 t0 t5) := by kernel_rfl
theorem f_s_DrawMultiplicityIn_dg2 (v0 : List Sc) (t0 : List Sc) (t5 : List Sc) : edgeL E0 f_s_DrawMultiplicityIn_M H0 f_s_DrawMultiplicityIn_F (opsAt (bodyOf Try.f112 100002)) f_s_DrawMultiplicityIn_Dg2 (f_s_DrawMultiplicityIn_frg2 v0 t0 t5) = edgeR E0 f_s_DrawMultiplicityIn_M H0 f_s_DrawMultiplicityIn_F (opsAt (bodyOf Try.f112 100002)) f_s_DrawMultiplicityIn_Dg2 (f_s_DrawMultiplicityIn_frg2 v0 t0 t5) := (f_s_DrawMultiplicityIn_dLg2 v0 t0 t5).trans (f_s_DrawMultiplicityIn_dRg2 v0 t0 t5).symm
theorem f_s_DrawMultiplicityIn_eg2 (v0 : List Sc) (t0 : List Sc) (t5 : List Sc) : goL E0 f_s_DrawMultiplicityIn_M H0 f_s_DrawMultiplicityIn_F (opsAt (bodyOf Try.f112 100002)) (Array.replicate (opsAt (bodyOf Try.f112 100002)).size true) (opsAt (bodyOf Try.f112 100002)).toList 0 (f_s_DrawMultiplicityIn_frg2 v0 t0 t5) (fun s => some (X.norm, clear (klOf f_s_DrawMultiplicityIn_F 100002).2.1 s)) = f_s_DrawMultiplicityIn_g2_k v0 t0 t5 (fun e => some (f_s_DrawMultiplicityIn_xg2 v0 t0 t5 e)) := by kernel_rfl
theorem f_s_DrawMultiplicityIn_lg2 (v0 : List Sc) (t0 : List Sc) (t5 : List Sc) (r : Int) (h : f_s_DrawMultiplicityIn_g2 v0 t0 t5 = some r) : LS Try.prog f_s_DrawMultiplicityIn_F (bodyOf Try.f112 100002) (f_s_DrawMultiplicityIn_frg2 v0 t0 t5) (f_s_DrawMultiplicityIn_xg2 v0 t0 t5 r) :=
  region_true (S := Unit) (id := 2) (G := fun _ => f_s_DrawMultiplicityIn_g2 v0 t0 t5) (Gk := fun _ k => f_s_DrawMultiplicityIn_g2_k v0 t0 t5 k) (fr := fun _ => f_s_DrawMultiplicityIn_frg2 v0 t0 t5) (f1 := fun e => f_s_DrawMultiplicityIn_xg2 v0 t0 t5 e) E0ok f_s_DrawMultiplicityIn_Mt f_s_DrawMultiplicityIn_bg2 f_s_DrawMultiplicityIn_cg2 (fun _ => f_s_DrawMultiplicityIn_dg2 v0 t0 t5) (fun _ => rfl) (fun _ => f_s_DrawMultiplicityIn_eg2 v0 t0 t5) (fun _ k => f_s_DrawMultiplicityIn_pg2 v0 t0 t5 k) () r h
def f_s_DrawMultiplicityIn_tg2 (σ : List AV) : Option (Bool × Bool × (X × List AV) × (X × List AV)) := match dec f_s_DrawMultiplicityIn_hg2 σ with
  | some [.l v0, .l t0, .l t5] => some ((f_s_DrawMultiplicityIn_g2 v0 t0 t5).isSome, true, f_s_DrawMultiplicityIn_xg2 v0 t0 t5 ((f_s_DrawMultiplicityIn_g2 v0 t0 t5).getD 0), (.ret, []))
  | _ => none
theorem f_s_DrawMultiplicityIn_ttg2 : TTrue Try.prog f_s_DrawMultiplicityIn_F Try.f112 100002 f_s_DrawMultiplicityIn_tg2 := by
  intro σ p r r' h
  unfold f_s_DrawMultiplicityIn_tg2 at h
  split at h
  · rename_i hd
    rw [← dec_enc hd]
    exact rowR (f_s_DrawMultiplicityIn_lg2 _ _ _) h
  · cases h
theorem f_s_DrawMultiplicityIn_p {R : Type} (code0 : List Sc) (kR : List Sc × Int → Option R) : f_s_DrawMultiplicityIn_k code0 kR = (f_s_DrawMultiplicityIn_k code0 some).bind kR := by
  simp only [f_s_DrawMultiplicityIn_k, boB, someB]
theorem f_s_DrawMultiplicityIn_e (code0 : List Sc) : runFn E0 f_s_DrawMultiplicityIn_M H0 f_s_DrawMultiplicityIn_F (asL (addL 100002 f_s_DrawMultiplicityIn_tg2 (noL))) Try.f112 (f_s_DrawMultiplicityIn_a code0) (f_s_DrawMultiplicityIn_i code0) = f_s_DrawMultiplicityIn_k code0 (fun r => some (f_s_DrawMultiplicityIn_en r)) := by kernel_rfl
theorem f_s_DrawMultiplicityIn_ok (code0 : List Sc) (r : List Sc × Int) (h : f_s_DrawMultiplicityIn code0 = some r) : CS Try.prog 112 (f_s_DrawMultiplicityIn_a code0) (f_s_DrawMultiplicityIn_i code0) (f_s_DrawMultiplicityIn_en r).1 (f_s_DrawMultiplicityIn_en r).2 :=
  fn_true (Gk := fun k => f_s_DrawMultiplicityIn_k code0 k) (en := f_s_DrawMultiplicityIn_en) Try.func112 E0ok f_s_DrawMultiplicityIn_Mt (addL_true f_s_DrawMultiplicityIn_ttg2 (noL_true)) f_s_DrawMultiplicityIn_o (f_s_DrawMultiplicityIn_e code0) (f_s_DrawMultiplicityIn_p code0) h
def f_s_DrawMultiplicityIn_c : CRow := fun args inh => match dec2 [.p .sl] [] args inh with
  | some ([.l code0], []) => some ((f_s_DrawMultiplicityIn code0).isSome, (f_s_DrawMultiplicityIn_en ((f_s_DrawMultiplicityIn code0).getD ([], 0))).1, (f_s_DrawMultiplicityIn_en ((f_s_DrawMultiplicityIn code0).getD ([], 0))).2)
  | _ => none
theorem f_s_DrawMultiplicityIn_cc : CTrue Try.prog 112 f_s_DrawMultiplicityIn_c := by
  intro args inh rs out h
  unfold f_s_DrawMultiplicityIn_c at h
  split at h
  · rename_i hd
    obtain ⟨h1, h2⟩ := dec2_enc hd
    rw [← h1, ← h2]
    exact rowC (f_s_DrawMultiplicityIn_ok _) h
  · cases h

def f_s_DrawFormatSequence_F : Fi := { nv := 4, nc := 2, m := 0, vt := [(2, 0), (4, 1), (8, 2)], kl := [], sk := [], mvs := [2, 3], fz := [] }
def f_s_DrawFormatSequence_a (code0 : List Sc) : List AV := enc [.p .sl] [.l code0]
def f_s_DrawFormatSequence_i (code0 : List Sc) : List AV := enc [] []
def f_s_DrawFormatSequence_en (r : List Sc × List Sc) : List AV × List AV := (enc [.p (.go 0), .p (.al 1)] [], enc [.own 3, .own 3] [.l r.1, .l r.2])
def f_s_DrawFormatSequence_M : Calling := addC 182 f_s_l16Both_c (noC)
theorem f_s_DrawFormatSequence_Mt : CallOk Try.prog (f_s_DrawFormatSequence_M) := addC_true f_s_l16Both_cc (noC_true)
theorem f_s_DrawFormatSequence_o : loopsOnce Try.f113 = true := by kernel_rfl
theorem f_s_DrawFormatSequence_p {R : Type} (code0 : List Sc) (kR : List Sc × List Sc → Option R) : f_s_DrawFormatSequence_k code0 kR = (f_s_DrawFormatSequence_k code0 some).bind kR := by
  simp only [f_s_DrawFormatSequence_k, boB, someB]
theorem f_s_DrawFormatSequence_e (code0 : List Sc) : runFn E0 f_s_DrawFormatSequence_M H0 f_s_DrawFormatSequence_F (asL (noL)) Try.f113 (f_s_DrawFormatSequence_a code0) (f_s_DrawFormatSequence_i code0) = f_s_DrawFormatSequence_k code0 (fun r => some (f_s_DrawFormatSequence_en r)) := by kernel_rfl
theorem f_s_DrawFormatSequence_ok (code0 : List Sc) (r : List Sc × List Sc) (h : f_s_DrawFormatSequence code0 = some r) : CS Try.prog 113 (f_s_DrawFormatSequence_a code0) (f_s_DrawFormatSequence_i code0) (f_s_DrawFormatSequence_en r).1 (f_s_DrawFormatSequence_en r).2 :=
  fn_true (Gk := fun k => f_s_DrawFormatSequence_k code0 k) (en := f_s_DrawFormatSequence_en) Try.func113 E0ok f_s_DrawFormatSequence_Mt (noL_true) f_s_DrawFormatSequence_o (f_s_DrawFormatSequence_e code0) (f_s_DrawFormatSequence_p code0) h
def f_s_DrawFormatSequence_c : CRow := fun args inh => match dec2 [.p .sl] [] args inh with
  | some ([.l code0], []) => some ((f_s_DrawFormatSequence code0).isSome, (f_s_DrawFormatSequence_en ((f_s_DrawFormatSequence code0).getD ([], []))).1, (f_s_DrawFormatSequence_en ((f_s_DrawFormatSequence code0).getD ([], []))).2)
  | _ => none
theorem f_s_DrawFormatSequence_cc : CTrue Try.prog 113 f_s_DrawFormatSequence_c := by
  intro args inh rs out h
  unfold f_s_DrawFormatSequence_c at h
  split at h
  · rename_i hd
    obtain ⟨h1, h2⟩ := dec2_enc hd
    rw [← h1, ← h2]
    exact rowC (f_s_DrawFormatSequence_ok _) h
  · cases h

def f_s_SubsumsOfLength_F : Fi := { nv := 0, nc := 0, m := 0, vt := [], kl := [(2, ([0, 4, 5, 6, 10, 11, 12, 13, 14, 15, 16, 17, 18, 19, 20, 21, 22, 23, 24, 25, 26, 27, 28, 29, 30, 31, 32, 33, 34, 35, 36, 37, 38, 39, 40, 41, 42, 43, 44, 45, 46, 47, 48, 49, 50, 51, 52, 53, 54, 55, 56, 57, 58, 59], [0, 4, 5, 6, 9, 10, 11, 12, 13, 14, 15, 16, 17, 18, 19, 20, 21, 22, 23, 24, 25, 26, 27, 28, 29, 30, 31, 32, 33, 34, 35, 36, 37, 38, 39, 40, 41, 42, 43, 44, 45, 46, 47, 48, 49, 50, 51, 52, 53, 54, 55, 56, 57, 58, 59], [0, 1, 2, 3, 4, 5, 7, 8, 9, 10, 11, 12, 13, 14, 15, 16, 17, 18, 19, 20, 21, 22, 23, 24, 25, 26, 27, 28, 29, 30, 31, 32, 33, 34, 35, 36, 37, 38, 39, 40, 41, 42, 43, 44, 45, 46, 47, 48, 49, 50, 51, 52, 53, 54, 55, 56, 57, 58, 59])), (0, ([0, 4, 5, 6, 9, 10, 11, 12, 13, 14, 15, 16, 17, 18, 19, 20, 21, 22, 23, 24, 25, 26, 27, 28, 29, 30, 31, 32, 33, 34, 35, 36, 37, 38, 39, 40, 41, 42, 43, 44, 45, 46, 47, 48, 49, 50, 51, 52, 53, 54, 55, 56, 57, 58, 59], [0, 4, 5, 6, 9, 10, 11, 12, 13, 14, 15, 16, 17, 18, 19, 20, 21, 22, 23, 24, 25, 26, 27, 28, 29, 30, 31, 32, 33, 34, 35, 36, 37, 38, 39, 40, 41, 42, 43, 44, 45, 46, 47, 48, 49, 50, 51, 52, 53, 54, 55, 56, 57, 58, 59], [0, 1, 2, 3, 4, 5, 7, 8, 9, 10, 11, 12, 13, 14, 15, 16, 17, 18, 19, 20, 21, 22, 23, 24, 25, 26, 27, 28, 29, 30, 31, 32, 33, 34, 35, 36, 37, 38, 39, 40, 41, 42, 43, 44, 45, 46, 47, 48, 49, 50, 51, 52, 53, 54, 55, 56, 57, 58, 59]))], sk := [], mvs := [], fz := [] }
def f_s_SubsumsOfLength_a (g0 : List Sc) (l1 : List Sc) (k2 : Int) : List AV := enc [.p .gr, .p .sl, .p (.int .i64)] [.l g0, .l l1, .i k2]
def f_s_SubsumsOfLength_i (g0 : List Sc) (l1 : List Sc) (k2 : Int) : List AV := enc [] []
def f_s_SubsumsOfLength_en (r : Int) : List AV × List AV := (enc [.p (.int .i64)] [.i r], enc [] [])
def f_s_SubsumsOfLength_M : Calling := addC 101 f_s_IsSequence_c (addC 150 f_s_l1In_c (addC 141 f_s_l3Shift_c (noC)))
theorem f_s_SubsumsOfLength_Mt : CallOk Try.prog (f_s_SubsumsOfLength_M) := addC_true f_s_IsSequence_cc (addC_true f_s_l1In_cc (addC_true f_s_l3Shift_cc (noC_true)))
theorem f_s_SubsumsOfLength_o : loopsOnce Try.f114 = true := by kernel_rfl
def f_s_SubsumsOfLength_h2 : List Sh := [.u, .p .sl, .p (.int .i64), .p .el, .u, .u, .u, .own 3, .p (.int .i64), .p (.int .i64), .u, .u, .u, .u, .u, .u, .u, .u, .u, .u, .u, .u, .u, .u, .u, .u, .u, .u, .u, .u, .u, .u, .u, .u, .u, .u, .u, .u, .u, .u, .u, .u, .u, .u, .u, .u, .u, .u, .u, .u, .u, .u, .u, .u, .u, .u, .u, .u, .u, .u]
def f_s_SubsumsOfLength_fr2 (l1 : List Sc) (k2 : Int) (g3 : List Sc) (i8 : Int) (s : List Sc × Int) : List AV := enc f_s_SubsumsOfLength_h2 [.l l1, .i k2, .l g3, .l s.1, .i i8, .i s.2]
def f_s_SubsumsOfLength_g2_1 : List Sh := [.u, .p .sl, .p (.int .i64), .p .el, .u, .u, .u, .own 3, .p (.int .i64), .u, .u, .u, .u, .u, .u, .u, .u, .u, .u, .u, .u, .u, .u, .u, .u, .u, .u, .u, .u, .u, .u, .u, .u, .u, .u, .u, .u, .u, .u, .u, .u, .u, .u, .u, .u, .u, .u, .u, .u, .u, .u, .u, .u, .u, .u, .u, .u, .u, .u, .u]
def f_s_SubsumsOfLength_x2_1 (l1 : List Sc) (k2 : Int) (g3 : List Sc) (i8 : Int) (e : List Sc) : X × List AV := (.out 2, enc f_s_SubsumsOfLength_g2_1 [.l l1, .i k2, .l g3, .l e, .i i8])
def f_s_SubsumsOfLength_x2_2 (l1 : List Sc) (k2 : Int) (g3 : List Sc) (i8 : Int) (_e : Unit) : X × List AV := (.ret, [])
theorem f_s_SubsumsOfLength_p2 {R : Type} (l1 : List Sc) (k2 : Int) (g3 : List Sc) (i8 : Int) (s : List Sc × Int) (kN : List Sc × Int → Option R) (kA : List Sc → Option R) (kB : Unit → Option R) : f_s_SubsumsOfLength_k2 l1 k2 g3 i8 s.1 s.2 kN kA = (f_s_SubsumsOfLength_r2 l1 k2 g3 i8 s).bind (Ro.el kN kA kB) := by
  simp only [f_s_SubsumsOfLength_k2, f_s_SubsumsOfLength_r2, brB, boB, someB, noneB, Ro.el]
theorem f_s_SubsumsOfLength_e2 (l1 : List Sc) (k2 : Int) (g3 : List Sc) (i8 : Int) (s : List Sc × Int) : EC E0 f_s_SubsumsOfLength_M H0 f_s_SubsumsOfLength_F (asL (noL)) 2 (bodyOf Try.f114 2) (f_s_SubsumsOfLength_fr2 l1 k2 g3 i8 s) (done (klOf f_s_SubsumsOfLength_F 2)) = f_s_SubsumsOfLength_k2 l1 k2 g3 i8 s.1 s.2 (fun s => some (.norm, f_s_SubsumsOfLength_fr2 l1 k2 g3 i8 s)) (fun e => some (f_s_SubsumsOfLength_x2_1 l1 k2 g3 i8 e)) := by kernel_rfl
theorem f_s_SubsumsOfLength_l2 (l1 : List Sc) (k2 : Int) (g3 : List Sc) (i8 : Int) : ∀ s r, loopL (f_s_SubsumsOfLength_r2 l1 k2 g3 i8) s = some r → LS Try.prog f_s_SubsumsOfLength_F (bodyOf Try.f114 2) (f_s_SubsumsOfLength_fr2 l1 k2 g3 i8 s) (enX (f_s_SubsumsOfLength_x2_1 l1 k2 g3 i8) (f_s_SubsumsOfLength_x2_2 l1 k2 g3 i8) r) :=
  loop_true E0ok f_s_SubsumsOfLength_Mt (noL_true) f_s_SubsumsOfLength_o (fun _ h => by cases h) (fun _ h => by cases h) (fun s => (f_s_SubsumsOfLength_e2 l1 k2 g3 i8 s).trans (f_s_SubsumsOfLength_p2 l1 k2 g3 i8 s _ _ (fun e => some (f_s_SubsumsOfLength_x2_2 l1 k2 g3 i8 e))))
def f_s_SubsumsOfLength_t2 (σ : List AV) : Option (Bool × Bool × (X × List AV) × (X × List AV)) := match dec f_s_SubsumsOfLength_h2 σ with
  | some [.l l1, .i k2, .l g3, .l t7, .i i8, .i n9] => some (isOne (loopL (f_s_SubsumsOfLength_r2 l1 k2 g3 i8) (t7, n9)), true, f_s_SubsumsOfLength_x2_1 l1 k2 g3 i8 (getOne [] (loopL (f_s_SubsumsOfLength_r2 l1 k2 g3 i8) (t7, n9))), (.ret, []))
  | _ => none
theorem f_s_SubsumsOfLength_tt2 : TTrue Try.prog f_s_SubsumsOfLength_F Try.f114 2 (f_s_SubsumsOfLength_t2) := by
  intro σ p r r' h
  unfold f_s_SubsumsOfLength_t2 at h
  split at h
  · rename_i hd
    rw [← dec_enc hd]
    exact row1 (f_s_SubsumsOfLength_l2 _ _ _ _ _) h
  · cases h
def f_s_SubsumsOfLength_h0 : List Sh := [.u, .p .sl, .p (.int .i64), .p .el, .u, .u, .u, .own 3, .p (.int .i64), .u, .u, .u, .u, .u, .u, .u, .u, .u, .u, .u, .u, .u, .u, .u, .u, .u, .u, .u, .u, .u, .u, .u, .u, .u, .u, .u, .u, .u, .u, .u, .u, .u, .u, .u, .u, .u, .u, .u, .u, .u, .u, .u, .u, .u, .u, .u, .u, .u, .u, .u]
def f_s_SubsumsOfLength_fr0 (l1 : List Sc) (k2 : Int) (g3 : List Sc) (s : List Sc × Int) : List AV := enc f_s_SubsumsOfLength_h0 [.l l1, .i k2, .l g3, .l s.1, .i s.2]
def f_s_SubsumsOfLength_g0_1 : List Sh := [.u, .p .sl, .p (.int .i64), .p .el, .u, .u, .u, .own 3, .p (.int .i64), .u, .u, .u, .u, .u, .u, .u, .u, .u, .u, .u, .u, .u, .u, .u, .u, .u, .u, .u, .u, .u, .u, .u, .u, .u, .u, .u, .u, .u, .u, .u, .u, .u, .u, .u, .u, .u, .u, .u, .u, .u, .u, .u, .u, .u, .u, .u, .u, .u, .u, .u]
def f_s_SubsumsOfLength_x0_1 (l1 : List Sc) (k2 : Int) (g3 : List Sc) (e : List Sc × Int) : X × List AV := (.out 0, enc f_s_SubsumsOfLength_g0_1 [.l l1, .i k2, .l g3, .l e.1, .i e.2])
def f_s_SubsumsOfLength_x0_2 (l1 : List Sc) (k2 : Int) (g3 : List Sc) (_e : Unit) : X × List AV := (.ret, [])
theorem f_s_SubsumsOfLength_p0 {R : Type} (l1 : List Sc) (k2 : Int) (g3 : List Sc) (s : List Sc × Int) (kN : List Sc × Int → Option R) (kA : List Sc × Int → Option R) (kB : Unit → Option R) : f_s_SubsumsOfLength_k0 l1 k2 g3 s.1 s.2 kN kA = (f_s_SubsumsOfLength_r0 l1 k2 g3 s).bind (Ro.el kN kA kB) := by
  simp only [f_s_SubsumsOfLength_k0, f_s_SubsumsOfLength_r0, brB, bl1B, someB, Ro.el]
theorem f_s_SubsumsOfLength_e0 (l1 : List Sc) (k2 : Int) (g3 : List Sc) (s : List Sc × Int) : EC E0 f_s_SubsumsOfLength_M H0 f_s_SubsumsOfLength_F (asL (addL 2 (f_s_SubsumsOfLength_t2) (noL))) 0 (bodyOf Try.f114 0) (f_s_SubsumsOfLength_fr0 l1 k2 g3 s) (done (klOf f_s_SubsumsOfLength_F 0)) = f_s_SubsumsOfLength_k0 l1 k2 g3 s.1 s.2 (fun s => some (.norm, f_s_SubsumsOfLength_fr0 l1 k2 g3 s)) (fun e => some (f_s_SubsumsOfLength_x0_1 l1 k2 g3 e)) := by kernel_rfl
theorem f_s_SubsumsOfLength_l0 (l1 : List Sc) (k2 : Int) (g3 : List Sc) : ∀ s r, loopL (f_s_SubsumsOfLength_r0 l1 k2 g3) s = some r → LS Try.prog f_s_SubsumsOfLength_F (bodyOf Try.f114 0) (f_s_SubsumsOfLength_fr0 l1 k2 g3 s) (enX (f_s_SubsumsOfLength_x0_1 l1 k2 g3) (f_s_SubsumsOfLength_x0_2 l1 k2 g3) r) :=
  loop_true E0ok f_s_SubsumsOfLength_Mt (addL_true (f_s_SubsumsOfLength_tt2) (noL_true)) f_s_SubsumsOfLength_o (fun _ h => by cases h) (fun _ h => by cases h) (fun s => (f_s_SubsumsOfLength_e0 l1 k2 g3 s).trans (f_s_SubsumsOfLength_p0 l1 k2 g3 s _ _ (fun e => some (f_s_SubsumsOfLength_x0_2 l1 k2 g3 e))))
def f_s_SubsumsOfLength_t0 (σ : List AV) : Option (Bool × Bool × (X × List AV) × (X × List AV)) := match dec f_s_SubsumsOfLength_h0 σ with
  | some [.l l1, .i k2, .l g3, .l t7, .i i8] => some (isOne (loopL (f_s_SubsumsOfLength_r0 l1 k2 g3) (t7, i8)), true, f_s_SubsumsOfLength_x0_1 l1 k2 g3 (getOne ([], 0) (loopL (f_s_SubsumsOfLength_r0 l1 k2 g3) (t7, i8))), (.ret, []))
  | _ => none
theorem f_s_SubsumsOfLength_tt0 : TTrue Try.prog f_s_SubsumsOfLength_F Try.f114 0 (f_s_SubsumsOfLength_t0) := by
  intro σ p r r' h
  unfold f_s_SubsumsOfLength_t0 at h
  split at h
  · rename_i hd
    rw [← dec_enc hd]
    exact row1 (f_s_SubsumsOfLength_l0 _ _ _ _) h
  · cases h
theorem f_s_SubsumsOfLength_p {R : Type} (g0 : List Sc) (l1 : List Sc) (k2 : Int) (kR : Int → Option R) : f_s_SubsumsOfLength_k g0 l1 k2 kR = (f_s_SubsumsOfLength_k g0 l1 k2 some).bind kR := by
  simp only [f_s_SubsumsOfLength_k, brB, boB, bl1B, someB, noneB]
theorem f_s_SubsumsOfLength_e (g0 : List Sc) (l1 : List Sc) (k2 : Int) : runFn E0 f_s_SubsumsOfLength_M H0 f_s_SubsumsOfLength_F (asL (addL 0 (f_s_SubsumsOfLength_t0) (addL 2 (f_s_SubsumsOfLength_t2) (noL)))) Try.f114 (f_s_SubsumsOfLength_a g0 l1 k2) (f_s_SubsumsOfLength_i g0 l1 k2) = f_s_SubsumsOfLength_k g0 l1 k2 (fun r => some (f_s_SubsumsOfLength_en r)) := by kernel_rfl
theorem f_s_SubsumsOfLength_ok (g0 : List Sc) (l1 : List Sc) (k2 : Int) (r : Int) (h : f_s_SubsumsOfLength g0 l1 k2 = some r) : CS Try.prog 114 (f_s_SubsumsOfLength_a g0 l1 k2) (f_s_SubsumsOfLength_i g0 l1 k2) (f_s_SubsumsOfLength_en r).1 (f_s_SubsumsOfLength_en r).2 :=
  fn_true (Gk := fun k => f_s_SubsumsOfLength_k g0 l1 k2 k) (en := f_s_SubsumsOfLength_en) Try.func114 E0ok f_s_SubsumsOfLength_Mt (addL_true (f_s_SubsumsOfLength_tt0) (addL_true (f_s_SubsumsOfLength_tt2) (noL_true))) f_s_SubsumsOfLength_o (f_s_SubsumsOfLength_e g0 l1 k2) (f_s_SubsumsOfLength_p g0 l1 k2) h
def f_s_SubsumsOfLength_c : CRow := fun args inh => match dec2 [.p .gr, .p .sl, .p (.int .i64)] [] args inh with
  | some ([.l g0, .l l1, .i k2], []) => some ((f_s_SubsumsOfLength g0 l1 k2).isSome, (f_s_SubsumsOfLength_en ((f_s_SubsumsOfLength g0 l1 k2).getD 0)).1, (f_s_SubsumsOfLength_en ((f_s_SubsumsOfLength g0 l1 k2).getD 0)).2)
  | _ => none
theorem f_s_SubsumsOfLength_cc : CTrue Try.prog 114 f_s_SubsumsOfLength_c := by
  intro args inh rs out h
  unfold f_s_SubsumsOfLength_c at h
  split at h
  · rename_i hd
    obtain ⟨h1, h2⟩ := dec2_enc hd
    rw [← h1, ← h2]
    exact rowC (f_s_SubsumsOfLength_ok _ _ _) h
  · cases h

def f_i_MultiplicityIn_F : Fi := { nv := 0, nc := 0, m := 0, vt := [], kl := [(0, ([0, 2, 3, 4, 6, 7, 11, 12, 13, 14, 15, 16, 17, 18, 19, 20], [0, 1, 2, 3, 4, 6, 7, 8, 9, 10, 11, 12, 13, 14, 15, 16, 17, 18, 19, 20], [0, 1, 2, 3, 5, 6, 7, 8, 9, 10, 11, 12, 13, 14, 15, 16, 17, 18, 19, 20]))], sk := [], mvs := [], fz := [] }
def f_i_MultiplicityIn_a (l0 : List Sc) (x1 : Int) : List AV := enc [.p .sl, .p (.int .i64)] [.l l0, .i x1]
def f_i_MultiplicityIn_i (l0 : List Sc) (x1 : Int) : List AV := enc [] []
def f_i_MultiplicityIn_en (r : Int) : List AV × List AV := (enc [.p (.int .i64)] [.i r], enc [] [])
def f_i_MultiplicityIn_M : Calling := noC
theorem f_i_MultiplicityIn_Mt : CallOk Try.prog (f_i_MultiplicityIn_M) := noC_true
theorem f_i_MultiplicityIn_o : loopsOnce Try.f115 = true := by kernel_rfl
def f_i_MultiplicityIn_h0 : List Sh := [.u, .p (.int .i64), .u, .u, .u, .p (.int .i64), .u, .u, .p .sl, .p (.int .i64), .p (.int .i64), .u, .u, .u, .u, .u, .u, .u, .u, .u, .u]
def f_i_MultiplicityIn_fr0 (x1 : Int) (t8 : List Sc) (t9 : Int) (s : Int × Int) : List AV := enc f_i_MultiplicityIn_h0 [.i x1, .i s.1, .l t8, .i t9, .i s.2]
def f_i_MultiplicityIn_g0_1 : List Sh := [.u, .u, .u, .u, .u, .p (.int .i64), .u, .u, .u, .u, .u, .u, .u, .u, .u, .u, .u, .u, .u, .u, .u]
def f_i_MultiplicityIn_x0_1 (x1 : Int) (t8 : List Sc) (t9 : Int) (e : Int) : X × List AV := (.out 0, enc f_i_MultiplicityIn_g0_1 [.i e])
def f_i_MultiplicityIn_x0_2 (x1 : Int) (t8 : List Sc) (t9 : Int) (_e : Unit) : X × List AV := (.ret, [])
theorem f_i_MultiplicityIn_p0 {R : Type} (x1 : Int) (t8 : List Sc) (t9 : Int) (s : Int × Int) (kN : Int × Int → Option R) (kA : Int → Option R) (kB : Unit → Option R) : f_i_MultiplicityIn_k0 x1 t8 t9 s.1 s.2 kN kA = (f_i_MultiplicityIn_r0 x1 t8 t9 s).bind (Ro.el kN kA kB) := by
  simp only [f_i_MultiplicityIn_k0, f_i_MultiplicityIn_r0, brB, someB, noneB, Ro.el]
theorem f_i_MultiplicityIn_e0 (x1 : Int) (t8 : List Sc) (t9 : Int) (s : Int × Int) : EC E0 f_i_MultiplicityIn_M H0 f_i_MultiplicityIn_F (asL (noL)) 0 (bodyOf Try.f115 0) (f_i_MultiplicityIn_fr0 x1 t8 t9 s) (done (klOf f_i_MultiplicityIn_F 0)) = f_i_MultiplicityIn_k0 x1 t8 t9 s.1 s.2 (fun s => some (.norm, f_i_MultiplicityIn_fr0 x1 t8 t9 s)) (fun e => some (f_i_MultiplicityIn_x0_1 x1 t8 t9 e)) := by kernel_rfl
theorem f_i_MultiplicityIn_l0 (x1 : Int) (t8 : List Sc) (t9 : Int) : ∀ s r, loopL (f_i_MultiplicityIn_r0 x1 t8 t9) s = some r → LS Try.prog f_i_MultiplicityIn_F (bodyOf Try.f115 0) (f_i_MultiplicityIn_fr0 x1 t8 t9 s) (enX (f_i_MultiplicityIn_x0_1 x1 t8 t9) (f_i_MultiplicityIn_x0_2 x1 t8 t9) r) :=
  loop_true E0ok f_i_MultiplicityIn_Mt (noL_true) f_i_MultiplicityIn_o (fun _ h => by cases h) (fun _ h => by cases h) (fun s => (f_i_MultiplicityIn_e0 x1 t8 t9 s).trans (f_i_MultiplicityIn_p0 x1 t8 t9 s _ _ (fun e => some (f_i_MultiplicityIn_x0_2 x1 t8 t9 e))))
def f_i_MultiplicityIn_t0 (σ : List AV) : Option (Bool × Bool × (X × List AV) × (X × List AV)) := match dec f_i_MultiplicityIn_h0 σ with
  | some [.i x1, .i n5, .l t8, .i t9, .i t10] => some (isOne (loopL (f_i_MultiplicityIn_r0 x1 t8 t9) (n5, t10)), true, f_i_MultiplicityIn_x0_1 x1 t8 t9 (getOne 0 (loopL (f_i_MultiplicityIn_r0 x1 t8 t9) (n5, t10))), (.ret, []))
  | _ => none
theorem f_i_MultiplicityIn_tt0 : TTrue Try.prog f_i_MultiplicityIn_F Try.f115 0 (f_i_MultiplicityIn_t0) := by
  intro σ p r r' h
  unfold f_i_MultiplicityIn_t0 at h
  split at h
  · rename_i hd
    rw [← dec_enc hd]
    exact row1 (f_i_MultiplicityIn_l0 _ _ _ _) h
  · cases h
theorem f_i_MultiplicityIn_p {R : Type} (l0 : List Sc) (x1 : Int) (kR : Int → Option R) : f_i_MultiplicityIn_k l0 x1 kR = (f_i_MultiplicityIn_k l0 x1 some).bind kR := by
  simp only [f_i_MultiplicityIn_k, bl1B, someB]
theorem f_i_MultiplicityIn_e (l0 : List Sc) (x1 : Int) : runFn E0 f_i_MultiplicityIn_M H0 f_i_MultiplicityIn_F (asL (addL 0 (f_i_MultiplicityIn_t0) (noL))) Try.f115 (f_i_MultiplicityIn_a l0 x1) (f_i_MultiplicityIn_i l0 x1) = f_i_MultiplicityIn_k l0 x1 (fun r => some (f_i_MultiplicityIn_en r)) := by kernel_rfl
theorem f_i_MultiplicityIn_ok (l0 : List Sc) (x1 : Int) (r : Int) (h : f_i_MultiplicityIn l0 x1 = some r) : CS Try.prog 115 (f_i_MultiplicityIn_a l0 x1) (f_i_MultiplicityIn_i l0 x1) (f_i_MultiplicityIn_en r).1 (f_i_MultiplicityIn_en r).2 :=
  fn_true (Gk := fun k => f_i_MultiplicityIn_k l0 x1 k) (en := f_i_MultiplicityIn_en) Try.func115 E0ok f_i_MultiplicityIn_Mt (addL_true (f_i_MultiplicityIn_tt0) (noL_true)) f_i_MultiplicityIn_o (f_i_MultiplicityIn_e l0 x1) (f_i_MultiplicityIn_p l0 x1) h
def f_i_MultiplicityIn_c : CRow := fun args inh => match dec2 [.p .sl, .p (.int .i64)] [] args inh with
  | some ([.l l0, .i x1], []) => some ((f_i_MultiplicityIn l0 x1).isSome, (f_i_MultiplicityIn_en ((f_i_MultiplicityIn l0 x1).getD 0)).1, (f_i_MultiplicityIn_en ((f_i_MultiplicityIn l0 x1).getD 0)).2)
  | _ => none
theorem f_i_MultiplicityIn_cc : CTrue Try.prog 115 f_i_MultiplicityIn_c := by
  intro args inh rs out h
  unfold f_i_MultiplicityIn_c at h
  split at h
  · rename_i hd
    obtain ⟨h1, h2⟩ := dec2_enc hd
    rw [← h1, ← h2]
    exact rowC (f_i_MultiplicityIn_ok _ _) h
  · cases h

def f_s_MultiplicityIn_F : Fi := { nv := 0, nc := 0, m := 0, vt := [], kl := [(0, ([2, 3, 4, 7, 8, 9, 10, 11, 12, 13, 14, 15, 16, 17, 18, 19, 20, 21], [0, 1, 2, 3, 4, 6, 7, 8, 9, 10, 11, 12, 13, 14, 15, 16, 17, 18, 19, 20, 21], [0, 1, 2, 3, 5, 6, 7, 8, 9, 10, 11, 12, 13, 14, 15, 16, 17, 18, 19, 20, 21]))], sk := [], mvs := [], fz := [] }
def f_s_MultiplicityIn_a (l0 : List Sc) (x1 : Int) : List AV := enc [.p .sl, .p (.int .i64)] [.l l0, .i x1]
def f_s_MultiplicityIn_i (l0 : List Sc) (x1 : Int) : List AV := enc [] []
def f_s_MultiplicityIn_en (r : Int) : List AV × List AV := (enc [.p (.int .i64)] [.i r], enc [] [])
def f_s_MultiplicityIn_M : Calling := noC
theorem f_s_MultiplicityIn_Mt : CallOk Try.prog (f_s_MultiplicityIn_M) := noC_true
theorem f_s_MultiplicityIn_o : loopsOnce Try.f116 = true := by kernel_rfl
def f_s_MultiplicityIn_h0 : List Sh := [.p .sl, .p (.int .i64), .u, .u, .u, .p (.int .i64), .p (.int .i64), .u, .u, .u, .u, .u, .u, .u, .u, .u, .u, .u, .u, .u, .u, .u]
def f_s_MultiplicityIn_fr0 (l0 : List Sc) (x1 : Int) (s : Int × Int) : List AV := enc f_s_MultiplicityIn_h0 [.l l0, .i x1, .i s.1, .i s.2]
def f_s_MultiplicityIn_g0_1 : List Sh := [.u, .u, .u, .u, .u, .p (.int .i64), .u, .u, .u, .u, .u, .u, .u, .u, .u, .u, .u, .u, .u, .u, .u, .u]
def f_s_MultiplicityIn_x0_1 (l0 : List Sc) (x1 : Int) (e : Int) : X × List AV := (.out 0, enc f_s_MultiplicityIn_g0_1 [.i e])
def f_s_MultiplicityIn_x0_2 (l0 : List Sc) (x1 : Int) (_e : Unit) : X × List AV := (.ret, [])
theorem f_s_MultiplicityIn_p0 {R : Type} (l0 : List Sc) (x1 : Int) (s : Int × Int) (kN : Int × Int → Option R) (kA : Int → Option R) (kB : Unit → Option R) : f_s_MultiplicityIn_k0 l0 x1 s.1 s.2 kN kA = (f_s_MultiplicityIn_r0 l0 x1 s).bind (Ro.el kN kA kB) := by
  simp only [f_s_MultiplicityIn_k0, f_s_MultiplicityIn_r0, brB, someB, noneB, Ro.el]
theorem f_s_MultiplicityIn_e0 (l0 : List Sc) (x1 : Int) (s : Int × Int) : EC E0 f_s_MultiplicityIn_M H0 f_s_MultiplicityIn_F (asL (noL)) 0 (bodyOf Try.f116 0) (f_s_MultiplicityIn_fr0 l0 x1 s) (done (klOf f_s_MultiplicityIn_F 0)) = f_s_MultiplicityIn_k0 l0 x1 s.1 s.2 (fun s => some (.norm, f_s_MultiplicityIn_fr0 l0 x1 s)) (fun e => some (f_s_MultiplicityIn_x0_1 l0 x1 e)) := by kernel_rfl
theorem f_s_MultiplicityIn_l0 (l0 : List Sc) (x1 : Int) : ∀ s r, loopL (f_s_MultiplicityIn_r0 l0 x1) s = some r → LS Try.prog f_s_MultiplicityIn_F (bodyOf Try.f116 0) (f_s_MultiplicityIn_fr0 l0 x1 s) (enX (f_s_MultiplicityIn_x0_1 l0 x1) (f_s_MultiplicityIn_x0_2 l0 x1) r) :=
  loop_true E0ok f_s_MultiplicityIn_Mt (noL_true) f_s_MultiplicityIn_o (fun _ h => by cases h) (fun _ h => by cases h) (fun s => (f_s_MultiplicityIn_e0 l0 x1 s).trans (f_s_MultiplicityIn_p0 l0 x1 s _ _ (fun e => some (f_s_MultiplicityIn_x0_2 l0 x1 e))))
def f_s_MultiplicityIn_t0 (σ : List AV) : Option (Bool × Bool × (X × List AV) × (X × List AV)) := match dec f_s_MultiplicityIn_h0 σ with
  | some [.l l0, .i x1, .i n5, .i i6] => some (isOne (loopL (f_s_MultiplicityIn_r0 l0 x1) (n5, i6)), true, f_s_MultiplicityIn_x0_1 l0 x1 (getOne 0 (loopL (f_s_MultiplicityIn_r0 l0 x1) (n5, i6))), (.ret, []))
  | _ => none
theorem f_s_MultiplicityIn_tt0 : TTrue Try.prog f_s_MultiplicityIn_F Try.f116 0 (f_s_MultiplicityIn_t0) := by
  intro σ p r r' h
  unfold f_s_MultiplicityIn_t0 at h
  split at h
  · rename_i hd
    rw [← dec_enc hd]
    exact row1 (f_s_MultiplicityIn_l0 _ _ _) h
  · cases h
theorem f_s_MultiplicityIn_p {R : Type} (l0 : List Sc) (x1 : Int) (kR : Int → Option R) : f_s_MultiplicityIn_k l0 x1 kR = (f_s_MultiplicityIn_k l0 x1 some).bind kR := by
  simp only [f_s_MultiplicityIn_k, bl1B, someB]
theorem f_s_MultiplicityIn_e (l0 : List Sc) (x1 : Int) : runFn E0 f_s_MultiplicityIn_M H0 f_s_MultiplicityIn_F (asL (addL 0 (f_s_MultiplicityIn_t0) (noL))) Try.f116 (f_s_MultiplicityIn_a l0 x1) (f_s_MultiplicityIn_i l0 x1) = f_s_MultiplicityIn_k l0 x1 (fun r => some (f_s_MultiplicityIn_en r)) := by kernel_rfl
theorem f_s_MultiplicityIn_ok (l0 : List Sc) (x1 : Int) (r : Int) (h : f_s_MultiplicityIn l0 x1 = some r) : CS Try.prog 116 (f_s_MultiplicityIn_a l0 x1) (f_s_MultiplicityIn_i l0 x1) (f_s_MultiplicityIn_en r).1 (f_s_MultiplicityIn_en r).2 :=
  fn_true (Gk := fun k => f_s_MultiplicityIn_k l0 x1 k) (en := f_s_MultiplicityIn_en) Try.func116 E0ok f_s_MultiplicityIn_Mt (addL_true (f_s_MultiplicityIn_tt0) (noL_true)) f_s_MultiplicityIn_o (f_s_MultiplicityIn_e l0 x1) (f_s_MultiplicityIn_p l0 x1) h
def f_s_MultiplicityIn_c : CRow := fun args inh => match dec2 [.p .sl, .p (.int .i64)] [] args inh with
  | some ([.l l0, .i x1], []) => some ((f_s_MultiplicityIn l0 x1).isSome, (f_s_MultiplicityIn_en ((f_s_MultiplicityIn l0 x1).getD 0)).1, (f_s_MultiplicityIn_en ((f_s_MultiplicityIn l0 x1).getD 0)).2)
  | _ => none
theorem f_s_MultiplicityIn_cc : CTrue Try.prog 116 f_s_MultiplicityIn_c := by
  intro args inh rs out h
  unfold f_s_MultiplicityIn_c at h
  split at h
  · rename_i hd
    obtain ⟨h1, h2⟩ := dec2_enc hd
    rw [← h1, ← h2]
    exact rowC (f_s_MultiplicityIn_ok _ _) h
  · cases h

def f_i_FormatInt_F : Fi := { nv := 0, nc := 0, m := 0, vt := [], kl := [(2, ([0, 1, 2, 4, 5, 8, 9, 10, 11, 12, 13, 14, 15, 16, 17, 18, 19, 20, 21, 22, 23, 24, 25, 26, 27, 28, 29, 30, 31, 32, 33, 34, 35, 36, 37, 38, 39, 40, 41, 42, 43, 44, 45, 46, 47, 48, 49, 50, 51, 52, 53, 54, 55, 56, 57, 58], [0, 1, 2, 4, 5, 6, 7, 8, 9, 10, 11, 12, 13, 14, 15, 16, 17, 18, 19, 20, 21, 22, 23, 24, 25, 26, 27, 28, 29, 30, 31, 32, 33, 34, 35, 36, 37, 38, 39, 40, 41, 42, 43, 44, 45, 46, 47, 48, 49, 50, 51, 52, 53, 54, 55, 56, 57, 58], [0, 1, 3, 4, 5, 6, 7, 8, 9, 10, 11, 12, 13, 14, 15, 16, 17, 18, 19, 20, 21, 22, 23, 24, 25, 26, 27, 28, 29, 30, 31, 32, 33, 34, 35, 36, 37, 38, 39, 40, 41, 42, 43, 44, 45, 46, 47, 48, 49, 50, 51, 52, 53, 54, 55, 56, 57, 58])), (0, ([1, 2, 5, 6, 7, 8, 9, 10, 11, 12, 13, 14, 15, 16, 17, 18, 19, 20, 21, 22, 23, 24, 25, 26, 27, 28, 29, 30, 31, 32, 33, 34, 35, 36, 37, 38, 39, 40, 41, 42, 43, 44, 45, 46, 47, 48, 49, 50, 51, 52, 53, 54, 55, 56, 57, 58], [1, 2, 4, 5, 6, 7, 8, 9, 10, 11, 12, 13, 14, 15, 16, 17, 18, 19, 20, 21, 22, 23, 24, 25, 26, 27, 28, 29, 30, 31, 32, 33, 34, 35, 36, 37, 38, 39, 40, 41, 42, 43, 44, 45, 46, 47, 48, 49, 50, 51, 52, 53, 54, 55, 56, 57, 58], [0, 1, 3, 4, 5, 6, 7, 8, 9, 10, 11, 12, 13, 14, 15, 16, 17, 18, 19, 20, 21, 22, 23, 24, 25, 26, 27, 28, 29, 30, 31, 32, 33, 34, 35, 36, 37, 38, 39, 40, 41, 42, 43, 44, 45, 46, 47, 48, 49, 50, 51, 52, 53, 54, 55, 56, 57, 58]))], sk := [], mvs := [], fz := [] }
def f_i_FormatInt_a (n0 : Int) : List AV := enc [.p (.int .i64)] [.i n0]
def f_i_FormatInt_i (n0 : Int) : List AV := enc [] []
def f_i_FormatInt_en (r : ByteArray) : List AV × List AV := (enc [.p .str] [.s r], enc [] [])
def f_i_FormatInt_M : Calling := noC
theorem f_i_FormatInt_Mt : CallOk Try.prog (f_i_FormatInt_M) := noC_true
theorem f_i_FormatInt_o : loopsOnce Try.f201 = true := by kernel_rfl
def f_i_FormatInt_h0 : List Sh := [.p (.int .i64), .u, .u, .own 5, .p (.int .i64), .u, .u, .u, .u, .u, .u, .u, .u, .u, .u, .u, .u, .u, .u, .u, .u, .u, .u, .u, .u, .u, .u, .u, .u, .u, .u, .u, .u, .u, .u, .u, .u, .u, .u, .u, .u, .u, .u, .u, .u, .u, .u, .u, .u, .u, .u, .u, .u, .u, .u, .u, .u, .u, .u]
def f_i_FormatInt_fr0 (n0 : Int) (s : List Sc × Int) : List AV := enc f_i_FormatInt_h0 [.i n0, .l s.1, .i s.2]
def f_i_FormatInt_g0_1 : List Sh := [.p (.int .i64), .u, .u, .own 5, .u, .u, .u, .u, .u, .u, .u, .u, .u, .u, .u, .u, .u, .u, .u, .u, .u, .u, .u, .u, .u, .u, .u, .u, .u, .u, .u, .u, .u, .u, .u, .u, .u, .u, .u, .u, .u, .u, .u, .u, .u, .u, .u, .u, .u, .u, .u, .u, .u, .u, .u, .u, .u, .u, .u]
def f_i_FormatInt_x0_1 (n0 : Int) (e : List Sc) : X × List AV := (.out 0, enc f_i_FormatInt_g0_1 [.i n0, .l e])
def f_i_FormatInt_x0_2 (n0 : Int) (_e : Unit) : X × List AV := (.ret, [])
theorem f_i_FormatInt_p0 {R : Type} (n0 : Int) (s : List Sc × Int) (kN : List Sc × Int → Option R) (kA : List Sc → Option R) (kB : Unit → Option R) : f_i_FormatInt_k0 n0 s.1 s.2 kN kA = (f_i_FormatInt_r0 n0 s).bind (Ro.el kN kA kB) := by
  simp only [f_i_FormatInt_k0, f_i_FormatInt_r0, brB, someB, noneB, Ro.el]
theorem f_i_FormatInt_e0 (n0 : Int) (s : List Sc × Int) : EC E0 f_i_FormatInt_M H0 f_i_FormatInt_F (asL (noL)) 0 (bodyOf Try.f201 0) (f_i_FormatInt_fr0 n0 s) (done (klOf f_i_FormatInt_F 0)) = f_i_FormatInt_k0 n0 s.1 s.2 (fun s => some (.norm, f_i_FormatInt_fr0 n0 s)) (fun e => some (f_i_FormatInt_x0_1 n0 e)) := by kernel_rfl
theorem f_i_FormatInt_l0 (n0 : Int) : ∀ s r, loopL (f_i_FormatInt_r0 n0) s = some r → LS Try.prog f_i_FormatInt_F (bodyOf Try.f201 0) (f_i_FormatInt_fr0 n0 s) (enX (f_i_FormatInt_x0_1 n0) (f_i_FormatInt_x0_2 n0) r) :=
  loop_true E0ok f_i_FormatInt_Mt (noL_true) f_i_FormatInt_o (fun _ h => by cases h) (fun _ h => by cases h) (fun s => (f_i_FormatInt_e0 n0 s).trans (f_i_FormatInt_p0 n0 s _ _ (fun e => some (f_i_FormatInt_x0_2 n0 e))))
def f_i_FormatInt_t0 (σ : List AV) : Option (Bool × Bool × (X × List AV) × (X × List AV)) := match dec f_i_FormatInt_h0 σ with
  | some [.i n0, .l out3, .i m4] => some (isOne (loopL (f_i_FormatInt_r0 n0) (out3, m4)), true, f_i_FormatInt_x0_1 n0 (getOne [] (loopL (f_i_FormatInt_r0 n0) (out3, m4))), (.ret, []))
  | _ => none
theorem f_i_FormatInt_tt0 : TTrue Try.prog f_i_FormatInt_F Try.f201 0 (f_i_FormatInt_t0) := by
  intro σ p r r' h
  unfold f_i_FormatInt_t0 at h
  split at h
  · rename_i hd
    rw [← dec_enc hd]
    exact row1 (f_i_FormatInt_l0 _ _) h
  · cases h
def f_i_FormatInt_h2 : List Sh := [.u, .u, .u, .own 5, .u, .u, .p (.int .i64), .p (.int .i64), .u, .u, .u, .u, .u, .u, .u, .u, .u, .u, .u, .u, .u, .u, .u, .u, .u, .u, .u, .u, .u, .u, .u, .u, .u, .u, .u, .u, .u, .u, .u, .u, .u, .u, .u, .u, .u, .u, .u, .u, .u, .u, .u, .u, .u, .u, .u, .u, .u, .u, .u]
def f_i_FormatInt_fr2 (s : List Sc × Int × Int) : List AV := enc f_i_FormatInt_h2 [.l s.1, .i s.2.1, .i s.2.2]
def f_i_FormatInt_g2_1 : List Sh := [.u, .u, .u, .own 5, .u, .u, .u, .u, .u, .u, .u, .u, .u, .u, .u, .u, .u, .u, .u, .u, .u, .u, .u, .u, .u, .u, .u, .u, .u, .u, .u, .u, .u, .u, .u, .u, .u, .u, .u, .u, .u, .u, .u, .u, .u, .u, .u, .u, .u, .u, .u, .u, .u, .u, .u, .u, .u, .u, .u]
def f_i_FormatInt_x2_1 (e : List Sc) : X × List AV := (.out 2, enc f_i_FormatInt_g2_1 [.l e])
def f_i_FormatInt_x2_2 (_e : Unit) : X × List AV := (.ret, [])
theorem f_i_FormatInt_p2 {R : Type} (s : List Sc × Int × Int) (kN : List Sc × Int × Int → Option R) (kA : List Sc → Option R) (kB : Unit → Option R) : f_i_FormatInt_k2 s.1 s.2.1 s.2.2 kN kA = (f_i_FormatInt_r2 s).bind (Ro.el kN kA kB) := by
  simp only [f_i_FormatInt_k2, f_i_FormatInt_r2, brB, someB, noneB, Ro.el]
theorem f_i_FormatInt_e2 (s : List Sc × Int × Int) : EC E0 f_i_FormatInt_M H0 f_i_FormatInt_F (asL (addL 0 (f_i_FormatInt_t0) (noL))) 2 (bodyOf Try.f201 2) (f_i_FormatInt_fr2 s) (done (klOf f_i_FormatInt_F 2)) = f_i_FormatInt_k2 s.1 s.2.1 s.2.2 (fun s => some (.norm, f_i_FormatInt_fr2 s)) (fun e => some (f_i_FormatInt_x2_1 e)) := by kernel_rfl
theorem f_i_FormatInt_l2 : ∀ s r, loopL (f_i_FormatInt_r2) s = some r → LS Try.prog f_i_FormatInt_F (bodyOf Try.f201 2) (f_i_FormatInt_fr2 s) (enX (f_i_FormatInt_x2_1) (f_i_FormatInt_x2_2) r) :=
  loop_true E0ok f_i_FormatInt_Mt (addL_true (f_i_FormatInt_tt0) (noL_true)) f_i_FormatInt_o (fun _ h => by cases h) (fun _ h => by cases h) (fun s => (f_i_FormatInt_e2 s).trans (f_i_FormatInt_p2 s _ _ (fun e => some (f_i_FormatInt_x2_2 e))))
def f_i_FormatInt_t2 (σ : List AV) : Option (Bool × Bool × (X × List AV) × (X × List AV)) := match dec f_i_FormatInt_h2 σ with
  | some [.l out3, .i i6, .i j7] => some (isOne (loopL (f_i_FormatInt_r2) (out3, i6, j7)), true, f_i_FormatInt_x2_1 (getOne [] (loopL (f_i_FormatInt_r2) (out3, i6, j7))), (.ret, []))
  | _ => none
theorem f_i_FormatInt_tt2 : TTrue Try.prog f_i_FormatInt_F Try.f201 2 (f_i_FormatInt_t2) := by
  intro σ p r r' h
  unfold f_i_FormatInt_t2 at h
  split at h
  · rename_i hd
    rw [← dec_enc hd]
    exact row1 (f_i_FormatInt_l2 _) h
  · cases h
theorem f_i_FormatInt_p {R : Type} (n0 : Int) (kR : ByteArray → Option R) : f_i_FormatInt_k n0 kR = (f_i_FormatInt_k n0 some).bind kR := by
  simp only [f_i_FormatInt_k, brB, bl1B, someB, noneB]
theorem f_i_FormatInt_e (n0 : Int) : runFn E0 f_i_FormatInt_M H0 f_i_FormatInt_F (asL (addL 2 (f_i_FormatInt_t2) (addL 0 (f_i_FormatInt_t0) (noL)))) Try.f201 (f_i_FormatInt_a n0) (f_i_FormatInt_i n0) = f_i_FormatInt_k n0 (fun r => some (f_i_FormatInt_en r)) := by kernel_rfl
theorem f_i_FormatInt_ok (n0 : Int) (r : ByteArray) (h : f_i_FormatInt n0 = some r) : CS Try.prog 201 (f_i_FormatInt_a n0) (f_i_FormatInt_i n0) (f_i_FormatInt_en r).1 (f_i_FormatInt_en r).2 :=
  fn_true (Gk := fun k => f_i_FormatInt_k n0 k) (en := f_i_FormatInt_en) Try.func201 E0ok f_i_FormatInt_Mt (addL_true (f_i_FormatInt_tt2) (addL_true (f_i_FormatInt_tt0) (noL_true))) f_i_FormatInt_o (f_i_FormatInt_e n0) (f_i_FormatInt_p n0) h
def f_i_FormatInt_c : CRow := fun args inh => match dec2 [.p (.int .i64)] [] args inh with
  | some ([.i n0], []) => some ((f_i_FormatInt n0).isSome, (f_i_FormatInt_en ((f_i_FormatInt n0).getD ByteArray.empty)).1, (f_i_FormatInt_en ((f_i_FormatInt n0).getD ByteArray.empty)).2)
  | _ => none
theorem f_i_FormatInt_cc : CTrue Try.prog 201 f_i_FormatInt_c := by
  intro args inh rs out h
  unfold f_i_FormatInt_c at h
  split at h
  · rename_i hd
    obtain ⟨h1, h2⟩ := dec2_enc hd
    rw [← h1, ← h2]
    exact rowC (f_i_FormatInt_ok _) h
  · cases h

def f_i_glued_F : Fi := { nv := 0, nc := 0, m := 0, vt := [], kl := [(0, ([0, 2, 3, 4, 6, 7, 11, 12, 13, 14, 15, 16, 17, 18, 19, 20, 21, 22, 23, 24], [0, 1, 2, 3, 4, 6, 7, 8, 9, 10, 11, 12, 13, 14, 15, 16, 17, 18, 19, 20, 21, 22, 23, 24], [0, 1, 2, 3, 5, 6, 7, 8, 9, 10, 11, 12, 13, 14, 15, 16, 17, 18, 19, 20, 21, 22, 23, 24]))], sk := [], mvs := [], fz := [] }
def f_i_glued_a (l0 : List Sc) (by1 : ByteArray) : List AV := enc [.p .sl, .p .str] [.l l0, .s by1]
def f_i_glued_i (l0 : List Sc) (by1 : ByteArray) : List AV := enc [] []
def f_i_glued_en (r : ByteArray) : List AV × List AV := (enc [.p .str] [.s r], enc [] [])
def f_i_glued_M : Calling := noC
theorem f_i_glued_Mt : CallOk Try.prog (f_i_glued_M) := noC_true
theorem f_i_glued_o : loopsOnce Try.f202 = true := by kernel_rfl
def f_i_glued_h0 : List Sh := [.u, .p .str, .u, .u, .u, .p .str, .u, .u, .p .sl, .p (.int .i64), .p (.int .i64), .u, .u, .u, .u, .u, .u, .u, .u, .u, .u, .u, .u, .u, .u]
def f_i_glued_fr0 (by1 : ByteArray) (t8 : List Sc) (t9 : Int) (s : ByteArray × Int) : List AV := enc f_i_glued_h0 [.s by1, .s s.1, .l t8, .i t9, .i s.2]
def f_i_glued_g0_1 : List Sh := [.u, .u, .u, .u, .u, .p .str, .u, .u, .u, .u, .u, .u, .u, .u, .u, .u, .u, .u, .u, .u, .u, .u, .u, .u, .u]
def f_i_glued_x0_1 (by1 : ByteArray) (t8 : List Sc) (t9 : Int) (e : ByteArray) : X × List AV := (.out 0, enc f_i_glued_g0_1 [.s e])
def f_i_glued_x0_2 (by1 : ByteArray) (t8 : List Sc) (t9 : Int) (_e : Unit) : X × List AV := (.ret, [])
theorem f_i_glued_p0 {R : Type} (by1 : ByteArray) (t8 : List Sc) (t9 : Int) (s : ByteArray × Int) (kN : ByteArray × Int → Option R) (kA : ByteArray → Option R) (kB : Unit → Option R) : f_i_glued_k0 by1 t8 t9 s.1 s.2 kN kA = (f_i_glued_r0 by1 t8 t9 s).bind (Ro.el kN kA kB) := by
  simp only [f_i_glued_k0, f_i_glued_r0, brB, someB, noneB, Ro.el]
theorem f_i_glued_e0 (by1 : ByteArray) (t8 : List Sc) (t9 : Int) (s : ByteArray × Int) : EC E0 f_i_glued_M H0 f_i_glued_F (asL (noL)) 0 (bodyOf Try.f202 0) (f_i_glued_fr0 by1 t8 t9 s) (done (klOf f_i_glued_F 0)) = f_i_glued_k0 by1 t8 t9 s.1 s.2 (fun s => some (.norm, f_i_glued_fr0 by1 t8 t9 s)) (fun e => some (f_i_glued_x0_1 by1 t8 t9 e)) := by kernel_rfl
theorem f_i_glued_l0 (by1 : ByteArray) (t8 : List Sc) (t9 : Int) : ∀ s r, loopL (f_i_glued_r0 by1 t8 t9) s = some r → LS Try.prog f_i_glued_F (bodyOf Try.f202 0) (f_i_glued_fr0 by1 t8 t9 s) (enX (f_i_glued_x0_1 by1 t8 t9) (f_i_glued_x0_2 by1 t8 t9) r) :=
  loop_true E0ok f_i_glued_Mt (noL_true) f_i_glued_o (fun _ h => by cases h) (fun _ h => by cases h) (fun s => (f_i_glued_e0 by1 t8 t9 s).trans (f_i_glued_p0 by1 t8 t9 s _ _ (fun e => some (f_i_glued_x0_2 by1 t8 t9 e))))
def f_i_glued_t0 (σ : List AV) : Option (Bool × Bool × (X × List AV) × (X × List AV)) := match dec f_i_glued_h0 σ with
  | some [.s by1, .s s5, .l t8, .i t9, .i t10] => some (isOne (loopL (f_i_glued_r0 by1 t8 t9) (s5, t10)), true, f_i_glued_x0_1 by1 t8 t9 (getOne ByteArray.empty (loopL (f_i_glued_r0 by1 t8 t9) (s5, t10))), (.ret, []))
  | _ => none
theorem f_i_glued_tt0 : TTrue Try.prog f_i_glued_F Try.f202 0 (f_i_glued_t0) := by
  intro σ p r r' h
  unfold f_i_glued_t0 at h
  split at h
  · rename_i hd
    rw [← dec_enc hd]
    exact row1 (f_i_glued_l0 _ _ _ _) h
  · cases h
theorem f_i_glued_p {R : Type} (l0 : List Sc) (by1 : ByteArray) (kR : ByteArray → Option R) : f_i_glued_k l0 by1 kR = (f_i_glued_k l0 by1 some).bind kR := by
  simp only [f_i_glued_k, bl1B, someB]
theorem f_i_glued_e (l0 : List Sc) (by1 : ByteArray) : runFn E0 f_i_glued_M H0 f_i_glued_F (asL (addL 0 (f_i_glued_t0) (noL))) Try.f202 (f_i_glued_a l0 by1) (f_i_glued_i l0 by1) = f_i_glued_k l0 by1 (fun r => some (f_i_glued_en r)) := by kernel_rfl
theorem f_i_glued_ok (l0 : List Sc) (by1 : ByteArray) (r : ByteArray) (h : f_i_glued l0 by1 = some r) : CS Try.prog 202 (f_i_glued_a l0 by1) (f_i_glued_i l0 by1) (f_i_glued_en r).1 (f_i_glued_en r).2 :=
  fn_true (Gk := fun k => f_i_glued_k l0 by1 k) (en := f_i_glued_en) Try.func202 E0ok f_i_glued_Mt (addL_true (f_i_glued_tt0) (noL_true)) f_i_glued_o (f_i_glued_e l0 by1) (f_i_glued_p l0 by1) h
def f_i_glued_c : CRow := fun args inh => match dec2 [.p .sl, .p .str] [] args inh with
  | some ([.l l0, .s by1], []) => some ((f_i_glued l0 by1).isSome, (f_i_glued_en ((f_i_glued l0 by1).getD ByteArray.empty)).1, (f_i_glued_en ((f_i_glued l0 by1).getD ByteArray.empty)).2)
  | _ => none
theorem f_i_glued_cc : CTrue Try.prog 202 f_i_glued_c := by
  intro args inh rs out h
  unfold f_i_glued_c at h
  split at h
  · rename_i hd
    obtain ⟨h1, h2⟩ := dec2_enc hd
    rw [← h1, ← h2]
    exact rowC (f_i_glued_ok _ _) h
  · cases h

def f_i_FormatSequence_F : Fi := { nv := 0, nc := 0, m := 0, vt := [], kl := [(0, ([0, 2, 3, 4, 6, 7, 8, 9, 10, 11, 12, 13, 14, 15, 16, 17, 21, 22, 23, 24, 25, 26, 27, 28, 29, 30, 31, 32, 33, 34, 35, 36, 37, 38, 39, 40, 41, 42, 43, 44, 45, 46, 47, 48, 49, 50, 51, 52, 53, 54], [0, 2, 3, 4, 6, 7, 8, 9, 10, 11, 12, 13, 14, 15, 16, 17, 21, 22, 23, 24, 25, 26, 27, 28, 29, 30, 31, 32, 33, 34, 35, 36, 37, 38, 39, 40, 41, 42, 43, 44, 45, 46, 47, 48, 49, 50, 51, 52, 53, 54], [0, 1, 2, 3, 5, 6, 7, 8, 9, 10, 11, 12, 13, 14, 15, 16, 17, 18, 19, 20, 21, 22, 23, 24, 25, 26, 27, 28, 29, 30, 31, 32, 33, 34, 35, 36, 37, 38, 39, 40, 41, 42, 43, 44, 45, 46, 47, 48, 49, 50, 51, 52, 53, 54]))], sk := [], mvs := [], fz := [] }
def f_i_FormatSequence_a (g0 : List Sc) (l1 : List Sc) : List AV := enc [.p .gr, .p .sl] [.l g0, .l l1]
def f_i_FormatSequence_i (g0 : List Sc) (l1 : List Sc) : List AV := enc [] []
def f_i_FormatSequence_en (r : ByteArray) : List AV × List AV := (enc [.p .str] [.s r], enc [] [])
def f_i_FormatSequence_M : Calling := addC 104 f_i_IsSequence_c (addC 201 f_i_FormatInt_c (addC 115 f_i_MultiplicityIn_c (addC 202 f_i_glued_c (noC))))
theorem f_i_FormatSequence_Mt : CallOk Try.prog (f_i_FormatSequence_M) := addC_true f_i_IsSequence_cc (addC_true f_i_FormatInt_cc (addC_true f_i_MultiplicityIn_cc (addC_true f_i_glued_cc (noC_true))))
theorem f_i_FormatSequence_o : loopsOnce Try.f117 = true := by kernel_rfl
def f_i_FormatSequence_h0 : List Sh := [.u, .p .sl, .u, .u, .u, .own 9, .u, .u, .u, .u, .u, .u, .u, .u, .u, .u, .u, .u, .p .sl, .p (.int .i64), .p (.int .i64), .u, .u, .u, .u, .u, .u, .u, .u, .u, .u, .u, .u, .u, .u, .u, .u, .u, .u, .u, .u, .u, .u, .u, .u, .u, .u, .u, .u, .u, .u, .u, .u, .u, .u]
def f_i_FormatSequence_fr0 (l1 : List Sc) (t18 : List Sc) (t19 : Int) (s : List Sc × Int) : List AV := enc f_i_FormatSequence_h0 [.l l1, .l s.1, .l t18, .i t19, .i s.2]
def f_i_FormatSequence_g0_1 : List Sh := [.u, .p .sl, .u, .u, .u, .own 9, .u, .u, .u, .u, .u, .u, .u, .u, .u, .u, .u, .u, .p .sl, .p (.int .i64), .p (.int .i64), .u, .u, .u, .u, .u, .u, .u, .u, .u, .u, .u, .u, .u, .u, .u, .u, .u, .u, .u, .u, .u, .u, .u, .u, .u, .u, .u, .u, .u, .u, .u, .u, .u, .u]
def f_i_FormatSequence_x0_1 (l1 : List Sc) (t18 : List Sc) (t19 : Int) (e : List Sc × Int) : X × List AV := (.out 0, enc f_i_FormatSequence_g0_1 [.l l1, .l e.1, .l t18, .i t19, .i e.2])
def f_i_FormatSequence_x0_2 (l1 : List Sc) (t18 : List Sc) (t19 : Int) (_e : Unit) : X × List AV := (.ret, [])
theorem f_i_FormatSequence_p0 {R : Type} (l1 : List Sc) (t18 : List Sc) (t19 : Int) (s : List Sc × Int) (kN : List Sc × Int → Option R) (kA : List Sc × Int → Option R) (kB : Unit → Option R) : f_i_FormatSequence_k0 l1 t18 t19 s.1 s.2 kN kA = (f_i_FormatSequence_r0 l1 t18 t19 s).bind (Ro.el kN kA kB) := by
  simp only [f_i_FormatSequence_k0, f_i_FormatSequence_r0, brB, boB, someB, noneB, Ro.el]
theorem f_i_FormatSequence_e0 (l1 : List Sc) (t18 : List Sc) (t19 : Int) (s : List Sc × Int) : EC E0 f_i_FormatSequence_M H0 f_i_FormatSequence_F (asL (noL)) 0 (bodyOf Try.f117 0) (f_i_FormatSequence_fr0 l1 t18 t19 s) (done (klOf f_i_FormatSequence_F 0)) = f_i_FormatSequence_k0 l1 t18 t19 s.1 s.2 (fun s => some (.norm, f_i_FormatSequence_fr0 l1 t18 t19 s)) (fun e => some (f_i_FormatSequence_x0_1 l1 t18 t19 e)) := by kernel_rfl
theorem f_i_FormatSequence_l0 (l1 : List Sc) (t18 : List Sc) (t19 : Int) : ∀ s r, loopL (f_i_FormatSequence_r0 l1 t18 t19) s = some r → LS Try.prog f_i_FormatSequence_F (bodyOf Try.f117 0) (f_i_FormatSequence_fr0 l1 t18 t19 s) (enX (f_i_FormatSequence_x0_1 l1 t18 t19) (f_i_FormatSequence_x0_2 l1 t18 t19) r) :=
  loop_true E0ok f_i_FormatSequence_Mt (noL_true) f_i_FormatSequence_o (fun _ h => by cases h) (fun _ h => by cases h) (fun s => (f_i_FormatSequence_e0 l1 t18 t19 s).trans (f_i_FormatSequence_p0 l1 t18 t19 s _ _ (fun e => some (f_i_FormatSequence_x0_2 l1 t18 t19 e))))
def f_i_FormatSequence_t0 (σ : List AV) : Option (Bool × Bool × (X × List AV) × (X × List AV)) := match dec f_i_FormatSequence_h0 σ with
  | some [.l l1, .l out5, .l t18, .i t19, .i t20] => some (isOne (loopL (f_i_FormatSequence_r0 l1 t18 t19) (out5, t20)), true, f_i_FormatSequence_x0_1 l1 t18 t19 (getOne ([], 0) (loopL (f_i_FormatSequence_r0 l1 t18 t19) (out5, t20))), (.ret, []))
  | _ => none
theorem f_i_FormatSequence_tt0 : TTrue Try.prog f_i_FormatSequence_F Try.f117 0 (f_i_FormatSequence_t0) := by
  intro σ p r r' h
  unfold f_i_FormatSequence_t0 at h
  split at h
  · rename_i hd
    rw [← dec_enc hd]
    exact row1 (f_i_FormatSequence_l0 _ _ _ _) h
  · cases h
theorem f_i_FormatSequence_p {R : Type} (g0 : List Sc) (l1 : List Sc) (kR : ByteArray → Option R) : f_i_FormatSequence_k g0 l1 kR = (f_i_FormatSequence_k g0 l1 some).bind kR := by
  simp only [f_i_FormatSequence_k, brB, boB, bl1B, someB]
theorem f_i_FormatSequence_e (g0 : List Sc) (l1 : List Sc) : runFn E0 f_i_FormatSequence_M H0 f_i_FormatSequence_F (asL (addL 0 (f_i_FormatSequence_t0) (noL))) Try.f117 (f_i_FormatSequence_a g0 l1) (f_i_FormatSequence_i g0 l1) = f_i_FormatSequence_k g0 l1 (fun r => some (f_i_FormatSequence_en r)) := by kernel_rfl
theorem f_i_FormatSequence_ok (g0 : List Sc) (l1 : List Sc) (r : ByteArray) (h : f_i_FormatSequence g0 l1 = some r) : CS Try.prog 117 (f_i_FormatSequence_a g0 l1) (f_i_FormatSequence_i g0 l1) (f_i_FormatSequence_en r).1 (f_i_FormatSequence_en r).2 :=
  fn_true (Gk := fun k => f_i_FormatSequence_k g0 l1 k) (en := f_i_FormatSequence_en) Try.func117 E0ok f_i_FormatSequence_Mt (addL_true (f_i_FormatSequence_tt0) (noL_true)) f_i_FormatSequence_o (f_i_FormatSequence_e g0 l1) (f_i_FormatSequence_p g0 l1) h
def f_i_FormatSequence_c : CRow := fun args inh => match dec2 [.p .gr, .p .sl] [] args inh with
  | some ([.l g0, .l l1], []) => some ((f_i_FormatSequence g0 l1).isSome, (f_i_FormatSequence_en ((f_i_FormatSequence g0 l1).getD ByteArray.empty)).1, (f_i_FormatSequence_en ((f_i_FormatSequence g0 l1).getD ByteArray.empty)).2)
  | _ => none
theorem f_i_FormatSequence_cc : CTrue Try.prog 117 f_i_FormatSequence_c := by
  intro args inh rs out h
  unfold f_i_FormatSequence_c at h
  split at h
  · rename_i hd
    obtain ⟨h1, h2⟩ := dec2_enc hd
    rw [← h1, ← h2]
    exact rowC (f_i_FormatSequence_ok _ _) h
  · cases h

def f_s_FormatInt_F : Fi := { nv := 0, nc := 0, m := 0, vt := [], kl := [(0, ([1, 2, 5, 6, 7, 8, 9, 10, 11, 12, 13, 14, 15, 16, 17, 18, 19, 20, 21, 22, 23, 24, 25, 26, 27, 28, 29, 30], [0, 1, 2, 5, 6, 7, 8, 9, 10, 11, 12, 13, 14, 15, 16, 17, 18, 19, 20, 21, 22, 23, 24, 25, 26, 27, 28, 29, 30], [0, 1, 3, 4, 5, 6, 7, 8, 9, 10, 11, 12, 13, 14, 15, 16, 17, 18, 19, 20, 21, 22, 23, 24, 25, 26, 27, 28, 29, 30]))], sk := [], mvs := [], fz := [] }
def f_s_FormatInt_a (n0 : Int) : List AV := enc [.p (.int .i64)] [.i n0]
def f_s_FormatInt_i (n0 : Int) : List AV := enc [] []
def f_s_FormatInt_en (r : ByteArray) : List AV × List AV := (enc [.p .str] [.s r], enc [] [])
def f_s_FormatInt_M : Calling := noC
theorem f_s_FormatInt_Mt : CallOk Try.prog (f_s_FormatInt_M) := noC_true
theorem f_s_FormatInt_o : loopsOnce Try.f203 = true := by kernel_rfl
def f_s_FormatInt_h0 : List Sh := [.p (.int .i64), .u, .u, .p .str, .p .boo, .u, .u, .u, .u, .u, .u, .u, .u, .u, .u, .u, .u, .u, .u, .u, .u, .u, .u, .u, .u, .u, .u, .u, .u, .u, .u]
def f_s_FormatInt_fr0 (neg4 : Bool) (s : Int × ByteArray) : List AV := enc f_s_FormatInt_h0 [.i s.1, .s s.2, .b neg4]
def f_s_FormatInt_g0_1 : List Sh := [.u, .u, .u, .p .str, .p .boo, .u, .u, .u, .u, .u, .u, .u, .u, .u, .u, .u, .u, .u, .u, .u, .u, .u, .u, .u, .u, .u, .u, .u, .u, .u, .u]
def f_s_FormatInt_x0_1 (neg4 : Bool) (e : ByteArray) : X × List AV := (.out 0, enc f_s_FormatInt_g0_1 [.s e, .b neg4])
def f_s_FormatInt_x0_2 (neg4 : Bool) (_e : Unit) : X × List AV := (.ret, [])
theorem f_s_FormatInt_p0 {R : Type} (neg4 : Bool) (s : Int × ByteArray) (kN : Int × ByteArray → Option R) (kA : ByteArray → Option R) (kB : Unit → Option R) : f_s_FormatInt_k0 neg4 s.1 s.2 kN kA = (f_s_FormatInt_r0 neg4 s).bind (Ro.el kN kA kB) := by
  simp only [f_s_FormatInt_k0, f_s_FormatInt_r0, brB, someB, noneB, Ro.el]
theorem f_s_FormatInt_e0 (neg4 : Bool) (s : Int × ByteArray) : EC E0 f_s_FormatInt_M H0 f_s_FormatInt_F (asL (noL)) 0 (bodyOf Try.f203 0) (f_s_FormatInt_fr0 neg4 s) (done (klOf f_s_FormatInt_F 0)) = f_s_FormatInt_k0 neg4 s.1 s.2 (fun s => some (.norm, f_s_FormatInt_fr0 neg4 s)) (fun e => some (f_s_FormatInt_x0_1 neg4 e)) := by kernel_rfl
theorem f_s_FormatInt_l0 (neg4 : Bool) : ∀ s r, loopL (f_s_FormatInt_r0 neg4) s = some r → LS Try.prog f_s_FormatInt_F (bodyOf Try.f203 0) (f_s_FormatInt_fr0 neg4 s) (enX (f_s_FormatInt_x0_1 neg4) (f_s_FormatInt_x0_2 neg4) r) :=
  loop_true E0ok f_s_FormatInt_Mt (noL_true) f_s_FormatInt_o (fun _ h => by cases h) (fun _ h => by cases h) (fun s => (f_s_FormatInt_e0 neg4 s).trans (f_s_FormatInt_p0 neg4 s _ _ (fun e => some (f_s_FormatInt_x0_2 neg4 e))))
def f_s_FormatInt_t0 (σ : List AV) : Option (Bool × Bool × (X × List AV) × (X × List AV)) := match dec f_s_FormatInt_h0 σ with
  | some [.i n0, .s out3, .b neg4] => some (isOne (loopL (f_s_FormatInt_r0 neg4) (n0, out3)), true, f_s_FormatInt_x0_1 neg4 (getOne ByteArray.empty (loopL (f_s_FormatInt_r0 neg4) (n0, out3))), (.ret, []))
  | _ => none
theorem f_s_FormatInt_tt0 : TTrue Try.prog f_s_FormatInt_F Try.f203 0 (f_s_FormatInt_t0) := by
  intro σ p r r' h
  unfold f_s_FormatInt_t0 at h
  split at h
  · rename_i hd
    rw [← dec_enc hd]
    exact row1 (f_s_FormatInt_l0 _ _) h
  · cases h
theorem f_s_FormatInt_p {R : Type} (n0 : Int) (kR : ByteArray → Option R) : f_s_FormatInt_k n0 kR = (f_s_FormatInt_k n0 some).bind kR := by
  simp only [f_s_FormatInt_k, brB, bl1B, someB, noneB]
theorem f_s_FormatInt_e (n0 : Int) : runFn E0 f_s_FormatInt_M H0 f_s_FormatInt_F (asL (addL 0 (f_s_FormatInt_t0) (noL))) Try.f203 (f_s_FormatInt_a n0) (f_s_FormatInt_i n0) = f_s_FormatInt_k n0 (fun r => some (f_s_FormatInt_en r)) := by kernel_rfl
theorem f_s_FormatInt_ok (n0 : Int) (r : ByteArray) (h : f_s_FormatInt n0 = some r) : CS Try.prog 203 (f_s_FormatInt_a n0) (f_s_FormatInt_i n0) (f_s_FormatInt_en r).1 (f_s_FormatInt_en r).2 :=
  fn_true (Gk := fun k => f_s_FormatInt_k n0 k) (en := f_s_FormatInt_en) Try.func203 E0ok f_s_FormatInt_Mt (addL_true (f_s_FormatInt_tt0) (noL_true)) f_s_FormatInt_o (f_s_FormatInt_e n0) (f_s_FormatInt_p n0) h
def f_s_FormatInt_c : CRow := fun args inh => match dec2 [.p (.int .i64)] [] args inh with
  | some ([.i n0], []) => some ((f_s_FormatInt n0).isSome, (f_s_FormatInt_en ((f_s_FormatInt n0).getD ByteArray.empty)).1, (f_s_FormatInt_en ((f_s_FormatInt n0).getD ByteArray.empty)).2)
  | _ => none
theorem f_s_FormatInt_cc : CTrue Try.prog 203 f_s_FormatInt_c := by
  intro args inh rs out h
  unfold f_s_FormatInt_c at h
  split at h
  · rename_i hd
    obtain ⟨h1, h2⟩ := dec2_enc hd
    rw [← h1, ← h2]
    exact rowC (f_s_FormatInt_ok _) h
  · cases h

def f_s_FormatSequence_F : Fi := { nv := 0, nc := 0, m := 0, vt := [], kl := [(0, ([0, 3, 4, 7, 8, 9, 10, 11, 12, 13, 14, 15, 16, 17, 18, 19, 20, 21, 22, 23, 24, 25, 26, 27, 28, 29, 30, 31, 32, 33, 34, 35, 36, 37, 38, 39, 40, 41, 42, 43, 44, 45, 46, 47, 48, 49, 50, 51, 52, 53, 54, 55, 56, 57, 58, 59, 60, 61, 62, 63, 64], [0, 3, 4, 7, 8, 9, 10, 11, 12, 13, 14, 15, 16, 17, 18, 19, 20, 21, 22, 23, 24, 25, 26, 27, 28, 29, 30, 31, 32, 33, 34, 35, 36, 37, 38, 39, 40, 41, 42, 43, 44, 45, 46, 47, 48, 49, 50, 51, 52, 53, 54, 55, 56, 57, 58, 59, 60, 61, 62, 63, 64], [0, 1, 2, 3, 5, 6, 7, 8, 9, 10, 11, 12, 13, 14, 15, 16, 17, 18, 19, 20, 21, 22, 23, 24, 25, 26, 27, 28, 29, 30, 31, 32, 33, 34, 35, 36, 37, 38, 39, 40, 41, 42, 43, 44, 45, 46, 47, 48, 49, 50, 51, 52, 53, 54, 55, 56, 57, 58, 59, 60, 61, 62, 63, 64]))], sk := [], mvs := [], fz := [] }
def f_s_FormatSequence_a (L0 : List Sc) (p1 : List Sc) : List AV := enc [.p .gr, .p .sl] [.l L0, .l p1]
def f_s_FormatSequence_i (L0 : List Sc) (p1 : List Sc) : List AV := enc [] []
def f_s_FormatSequence_en (r : ByteArray) : List AV × List AV := (enc [.p .str] [.s r], enc [] [])
def f_s_FormatSequence_M : Calling := addC 101 f_s_IsSequence_c (addC 203 f_s_FormatInt_c (addC 116 f_s_MultiplicityIn_c (noC)))
theorem f_s_FormatSequence_Mt : CallOk Try.prog (f_s_FormatSequence_M) := addC_true f_s_IsSequence_cc (addC_true f_s_FormatInt_cc (addC_true f_s_MultiplicityIn_cc (noC_true)))
theorem f_s_FormatSequence_o : loopsOnce Try.f118 = true := by kernel_rfl
def f_s_FormatSequence_h0 : List Sh := [.u, .p .sl, .p .el, .u, .u, .p .str, .p (.int .i64), .u, .u, .u, .u, .u, .u, .u, .u, .u, .u, .u, .u, .u, .u, .u, .u, .u, .u, .u, .u, .u, .u, .u, .u, .u, .u, .u, .u, .u, .u, .u, .u, .u, .u, .u, .u, .u, .u, .u, .u, .u, .u, .u, .u, .u, .u, .u, .u, .u, .u, .u, .u, .u, .u, .u, .u, .u, .u]
def f_s_FormatSequence_fr0 (t1 : List Sc) (t2 : List Sc) (s : ByteArray × Int) : List AV := enc f_s_FormatSequence_h0 [.l t1, .l t2, .s s.1, .i s.2]
def f_s_FormatSequence_g0_1 : List Sh := [.u, .p .sl, .p .el, .u, .u, .p .str, .p (.int .i64), .u, .u, .u, .u, .u, .u, .u, .u, .u, .u, .u, .u, .u, .u, .u, .u, .u, .u, .u, .u, .u, .u, .u, .u, .u, .u, .u, .u, .u, .u, .u, .u, .u, .u, .u, .u, .u, .u, .u, .u, .u, .u, .u, .u, .u, .u, .u, .u, .u, .u, .u, .u, .u, .u, .u, .u, .u, .u]
def f_s_FormatSequence_x0_1 (t1 : List Sc) (t2 : List Sc) (e : ByteArray × Int) : X × List AV := (.out 0, enc f_s_FormatSequence_g0_1 [.l t1, .l t2, .s e.1, .i e.2])
def f_s_FormatSequence_x0_2 (t1 : List Sc) (t2 : List Sc) (_e : Unit) : X × List AV := (.ret, [])
theorem f_s_FormatSequence_p0 {R : Type} (t1 : List Sc) (t2 : List Sc) (s : ByteArray × Int) (kN : ByteArray × Int → Option R) (kA : ByteArray × Int → Option R) (kB : Unit → Option R) : f_s_FormatSequence_k0 t1 t2 s.1 s.2 kN kA = (f_s_FormatSequence_r0 t1 t2 s).bind (Ro.el kN kA kB) := by
  simp only [f_s_FormatSequence_k0, f_s_FormatSequence_r0, brB, boB, someB, noneB, Ro.el]
theorem f_s_FormatSequence_e0 (t1 : List Sc) (t2 : List Sc) (s : ByteArray × Int) : EC E0 f_s_FormatSequence_M H0 f_s_FormatSequence_F (asL (noL)) 0 (bodyOf Try.f118 0) (f_s_FormatSequence_fr0 t1 t2 s) (done (klOf f_s_FormatSequence_F 0)) = f_s_FormatSequence_k0 t1 t2 s.1 s.2 (fun s => some (.norm, f_s_FormatSequence_fr0 t1 t2 s)) (fun e => some (f_s_FormatSequence_x0_1 t1 t2 e)) := by kernel_rfl
theorem f_s_FormatSequence_l0 (t1 : List Sc) (t2 : List Sc) : ∀ s r, loopL (f_s_FormatSequence_r0 t1 t2) s = some r → LS Try.prog f_s_FormatSequence_F (bodyOf Try.f118 0) (f_s_FormatSequence_fr0 t1 t2 s) (enX (f_s_FormatSequence_x0_1 t1 t2) (f_s_FormatSequence_x0_2 t1 t2) r) :=
  loop_true E0ok f_s_FormatSequence_Mt (noL_true) f_s_FormatSequence_o (fun _ h => by cases h) (fun _ h => by cases h) (fun s => (f_s_FormatSequence_e0 t1 t2 s).trans (f_s_FormatSequence_p0 t1 t2 s _ _ (fun e => some (f_s_FormatSequence_x0_2 t1 t2 e))))
def f_s_FormatSequence_t0 (σ : List AV) : Option (Bool × Bool × (X × List AV) × (X × List AV)) := match dec f_s_FormatSequence_h0 σ with
  | some [.l t1, .l t2, .s t5, .i t6] => some (isOne (loopL (f_s_FormatSequence_r0 t1 t2) (t5, t6)), true, f_s_FormatSequence_x0_1 t1 t2 (getOne (ByteArray.empty, 0) (loopL (f_s_FormatSequence_r0 t1 t2) (t5, t6))), (.ret, []))
  | _ => none
theorem f_s_FormatSequence_tt0 : TTrue Try.prog f_s_FormatSequence_F Try.f118 0 (f_s_FormatSequence_t0) := by
  intro σ p r r' h
  unfold f_s_FormatSequence_t0 at h
  split at h
  · rename_i hd
    rw [← dec_enc hd]
    exact row1 (f_s_FormatSequence_l0 _ _ _) h
  · cases h
theorem f_s_FormatSequence_p {R : Type} (L0 : List Sc) (p1 : List Sc) (kR : ByteArray → Option R) : f_s_FormatSequence_k L0 p1 kR = (f_s_FormatSequence_k L0 p1 some).bind kR := by
  simp only [f_s_FormatSequence_k, brB, boB, bl1B, someB]
theorem f_s_FormatSequence_e (L0 : List Sc) (p1 : List Sc) : runFn E0 f_s_FormatSequence_M H0 f_s_FormatSequence_F (asL (addL 0 (f_s_FormatSequence_t0) (noL))) Try.f118 (f_s_FormatSequence_a L0 p1) (f_s_FormatSequence_i L0 p1) = f_s_FormatSequence_k L0 p1 (fun r => some (f_s_FormatSequence_en r)) := by kernel_rfl
theorem f_s_FormatSequence_ok (L0 : List Sc) (p1 : List Sc) (r : ByteArray) (h : f_s_FormatSequence L0 p1 = some r) : CS Try.prog 118 (f_s_FormatSequence_a L0 p1) (f_s_FormatSequence_i L0 p1) (f_s_FormatSequence_en r).1 (f_s_FormatSequence_en r).2 :=
  fn_true (Gk := fun k => f_s_FormatSequence_k L0 p1 k) (en := f_s_FormatSequence_en) Try.func118 E0ok f_s_FormatSequence_Mt (addL_true (f_s_FormatSequence_tt0) (noL_true)) f_s_FormatSequence_o (f_s_FormatSequence_e L0 p1) (f_s_FormatSequence_p L0 p1) h
def f_s_FormatSequence_c : CRow := fun args inh => match dec2 [.p .gr, .p .sl] [] args inh with
  | some ([.l L0, .l p1], []) => some ((f_s_FormatSequence L0 p1).isSome, (f_s_FormatSequence_en ((f_s_FormatSequence L0 p1).getD ByteArray.empty)).1, (f_s_FormatSequence_en ((f_s_FormatSequence L0 p1).getD ByteArray.empty)).2)
  | _ => none
theorem f_s_FormatSequence_cc : CTrue Try.prog 118 f_s_FormatSequence_c := by
  intro args inh rs out h
  unfold f_s_FormatSequence_c at h
  split at h
  · rename_i hd
    obtain ⟨h1, h2⟩ := dec2_enc hd
    rw [← h1, ← h2]
    exact rowC (f_s_FormatSequence_ok _ _) h
  · cases h

def f_s_IsZeroFree_F : Fi := { nv := 0, nc := 0, m := 0, vt := [], kl := [], sk := [], mvs := [], fz := [] }
def f_s_IsZeroFree_a (g0 : List Sc) (l1 : List Sc) : List AV := enc [.p .gr, .p .sl] [.l g0, .l l1]
def f_s_IsZeroFree_i (g0 : List Sc) (l1 : List Sc) : List AV := enc [] []
def f_s_IsZeroFree_en (r : Bool) : List AV × List AV := (enc [.p .boo] [.b r], enc [] [])
def f_s_IsZeroFree_M : Calling := addC 101 f_s_IsSequence_c (addC 196 f_s_l16Subsums_c (noC))
theorem f_s_IsZeroFree_Mt : CallOk Try.prog (f_s_IsZeroFree_M) := addC_true f_s_IsSequence_cc (addC_true f_s_l16Subsums_cc (noC_true))
theorem f_s_IsZeroFree_o : loopsOnce Try.f119 = true := by kernel_rfl
theorem f_s_IsZeroFree_p {R : Type} (g0 : List Sc) (l1 : List Sc) (kR : Bool → Option R) : f_s_IsZeroFree_k g0 l1 kR = (f_s_IsZeroFree_k g0 l1 some).bind kR := by
  simp only [f_s_IsZeroFree_k, brB, boB, someB]
theorem f_s_IsZeroFree_e (g0 : List Sc) (l1 : List Sc) : runFn E0 f_s_IsZeroFree_M H0 f_s_IsZeroFree_F (asL (noL)) Try.f119 (f_s_IsZeroFree_a g0 l1) (f_s_IsZeroFree_i g0 l1) = f_s_IsZeroFree_k g0 l1 (fun r => some (f_s_IsZeroFree_en r)) := by kernel_rfl
theorem f_s_IsZeroFree_ok (g0 : List Sc) (l1 : List Sc) (r : Bool) (h : f_s_IsZeroFree g0 l1 = some r) : CS Try.prog 119 (f_s_IsZeroFree_a g0 l1) (f_s_IsZeroFree_i g0 l1) (f_s_IsZeroFree_en r).1 (f_s_IsZeroFree_en r).2 :=
  fn_true (Gk := fun k => f_s_IsZeroFree_k g0 l1 k) (en := f_s_IsZeroFree_en) Try.func119 E0ok f_s_IsZeroFree_Mt (noL_true) f_s_IsZeroFree_o (f_s_IsZeroFree_e g0 l1) (f_s_IsZeroFree_p g0 l1) h
def f_s_IsZeroFree_c : CRow := fun args inh => match dec2 [.p .gr, .p .sl] [] args inh with
  | some ([.l g0, .l l1], []) => some ((f_s_IsZeroFree g0 l1).isSome, (f_s_IsZeroFree_en ((f_s_IsZeroFree g0 l1).getD false)).1, (f_s_IsZeroFree_en ((f_s_IsZeroFree g0 l1).getD false)).2)
  | _ => none
theorem f_s_IsZeroFree_cc : CTrue Try.prog 119 f_s_IsZeroFree_c := by
  intro args inh rs out h
  unfold f_s_IsZeroFree_c at h
  split at h
  · rename_i hd
    obtain ⟨h1, h2⟩ := dec2_enc hd
    rw [← h1, ← h2]
    exact rowC (f_s_IsZeroFree_ok _ _) h
  · cases h
end
end Go.Proofs.Ytphbclogflflmaa
