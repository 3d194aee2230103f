/-
  That the program computes just that (printed by gen2.py).
-/
import Derived.Test.YtbajbkdmfdfdmaaRuna
set_option linter.unusedVariables false
set_option linter.unusedSimpArgs false
namespace Go.Proofs.Ytbajbkdmfdfdmaa
open Go Ev
noncomputable section
def f_i_SumTable_F : Fi := { nv := 0, nc := 0, m := 0, vt := [], kl := [(2, ([0, 1, 4, 5, 6, 8, 10, 11, 12, 13, 14, 15, 16, 17, 18, 19, 20, 21, 22, 26, 27, 28, 29, 33, 34, 35, 36, 37, 38, 39, 40, 41, 42, 43, 44, 45, 46, 47], [0, 1, 4, 5, 6, 8, 9, 10, 11, 12, 13, 14, 15, 16, 17, 18, 19, 20, 21, 22, 26, 27, 28, 29, 30, 31, 32, 33, 34, 35, 36, 37, 38, 39, 40, 41, 42, 43, 44, 45, 46, 47], [0, 1, 2, 3, 4, 5, 7, 8, 9, 10, 11, 12, 13, 14, 15, 16, 17, 18, 19, 20, 21, 22, 23, 24, 25, 26, 27, 28, 29, 30, 31, 32, 33, 34, 35, 36, 37, 38, 39, 40, 41, 42, 43, 44, 45, 46, 47])), (0, ([0, 1, 4, 5, 6, 8, 9, 10, 11, 12, 13, 14, 15, 16, 17, 18, 19, 20, 21, 22, 26, 27, 28, 29, 30, 31, 32, 33, 34, 35, 36, 37, 38, 39, 40, 41, 42, 43, 44, 45, 46, 47], [0, 1, 4, 5, 6, 8, 9, 10, 11, 12, 13, 14, 15, 16, 17, 18, 19, 20, 21, 22, 26, 27, 28, 29, 30, 31, 32, 33, 34, 35, 36, 37, 38, 39, 40, 41, 42, 43, 44, 45, 46, 47], [0, 1, 2, 3, 4, 5, 7, 8, 9, 10, 11, 12, 13, 14, 15, 16, 17, 18, 19, 20, 21, 22, 23, 24, 25, 26, 27, 28, 29, 30, 31, 32, 33, 34, 35, 36, 37, 38, 39, 40, 41, 42, 43, 44, 45, 46, 47]))], sk := [], mvs := [], fz := [] }
def f_i_SumTable_a (g0 : List Sc) (a1 : Int) (b2 : Int) : List AV := enc [.p .gr, .p (.int .i64), .p (.int .i64)] [.l g0, .i a1, .i b2]
def f_i_SumTable_i (g0 : List Sc) (a1 : Int) (b2 : Int) : List AV := enc [] []
def f_i_SumTable_en (r : List Sc) : List AV × List AV := (enc [.p (.al 0)] [], enc [.own 3] [.l r])
def f_i_SumTable_M : Calling := addC 24 f_i_areSets_c (addC 26 f_i_OrderOf_c (addC 27 f_i_members_c (addC 28 f_i_Group_add_c (noC))))
theorem f_i_SumTable_Mt : CallOk Try.prog (f_i_SumTable_M) := addC_true f_i_areSets_cc (addC_true f_i_OrderOf_cc (addC_true f_i_members_cc (addC_true f_i_Group_add_cc (noC_true))))
theorem f_i_SumTable_o : loopsOnce Try.f7 = true := by kernel_rfl
def f_i_SumTable_h2 : List Sh := [.u, .u, .p (.int .i64), .p .el, .u, .u, .u, .own 3, .u, .p (.int .i64), .u, .u, .u, .u, .u, .u, .u, .u, .u, .u, .u, .u, .u, .own 3, .p (.int .i64), .p (.int .i64), .u, .u, .u, .u, .own 3, .p (.int .i64), .p (.int .i64), .u, .u, .u, .u, .u, .u, .u, .u, .u, .u, .u, .u, .u, .u, .u]
def f_i_SumTable_fr2 (b2 : Int) (g3 : List Sc) (x9 : Int) (t24 : Int) (t25 : Int) (t31 : Int) (s : List Sc × List Sc × List Sc × Int) : List AV := enc f_i_SumTable_h2 [.i b2, .l g3, .l s.1, .i x9, .l s.2.1, .i t24, .i t25, .l s.2.2.1, .i t31, .i s.2.2.2]
def f_i_SumTable_g2_1 : List Sh := [.u, .u, .p (.int .i64), .p .el, .u, .u, .u, .own 3, .u, .u, .u, .u, .u, .u, .u, .u, .u, .u, .u, .u, .u, .u, .u, .own 3, .p (.int .i64), .p (.int .i64), .u, .u, .u, .u, .u, .u, .u, .u, .u, .u, .u, .u, .u, .u, .u, .u, .u, .u, .u, .u, .u, .u]
def f_i_SumTable_x2_1 (b2 : Int) (g3 : List Sc) (x9 : Int) (t24 : Int) (t25 : Int) (t31 : Int) (e : List Sc × List Sc) : X × List AV := (.out 2, enc f_i_SumTable_g2_1 [.i b2, .l g3, .l e.1, .l e.2, .i t24, .i t25])
def f_i_SumTable_x2_2 (b2 : Int) (g3 : List Sc) (x9 : Int) (t24 : Int) (t25 : Int) (t31 : Int) (_e : Unit) : X × List AV := (.ret, [])
theorem f_i_SumTable_p2 {R : Type} (b2 : Int) (g3 : List Sc) (x9 : Int) (t24 : Int) (t25 : Int) (t31 : Int) (s : List Sc × List Sc × List Sc × Int) (kN : List Sc × List Sc × List Sc × Int → Option R) (kA : List Sc × List Sc → Option R) (kB : Unit → Option R) : f_i_SumTable_k2 b2 g3 x9 t24 t25 t31 s.1 s.2.1 s.2.2.1 s.2.2.2 kN kA = (f_i_SumTable_r2 b2 g3 x9 t24 t25 t31 s).bind (Ro.el kN kA kB) := by
  simp only [f_i_SumTable_k2, f_i_SumTable_r2, brB, boB, someB, noneB, Ro.el]
theorem f_i_SumTable_e2 (b2 : Int) (g3 : List Sc) (x9 : Int) (t24 : Int) (t25 : Int) (t31 : Int) (s : List Sc × List Sc × List Sc × Int) : EC E0 f_i_SumTable_M H0 f_i_SumTable_F (asL (noL)) 2 (bodyOf Try.f7 2) (f_i_SumTable_fr2 b2 g3 x9 t24 t25 t31 s) (done (klOf f_i_SumTable_F 2)) = f_i_SumTable_k2 b2 g3 x9 t24 t25 t31 s.1 s.2.1 s.2.2.1 s.2.2.2 (fun s => some (.norm, f_i_SumTable_fr2 b2 g3 x9 t24 t25 t31 s)) (fun e => some (f_i_SumTable_x2_1 b2 g3 x9 t24 t25 t31 e)) := by kernel_rfl
theorem f_i_SumTable_l2 (b2 : Int) (g3 : List Sc) (x9 : Int) (t24 : Int) (t25 : Int) (t31 : Int) : ∀ s r, loopL (f_i_SumTable_r2 b2 g3 x9 t24 t25 t31) s = some r → LS Try.prog f_i_SumTable_F (bodyOf Try.f7 2) (f_i_SumTable_fr2 b2 g3 x9 t24 t25 t31 s) (enX (f_i_SumTable_x2_1 b2 g3 x9 t24 t25 t31) (f_i_SumTable_x2_2 b2 g3 x9 t24 t25 t31) r) :=
  loop_true E0ok f_i_SumTable_Mt (noL_true) f_i_SumTable_o (fun _ h => by cases h) (fun _ h => by cases h) (fun _ h => by cases h) (fun _ h => by cases h) (fun s => (f_i_SumTable_e2 b2 g3 x9 t24 t25 t31 s).trans (f_i_SumTable_p2 b2 g3 x9 t24 t25 t31 s _ _ (fun e => some (f_i_SumTable_x2_2 b2 g3 x9 t24 t25 t31 e))))
def f_i_SumTable_t2 (σ : List AV) : Option (Bool × Bool × (X × List AV) × (X × List AV)) := match dec f_i_SumTable_h2 σ with
  | some [.i b2, .l g3, .l out7, .i x9, .l t23, .i t24, .i t25, .l t30, .i t31, .i t32] => some (isOne (loopL (f_i_SumTable_r2 b2 g3 x9 t24 t25 t31) (out7, t23, t30, t32)), true, f_i_SumTable_x2_1 b2 g3 x9 t24 t25 t31 (getOne ([], []) (loopL (f_i_SumTable_r2 b2 g3 x9 t24 t25 t31) (out7, t23, t30, t32))), (.ret, []))
  | _ => none
theorem f_i_SumTable_tt2 : TTrue Try.prog f_i_SumTable_F Try.f7 2 (f_i_SumTable_t2) := by
  intro σ p r r' h
  unfold f_i_SumTable_t2 at h
  split at h
  · rename_i hd
    rw [← dec_enc hd]
    exact row1 (f_i_SumTable_l2 _ _ _ _ _ _ _) h
  · cases h
def f_i_SumTable_h0 : List Sh := [.u, .u, .p (.int .i64), .p .el, .u, .u, .u, .own 3, .u, .u, .u, .u, .u, .u, .u, .u, .u, .u, .u, .u, .u, .u, .u, .own 3, .p (.int .i64), .p (.int .i64), .u, .u, .u, .u, .u, .u, .u, .u, .u, .u, .u, .u, .u, .u, .u, .u, .u, .u, .u, .u, .u, .u]
def f_i_SumTable_fr0 (b2 : Int) (g3 : List Sc) (t24 : Int) (s : List Sc × List Sc × Int) : List AV := enc f_i_SumTable_h0 [.i b2, .l g3, .l s.1, .l s.2.1, .i t24, .i s.2.2]
def f_i_SumTable_g0_1 : List Sh := [.u, .u, .p (.int .i64), .p .el, .u, .u, .u, .own 3, .u, .u, .u, .u, .u, .u, .u, .u, .u, .u, .u, .u, .u, .u, .u, .own 3, .p (.int .i64), .p (.int .i64), .u, .u, .u, .u, .u, .u, .u, .u, .u, .u, .u, .u, .u, .u, .u, .u, .u, .u, .u, .u, .u, .u]
def f_i_SumTable_x0_1 (b2 : Int) (g3 : List Sc) (t24 : Int) (e : List Sc × List Sc × Int) : X × List AV := (.out 0, enc f_i_SumTable_g0_1 [.i b2, .l g3, .l e.1, .l e.2.1, .i t24, .i e.2.2])
def f_i_SumTable_x0_2 (b2 : Int) (g3 : List Sc) (t24 : Int) (_e : Unit) : X × List AV := (.ret, [])
theorem f_i_SumTable_p0 {R : Type} (b2 : Int) (g3 : List Sc) (t24 : Int) (s : List Sc × List Sc × Int) (kN : List Sc × List Sc × Int → Option R) (kA : List Sc × List Sc × Int → Option R) (kB : Unit → Option R) : f_i_SumTable_k0 b2 g3 t24 s.1 s.2.1 s.2.2 kN kA = (f_i_SumTable_r0 b2 g3 t24 s).bind (Ro.el kN kA kB) := by
  simp only [f_i_SumTable_k0, f_i_SumTable_r0, brB, boB, bl1B, someB, noneB, Ro.el]
theorem f_i_SumTable_e0 (b2 : Int) (g3 : List Sc) (t24 : Int) (s : List Sc × List Sc × Int) : EC E0 f_i_SumTable_M H0 f_i_SumTable_F (asL (addL 2 (f_i_SumTable_t2) (noL))) 0 (bodyOf Try.f7 0) (f_i_SumTable_fr0 b2 g3 t24 s) (done (klOf f_i_SumTable_F 0)) = f_i_SumTable_k0 b2 g3 t24 s.1 s.2.1 s.2.2 (fun s => some (.norm, f_i_SumTable_fr0 b2 g3 t24 s)) (fun e => some (f_i_SumTable_x0_1 b2 g3 t24 e)) := by kernel_rfl
theorem f_i_SumTable_l0 (b2 : Int) (g3 : List Sc) (t24 : Int) : ∀ s r, loopL (f_i_SumTable_r0 b2 g3 t24) s = some r → LS Try.prog f_i_SumTable_F (bodyOf Try.f7 0) (f_i_SumTable_fr0 b2 g3 t24 s) (enX (f_i_SumTable_x0_1 b2 g3 t24) (f_i_SumTable_x0_2 b2 g3 t24) r) :=
  loop_true E0ok f_i_SumTable_Mt (addL_true (f_i_SumTable_tt2) (noL_true)) f_i_SumTable_o (fun _ h => by cases h) (fun _ h => by cases h) (fun _ h => by cases h) (fun _ h => by cases h) (fun s => (f_i_SumTable_e0 b2 g3 t24 s).trans (f_i_SumTable_p0 b2 g3 t24 s _ _ (fun e => some (f_i_SumTable_x0_2 b2 g3 t24 e))))
def f_i_SumTable_t0 (σ : List AV) : Option (Bool × Bool × (X × List AV) × (X × List AV)) := match dec f_i_SumTable_h0 σ with
  | some [.i b2, .l g3, .l out7, .l t23, .i t24, .i t25] => some (isOne (loopL (f_i_SumTable_r0 b2 g3 t24) (out7, t23, t25)), true, f_i_SumTable_x0_1 b2 g3 t24 (getOne ([], [], 0) (loopL (f_i_SumTable_r0 b2 g3 t24) (out7, t23, t25))), (.ret, []))
  | _ => none
theorem f_i_SumTable_tt0 : TTrue Try.prog f_i_SumTable_F Try.f7 0 (f_i_SumTable_t0) := by
  intro σ p r r' h
  unfold f_i_SumTable_t0 at h
  split at h
  · rename_i hd
    rw [← dec_enc hd]
    exact row1 (f_i_SumTable_l0 _ _ _ _) h
  · cases h
theorem f_i_SumTable_p {R : Type} (g0 : List Sc) (a1 : Int) (b2 : Int) (kR : List Sc → Option R) : f_i_SumTable_k g0 a1 b2 kR = (f_i_SumTable_k g0 a1 b2 some).bind kR := by
  simp only [f_i_SumTable_k, brB, boB, bl1B, someB, noneB]
theorem f_i_SumTable_e (g0 : List Sc) (a1 : Int) (b2 : Int) : runFn E0 f_i_SumTable_M H0 f_i_SumTable_F (asL (addL 0 (f_i_SumTable_t0) (addL 2 (f_i_SumTable_t2) (noL)))) Try.f7 (f_i_SumTable_a g0 a1 b2) (f_i_SumTable_i g0 a1 b2) = f_i_SumTable_k g0 a1 b2 (fun r => some (f_i_SumTable_en r)) := by kernel_rfl
theorem f_i_SumTable_ok (g0 : List Sc) (a1 : Int) (b2 : Int) (r : List Sc) (h : f_i_SumTable g0 a1 b2 = some r) : CS Try.prog 7 (f_i_SumTable_a g0 a1 b2) (f_i_SumTable_i g0 a1 b2) (f_i_SumTable_en r).1 (f_i_SumTable_en r).2 :=
  fn_true (Gk := fun k => f_i_SumTable_k g0 a1 b2 k) (en := f_i_SumTable_en) Try.func7 E0ok f_i_SumTable_Mt (addL_true (f_i_SumTable_tt0) (addL_true (f_i_SumTable_tt2) (noL_true))) f_i_SumTable_o (f_i_SumTable_e g0 a1 b2) (f_i_SumTable_p g0 a1 b2) h
def f_i_SumTable_c : CRow := fun args inh => match dec2 [.p .gr, .p (.int .i64), .p (.int .i64)] [] args inh with
  | some ([.l g0, .i a1, .i b2], []) => some ((f_i_SumTable g0 a1 b2).isSome, (f_i_SumTable_en ((f_i_SumTable g0 a1 b2).getD [])).1, (f_i_SumTable_en ((f_i_SumTable g0 a1 b2).getD [])).2)
  | _ => none
theorem f_i_SumTable_cc : CTrue Try.prog 7 f_i_SumTable_c := by
  intro args inh rs out h
  unfold f_i_SumTable_c at h
  split at h
  · rename_i hd
    obtain ⟨h1, h2⟩ := dec2_enc hd
    rw [← h1, ← h2]
    exact rowC (f_i_SumTable_ok _ _ _) h
  · cases h

def f_s_SumOfSets_F : Fi := { nv := 0, nc := 0, m := 0, vt := [], kl := [], sk := [], mvs := [], fz := [] }
def f_s_SumOfSets_a (g0 : List Sc) (a1 : Int) (b2 : Int) : List AV := enc [.p .gr, .p (.int .i64), .p (.int .i64)] [.l g0, .i a1, .i b2]
def f_s_SumOfSets_i (g0 : List Sc) (a1 : Int) (b2 : Int) : List AV := enc [] []
def f_s_SumOfSets_en (r : Int) : List AV × List AV := (enc [.p (.int .i64)] [.i r], enc [] [])
def f_s_SumOfSets_M : Calling := addC 29 f_s_IsSet_c (addC 30 f_s_l4Sum_c (noC))
theorem f_s_SumOfSets_Mt : CallOk Try.prog (f_s_SumOfSets_M) := addC_true f_s_IsSet_cc (addC_true f_s_l4Sum_cc (noC_true))
theorem f_s_SumOfSets_o : loopsOnce Try.f8 = true := by kernel_rfl
theorem f_s_SumOfSets_p {R : Type} (g0 : List Sc) (a1 : Int) (b2 : Int) (kR : Int → Option R) : f_s_SumOfSets_k g0 a1 b2 kR = (f_s_SumOfSets_k g0 a1 b2 some).bind kR := by
  simp only [f_s_SumOfSets_k, brB, boB, someB]
theorem f_s_SumOfSets_e (g0 : List Sc) (a1 : Int) (b2 : Int) : runFn E0 f_s_SumOfSets_M H0 f_s_SumOfSets_F (asL (noL)) Try.f8 (f_s_SumOfSets_a g0 a1 b2) (f_s_SumOfSets_i g0 a1 b2) = f_s_SumOfSets_k g0 a1 b2 (fun r => some (f_s_SumOfSets_en r)) := by kernel_rfl
theorem f_s_SumOfSets_ok (g0 : List Sc) (a1 : Int) (b2 : Int) (r : Int) (h : f_s_SumOfSets g0 a1 b2 = some r) : CS Try.prog 8 (f_s_SumOfSets_a g0 a1 b2) (f_s_SumOfSets_i g0 a1 b2) (f_s_SumOfSets_en r).1 (f_s_SumOfSets_en r).2 :=
  fn_true (Gk := fun k => f_s_SumOfSets_k g0 a1 b2 k) (en := f_s_SumOfSets_en) Try.func8 E0ok f_s_SumOfSets_Mt (noL_true) f_s_SumOfSets_o (f_s_SumOfSets_e g0 a1 b2) (f_s_SumOfSets_p g0 a1 b2) h
def f_s_SumOfSets_c : CRow := fun args inh => match dec2 [.p .gr, .p (.int .i64), .p (.int .i64)] [] args inh with
  | some ([.l g0, .i a1, .i b2], []) => some ((f_s_SumOfSets g0 a1 b2).isSome, (f_s_SumOfSets_en ((f_s_SumOfSets g0 a1 b2).getD 0)).1, (f_s_SumOfSets_en ((f_s_SumOfSets g0 a1 b2).getD 0)).2)
  | _ => none
theorem f_s_SumOfSets_cc : CTrue Try.prog 8 f_s_SumOfSets_c := by
  intro args inh rs out h
  unfold f_s_SumOfSets_c at h
  split at h
  · rename_i hd
    obtain ⟨h1, h2⟩ := dec2_enc hd
    rw [← h1, ← h2]
    exact rowC (f_s_SumOfSets_ok _ _ _) h
  · cases h

def f_s_SumTable_F : Fi := { nv := 0, nc := 0, m := 0, vt := [], kl := [(2, ([0, 1, 2, 4, 5, 6, 12, 13, 14, 15, 16, 17, 18, 19, 20, 21, 22, 23, 24, 25, 26, 27, 28, 29, 30, 31, 32, 33, 34, 35, 36, 37, 38, 39, 40, 41, 42, 43, 44, 45, 46, 47, 48, 49, 50, 51, 52, 53, 54, 55, 56, 57, 58, 59, 60, 61], [0, 1, 2, 4, 5, 6, 11, 12, 13, 14, 15, 16, 17, 18, 19, 20, 21, 22, 23, 24, 25, 26, 27, 28, 29, 30, 31, 32, 33, 34, 35, 36, 37, 38, 39, 40, 41, 42, 43, 44, 45, 46, 47, 48, 49, 50, 51, 52, 53, 54, 55, 56, 57, 58, 59, 60, 61], [0, 1, 2, 3, 4, 5, 7, 8, 9, 10, 11, 12, 13, 14, 15, 16, 17, 18, 19, 20, 21, 22, 23, 24, 25, 26, 27, 28, 29, 30, 31, 32, 33, 34, 35, 36, 37, 38, 39, 40, 41, 42, 43, 44, 45, 46, 47, 48, 49, 50, 51, 52, 53, 54, 55, 56, 57, 58, 59, 60, 61])), (0, ([0, 1, 2, 4, 5, 6, 11, 12, 13, 14, 15, 16, 17, 18, 19, 20, 21, 22, 23, 24, 25, 26, 27, 28, 29, 30, 31, 32, 33, 34, 35, 36, 37, 38, 39, 40, 41, 42, 43, 44, 45, 46, 47, 48, 49, 50, 51, 52, 53, 54, 55, 56, 57, 58, 59, 60, 61], [0, 1, 2, 4, 5, 6, 11, 12, 13, 14, 15, 16, 17, 18, 19, 20, 21, 22, 23, 24, 25, 26, 27, 28, 29, 30, 31, 32, 33, 34, 35, 36, 37, 38, 39, 40, 41, 42, 43, 44, 45, 46, 47, 48, 49, 50, 51, 52, 53, 54, 55, 56, 57, 58, 59, 60, 61], [0, 1, 2, 3, 4, 5, 7, 8, 9, 10, 11, 12, 13, 14, 15, 16, 17, 18, 19, 20, 21, 22, 23, 24, 25, 26, 27, 28, 29, 30, 31, 32, 33, 34, 35, 36, 37, 38, 39, 40, 41, 42, 43, 44, 45, 46, 47, 48, 49, 50, 51, 52, 53, 54, 55, 56, 57, 58, 59, 60, 61]))], sk := [], mvs := [], fz := [] }
def f_s_SumTable_a (g0 : List Sc) (a1 : Int) (b2 : Int) : List AV := enc [.p .gr, .p (.int .i64), .p (.int .i64)] [.l g0, .i a1, .i b2]
def f_s_SumTable_i (g0 : List Sc) (a1 : Int) (b2 : Int) : List AV := enc [] []
def f_s_SumTable_en (r : List Sc) : List AV × List AV := (enc [.p (.al 0)] [], enc [.own 3] [.l r])
def f_s_SumTable_M : Calling := addC 29 f_s_IsSet_c (addC 31 f_s_l2Order_c (addC 32 f_s_l3List_c (addC 33 f_s_l2Add_c (noC))))
theorem f_s_SumTable_Mt : CallOk Try.prog (f_s_SumTable_M) := addC_true f_s_IsSet_cc (addC_true f_s_l2Order_cc (addC_true f_s_l3List_cc (addC_true f_s_l2Add_cc (noC_true))))
theorem f_s_SumTable_o : loopsOnce Try.f10 = true := by kernel_rfl
def f_s_SumTable_h2 : List Sh := [.u, .u, .u, .p .el, .u, .u, .u, .own 3, .own 3, .own 3, .p (.int .i64), .p (.int .i64), .u, .u, .u, .u, .u, .u, .u, .u, .u, .u, .u, .u, .u, .u, .u, .u, .u, .u, .u, .u, .u, .u, .u, .u, .u, .u, .u, .u, .u, .u, .u, .u, .u, .u, .u, .u, .u, .u, .u, .u, .u, .u, .u, .u, .u, .u, .u, .u, .u, .u]
def f_s_SumTable_fr2 (g3 : List Sc) (i10 : Int) (s : List Sc × List Sc × List Sc × Int) : List AV := enc f_s_SumTable_h2 [.l g3, .l s.1, .l s.2.1, .l s.2.2.1, .i i10, .i s.2.2.2]
def f_s_SumTable_g2_1 : List Sh := [.u, .u, .u, .p .el, .u, .u, .u, .own 3, .own 3, .own 3, .p (.int .i64), .u, .u, .u, .u, .u, .u, .u, .u, .u, .u, .u, .u, .u, .u, .u, .u, .u, .u, .u, .u, .u, .u, .u, .u, .u, .u, .u, .u, .u, .u, .u, .u, .u, .u, .u, .u, .u, .u, .u, .u, .u, .u, .u, .u, .u, .u, .u, .u, .u, .u, .u]
def f_s_SumTable_x2_1 (g3 : List Sc) (i10 : Int) (e : List Sc × List Sc × List Sc) : X × List AV := (.out 2, enc f_s_SumTable_g2_1 [.l g3, .l e.1, .l e.2.1, .l e.2.2, .i i10])
def f_s_SumTable_x2_2 (g3 : List Sc) (i10 : Int) (_e : Unit) : X × List AV := (.ret, [])
theorem f_s_SumTable_p2 {R : Type} (g3 : List Sc) (i10 : Int) (s : List Sc × List Sc × List Sc × Int) (kN : List Sc × List Sc × List Sc × Int → Option R) (kA : List Sc × List Sc × List Sc → Option R) (kB : Unit → Option R) : f_s_SumTable_k2 g3 i10 s.1 s.2.1 s.2.2.1 s.2.2.2 kN kA = (f_s_SumTable_r2 g3 i10 s).bind (Ro.el kN kA kB) := by
  simp only [f_s_SumTable_k2, f_s_SumTable_r2, brB, boB, someB, noneB, Ro.el]
theorem f_s_SumTable_e2 (g3 : List Sc) (i10 : Int) (s : List Sc × List Sc × List Sc × Int) : EC E0 f_s_SumTable_M H0 f_s_SumTable_F (asL (noL)) 2 (bodyOf Try.f10 2) (f_s_SumTable_fr2 g3 i10 s) (done (klOf f_s_SumTable_F 2)) = f_s_SumTable_k2 g3 i10 s.1 s.2.1 s.2.2.1 s.2.2.2 (fun s => some (.norm, f_s_SumTable_fr2 g3 i10 s)) (fun e => some (f_s_SumTable_x2_1 g3 i10 e)) := by kernel_rfl
theorem f_s_SumTable_l2 (g3 : List Sc) (i10 : Int) : ∀ s r, loopL (f_s_SumTable_r2 g3 i10) s = some r → LS Try.prog f_s_SumTable_F (bodyOf Try.f10 2) (f_s_SumTable_fr2 g3 i10 s) (enX (f_s_SumTable_x2_1 g3 i10) (f_s_SumTable_x2_2 g3 i10) r) :=
  loop_true E0ok f_s_SumTable_Mt (noL_true) f_s_SumTable_o (fun _ h => by cases h) (fun _ h => by cases h) (fun _ h => by cases h) (fun _ h => by cases h) (fun s => (f_s_SumTable_e2 g3 i10 s).trans (f_s_SumTable_p2 g3 i10 s _ _ (fun e => some (f_s_SumTable_x2_2 g3 i10 e))))
def f_s_SumTable_t2 (σ : List AV) : Option (Bool × Bool × (X × List AV) × (X × List AV)) := match dec f_s_SumTable_h2 σ with
  | some [.l g3, .l out7, .l x8, .l y9, .i i10, .i k11] => some (isOne (loopL (f_s_SumTable_r2 g3 i10) (out7, x8, y9, k11)), true, f_s_SumTable_x2_1 g3 i10 (getOne ([], [], []) (loopL (f_s_SumTable_r2 g3 i10) (out7, x8, y9, k11))), (.ret, []))
  | _ => none
theorem f_s_SumTable_tt2 : TTrue Try.prog f_s_SumTable_F Try.f10 2 (f_s_SumTable_t2) := by
  intro σ p r r' h
  unfold f_s_SumTable_t2 at h
  split at h
  · rename_i hd
    rw [← dec_enc hd]
    exact row1 (f_s_SumTable_l2 _ _ _) h
  · cases h
def f_s_SumTable_h0 : List Sh := [.u, .u, .u, .p .el, .u, .u, .u, .own 3, .own 3, .own 3, .p (.int .i64), .u, .u, .u, .u, .u, .u, .u, .u, .u, .u, .u, .u, .u, .u, .u, .u, .u, .u, .u, .u, .u, .u, .u, .u, .u, .u, .u, .u, .u, .u, .u, .u, .u, .u, .u, .u, .u, .u, .u, .u, .u, .u, .u, .u, .u, .u, .u, .u, .u, .u, .u]
def f_s_SumTable_fr0 (g3 : List Sc) (s : List Sc × List Sc × List Sc × Int) : List AV := enc f_s_SumTable_h0 [.l g3, .l s.1, .l s.2.1, .l s.2.2.1, .i s.2.2.2]
def f_s_SumTable_g0_1 : List Sh := [.u, .u, .u, .p .el, .u, .u, .u, .own 3, .own 3, .own 3, .p (.int .i64), .u, .u, .u, .u, .u, .u, .u, .u, .u, .u, .u, .u, .u, .u, .u, .u, .u, .u, .u, .u, .u, .u, .u, .u, .u, .u, .u, .u, .u, .u, .u, .u, .u, .u, .u, .u, .u, .u, .u, .u, .u, .u, .u, .u, .u, .u, .u, .u, .u, .u, .u]
def f_s_SumTable_x0_1 (g3 : List Sc) (e : List Sc × List Sc × List Sc × Int) : X × List AV := (.out 0, enc f_s_SumTable_g0_1 [.l g3, .l e.1, .l e.2.1, .l e.2.2.1, .i e.2.2.2])
def f_s_SumTable_x0_2 (g3 : List Sc) (_e : Unit) : X × List AV := (.ret, [])
theorem f_s_SumTable_p0 {R : Type} (g3 : List Sc) (s : List Sc × List Sc × List Sc × Int) (kN : List Sc × List Sc × List Sc × Int → Option R) (kA : List Sc × List Sc × List Sc × Int → Option R) (kB : Unit → Option R) : f_s_SumTable_k0 g3 s.1 s.2.1 s.2.2.1 s.2.2.2 kN kA = (f_s_SumTable_r0 g3 s).bind (Ro.el kN kA kB) := by
  simp only [f_s_SumTable_k0, f_s_SumTable_r0, brB, bl1B, someB, Ro.el]
theorem f_s_SumTable_e0 (g3 : List Sc) (s : List Sc × List Sc × List Sc × Int) : EC E0 f_s_SumTable_M H0 f_s_SumTable_F (asL (addL 2 (f_s_SumTable_t2) (noL))) 0 (bodyOf Try.f10 0) (f_s_SumTable_fr0 g3 s) (done (klOf f_s_SumTable_F 0)) = f_s_SumTable_k0 g3 s.1 s.2.1 s.2.2.1 s.2.2.2 (fun s => some (.norm, f_s_SumTable_fr0 g3 s)) (fun e => some (f_s_SumTable_x0_1 g3 e)) := by kernel_rfl
theorem f_s_SumTable_l0 (g3 : List Sc) : ∀ s r, loopL (f_s_SumTable_r0 g3) s = some r → LS Try.prog f_s_SumTable_F (bodyOf Try.f10 0) (f_s_SumTable_fr0 g3 s) (enX (f_s_SumTable_x0_1 g3) (f_s_SumTable_x0_2 g3) r) :=
  loop_true E0ok f_s_SumTable_Mt (addL_true (f_s_SumTable_tt2) (noL_true)) f_s_SumTable_o (fun _ h => by cases h) (fun _ h => by cases h) (fun _ h => by cases h) (fun _ h => by cases h) (fun s => (f_s_SumTable_e0 g3 s).trans (f_s_SumTable_p0 g3 s _ _ (fun e => some (f_s_SumTable_x0_2 g3 e))))
def f_s_SumTable_t0 (σ : List AV) : Option (Bool × Bool × (X × List AV) × (X × List AV)) := match dec f_s_SumTable_h0 σ with
  | some [.l g3, .l out7, .l x8, .l y9, .i i10] => some (isOne (loopL (f_s_SumTable_r0 g3) (out7, x8, y9, i10)), true, f_s_SumTable_x0_1 g3 (getOne ([], [], [], 0) (loopL (f_s_SumTable_r0 g3) (out7, x8, y9, i10))), (.ret, []))
  | _ => none
theorem f_s_SumTable_tt0 : TTrue Try.prog f_s_SumTable_F Try.f10 0 (f_s_SumTable_t0) := by
  intro σ p r r' h
  unfold f_s_SumTable_t0 at h
  split at h
  · rename_i hd
    rw [← dec_enc hd]
    exact row1 (f_s_SumTable_l0 _ _) h
  · cases h
theorem f_s_SumTable_p {R : Type} (g0 : List Sc) (a1 : Int) (b2 : Int) (kR : List Sc → Option R) : f_s_SumTable_k g0 a1 b2 kR = (f_s_SumTable_k g0 a1 b2 some).bind kR := by
  simp only [f_s_SumTable_k, brB, boB, bl1B, someB, noneB]
theorem f_s_SumTable_e (g0 : List Sc) (a1 : Int) (b2 : Int) : runFn E0 f_s_SumTable_M H0 f_s_SumTable_F (asL (addL 0 (f_s_SumTable_t0) (addL 2 (f_s_SumTable_t2) (noL)))) Try.f10 (f_s_SumTable_a g0 a1 b2) (f_s_SumTable_i g0 a1 b2) = f_s_SumTable_k g0 a1 b2 (fun r => some (f_s_SumTable_en r)) := by kernel_rfl
theorem f_s_SumTable_ok (g0 : List Sc) (a1 : Int) (b2 : Int) (r : List Sc) (h : f_s_SumTable g0 a1 b2 = some r) : CS Try.prog 10 (f_s_SumTable_a g0 a1 b2) (f_s_SumTable_i g0 a1 b2) (f_s_SumTable_en r).1 (f_s_SumTable_en r).2 :=
  fn_true (Gk := fun k => f_s_SumTable_k g0 a1 b2 k) (en := f_s_SumTable_en) Try.func10 E0ok f_s_SumTable_Mt (addL_true (f_s_SumTable_tt0) (addL_true (f_s_SumTable_tt2) (noL_true))) f_s_SumTable_o (f_s_SumTable_e g0 a1 b2) (f_s_SumTable_p g0 a1 b2) h
def f_s_SumTable_c : CRow := fun args inh => match dec2 [.p .gr, .p (.int .i64), .p (.int .i64)] [] args inh with
  | some ([.l g0, .i a1, .i b2], []) => some ((f_s_SumTable g0 a1 b2).isSome, (f_s_SumTable_en ((f_s_SumTable g0 a1 b2).getD [])).1, (f_s_SumTable_en ((f_s_SumTable g0 a1 b2).getD [])).2)
  | _ => none
theorem f_s_SumTable_cc : CTrue Try.prog 10 f_s_SumTable_c := by
  intro args inh rs out h
  unfold f_s_SumTable_c at h
  split at h
  · rename_i hd
    obtain ⟨h1, h2⟩ := dec2_enc hd
    rw [← h1, ← h2]
    exact rowC (f_s_SumTable_ok _ _ _) h
  · cases h

def f_l_sameInts_F : Fi := { nv := 0, nc := 0, m := 0, vt := [], kl := [(0, ([2, 3, 4, 6, 7, 8, 9, 10, 11, 12, 13, 14, 15, 16, 17, 18, 19, 20, 21, 22, 23, 24, 25], [0, 1, 2, 3, 4, 5, 6, 7, 8, 9, 10, 11, 12, 13, 14, 15, 16, 17, 18, 19, 20, 21, 22, 23, 24, 25], [0, 1, 2, 3, 5, 6, 7, 8, 9, 10, 11, 12, 13, 14, 15, 16, 17, 18, 19, 20, 21, 22, 23, 24, 25]))], sk := [], mvs := [], fz := [] }
def f_l_sameInts_a (a0 : List Sc) (b1 : List Sc) : List AV := enc [.p .sl, .p .sl] [.l a0, .l b1]
def f_l_sameInts_i (a0 : List Sc) (b1 : List Sc) : List AV := enc [] []
def f_l_sameInts_en (r : Bool) : List AV × List AV := (enc [.p .boo] [.b r], enc [] [])
def f_l_sameInts_M : Calling := noC
theorem f_l_sameInts_Mt : CallOk Try.prog (f_l_sameInts_M) := noC_true
theorem f_l_sameInts_o : loopsOnce Try.f9 = true := by kernel_rfl
def f_l_sameInts_h0 : List Sh := [.p .sl, .p .sl, .u, .u, .u, .p (.int .i64), .u, .u, .u, .u, .u, .u, .u, .u, .u, .u, .u, .u, .u, .u, .u, .u, .u, .u, .u, .u]
def f_l_sameInts_fr0 (a0 : List Sc) (b1 : List Sc) (s : Int) : List AV := enc f_l_sameInts_h0 [.l a0, .l b1, .i s]
def f_l_sameInts_g0_1 : List Sh := [.u, .u, .u, .u, .u, .u, .u, .u, .u, .u, .u, .u, .u, .u, .u, .u, .u, .u, .u, .u, .u, .u, .u, .u, .u, .u]
def f_l_sameInts_x0_1 (a0 : List Sc) (b1 : List Sc) (e : Unit) : X × List AV := (.out 0, enc f_l_sameInts_g0_1 [])
def f_l_sameInts_g0_2 : List Sh := [.u, .u, .u, .u, .p .boo, .u, .u, .u, .u, .u, .u, .u, .u, .u, .u, .u, .u, .u, .u, .u, .u, .u, .u, .u, .u, .u]
def f_l_sameInts_x0_2 (a0 : List Sc) (b1 : List Sc) (e : Unit) : X × List AV := (.ret, enc f_l_sameInts_g0_2 [.b false])
theorem f_l_sameInts_p0 {R : Type} (a0 : List Sc) (b1 : List Sc) (s : Int) (kN : Int → Option R) (kA : Unit → Option R) (kB : Unit → Option R) : f_l_sameInts_k0 a0 b1 s kN kA kB = (f_l_sameInts_r0 a0 b1 s).bind (Ro.el kN kA kB) := by
  simp only [f_l_sameInts_k0, f_l_sameInts_r0, brB, someB, noneB, Ro.el]
theorem f_l_sameInts_e0 (a0 : List Sc) (b1 : List Sc) (s : Int) : EC E0 f_l_sameInts_M H0 f_l_sameInts_F (asL (noL)) 0 (bodyOf Try.f9 0) (f_l_sameInts_fr0 a0 b1 s) (done (klOf f_l_sameInts_F 0)) = f_l_sameInts_k0 a0 b1 s (fun s => some (.norm, f_l_sameInts_fr0 a0 b1 s)) (fun e => some (f_l_sameInts_x0_1 a0 b1 e)) (fun e => some (f_l_sameInts_x0_2 a0 b1 e)) := by kernel_rfl
theorem f_l_sameInts_l0 (a0 : List Sc) (b1 : List Sc) : ∀ s r, loopL (f_l_sameInts_r0 a0 b1) s = some r → LS Try.prog f_l_sameInts_F (bodyOf Try.f9 0) (f_l_sameInts_fr0 a0 b1 s) (enX (f_l_sameInts_x0_1 a0 b1) (f_l_sameInts_x0_2 a0 b1) r) :=
  loop_true E0ok f_l_sameInts_Mt (noL_true) f_l_sameInts_o (fun _ h => by cases h) (fun _ h => by cases h) (fun _ h => by cases h) (fun _ h => by cases h) (fun s => (f_l_sameInts_e0 a0 b1 s).trans (f_l_sameInts_p0 a0 b1 s _ _ (fun e => some (f_l_sameInts_x0_2 a0 b1 e))))
def f_l_sameInts_t0 (σ : List AV) : Option (Bool × Bool × (X × List AV) × (X × List AV)) := match dec f_l_sameInts_h0 σ with
  | some [.l a0, .l b1, .i i5] => some ((loopL (f_l_sameInts_r0 a0 b1) i5).isSome, isOne (loopL (f_l_sameInts_r0 a0 b1) i5), f_l_sameInts_x0_1 a0 b1 (getOne () (loopL (f_l_sameInts_r0 a0 b1) i5)), f_l_sameInts_x0_2 a0 b1 (getTwo () (loopL (f_l_sameInts_r0 a0 b1) i5)))
  | _ => none
theorem f_l_sameInts_tt0 : TTrue Try.prog f_l_sameInts_F Try.f9 0 (f_l_sameInts_t0) := by
  intro σ p r r' h
  unfold f_l_sameInts_t0 at h
  split at h
  · rename_i hd
    rw [← dec_enc hd]
    exact row2 (f_l_sameInts_l0 _ _ _) h
  · cases h
theorem f_l_sameInts_p {R : Type} (a0 : List Sc) (b1 : List Sc) (kR : Bool → Option R) : f_l_sameInts_k a0 b1 kR = (f_l_sameInts_k a0 b1 some).bind kR := by
  simp only [f_l_sameInts_k, brB, blB, someB]
theorem f_l_sameInts_e (a0 : List Sc) (b1 : List Sc) : runFn E0 f_l_sameInts_M H0 f_l_sameInts_F (asL (addL 0 (f_l_sameInts_t0) (noL))) Try.f9 (f_l_sameInts_a a0 b1) (f_l_sameInts_i a0 b1) = f_l_sameInts_k a0 b1 (fun r => some (f_l_sameInts_en r)) := by kernel_rfl
theorem f_l_sameInts_ok (a0 : List Sc) (b1 : List Sc) (r : Bool) (h : f_l_sameInts a0 b1 = some r) : CS Try.prog 9 (f_l_sameInts_a a0 b1) (f_l_sameInts_i a0 b1) (f_l_sameInts_en r).1 (f_l_sameInts_en r).2 :=
  fn_true (Gk := fun k => f_l_sameInts_k a0 b1 k) (en := f_l_sameInts_en) Try.func9 E0ok f_l_sameInts_Mt (addL_true (f_l_sameInts_tt0) (noL_true)) f_l_sameInts_o (f_l_sameInts_e a0 b1) (f_l_sameInts_p a0 b1) h
def f_l_sameInts_c : CRow := fun args inh => match dec2 [.p .sl, .p .sl] [] args inh with
  | some ([.l a0, .l b1], []) => some ((f_l_sameInts a0 b1).isSome, (f_l_sameInts_en ((f_l_sameInts a0 b1).getD false)).1, (f_l_sameInts_en ((f_l_sameInts a0 b1).getD false)).2)
  | _ => none
theorem f_l_sameInts_cc : CTrue Try.prog 9 f_l_sameInts_c := by
  intro args inh rs out h
  unfold f_l_sameInts_c at h
  split at h
  · rename_i hd
    obtain ⟨h1, h2⟩ := dec2_enc hd
    rw [← h1, ← h2]
    exact rowC (f_l_sameInts_ok _ _) h
  · cases h

def f_i_areFull_F : Fi := { nv := 0, nc := 0, m := 0, vt := [], kl := [], sk := [], mvs := [], fz := [] }
def f_i_areFull_a (g0 : List Sc) (a1 : Int) (b2 : Int) : List AV := enc [.p .gr, .p (.int .i64), .p (.int .i64)] [.l g0, .i a1, .i b2]
def f_i_areFull_i (g0 : List Sc) (a1 : Int) (b2 : Int) : List AV := enc [] []
def f_i_areFull_en (r : Bool) : List AV × List AV := (enc [.p .boo] [.b r], enc [] [])
def f_i_areFull_M : Calling := addC 24 f_i_areSets_c (noC)
theorem f_i_areFull_Mt : CallOk Try.prog (f_i_areFull_M) := addC_true f_i_areSets_cc (noC_true)
theorem f_i_areFull_o : loopsOnce Try.f37 = true := by kernel_rfl
theorem f_i_areFull_p {R : Type} (g0 : List Sc) (a1 : Int) (b2 : Int) (kR : Bool → Option R) : f_i_areFull_k g0 a1 b2 kR = (f_i_areFull_k g0 a1 b2 some).bind kR := by
  simp only [f_i_areFull_k, brB, boB, someB]
theorem f_i_areFull_e (g0 : List Sc) (a1 : Int) (b2 : Int) : runFn E0 f_i_areFull_M H0 f_i_areFull_F (asL (noL)) Try.f37 (f_i_areFull_a g0 a1 b2) (f_i_areFull_i g0 a1 b2) = f_i_areFull_k g0 a1 b2 (fun r => some (f_i_areFull_en r)) := by kernel_rfl
theorem f_i_areFull_ok (g0 : List Sc) (a1 : Int) (b2 : Int) (r : Bool) (h : f_i_areFull g0 a1 b2 = some r) : CS Try.prog 37 (f_i_areFull_a g0 a1 b2) (f_i_areFull_i g0 a1 b2) (f_i_areFull_en r).1 (f_i_areFull_en r).2 :=
  fn_true (Gk := fun k => f_i_areFull_k g0 a1 b2 k) (en := f_i_areFull_en) Try.func37 E0ok f_i_areFull_Mt (noL_true) f_i_areFull_o (f_i_areFull_e g0 a1 b2) (f_i_areFull_p g0 a1 b2) h
def f_i_areFull_c : CRow := fun args inh => match dec2 [.p .gr, .p (.int .i64), .p (.int .i64)] [] args inh with
  | some ([.l g0, .i a1, .i b2], []) => some ((f_i_areFull g0 a1 b2).isSome, (f_i_areFull_en ((f_i_areFull g0 a1 b2).getD false)).1, (f_i_areFull_en ((f_i_areFull g0 a1 b2).getD false)).2)
  | _ => none
theorem f_i_areFull_cc : CTrue Try.prog 37 f_i_areFull_c := by
  intro args inh rs out h
  unfold f_i_areFull_c at h
  split at h
  · rename_i hd
    obtain ⟨h1, h2⟩ := dec2_enc hd
    rw [← h1, ← h2]
    exact rowC (f_i_areFull_ok _ _ _) h
  · cases h

def f_i_StabilizerOf_F : Fi := { nv := 0, nc := 0, m := 0, vt := [], kl := [(0, ([0, 3, 4, 6, 7, 8, 9, 10, 11, 14, 15, 16, 17, 18, 19, 20, 21, 22, 23, 24, 25, 26, 27], [0, 1, 2, 3, 4, 6, 7, 8, 9, 10, 11, 12, 13, 14, 15, 16, 17, 18, 19, 20, 21, 22, 23, 24, 25, 26, 27], [0, 1, 2, 3, 5, 6, 7, 8, 9, 10, 11, 12, 13, 14, 15, 16, 17, 18, 19, 20, 21, 22, 23, 24, 25, 26, 27]))], sk := [], mvs := [], fz := [] }
def f_i_StabilizerOf_a (g0 : List Sc) (a1 : Int) : List AV := enc [.p .gr, .p (.int .i64)] [.l g0, .i a1]
def f_i_StabilizerOf_i (g0 : List Sc) (a1 : Int) : List AV := enc [] []
def f_i_StabilizerOf_en (r : Int) : List AV × List AV := (enc [.p (.int .i64)] [.i r], enc [] [])
def f_i_StabilizerOf_M : Calling := addC 38 f_i_IsSet_c (addC 26 f_i_OrderOf_c (addC 40 f_i_Group_shift_c (noC)))
theorem f_i_StabilizerOf_Mt : CallOk Try.prog (f_i_StabilizerOf_M) := addC_true f_i_IsSet_cc (addC_true f_i_OrderOf_cc (addC_true f_i_Group_shift_cc (noC_true)))
theorem f_i_StabilizerOf_o : loopsOnce Try.f16 = true := by kernel_rfl
def f_i_StabilizerOf_h0 : List Sh := [.u, .p (.int .i64), .p .el, .u, .u, .p (.int .i64), .u, .u, .u, .u, .u, .u, .p (.int .i64), .p (.int .i64), .u, .u, .u, .u, .u, .u, .u, .u, .u, .u, .u, .u, .u, .u]
def f_i_StabilizerOf_fr0 (a1 : Int) (g2 : List Sc) (t12 : Int) (s : Int × Int) : List AV := enc f_i_StabilizerOf_h0 [.i a1, .l g2, .i s.1, .i t12, .i s.2]
def f_i_StabilizerOf_g0_1 : List Sh := [.u, .u, .u, .u, .u, .p (.int .i64), .u, .u, .u, .u, .u, .u, .u, .u, .u, .u, .u, .u, .u, .u, .u, .u, .u, .u, .u, .u, .u, .u]
def f_i_StabilizerOf_x0_1 (a1 : Int) (g2 : List Sc) (t12 : Int) (e : Int) : X × List AV := (.out 0, enc f_i_StabilizerOf_g0_1 [.i e])
def f_i_StabilizerOf_x0_2 (a1 : Int) (g2 : List Sc) (t12 : Int) (_e : Unit) : X × List AV := (.ret, [])
theorem f_i_StabilizerOf_p0 {R : Type} (a1 : Int) (g2 : List Sc) (t12 : Int) (s : Int × Int) (kN : Int × Int → Option R) (kA : Int → Option R) (kB : Unit → Option R) : f_i_StabilizerOf_k0 a1 g2 t12 s.1 s.2 kN kA = (f_i_StabilizerOf_r0 a1 g2 t12 s).bind (Ro.el kN kA kB) := by
  simp only [f_i_StabilizerOf_k0, f_i_StabilizerOf_r0, brB, boB, someB, noneB, Ro.el]
theorem f_i_StabilizerOf_e0 (a1 : Int) (g2 : List Sc) (t12 : Int) (s : Int × Int) : EC E0 f_i_StabilizerOf_M H0 f_i_StabilizerOf_F (asL (noL)) 0 (bodyOf Try.f16 0) (f_i_StabilizerOf_fr0 a1 g2 t12 s) (done (klOf f_i_StabilizerOf_F 0)) = f_i_StabilizerOf_k0 a1 g2 t12 s.1 s.2 (fun s => some (.norm, f_i_StabilizerOf_fr0 a1 g2 t12 s)) (fun e => some (f_i_StabilizerOf_x0_1 a1 g2 t12 e)) := by kernel_rfl
theorem f_i_StabilizerOf_l0 (a1 : Int) (g2 : List Sc) (t12 : Int) : ∀ s r, loopL (f_i_StabilizerOf_r0 a1 g2 t12) s = some r → LS Try.prog f_i_StabilizerOf_F (bodyOf Try.f16 0) (f_i_StabilizerOf_fr0 a1 g2 t12 s) (enX (f_i_StabilizerOf_x0_1 a1 g2 t12) (f_i_StabilizerOf_x0_2 a1 g2 t12) r) :=
  loop_true E0ok f_i_StabilizerOf_Mt (noL_true) f_i_StabilizerOf_o (fun _ h => by cases h) (fun _ h => by cases h) (fun _ h => by cases h) (fun _ h => by cases h) (fun s => (f_i_StabilizerOf_e0 a1 g2 t12 s).trans (f_i_StabilizerOf_p0 a1 g2 t12 s _ _ (fun e => some (f_i_StabilizerOf_x0_2 a1 g2 t12 e))))
def f_i_StabilizerOf_t0 (σ : List AV) : Option (Bool × Bool × (X × List AV) × (X × List AV)) := match dec f_i_StabilizerOf_h0 σ with
  | some [.i a1, .l g2, .i out5, .i t12, .i t13] => some (isOne (loopL (f_i_StabilizerOf_r0 a1 g2 t12) (out5, t13)), true, f_i_StabilizerOf_x0_1 a1 g2 t12 (getOne 0 (loopL (f_i_StabilizerOf_r0 a1 g2 t12) (out5, t13))), (.ret, []))
  | _ => none
theorem f_i_StabilizerOf_tt0 : TTrue Try.prog f_i_StabilizerOf_F Try.f16 0 (f_i_StabilizerOf_t0) := by
  intro σ p r r' h
  unfold f_i_StabilizerOf_t0 at h
  split at h
  · rename_i hd
    rw [← dec_enc hd]
    exact row1 (f_i_StabilizerOf_l0 _ _ _ _) h
  · cases h
theorem f_i_StabilizerOf_p {R : Type} (g0 : List Sc) (a1 : Int) (kR : Int → Option R) : f_i_StabilizerOf_k g0 a1 kR = (f_i_StabilizerOf_k g0 a1 some).bind kR := by
  simp only [f_i_StabilizerOf_k, brB, boB, bl1B, someB]
theorem f_i_StabilizerOf_e (g0 : List Sc) (a1 : Int) : runFn E0 f_i_StabilizerOf_M H0 f_i_StabilizerOf_F (asL (addL 0 (f_i_StabilizerOf_t0) (noL))) Try.f16 (f_i_StabilizerOf_a g0 a1) (f_i_StabilizerOf_i g0 a1) = f_i_StabilizerOf_k g0 a1 (fun r => some (f_i_StabilizerOf_en r)) := by kernel_rfl
theorem f_i_StabilizerOf_ok (g0 : List Sc) (a1 : Int) (r : Int) (h : f_i_StabilizerOf g0 a1 = some r) : CS Try.prog 16 (f_i_StabilizerOf_a g0 a1) (f_i_StabilizerOf_i g0 a1) (f_i_StabilizerOf_en r).1 (f_i_StabilizerOf_en r).2 :=
  fn_true (Gk := fun k => f_i_StabilizerOf_k g0 a1 k) (en := f_i_StabilizerOf_en) Try.func16 E0ok f_i_StabilizerOf_Mt (addL_true (f_i_StabilizerOf_tt0) (noL_true)) f_i_StabilizerOf_o (f_i_StabilizerOf_e g0 a1) (f_i_StabilizerOf_p g0 a1) h
def f_i_StabilizerOf_c : CRow := fun args inh => match dec2 [.p .gr, .p (.int .i64)] [] args inh with
  | some ([.l g0, .i a1], []) => some ((f_i_StabilizerOf g0 a1).isSome, (f_i_StabilizerOf_en ((f_i_StabilizerOf g0 a1).getD 0)).1, (f_i_StabilizerOf_en ((f_i_StabilizerOf g0 a1).getD 0)).2)
  | _ => none
theorem f_i_StabilizerOf_cc : CTrue Try.prog 16 f_i_StabilizerOf_c := by
  intro args inh rs out h
  unfold f_i_StabilizerOf_c at h
  split at h
  · rename_i hd
    obtain ⟨h1, h2⟩ := dec2_enc hd
    rw [← h1, ← h2]
    exact rowC (f_i_StabilizerOf_ok _ _) h
  · cases h

def f_i_KneserPair_F : Fi := { nv := 0, nc := 0, m := 0, vt := [], kl := [], sk := [], mvs := [], fz := [] }
def f_i_KneserPair_a (g0 : List Sc) (a1 : Int) (b2 : Int) : List AV := enc [.p .gr, .p (.int .i64), .p (.int .i64)] [.l g0, .i a1, .i b2]
def f_i_KneserPair_i (g0 : List Sc) (a1 : Int) (b2 : Int) : List AV := enc [] []
def f_i_KneserPair_en (r : Int × Int × Int × Bool) : List AV × List AV := (enc [.p (.int .i64), .p (.int .i64), .p (.int .i64), .p .boo] [.i r.1, .i r.2.1, .i r.2.2.1, .b r.2.2.2], enc [] [])
def f_i_KneserPair_M : Calling := addC 37 f_i_areFull_c (addC 25 f_i_Group_sum_c (addC 16 f_i_StabilizerOf_c (noC)))
theorem f_i_KneserPair_Mt : CallOk Try.prog (f_i_KneserPair_M) := addC_true f_i_areFull_cc (addC_true f_i_Group_sum_cc (addC_true f_i_StabilizerOf_cc (noC_true)))
theorem f_i_KneserPair_o : loopsOnce Try.f13 = true := by kernel_rfl
theorem f_i_KneserPair_p {R : Type} (g0 : List Sc) (a1 : Int) (b2 : Int) (kR : Int × Int × Int × Bool → Option R) : f_i_KneserPair_k g0 a1 b2 kR = (f_i_KneserPair_k g0 a1 b2 some).bind kR := by
  simp only [f_i_KneserPair_k, brB, boB, someB]
theorem f_i_KneserPair_e (g0 : List Sc) (a1 : Int) (b2 : Int) : runFn E0 f_i_KneserPair_M H0 f_i_KneserPair_F (asL (noL)) Try.f13 (f_i_KneserPair_a g0 a1 b2) (f_i_KneserPair_i g0 a1 b2) = f_i_KneserPair_k g0 a1 b2 (fun r => some (f_i_KneserPair_en r)) := by kernel_rfl
theorem f_i_KneserPair_ok (g0 : List Sc) (a1 : Int) (b2 : Int) (r : Int × Int × Int × Bool) (h : f_i_KneserPair g0 a1 b2 = some r) : CS Try.prog 13 (f_i_KneserPair_a g0 a1 b2) (f_i_KneserPair_i g0 a1 b2) (f_i_KneserPair_en r).1 (f_i_KneserPair_en r).2 :=
  fn_true (Gk := fun k => f_i_KneserPair_k g0 a1 b2 k) (en := f_i_KneserPair_en) Try.func13 E0ok f_i_KneserPair_Mt (noL_true) f_i_KneserPair_o (f_i_KneserPair_e g0 a1 b2) (f_i_KneserPair_p g0 a1 b2) h
def f_i_KneserPair_c : CRow := fun args inh => match dec2 [.p .gr, .p (.int .i64), .p (.int .i64)] [] args inh with
  | some ([.l g0, .i a1, .i b2], []) => some ((f_i_KneserPair g0 a1 b2).isSome, (f_i_KneserPair_en ((f_i_KneserPair g0 a1 b2).getD (0, 0, 0, false))).1, (f_i_KneserPair_en ((f_i_KneserPair g0 a1 b2).getD (0, 0, 0, false))).2)
  | _ => none
theorem f_i_KneserPair_cc : CTrue Try.prog 13 f_i_KneserPair_c := by
  intro args inh rs out h
  unfold f_i_KneserPair_c at h
  split at h
  · rename_i hd
    obtain ⟨h1, h2⟩ := dec2_enc hd
    rw [← h1, ← h2]
    exact rowC (f_i_KneserPair_ok _ _ _) h
  · cases h

def f_i_bits_F : Fi := { nv := 0, nc := 0, m := 0, vt := [], kl := [(0, ([1, 2, 4, 5, 6, 7, 8, 9, 10, 11, 12], [0, 1, 2, 4, 5, 6, 7, 8, 9, 10, 11, 12], [0, 1, 3, 4, 5, 6, 7, 8, 9, 10, 11, 12]))], sk := [], mvs := [], fz := [] }
def f_i_bits_a (a0 : Int) : List AV := enc [.p (.int .i64)] [.i a0]
def f_i_bits_i (a0 : Int) : List AV := enc [] []
def f_i_bits_en (r : Int) : List AV × List AV := (enc [.p (.int .i64)] [.i r], enc [] [])
def f_i_bits_M : Calling := noC
theorem f_i_bits_Mt : CallOk Try.prog (f_i_bits_M) := noC_true
theorem f_i_bits_o : loopsOnce Try.f34 = true := by kernel_rfl
def f_i_bits_h0 : List Sh := [.p (.int .i64), .u, .u, .p (.int .i64), .u, .u, .u, .u, .u, .u, .u, .u, .u]
def f_i_bits_fr0 (s : Int × Int) : List AV := enc f_i_bits_h0 [.i s.1, .i s.2]
def f_i_bits_g0_1 : List Sh := [.u, .u, .u, .p (.int .i64), .u, .u, .u, .u, .u, .u, .u, .u, .u]
def f_i_bits_x0_1 (e : Int) : X × List AV := (.out 0, enc f_i_bits_g0_1 [.i e])
def f_i_bits_x0_2 (_e : Unit) : X × List AV := (.ret, [])
theorem f_i_bits_p0 {R : Type} (s : Int × Int) (kN : Int × Int → Option R) (kA : Int → Option R) (kB : Unit → Option R) : f_i_bits_k0 s.1 s.2 kN kA = (f_i_bits_r0 s).bind (Ro.el kN kA kB) := by
  simp only [f_i_bits_k0, f_i_bits_r0, brB, someB, Ro.el]
theorem f_i_bits_e0 (s : Int × Int) : EC E0 f_i_bits_M H0 f_i_bits_F (asL (noL)) 0 (bodyOf Try.f34 0) (f_i_bits_fr0 s) (done (klOf f_i_bits_F 0)) = f_i_bits_k0 s.1 s.2 (fun s => some (.norm, f_i_bits_fr0 s)) (fun e => some (f_i_bits_x0_1 e)) := by kernel_rfl
theorem f_i_bits_l0 : ∀ s r, loopL (f_i_bits_r0) s = some r → LS Try.prog f_i_bits_F (bodyOf Try.f34 0) (f_i_bits_fr0 s) (enX (f_i_bits_x0_1) (f_i_bits_x0_2) r) :=
  loop_true E0ok f_i_bits_Mt (noL_true) f_i_bits_o (fun _ h => by cases h) (fun _ h => by cases h) (fun _ h => by cases h) (fun _ h => by cases h) (fun s => (f_i_bits_e0 s).trans (f_i_bits_p0 s _ _ (fun e => some (f_i_bits_x0_2 e))))
def f_i_bits_t0 (σ : List AV) : Option (Bool × Bool × (X × List AV) × (X × List AV)) := match dec f_i_bits_h0 σ with
  | some [.i a0, .i n3] => some (isOne (loopL (f_i_bits_r0) (a0, n3)), true, f_i_bits_x0_1 (getOne 0 (loopL (f_i_bits_r0) (a0, n3))), (.ret, []))
  | _ => none
theorem f_i_bits_tt0 : TTrue Try.prog f_i_bits_F Try.f34 0 (f_i_bits_t0) := by
  intro σ p r r' h
  unfold f_i_bits_t0 at h
  split at h
  · rename_i hd
    rw [← dec_enc hd]
    exact row1 (f_i_bits_l0 _) h
  · cases h
theorem f_i_bits_p {R : Type} (a0 : Int) (kR : Int → Option R) : f_i_bits_k a0 kR = (f_i_bits_k a0 some).bind kR := by
  simp only [f_i_bits_k, bl1B, someB]
theorem f_i_bits_e (a0 : Int) : runFn E0 f_i_bits_M H0 f_i_bits_F (asL (addL 0 (f_i_bits_t0) (noL))) Try.f34 (f_i_bits_a a0) (f_i_bits_i a0) = f_i_bits_k a0 (fun r => some (f_i_bits_en r)) := by kernel_rfl
theorem f_i_bits_ok (a0 : Int) (r : Int) (h : f_i_bits a0 = some r) : CS Try.prog 34 (f_i_bits_a a0) (f_i_bits_i a0) (f_i_bits_en r).1 (f_i_bits_en r).2 :=
  fn_true (Gk := fun k => f_i_bits_k a0 k) (en := f_i_bits_en) Try.func34 E0ok f_i_bits_Mt (addL_true (f_i_bits_tt0) (noL_true)) f_i_bits_o (f_i_bits_e a0) (f_i_bits_p a0) h
def f_i_bits_c : CRow := fun args inh => match dec2 [.p (.int .i64)] [] args inh with
  | some ([.i a0], []) => some ((f_i_bits a0).isSome, (f_i_bits_en ((f_i_bits a0).getD 0)).1, (f_i_bits_en ((f_i_bits a0).getD 0)).2)
  | _ => none
theorem f_i_bits_cc : CTrue Try.prog 34 f_i_bits_c := by
  intro args inh rs out h
  unfold f_i_bits_c at h
  split at h
  · rename_i hd
    obtain ⟨h1, h2⟩ := dec2_enc hd
    rw [← h1, ← h2]
    exact rowC (f_i_bits_ok _) h
  · cases h

def f_i_KneserBound_F : Fi := { nv := 0, nc := 0, m := 0, vt := [], kl := [], sk := [], mvs := [], fz := [] }
def f_i_KneserBound_a (g0 : List Sc) (a1 : Int) (b2 : Int) : List AV := enc [.p .gr, .p (.int .i64), .p (.int .i64)] [.l g0, .i a1, .i b2]
def f_i_KneserBound_i (g0 : List Sc) (a1 : Int) (b2 : Int) : List AV := enc [] []
def f_i_KneserBound_en (r : Int) : List AV × List AV := (enc [.p (.int .i64)] [.i r], enc [] [])
def f_i_KneserBound_M : Calling := addC 13 f_i_KneserPair_c (addC 34 f_i_bits_c (noC))
theorem f_i_KneserBound_Mt : CallOk Try.prog (f_i_KneserBound_M) := addC_true f_i_KneserPair_cc (addC_true f_i_bits_cc (noC_true))
theorem f_i_KneserBound_o : loopsOnce Try.f11 = true := by kernel_rfl
theorem f_i_KneserBound_p {R : Type} (g0 : List Sc) (a1 : Int) (b2 : Int) (kR : Int → Option R) : f_i_KneserBound_k g0 a1 b2 kR = (f_i_KneserBound_k g0 a1 b2 some).bind kR := by
  simp only [f_i_KneserBound_k, brB, boB, someB]
theorem f_i_KneserBound_e (g0 : List Sc) (a1 : Int) (b2 : Int) : runFn E0 f_i_KneserBound_M H0 f_i_KneserBound_F (asL (noL)) Try.f11 (f_i_KneserBound_a g0 a1 b2) (f_i_KneserBound_i g0 a1 b2) = f_i_KneserBound_k g0 a1 b2 (fun r => some (f_i_KneserBound_en r)) := by kernel_rfl
theorem f_i_KneserBound_ok (g0 : List Sc) (a1 : Int) (b2 : Int) (r : Int) (h : f_i_KneserBound g0 a1 b2 = some r) : CS Try.prog 11 (f_i_KneserBound_a g0 a1 b2) (f_i_KneserBound_i g0 a1 b2) (f_i_KneserBound_en r).1 (f_i_KneserBound_en r).2 :=
  fn_true (Gk := fun k => f_i_KneserBound_k g0 a1 b2 k) (en := f_i_KneserBound_en) Try.func11 E0ok f_i_KneserBound_Mt (noL_true) f_i_KneserBound_o (f_i_KneserBound_e g0 a1 b2) (f_i_KneserBound_p g0 a1 b2) h
def f_i_KneserBound_c : CRow := fun args inh => match dec2 [.p .gr, .p (.int .i64), .p (.int .i64)] [] args inh with
  | some ([.l g0, .i a1, .i b2], []) => some ((f_i_KneserBound g0 a1 b2).isSome, (f_i_KneserBound_en ((f_i_KneserBound g0 a1 b2).getD 0)).1, (f_i_KneserBound_en ((f_i_KneserBound g0 a1 b2).getD 0)).2)
  | _ => none
theorem f_i_KneserBound_cc : CTrue Try.prog 11 f_i_KneserBound_c := by
  intro args inh rs out h
  unfold f_i_KneserBound_c at h
  split at h
  · rename_i hd
    obtain ⟨h1, h2⟩ := dec2_enc hd
    rw [← h1, ← h2]
    exact rowC (f_i_KneserBound_ok _ _ _) h
  · cases h

def f_s_l6Stabilizer_F : Fi := { nv := 0, nc := 0, m := 0, vt := [], kl := [(0, ([0, 3, 4, 7, 8, 9, 10, 11, 12, 13, 14, 15, 16, 17, 18, 19, 20, 21, 22, 23], [0, 1, 2, 3, 4, 6, 7, 8, 9, 10, 11, 12, 13, 14, 15, 16, 17, 18, 19, 20, 21, 22, 23], [0, 1, 2, 3, 5, 6, 7, 8, 9, 10, 11, 12, 13, 14, 15, 16, 17, 18, 19, 20, 21, 22, 23]))], sk := [], mvs := [], fz := [] }
def f_s_l6Stabilizer_a (g0 : List Sc) (a1 : Int) : List AV := enc [.p .gr, .p (.int .i64)] [.l g0, .i a1]
def f_s_l6Stabilizer_i (g0 : List Sc) (a1 : Int) : List AV := enc [] []
def f_s_l6Stabilizer_en (r : Int) : List AV × List AV := (enc [.p (.int .i64)] [.i r], enc [] [])
def f_s_l6Stabilizer_M : Calling := addC 31 f_s_l2Order_c (addC 50 f_s_l3Shift_c (noC))
theorem f_s_l6Stabilizer_Mt : CallOk Try.prog (f_s_l6Stabilizer_M) := addC_true f_s_l2Order_cc (addC_true f_s_l3Shift_cc (noC_true))
theorem f_s_l6Stabilizer_o : loopsOnce Try.f35 = true := by kernel_rfl
def f_s_l6Stabilizer_h0 : List Sh := [.u, .p (.int .i64), .p .el, .u, .u, .p (.int .i64), .p (.int .i64), .u, .u, .u, .u, .u, .u, .u, .u, .u, .u, .u, .u, .u, .u, .u, .u, .u]
def f_s_l6Stabilizer_fr0 (a1 : Int) (g2 : List Sc) (s : Int × Int) : List AV := enc f_s_l6Stabilizer_h0 [.i a1, .l g2, .i s.1, .i s.2]
def f_s_l6Stabilizer_g0_1 : List Sh := [.u, .u, .u, .u, .u, .p (.int .i64), .u, .u, .u, .u, .u, .u, .u, .u, .u, .u, .u, .u, .u, .u, .u, .u, .u, .u]
def f_s_l6Stabilizer_x0_1 (a1 : Int) (g2 : List Sc) (e : Int) : X × List AV := (.out 0, enc f_s_l6Stabilizer_g0_1 [.i e])
def f_s_l6Stabilizer_x0_2 (a1 : Int) (g2 : List Sc) (_e : Unit) : X × List AV := (.ret, [])
theorem f_s_l6Stabilizer_p0 {R : Type} (a1 : Int) (g2 : List Sc) (s : Int × Int) (kN : Int × Int → Option R) (kA : Int → Option R) (kB : Unit → Option R) : f_s_l6Stabilizer_k0 a1 g2 s.1 s.2 kN kA = (f_s_l6Stabilizer_r0 a1 g2 s).bind (Ro.el kN kA kB) := by
  simp only [f_s_l6Stabilizer_k0, f_s_l6Stabilizer_r0, brB, boB, someB, noneB, Ro.el]
theorem f_s_l6Stabilizer_e0 (a1 : Int) (g2 : List Sc) (s : Int × Int) : EC E0 f_s_l6Stabilizer_M H0 f_s_l6Stabilizer_F (asL (noL)) 0 (bodyOf Try.f35 0) (f_s_l6Stabilizer_fr0 a1 g2 s) (done (klOf f_s_l6Stabilizer_F 0)) = f_s_l6Stabilizer_k0 a1 g2 s.1 s.2 (fun s => some (.norm, f_s_l6Stabilizer_fr0 a1 g2 s)) (fun e => some (f_s_l6Stabilizer_x0_1 a1 g2 e)) := by kernel_rfl
theorem f_s_l6Stabilizer_l0 (a1 : Int) (g2 : List Sc) : ∀ s r, loopL (f_s_l6Stabilizer_r0 a1 g2) s = some r → LS Try.prog f_s_l6Stabilizer_F (bodyOf Try.f35 0) (f_s_l6Stabilizer_fr0 a1 g2 s) (enX (f_s_l6Stabilizer_x0_1 a1 g2) (f_s_l6Stabilizer_x0_2 a1 g2) r) :=
  loop_true E0ok f_s_l6Stabilizer_Mt (noL_true) f_s_l6Stabilizer_o (fun _ h => by cases h) (fun _ h => by cases h) (fun _ h => by cases h) (fun _ h => by cases h) (fun s => (f_s_l6Stabilizer_e0 a1 g2 s).trans (f_s_l6Stabilizer_p0 a1 g2 s _ _ (fun e => some (f_s_l6Stabilizer_x0_2 a1 g2 e))))
def f_s_l6Stabilizer_t0 (σ : List AV) : Option (Bool × Bool × (X × List AV) × (X × List AV)) := match dec f_s_l6Stabilizer_h0 σ with
  | some [.i a1, .l g2, .i out5, .i x6] => some (isOne (loopL (f_s_l6Stabilizer_r0 a1 g2) (out5, x6)), true, f_s_l6Stabilizer_x0_1 a1 g2 (getOne 0 (loopL (f_s_l6Stabilizer_r0 a1 g2) (out5, x6))), (.ret, []))
  | _ => none
theorem f_s_l6Stabilizer_tt0 : TTrue Try.prog f_s_l6Stabilizer_F Try.f35 0 (f_s_l6Stabilizer_t0) := by
  intro σ p r r' h
  unfold f_s_l6Stabilizer_t0 at h
  split at h
  · rename_i hd
    rw [← dec_enc hd]
    exact row1 (f_s_l6Stabilizer_l0 _ _ _) h
  · cases h
theorem f_s_l6Stabilizer_p {R : Type} (g0 : List Sc) (a1 : Int) (kR : Int → Option R) : f_s_l6Stabilizer_k g0 a1 kR = (f_s_l6Stabilizer_k g0 a1 some).bind kR := by
  simp only [f_s_l6Stabilizer_k, bl1B, someB]
theorem f_s_l6Stabilizer_e (g0 : List Sc) (a1 : Int) : runFn E0 f_s_l6Stabilizer_M H0 f_s_l6Stabilizer_F (asL (addL 0 (f_s_l6Stabilizer_t0) (noL))) Try.f35 (f_s_l6Stabilizer_a g0 a1) (f_s_l6Stabilizer_i g0 a1) = f_s_l6Stabilizer_k g0 a1 (fun r => some (f_s_l6Stabilizer_en r)) := by kernel_rfl
theorem f_s_l6Stabilizer_ok (g0 : List Sc) (a1 : Int) (r : Int) (h : f_s_l6Stabilizer g0 a1 = some r) : CS Try.prog 35 (f_s_l6Stabilizer_a g0 a1) (f_s_l6Stabilizer_i g0 a1) (f_s_l6Stabilizer_en r).1 (f_s_l6Stabilizer_en r).2 :=
  fn_true (Gk := fun k => f_s_l6Stabilizer_k g0 a1 k) (en := f_s_l6Stabilizer_en) Try.func35 E0ok f_s_l6Stabilizer_Mt (addL_true (f_s_l6Stabilizer_tt0) (noL_true)) f_s_l6Stabilizer_o (f_s_l6Stabilizer_e g0 a1) (f_s_l6Stabilizer_p g0 a1) h
def f_s_l6Stabilizer_c : CRow := fun args inh => match dec2 [.p .gr, .p (.int .i64)] [] args inh with
  | some ([.l g0, .i a1], []) => some ((f_s_l6Stabilizer g0 a1).isSome, (f_s_l6Stabilizer_en ((f_s_l6Stabilizer g0 a1).getD 0)).1, (f_s_l6Stabilizer_en ((f_s_l6Stabilizer g0 a1).getD 0)).2)
  | _ => none
theorem f_s_l6Stabilizer_cc : CTrue Try.prog 35 f_s_l6Stabilizer_c := by
  intro args inh rs out h
  unfold f_s_l6Stabilizer_c at h
  split at h
  · rename_i hd
    obtain ⟨h1, h2⟩ := dec2_enc hd
    rw [← h1, ← h2]
    exact rowC (f_s_l6Stabilizer_ok _ _) h
  · cases h

def f_s_l3Bits_F : Fi := { nv := 0, nc := 0, m := 0, vt := [], kl := [(0, ([0, 1, 2, 5, 6, 7, 8, 9, 10, 11, 12, 13, 14], [0, 1, 2, 4, 5, 6, 7, 8, 9, 10, 11, 12, 13, 14], [0, 1, 3, 4, 5, 6, 7, 8, 9, 10, 11, 12, 13, 14]))], sk := [], mvs := [], fz := [] }
def f_s_l3Bits_a (a0 : Int) : List AV := enc [.p (.int .i64)] [.i a0]
def f_s_l3Bits_i (a0 : Int) : List AV := enc [] []
def f_s_l3Bits_en (r : Int) : List AV × List AV := (enc [.p (.int .i64)] [.i r], enc [] [])
def f_s_l3Bits_M : Calling := noC
theorem f_s_l3Bits_Mt : CallOk Try.prog (f_s_l3Bits_M) := noC_true
theorem f_s_l3Bits_o : loopsOnce Try.f36 = true := by kernel_rfl
def f_s_l3Bits_h0 : List Sh := [.u, .u, .u, .p (.int .i64), .p (.int .i64), .u, .u, .u, .u, .u, .u, .u, .u, .u, .u]
def f_s_l3Bits_fr0 (s : Int × Int) : List AV := enc f_s_l3Bits_h0 [.i s.1, .i s.2]
def f_s_l3Bits_g0_1 : List Sh := [.u, .u, .u, .p (.int .i64), .u, .u, .u, .u, .u, .u, .u, .u, .u, .u, .u]
def f_s_l3Bits_x0_1 (e : Int) : X × List AV := (.out 0, enc f_s_l3Bits_g0_1 [.i e])
def f_s_l3Bits_x0_2 (_e : Unit) : X × List AV := (.ret, [])
theorem f_s_l3Bits_p0 {R : Type} (s : Int × Int) (kN : Int × Int → Option R) (kA : Int → Option R) (kB : Unit → Option R) : f_s_l3Bits_k0 s.1 s.2 kN kA = (f_s_l3Bits_r0 s).bind (Ro.el kN kA kB) := by
  simp only [f_s_l3Bits_k0, f_s_l3Bits_r0, brB, someB, Ro.el]
theorem f_s_l3Bits_e0 (s : Int × Int) : EC E0 f_s_l3Bits_M H0 f_s_l3Bits_F (asL (noL)) 0 (bodyOf Try.f36 0) (f_s_l3Bits_fr0 s) (done (klOf f_s_l3Bits_F 0)) = f_s_l3Bits_k0 s.1 s.2 (fun s => some (.norm, f_s_l3Bits_fr0 s)) (fun e => some (f_s_l3Bits_x0_1 e)) := by kernel_rfl
theorem f_s_l3Bits_l0 : ∀ s r, loopL (f_s_l3Bits_r0) s = some r → LS Try.prog f_s_l3Bits_F (bodyOf Try.f36 0) (f_s_l3Bits_fr0 s) (enX (f_s_l3Bits_x0_1) (f_s_l3Bits_x0_2) r) :=
  loop_true E0ok f_s_l3Bits_Mt (noL_true) f_s_l3Bits_o (fun _ h => by cases h) (fun _ h => by cases h) (fun _ h => by cases h) (fun _ h => by cases h) (fun s => (f_s_l3Bits_e0 s).trans (f_s_l3Bits_p0 s _ _ (fun e => some (f_s_l3Bits_x0_2 e))))
def f_s_l3Bits_t0 (σ : List AV) : Option (Bool × Bool × (X × List AV) × (X × List AV)) := match dec f_s_l3Bits_h0 σ with
  | some [.i n3, .i x4] => some (isOne (loopL (f_s_l3Bits_r0) (n3, x4)), true, f_s_l3Bits_x0_1 (getOne 0 (loopL (f_s_l3Bits_r0) (n3, x4))), (.ret, []))
  | _ => none
theorem f_s_l3Bits_tt0 : TTrue Try.prog f_s_l3Bits_F Try.f36 0 (f_s_l3Bits_t0) := by
  intro σ p r r' h
  unfold f_s_l3Bits_t0 at h
  split at h
  · rename_i hd
    rw [← dec_enc hd]
    exact row1 (f_s_l3Bits_l0 _) h
  · cases h
theorem f_s_l3Bits_p {R : Type} (a0 : Int) (kR : Int → Option R) : f_s_l3Bits_k a0 kR = (f_s_l3Bits_k a0 some).bind kR := by
  simp only [f_s_l3Bits_k, bl1B, someB]
theorem f_s_l3Bits_e (a0 : Int) : runFn E0 f_s_l3Bits_M H0 f_s_l3Bits_F (asL (addL 0 (f_s_l3Bits_t0) (noL))) Try.f36 (f_s_l3Bits_a a0) (f_s_l3Bits_i a0) = f_s_l3Bits_k a0 (fun r => some (f_s_l3Bits_en r)) := by kernel_rfl
theorem f_s_l3Bits_ok (a0 : Int) (r : Int) (h : f_s_l3Bits a0 = some r) : CS Try.prog 36 (f_s_l3Bits_a a0) (f_s_l3Bits_i a0) (f_s_l3Bits_en r).1 (f_s_l3Bits_en r).2 :=
  fn_true (Gk := fun k => f_s_l3Bits_k a0 k) (en := f_s_l3Bits_en) Try.func36 E0ok f_s_l3Bits_Mt (addL_true (f_s_l3Bits_tt0) (noL_true)) f_s_l3Bits_o (f_s_l3Bits_e a0) (f_s_l3Bits_p a0) h
def f_s_l3Bits_c : CRow := fun args inh => match dec2 [.p (.int .i64)] [] args inh with
  | some ([.i a0], []) => some ((f_s_l3Bits a0).isSome, (f_s_l3Bits_en ((f_s_l3Bits a0).getD 0)).1, (f_s_l3Bits_en ((f_s_l3Bits a0).getD 0)).2)
  | _ => none
theorem f_s_l3Bits_cc : CTrue Try.prog 36 f_s_l3Bits_c := by
  intro args inh rs out h
  unfold f_s_l3Bits_c at h
  split at h
  · rename_i hd
    obtain ⟨h1, h2⟩ := dec2_enc hd
    rw [← h1, ← h2]
    exact rowC (f_s_l3Bits_ok _) h
  · cases h

def f_s_KneserBound_F : Fi := { nv := 0, nc := 0, m := 0, vt := [], kl := [], sk := [], mvs := [], fz := [] }
def f_s_KneserBound_a (g0 : List Sc) (a1 : Int) (b2 : Int) : List AV := enc [.p .gr, .p (.int .i64), .p (.int .i64)] [.l g0, .i a1, .i b2]
def f_s_KneserBound_i (g0 : List Sc) (a1 : Int) (b2 : Int) : List AV := enc [] []
def f_s_KneserBound_en (r : Int) : List AV × List AV := (enc [.p (.int .i64)] [.i r], enc [] [])
def f_s_KneserBound_M : Calling := addC 29 f_s_IsSet_c (addC 30 f_s_l4Sum_c (addC 35 f_s_l6Stabilizer_c (addC 36 f_s_l3Bits_c (noC))))
theorem f_s_KneserBound_Mt : CallOk Try.prog (f_s_KneserBound_M) := addC_true f_s_IsSet_cc (addC_true f_s_l4Sum_cc (addC_true f_s_l6Stabilizer_cc (addC_true f_s_l3Bits_cc (noC_true))))
theorem f_s_KneserBound_o : loopsOnce Try.f12 = true := by kernel_rfl
theorem f_s_KneserBound_p {R : Type} (g0 : List Sc) (a1 : Int) (b2 : Int) (kR : Int → Option R) : f_s_KneserBound_k g0 a1 b2 kR = (f_s_KneserBound_k g0 a1 b2 some).bind kR := by
  simp only [f_s_KneserBound_k, brB, boB, someB]
theorem f_s_KneserBound_e (g0 : List Sc) (a1 : Int) (b2 : Int) : runFn E0 f_s_KneserBound_M H0 f_s_KneserBound_F (asL (noL)) Try.f12 (f_s_KneserBound_a g0 a1 b2) (f_s_KneserBound_i g0 a1 b2) = f_s_KneserBound_k g0 a1 b2 (fun r => some (f_s_KneserBound_en r)) := by kernel_rfl
theorem f_s_KneserBound_ok (g0 : List Sc) (a1 : Int) (b2 : Int) (r : Int) (h : f_s_KneserBound g0 a1 b2 = some r) : CS Try.prog 12 (f_s_KneserBound_a g0 a1 b2) (f_s_KneserBound_i g0 a1 b2) (f_s_KneserBound_en r).1 (f_s_KneserBound_en r).2 :=
  fn_true (Gk := fun k => f_s_KneserBound_k g0 a1 b2 k) (en := f_s_KneserBound_en) Try.func12 E0ok f_s_KneserBound_Mt (noL_true) f_s_KneserBound_o (f_s_KneserBound_e g0 a1 b2) (f_s_KneserBound_p g0 a1 b2) h
def f_s_KneserBound_c : CRow := fun args inh => match dec2 [.p .gr, .p (.int .i64), .p (.int .i64)] [] args inh with
  | some ([.l g0, .i a1, .i b2], []) => some ((f_s_KneserBound g0 a1 b2).isSome, (f_s_KneserBound_en ((f_s_KneserBound g0 a1 b2).getD 0)).1, (f_s_KneserBound_en ((f_s_KneserBound g0 a1 b2).getD 0)).2)
  | _ => none
theorem f_s_KneserBound_cc : CTrue Try.prog 12 f_s_KneserBound_c := by
  intro args inh rs out h
  unfold f_s_KneserBound_c at h
  split at h
  · rename_i hd
    obtain ⟨h1, h2⟩ := dec2_enc hd
    rw [← h1, ← h2]
    exact rowC (f_s_KneserBound_ok _ _ _) h
  · cases h

def f_s_CountSet_F : Fi := { nv := 0, nc := 0, m := 0, vt := [], kl := [], sk := [], mvs := [], fz := [] }
def f_s_CountSet_a (g0 : List Sc) (a1 : Int) : List AV := enc [.p .gr, .p (.int .i64)] [.l g0, .i a1]
def f_s_CountSet_i (g0 : List Sc) (a1 : Int) : List AV := enc [] []
def f_s_CountSet_en (r : Int) : List AV × List AV := (enc [.p (.int .i64)] [.i r], enc [] [])
def f_s_CountSet_M : Calling := addC 29 f_s_IsSet_c (addC 36 f_s_l3Bits_c (noC))
theorem f_s_CountSet_Mt : CallOk Try.prog (f_s_CountSet_M) := addC_true f_s_IsSet_cc (addC_true f_s_l3Bits_cc (noC_true))
theorem f_s_CountSet_o : loopsOnce Try.f14 = true := by kernel_rfl
theorem f_s_CountSet_p {R : Type} (g0 : List Sc) (a1 : Int) (kR : Int → Option R) : f_s_CountSet_k g0 a1 kR = (f_s_CountSet_k g0 a1 some).bind kR := by
  simp only [f_s_CountSet_k, brB, boB, someB]
theorem f_s_CountSet_e (g0 : List Sc) (a1 : Int) : runFn E0 f_s_CountSet_M H0 f_s_CountSet_F (asL (noL)) Try.f14 (f_s_CountSet_a g0 a1) (f_s_CountSet_i g0 a1) = f_s_CountSet_k g0 a1 (fun r => some (f_s_CountSet_en r)) := by kernel_rfl
theorem f_s_CountSet_ok (g0 : List Sc) (a1 : Int) (r : Int) (h : f_s_CountSet g0 a1 = some r) : CS Try.prog 14 (f_s_CountSet_a g0 a1) (f_s_CountSet_i g0 a1) (f_s_CountSet_en r).1 (f_s_CountSet_en r).2 :=
  fn_true (Gk := fun k => f_s_CountSet_k g0 a1 k) (en := f_s_CountSet_en) Try.func14 E0ok f_s_CountSet_Mt (noL_true) f_s_CountSet_o (f_s_CountSet_e g0 a1) (f_s_CountSet_p g0 a1) h
def f_s_CountSet_c : CRow := fun args inh => match dec2 [.p .gr, .p (.int .i64)] [] args inh with
  | some ([.l g0, .i a1], []) => some ((f_s_CountSet g0 a1).isSome, (f_s_CountSet_en ((f_s_CountSet g0 a1).getD 0)).1, (f_s_CountSet_en ((f_s_CountSet g0 a1).getD 0)).2)
  | _ => none
theorem f_s_CountSet_cc : CTrue Try.prog 14 f_s_CountSet_c := by
  intro args inh rs out h
  unfold f_s_CountSet_c at h
  split at h
  · rename_i hd
    obtain ⟨h1, h2⟩ := dec2_enc hd
    rw [← h1, ← h2]
    exact rowC (f_s_CountSet_ok _ _) h
  · cases h

def f_i_Group_negate_F : Fi := { nv := 0, nc := 0, m := 0, vt := [], kl := [(0, ([0, 2, 3, 4, 7, 8, 9, 13, 14, 15, 16, 17, 18, 19, 20, 21, 22, 23, 24, 25, 26, 27, 28, 29, 30, 31, 32, 33, 34], [0, 1, 2, 3, 4, 6, 7, 8, 9, 10, 11, 12, 13, 14, 15, 16, 17, 18, 19, 20, 21, 22, 23, 24, 25, 26, 27, 28, 29, 30, 31, 32, 33, 34], [0, 1, 2, 3, 5, 6, 7, 8, 9, 10, 11, 12, 13, 14, 15, 16, 17, 18, 19, 20, 21, 22, 23, 24, 25, 26, 27, 28, 29, 30, 31, 32, 33, 34]))], sk := [], mvs := [], fz := [] }
def f_i_Group_negate_a (g0 : List Sc) (x1 : Int) : List AV := enc [.p .gr, .p (.int .i64)] [.l g0, .i x1]
def f_i_Group_negate_i (g0 : List Sc) (x1 : Int) : List AV := enc [] []
def f_i_Group_negate_en (r : Int) : List AV × List AV := (enc [.p (.int .i64)] [.i r], enc [] [])
def f_i_Group_negate_M : Calling := noC
theorem f_i_Group_negate_Mt : CallOk Try.prog (f_i_Group_negate_M) := noC_true
theorem f_i_Group_negate_o : loopsOnce Try.f51 = true := by kernel_rfl
def f_i_Group_negate_h0 : List Sh := [.u, .p (.int .i64), .u, .u, .u, .p (.int .i64), .p (.int .i64), .u, .u, .u, .p .sl, .p (.int .i64), .p (.int .i64), .u, .u, .u, .u, .u, .u, .u, .u, .u, .u, .u, .u, .u, .u, .u, .u, .u, .u, .u, .u, .u, .u]
def f_i_Group_negate_fr0 (t10 : List Sc) (t11 : Int) (s : Int × Int × Int × Int) : List AV := enc f_i_Group_negate_h0 [.i s.1, .i s.2.1, .i s.2.2.1, .l t10, .i t11, .i s.2.2.2]
def f_i_Group_negate_g0_1 : List Sh := [.u, .u, .u, .u, .u, .p (.int .i64), .u, .u, .u, .u, .u, .u, .u, .u, .u, .u, .u, .u, .u, .u, .u, .u, .u, .u, .u, .u, .u, .u, .u, .u, .u, .u, .u, .u, .u]
def f_i_Group_negate_x0_1 (t10 : List Sc) (t11 : Int) (e : Int) : X × List AV := (.out 0, enc f_i_Group_negate_g0_1 [.i e])
def f_i_Group_negate_x0_2 (t10 : List Sc) (t11 : Int) (_e : Unit) : X × List AV := (.ret, [])
theorem f_i_Group_negate_p0 {R : Type} (t10 : List Sc) (t11 : Int) (s : Int × Int × Int × Int) (kN : Int × Int × Int × Int → Option R) (kA : Int → Option R) (kB : Unit → Option R) : f_i_Group_negate_k0 t10 t11 s.1 s.2.1 s.2.2.1 s.2.2.2 kN kA = (f_i_Group_negate_r0 t10 t11 s).bind (Ro.el kN kA kB) := by
  simp only [f_i_Group_negate_k0, f_i_Group_negate_r0, brB, someB, noneB, Ro.el]
theorem f_i_Group_negate_e0 (t10 : List Sc) (t11 : Int) (s : Int × Int × Int × Int) : EC E0 f_i_Group_negate_M H0 f_i_Group_negate_F (asL (noL)) 0 (bodyOf Try.f51 0) (f_i_Group_negate_fr0 t10 t11 s) (done (klOf f_i_Group_negate_F 0)) = f_i_Group_negate_k0 t10 t11 s.1 s.2.1 s.2.2.1 s.2.2.2 (fun s => some (.norm, f_i_Group_negate_fr0 t10 t11 s)) (fun e => some (f_i_Group_negate_x0_1 t10 t11 e)) := by kernel_rfl
theorem f_i_Group_negate_l0 (t10 : List Sc) (t11 : Int) : ∀ s r, loopL (f_i_Group_negate_r0 t10 t11) s = some r → LS Try.prog f_i_Group_negate_F (bodyOf Try.f51 0) (f_i_Group_negate_fr0 t10 t11 s) (enX (f_i_Group_negate_x0_1 t10 t11) (f_i_Group_negate_x0_2 t10 t11) r) :=
  loop_true E0ok f_i_Group_negate_Mt (noL_true) f_i_Group_negate_o (fun _ h => by cases h) (fun _ h => by cases h) (fun _ h => by cases h) (fun _ h => by cases h) (fun s => (f_i_Group_negate_e0 t10 t11 s).trans (f_i_Group_negate_p0 t10 t11 s _ _ (fun e => some (f_i_Group_negate_x0_2 t10 t11 e))))
def f_i_Group_negate_t0 (σ : List AV) : Option (Bool × Bool × (X × List AV) × (X × List AV)) := match dec f_i_Group_negate_h0 σ with
  | some [.i x1, .i sum5, .i unit6, .l t10, .i t11, .i t12] => some (isOne (loopL (f_i_Group_negate_r0 t10 t11) (x1, sum5, unit6, t12)), true, f_i_Group_negate_x0_1 t10 t11 (getOne 0 (loopL (f_i_Group_negate_r0 t10 t11) (x1, sum5, unit6, t12))), (.ret, []))
  | _ => none
theorem f_i_Group_negate_tt0 : TTrue Try.prog f_i_Group_negate_F Try.f51 0 (f_i_Group_negate_t0) := by
  intro σ p r r' h
  unfold f_i_Group_negate_t0 at h
  split at h
  · rename_i hd
    rw [← dec_enc hd]
    exact row1 (f_i_Group_negate_l0 _ _ _) h
  · cases h
theorem f_i_Group_negate_p {R : Type} (g0 : List Sc) (x1 : Int) (kR : Int → Option R) : f_i_Group_negate_k g0 x1 kR = (f_i_Group_negate_k g0 x1 some).bind kR := by
  simp only [f_i_Group_negate_k, bl1B, someB]
theorem f_i_Group_negate_e (g0 : List Sc) (x1 : Int) : runFn E0 f_i_Group_negate_M H0 f_i_Group_negate_F (asL (addL 0 (f_i_Group_negate_t0) (noL))) Try.f51 (f_i_Group_negate_a g0 x1) (f_i_Group_negate_i g0 x1) = f_i_Group_negate_k g0 x1 (fun r => some (f_i_Group_negate_en r)) := by kernel_rfl
theorem f_i_Group_negate_ok (g0 : List Sc) (x1 : Int) (r : Int) (h : f_i_Group_negate g0 x1 = some r) : CS Try.prog 51 (f_i_Group_negate_a g0 x1) (f_i_Group_negate_i g0 x1) (f_i_Group_negate_en r).1 (f_i_Group_negate_en r).2 :=
  fn_true (Gk := fun k => f_i_Group_negate_k g0 x1 k) (en := f_i_Group_negate_en) Try.func51 E0ok f_i_Group_negate_Mt (addL_true (f_i_Group_negate_tt0) (noL_true)) f_i_Group_negate_o (f_i_Group_negate_e g0 x1) (f_i_Group_negate_p g0 x1) h
def f_i_Group_negate_c : CRow := fun args inh => match dec2 [.p .gr, .p (.int .i64)] [] args inh with
  | some ([.l g0, .i x1], []) => some ((f_i_Group_negate g0 x1).isSome, (f_i_Group_negate_en ((f_i_Group_negate g0 x1).getD 0)).1, (f_i_Group_negate_en ((f_i_Group_negate g0 x1).getD 0)).2)
  | _ => none
theorem f_i_Group_negate_cc : CTrue Try.prog 51 f_i_Group_negate_c := by
  intro args inh rs out h
  unfold f_i_Group_negate_c at h
  split at h
  · rename_i hd
    obtain ⟨h1, h2⟩ := dec2_enc hd
    rw [← h1, ← h2]
    exact rowC (f_i_Group_negate_ok _ _) h
  · cases h

def f_i_Group_opposite_F : Fi := { nv := 0, nc := 0, m := 0, vt := [], kl := [(0, ([0, 1, 3, 4, 6, 7, 8, 12, 13, 14, 15, 16, 17, 18, 19, 20, 21, 22], [0, 1, 2, 3, 4, 6, 7, 8, 9, 10, 11, 12, 13, 14, 15, 16, 17, 18, 19, 20, 21, 22], [0, 1, 2, 3, 5, 6, 7, 8, 9, 10, 11, 12, 13, 14, 15, 16, 17, 18, 19, 20, 21, 22]))], sk := [], mvs := [], fz := [] }
def f_i_Group_opposite_a (g0 : List Sc) (a1 : Int) : List AV := enc [.p .gr, .p (.int .i64)] [.l g0, .i a1]
def f_i_Group_opposite_i (g0 : List Sc) (a1 : Int) : List AV := enc [] []
def f_i_Group_opposite_en (r : Int) : List AV × List AV := (enc [.p (.int .i64)] [.i r], enc [] [])
def f_i_Group_opposite_M : Calling := addC 27 f_i_members_c (addC 51 f_i_Group_negate_c (noC))
theorem f_i_Group_opposite_Mt : CallOk Try.prog (f_i_Group_opposite_M) := addC_true f_i_members_cc (addC_true f_i_Group_negate_cc (noC_true))
theorem f_i_Group_opposite_o : loopsOnce Try.f41 = true := by kernel_rfl
def f_i_Group_opposite_h0 : List Sh := [.u, .u, .p .el, .u, .u, .p (.int .i64), .u, .u, .u, .own 3, .p (.int .i64), .p (.int .i64), .u, .u, .u, .u, .u, .u, .u, .u, .u, .u, .u]
def f_i_Group_opposite_fr0 (g2 : List Sc) (t10 : Int) (s : Int × List Sc × Int) : List AV := enc f_i_Group_opposite_h0 [.l g2, .i s.1, .l s.2.1, .i t10, .i s.2.2]
def f_i_Group_opposite_g0_1 : List Sh := [.u, .u, .u, .u, .u, .p (.int .i64), .u, .u, .u, .u, .u, .u, .u, .u, .u, .u, .u, .u, .u, .u, .u, .u, .u]
def f_i_Group_opposite_x0_1 (g2 : List Sc) (t10 : Int) (e : Int) : X × List AV := (.out 0, enc f_i_Group_opposite_g0_1 [.i e])
def f_i_Group_opposite_x0_2 (g2 : List Sc) (t10 : Int) (_e : Unit) : X × List AV := (.ret, [])
theorem f_i_Group_opposite_p0 {R : Type} (g2 : List Sc) (t10 : Int) (s : Int × List Sc × Int) (kN : Int × List Sc × Int → Option R) (kA : Int → Option R) (kB : Unit → Option R) : f_i_Group_opposite_k0 g2 t10 s.1 s.2.1 s.2.2 kN kA = (f_i_Group_opposite_r0 g2 t10 s).bind (Ro.el kN kA kB) := by
  simp only [f_i_Group_opposite_k0, f_i_Group_opposite_r0, brB, boB, someB, noneB, Ro.el]
theorem f_i_Group_opposite_e0 (g2 : List Sc) (t10 : Int) (s : Int × List Sc × Int) : EC E0 f_i_Group_opposite_M H0 f_i_Group_opposite_F (asL (noL)) 0 (bodyOf Try.f41 0) (f_i_Group_opposite_fr0 g2 t10 s) (done (klOf f_i_Group_opposite_F 0)) = f_i_Group_opposite_k0 g2 t10 s.1 s.2.1 s.2.2 (fun s => some (.norm, f_i_Group_opposite_fr0 g2 t10 s)) (fun e => some (f_i_Group_opposite_x0_1 g2 t10 e)) := by kernel_rfl
theorem f_i_Group_opposite_l0 (g2 : List Sc) (t10 : Int) : ∀ s r, loopL (f_i_Group_opposite_r0 g2 t10) s = some r → LS Try.prog f_i_Group_opposite_F (bodyOf Try.f41 0) (f_i_Group_opposite_fr0 g2 t10 s) (enX (f_i_Group_opposite_x0_1 g2 t10) (f_i_Group_opposite_x0_2 g2 t10) r) :=
  loop_true E0ok f_i_Group_opposite_Mt (noL_true) f_i_Group_opposite_o (fun _ h => by cases h) (fun _ h => by cases h) (fun _ h => by cases h) (fun _ h => by cases h) (fun s => (f_i_Group_opposite_e0 g2 t10 s).trans (f_i_Group_opposite_p0 g2 t10 s _ _ (fun e => some (f_i_Group_opposite_x0_2 g2 t10 e))))
def f_i_Group_opposite_t0 (σ : List AV) : Option (Bool × Bool × (X × List AV) × (X × List AV)) := match dec f_i_Group_opposite_h0 σ with
  | some [.l g2, .i out5, .l t9, .i t10, .i t11] => some (isOne (loopL (f_i_Group_opposite_r0 g2 t10) (out5, t9, t11)), true, f_i_Group_opposite_x0_1 g2 t10 (getOne 0 (loopL (f_i_Group_opposite_r0 g2 t10) (out5, t9, t11))), (.ret, []))
  | _ => none
theorem f_i_Group_opposite_tt0 : TTrue Try.prog f_i_Group_opposite_F Try.f41 0 (f_i_Group_opposite_t0) := by
  intro σ p r r' h
  unfold f_i_Group_opposite_t0 at h
  split at h
  · rename_i hd
    rw [← dec_enc hd]
    exact row1 (f_i_Group_opposite_l0 _ _ _) h
  · cases h
theorem f_i_Group_opposite_p {R : Type} (g0 : List Sc) (a1 : Int) (kR : Int → Option R) : f_i_Group_opposite_k g0 a1 kR = (f_i_Group_opposite_k g0 a1 some).bind kR := by
  simp only [f_i_Group_opposite_k, boB, bl1B, someB]
theorem f_i_Group_opposite_e (g0 : List Sc) (a1 : Int) : runFn E0 f_i_Group_opposite_M H0 f_i_Group_opposite_F (asL (addL 0 (f_i_Group_opposite_t0) (noL))) Try.f41 (f_i_Group_opposite_a g0 a1) (f_i_Group_opposite_i g0 a1) = f_i_Group_opposite_k g0 a1 (fun r => some (f_i_Group_opposite_en r)) := by kernel_rfl
theorem f_i_Group_opposite_ok (g0 : List Sc) (a1 : Int) (r : Int) (h : f_i_Group_opposite g0 a1 = some r) : CS Try.prog 41 (f_i_Group_opposite_a g0 a1) (f_i_Group_opposite_i g0 a1) (f_i_Group_opposite_en r).1 (f_i_Group_opposite_en r).2 :=
  fn_true (Gk := fun k => f_i_Group_opposite_k g0 a1 k) (en := f_i_Group_opposite_en) Try.func41 E0ok f_i_Group_opposite_Mt (addL_true (f_i_Group_opposite_tt0) (noL_true)) f_i_Group_opposite_o (f_i_Group_opposite_e g0 a1) (f_i_Group_opposite_p g0 a1) h
def f_i_Group_opposite_c : CRow := fun args inh => match dec2 [.p .gr, .p (.int .i64)] [] args inh with
  | some ([.l g0, .i a1], []) => some ((f_i_Group_opposite g0 a1).isSome, (f_i_Group_opposite_en ((f_i_Group_opposite g0 a1).getD 0)).1, (f_i_Group_opposite_en ((f_i_Group_opposite g0 a1).getD 0)).2)
  | _ => none
theorem f_i_Group_opposite_cc : CTrue Try.prog 41 f_i_Group_opposite_c := by
  intro args inh rs out h
  unfold f_i_Group_opposite_c at h
  split at h
  · rename_i hd
    obtain ⟨h1, h2⟩ := dec2_enc hd
    rw [← h1, ← h2]
    exact rowC (f_i_Group_opposite_ok _ _) h
  · cases h

def f_i_Group_generated_F : Fi := { nv := 0, nc := 0, m := 0, vt := [], kl := [(0, ([0, 3, 4, 6, 7, 8, 9, 10, 11, 12, 13, 14, 15, 16, 17, 18, 19, 20, 21, 22, 23, 24], [0, 1, 2, 3, 4, 5, 6, 7, 8, 9, 10, 11, 12, 13, 14, 15, 16, 17, 18, 19, 20, 21, 22, 23, 24], [0, 1, 2, 3, 5, 6, 7, 8, 9, 10, 11, 12, 13, 14, 15, 16, 17, 18, 19, 20, 21, 22, 23, 24]))], sk := [], mvs := [], fz := [] }
def f_i_Group_generated_a (g0 : List Sc) (a1 : Int) : List AV := enc [.p .gr, .p (.int .i64)] [.l g0, .i a1]
def f_i_Group_generated_i (g0 : List Sc) (a1 : Int) : List AV := enc [] []
def f_i_Group_generated_en (r : Int) : List AV × List AV := (enc [.p (.int .i64)] [.i r], enc [] [])
def f_i_Group_generated_M : Calling := addC 25 f_i_Group_sum_c (addC 41 f_i_Group_opposite_c (noC))
theorem f_i_Group_generated_Mt : CallOk Try.prog (f_i_Group_generated_M) := addC_true f_i_Group_sum_cc (addC_true f_i_Group_opposite_cc (noC_true))
theorem f_i_Group_generated_o : loopsOnce Try.f39 = true := by kernel_rfl
def f_i_Group_generated_h0 : List Sh := [.u, .p (.int .i64), .p .el, .u, .u, .p (.int .i64), .u, .u, .u, .u, .u, .u, .u, .u, .u, .u, .u, .u, .u, .u, .u, .u, .u, .u, .u]
def f_i_Group_generated_fr0 (a1 : Int) (g2 : List Sc) (s : Int) : List AV := enc f_i_Group_generated_h0 [.i a1, .l g2, .i s]
def f_i_Group_generated_g0_1 : List Sh := [.u, .u, .u, .u, .p (.int .i64), .u, .u, .u, .u, .u, .u, .u, .u, .u, .u, .u, .u, .u, .u, .u, .u, .u, .u, .u, .u]
def f_i_Group_generated_x0_1 (a1 : Int) (g2 : List Sc) (e : Int) : X × List AV := (.ret, enc f_i_Group_generated_g0_1 [.i e])
def f_i_Group_generated_x0_2 (a1 : Int) (g2 : List Sc) (_e : Unit) : X × List AV := (.ret, [])
theorem f_i_Group_generated_p0 {R : Type} (a1 : Int) (g2 : List Sc) (s : Int) (kN : Int → Option R) (kA : Int → Option R) (kB : Unit → Option R) : f_i_Group_generated_k0 a1 g2 s kN kA = (f_i_Group_generated_r0 a1 g2 s).bind (Ro.el kN kA kB) := by
  simp only [f_i_Group_generated_k0, f_i_Group_generated_r0, brB, boB, someB, Ro.el]
theorem f_i_Group_generated_e0 (a1 : Int) (g2 : List Sc) (s : Int) : EC E0 f_i_Group_generated_M H0 f_i_Group_generated_F (asL (noL)) 0 (bodyOf Try.f39 0) (f_i_Group_generated_fr0 a1 g2 s) (done (klOf f_i_Group_generated_F 0)) = f_i_Group_generated_k0 a1 g2 s (fun s => some (.norm, f_i_Group_generated_fr0 a1 g2 s)) (fun e => some (f_i_Group_generated_x0_1 a1 g2 e)) := by kernel_rfl
theorem f_i_Group_generated_l0 (a1 : Int) (g2 : List Sc) : ∀ s r, loopL (f_i_Group_generated_r0 a1 g2) s = some r → LS Try.prog f_i_Group_generated_F (bodyOf Try.f39 0) (f_i_Group_generated_fr0 a1 g2 s) (enX (f_i_Group_generated_x0_1 a1 g2) (f_i_Group_generated_x0_2 a1 g2) r) :=
  loop_true E0ok f_i_Group_generated_Mt (noL_true) f_i_Group_generated_o (fun _ h => by cases h) (fun _ h => by cases h) (fun _ h => by cases h) (fun _ h => by cases h) (fun s => (f_i_Group_generated_e0 a1 g2 s).trans (f_i_Group_generated_p0 a1 g2 s _ _ (fun e => some (f_i_Group_generated_x0_2 a1 g2 e))))
def f_i_Group_generated_t0 (σ : List AV) : Option (Bool × Bool × (X × List AV) × (X × List AV)) := match dec f_i_Group_generated_h0 σ with
  | some [.i a1, .l g2, .i h5] => some (isOne (loopL (f_i_Group_generated_r0 a1 g2) h5), true, f_i_Group_generated_x0_1 a1 g2 (getOne 0 (loopL (f_i_Group_generated_r0 a1 g2) h5)), (.ret, []))
  | _ => none
theorem f_i_Group_generated_tt0 : TTrue Try.prog f_i_Group_generated_F Try.f39 0 (f_i_Group_generated_t0) := by
  intro σ p r r' h
  unfold f_i_Group_generated_t0 at h
  split at h
  · rename_i hd
    rw [← dec_enc hd]
    exact row1 (f_i_Group_generated_l0 _ _ _) h
  · cases h
theorem f_i_Group_generated_p {R : Type} (g0 : List Sc) (a1 : Int) (kR : Int → Option R) : f_i_Group_generated_k g0 a1 kR = (f_i_Group_generated_k g0 a1 some).bind kR := by
  simp only [f_i_Group_generated_k, bl1B, someB]
theorem f_i_Group_generated_e (g0 : List Sc) (a1 : Int) : runFn E0 f_i_Group_generated_M H0 f_i_Group_generated_F (asL (addL 0 (f_i_Group_generated_t0) (noL))) Try.f39 (f_i_Group_generated_a g0 a1) (f_i_Group_generated_i g0 a1) = f_i_Group_generated_k g0 a1 (fun r => some (f_i_Group_generated_en r)) := by kernel_rfl
theorem f_i_Group_generated_ok (g0 : List Sc) (a1 : Int) (r : Int) (h : f_i_Group_generated g0 a1 = some r) : CS Try.prog 39 (f_i_Group_generated_a g0 a1) (f_i_Group_generated_i g0 a1) (f_i_Group_generated_en r).1 (f_i_Group_generated_en r).2 :=
  fn_true (Gk := fun k => f_i_Group_generated_k g0 a1 k) (en := f_i_Group_generated_en) Try.func39 E0ok f_i_Group_generated_Mt (addL_true (f_i_Group_generated_tt0) (noL_true)) f_i_Group_generated_o (f_i_Group_generated_e g0 a1) (f_i_Group_generated_p g0 a1) h
def f_i_Group_generated_c : CRow := fun args inh => match dec2 [.p .gr, .p (.int .i64)] [] args inh with
  | some ([.l g0, .i a1], []) => some ((f_i_Group_generated g0 a1).isSome, (f_i_Group_generated_en ((f_i_Group_generated g0 a1).getD 0)).1, (f_i_Group_generated_en ((f_i_Group_generated g0 a1).getD 0)).2)
  | _ => none
theorem f_i_Group_generated_cc : CTrue Try.prog 39 f_i_Group_generated_c := by
  intro args inh rs out h
  unfold f_i_Group_generated_c at h
  split at h
  · rename_i hd
    obtain ⟨h1, h2⟩ := dec2_enc hd
    rw [← h1, ← h2]
    exact rowC (f_i_Group_generated_ok _ _) h
  · cases h

def f_i_IsSubgroup_F : Fi := { nv := 0, nc := 0, m := 0, vt := [], kl := [], sk := [], mvs := [], fz := [] }
def f_i_IsSubgroup_a (g0 : List Sc) (a1 : Int) : List AV := enc [.p .gr, .p (.int .i64)] [.l g0, .i a1]
def f_i_IsSubgroup_i (g0 : List Sc) (a1 : Int) : List AV := enc [] []
def f_i_IsSubgroup_en (r : Bool) : List AV × List AV := (enc [.p .boo] [.b r], enc [] [])
def f_i_IsSubgroup_M : Calling := addC 38 f_i_IsSet_c (addC 39 f_i_Group_generated_c (noC))
theorem f_i_IsSubgroup_Mt : CallOk Try.prog (f_i_IsSubgroup_M) := addC_true f_i_IsSet_cc (addC_true f_i_Group_generated_cc (noC_true))
theorem f_i_IsSubgroup_o : loopsOnce Try.f15 = true := by kernel_rfl
theorem f_i_IsSubgroup_p {R : Type} (g0 : List Sc) (a1 : Int) (kR : Bool → Option R) : f_i_IsSubgroup_k g0 a1 kR = (f_i_IsSubgroup_k g0 a1 some).bind kR := by
  simp only [f_i_IsSubgroup_k, brB, boB, someB]
theorem f_i_IsSubgroup_e (g0 : List Sc) (a1 : Int) : runFn E0 f_i_IsSubgroup_M H0 f_i_IsSubgroup_F (asL (noL)) Try.f15 (f_i_IsSubgroup_a g0 a1) (f_i_IsSubgroup_i g0 a1) = f_i_IsSubgroup_k g0 a1 (fun r => some (f_i_IsSubgroup_en r)) := by kernel_rfl
theorem f_i_IsSubgroup_ok (g0 : List Sc) (a1 : Int) (r : Bool) (h : f_i_IsSubgroup g0 a1 = some r) : CS Try.prog 15 (f_i_IsSubgroup_a g0 a1) (f_i_IsSubgroup_i g0 a1) (f_i_IsSubgroup_en r).1 (f_i_IsSubgroup_en r).2 :=
  fn_true (Gk := fun k => f_i_IsSubgroup_k g0 a1 k) (en := f_i_IsSubgroup_en) Try.func15 E0ok f_i_IsSubgroup_Mt (noL_true) f_i_IsSubgroup_o (f_i_IsSubgroup_e g0 a1) (f_i_IsSubgroup_p g0 a1) h
def f_i_IsSubgroup_c : CRow := fun args inh => match dec2 [.p .gr, .p (.int .i64)] [] args inh with
  | some ([.l g0, .i a1], []) => some ((f_i_IsSubgroup g0 a1).isSome, (f_i_IsSubgroup_en ((f_i_IsSubgroup g0 a1).getD false)).1, (f_i_IsSubgroup_en ((f_i_IsSubgroup g0 a1).getD false)).2)
  | _ => none
theorem f_i_IsSubgroup_cc : CTrue Try.prog 15 f_i_IsSubgroup_c := by
  intro args inh rs out h
  unfold f_i_IsSubgroup_c at h
  split at h
  · rename_i hd
    obtain ⟨h1, h2⟩ := dec2_enc hd
    rw [← h1, ← h2]
    exact rowC (f_i_IsSubgroup_ok _ _) h
  · cases h

def f_i_IsKneserTight_F : Fi := { nv := 0, nc := 0, m := 0, vt := [], kl := [], sk := [], mvs := [], fz := [] }
def f_i_IsKneserTight_a (g0 : List Sc) (a1 : Int) (b2 : Int) : List AV := enc [.p .gr, .p (.int .i64), .p (.int .i64)] [.l g0, .i a1, .i b2]
def f_i_IsKneserTight_i (g0 : List Sc) (a1 : Int) (b2 : Int) : List AV := enc [] []
def f_i_IsKneserTight_en (r : Bool) : List AV × List AV := (enc [.p .boo] [.b r], enc [] [])
def f_i_IsKneserTight_M : Calling := addC 37 f_i_areFull_c (addC 25 f_i_Group_sum_c (addC 34 f_i_bits_c (addC 11 f_i_KneserBound_c (noC))))
theorem f_i_IsKneserTight_Mt : CallOk Try.prog (f_i_IsKneserTight_M) := addC_true f_i_areFull_cc (addC_true f_i_Group_sum_cc (addC_true f_i_bits_cc (addC_true f_i_KneserBound_cc (noC_true))))
theorem f_i_IsKneserTight_o : loopsOnce Try.f17 = true := by kernel_rfl
theorem f_i_IsKneserTight_p {R : Type} (g0 : List Sc) (a1 : Int) (b2 : Int) (kR : Bool → Option R) : f_i_IsKneserTight_k g0 a1 b2 kR = (f_i_IsKneserTight_k g0 a1 b2 some).bind kR := by
  simp only [f_i_IsKneserTight_k, brB, boB, someB]
theorem f_i_IsKneserTight_e (g0 : List Sc) (a1 : Int) (b2 : Int) : runFn E0 f_i_IsKneserTight_M H0 f_i_IsKneserTight_F (asL (noL)) Try.f17 (f_i_IsKneserTight_a g0 a1 b2) (f_i_IsKneserTight_i g0 a1 b2) = f_i_IsKneserTight_k g0 a1 b2 (fun r => some (f_i_IsKneserTight_en r)) := by kernel_rfl
theorem f_i_IsKneserTight_ok (g0 : List Sc) (a1 : Int) (b2 : Int) (r : Bool) (h : f_i_IsKneserTight g0 a1 b2 = some r) : CS Try.prog 17 (f_i_IsKneserTight_a g0 a1 b2) (f_i_IsKneserTight_i g0 a1 b2) (f_i_IsKneserTight_en r).1 (f_i_IsKneserTight_en r).2 :=
  fn_true (Gk := fun k => f_i_IsKneserTight_k g0 a1 b2 k) (en := f_i_IsKneserTight_en) Try.func17 E0ok f_i_IsKneserTight_Mt (noL_true) f_i_IsKneserTight_o (f_i_IsKneserTight_e g0 a1 b2) (f_i_IsKneserTight_p g0 a1 b2) h
def f_i_IsKneserTight_c : CRow := fun args inh => match dec2 [.p .gr, .p (.int .i64), .p (.int .i64)] [] args inh with
  | some ([.l g0, .i a1, .i b2], []) => some ((f_i_IsKneserTight g0 a1 b2).isSome, (f_i_IsKneserTight_en ((f_i_IsKneserTight g0 a1 b2).getD false)).1, (f_i_IsKneserTight_en ((f_i_IsKneserTight g0 a1 b2).getD false)).2)
  | _ => none
theorem f_i_IsKneserTight_cc : CTrue Try.prog 17 f_i_IsKneserTight_c := by
  intro args inh rs out h
  unfold f_i_IsKneserTight_c at h
  split at h
  · rename_i hd
    obtain ⟨h1, h2⟩ := dec2_enc hd
    rw [← h1, ← h2]
    exact rowC (f_i_IsKneserTight_ok _ _ _) h
  · cases h

def f_l_total_F : Fi := { nv := 0, nc := 0, m := 0, vt := [], kl := [(0, ([1, 2, 5, 6, 7, 8, 9, 10, 11, 12, 13, 14, 15, 16, 17], [0, 1, 2, 4, 5, 6, 7, 8, 9, 10, 11, 12, 13, 14, 15, 16, 17], [0, 1, 3, 4, 5, 6, 7, 8, 9, 10, 11, 12, 13, 14, 15, 16, 17]))], sk := [], mvs := [], fz := [] }
def f_l_total_a (l0 : List Sc) : List AV := enc [.p .sl] [.l l0]
def f_l_total_i (l0 : List Sc) : List AV := enc [] []
def f_l_total_en (r : Int) : List AV × List AV := (enc [.p (.int .i64)] [.i r], enc [] [])
def f_l_total_M : Calling := noC
theorem f_l_total_Mt : CallOk Try.prog (f_l_total_M) := noC_true
theorem f_l_total_o : loopsOnce Try.f18 = true := by kernel_rfl
def f_l_total_h0 : List Sh := [.p .sl, .u, .u, .p (.int .i64), .p (.int .i64), .u, .u, .u, .u, .u, .u, .u, .u, .u, .u, .u, .u, .u]
def f_l_total_fr0 (l0 : List Sc) (s : Int × Int) : List AV := enc f_l_total_h0 [.l l0, .i s.1, .i s.2]
def f_l_total_g0_1 : List Sh := [.u, .u, .u, .p (.int .i64), .u, .u, .u, .u, .u, .u, .u, .u, .u, .u, .u, .u, .u, .u]
def f_l_total_x0_1 (l0 : List Sc) (e : Int) : X × List AV := (.out 0, enc f_l_total_g0_1 [.i e])
def f_l_total_x0_2 (l0 : List Sc) (_e : Unit) : X × List AV := (.ret, [])
theorem f_l_total_p0 {R : Type} (l0 : List Sc) (s : Int × Int) (kN : Int × Int → Option R) (kA : Int → Option R) (kB : Unit → Option R) : f_l_total_k0 l0 s.1 s.2 kN kA = (f_l_total_r0 l0 s).bind (Ro.el kN kA kB) := by
  simp only [f_l_total_k0, f_l_total_r0, brB, someB, noneB, Ro.el]
theorem f_l_total_e0 (l0 : List Sc) (s : Int × Int) : EC E0 f_l_total_M H0 f_l_total_F (asL (noL)) 0 (bodyOf Try.f18 0) (f_l_total_fr0 l0 s) (done (klOf f_l_total_F 0)) = f_l_total_k0 l0 s.1 s.2 (fun s => some (.norm, f_l_total_fr0 l0 s)) (fun e => some (f_l_total_x0_1 l0 e)) := by kernel_rfl
theorem f_l_total_l0 (l0 : List Sc) : ∀ s r, loopL (f_l_total_r0 l0) s = some r → LS Try.prog f_l_total_F (bodyOf Try.f18 0) (f_l_total_fr0 l0 s) (enX (f_l_total_x0_1 l0) (f_l_total_x0_2 l0) r) :=
  loop_true E0ok f_l_total_Mt (noL_true) f_l_total_o (fun _ h => by cases h) (fun _ h => by cases h) (fun _ h => by cases h) (fun _ h => by cases h) (fun s => (f_l_total_e0 l0 s).trans (f_l_total_p0 l0 s _ _ (fun e => some (f_l_total_x0_2 l0 e))))
def f_l_total_t0 (σ : List AV) : Option (Bool × Bool × (X × List AV) × (X × List AV)) := match dec f_l_total_h0 σ with
  | some [.l l0, .i n3, .i i4] => some (isOne (loopL (f_l_total_r0 l0) (n3, i4)), true, f_l_total_x0_1 l0 (getOne 0 (loopL (f_l_total_r0 l0) (n3, i4))), (.ret, []))
  | _ => none
theorem f_l_total_tt0 : TTrue Try.prog f_l_total_F Try.f18 0 (f_l_total_t0) := by
  intro σ p r r' h
  unfold f_l_total_t0 at h
  split at h
  · rename_i hd
    rw [← dec_enc hd]
    exact row1 (f_l_total_l0 _ _) h
  · cases h
theorem f_l_total_p {R : Type} (l0 : List Sc) (kR : Int → Option R) : f_l_total_k l0 kR = (f_l_total_k l0 some).bind kR := by
  simp only [f_l_total_k, bl1B, someB]
theorem f_l_total_e (l0 : List Sc) : runFn E0 f_l_total_M H0 f_l_total_F (asL (addL 0 (f_l_total_t0) (noL))) Try.f18 (f_l_total_a l0) (f_l_total_i l0) = f_l_total_k l0 (fun r => some (f_l_total_en r)) := by kernel_rfl
theorem f_l_total_ok (l0 : List Sc) (r : Int) (h : f_l_total l0 = some r) : CS Try.prog 18 (f_l_total_a l0) (f_l_total_i l0) (f_l_total_en r).1 (f_l_total_en r).2 :=
  fn_true (Gk := fun k => f_l_total_k l0 k) (en := f_l_total_en) Try.func18 E0ok f_l_total_Mt (addL_true (f_l_total_tt0) (noL_true)) f_l_total_o (f_l_total_e l0) (f_l_total_p l0) h
def f_l_total_c : CRow := fun args inh => match dec2 [.p .sl] [] args inh with
  | some ([.l l0], []) => some ((f_l_total l0).isSome, (f_l_total_en ((f_l_total l0).getD 0)).1, (f_l_total_en ((f_l_total l0).getD 0)).2)
  | _ => none
theorem f_l_total_cc : CTrue Try.prog 18 f_l_total_c := by
  intro args inh rs out h
  unfold f_l_total_c at h
  split at h
  · rename_i hd
    obtain ⟨h1, h2⟩ := dec2_enc hd
    rw [← h1, ← h2]
    exact rowC (f_l_total_ok _) h
  · cases h

def f_i_EnergyOf_F : Fi := { nv := 0, nc := 0, m := 0, vt := [], kl := [(0, ([0, 1, 2, 3, 4, 5, 6, 8, 9, 10, 11, 12, 13, 14, 15, 16, 17, 18, 22, 23, 24, 25, 26, 27, 28, 29, 30, 31], [0, 1, 2, 3, 4, 5, 6, 8, 9, 10, 11, 12, 13, 14, 15, 16, 17, 18, 19, 20, 21, 22, 23, 24, 25, 26, 27, 28, 29, 30, 31], [0, 1, 2, 3, 4, 5, 7, 8, 9, 10, 11, 12, 13, 14, 15, 16, 17, 18, 19, 20, 21, 22, 23, 24, 25, 26, 27, 28, 29, 30, 31]))], sk := [], mvs := [], fz := [] }
def f_i_EnergyOf_a (g0 : List Sc) (a1 : Int) (b2 : Int) : List AV := enc [.p .gr, .p (.int .i64), .p (.int .i64)] [.l g0, .i a1, .i b2]
def f_i_EnergyOf_i (g0 : List Sc) (a1 : Int) (b2 : Int) : List AV := enc [] []
def f_i_EnergyOf_en (r : Int) : List AV × List AV := (enc [.p (.int .i64)] [.i r], enc [] [])
def f_i_EnergyOf_M : Calling := addC 24 f_i_areSets_c (addC 7 f_i_SumTable_c (noC))
theorem f_i_EnergyOf_Mt : CallOk Try.prog (f_i_EnergyOf_M) := addC_true f_i_areSets_cc (addC_true f_i_SumTable_cc (noC_true))
theorem f_i_EnergyOf_o : loopsOnce Try.f19 = true := by kernel_rfl
def f_i_EnergyOf_h0 : List Sh := [.u, .u, .u, .u, .u, .u, .u, .p (.int .i64), .u, .u, .u, .u, .u, .u, .u, .u, .u, .u, .u, .own 3, .p (.int .i64), .p (.int .i64), .u, .u, .u, .u, .u, .u, .u, .u, .u, .u]
def f_i_EnergyOf_fr0 (t20 : Int) (s : Int × List Sc × Int) : List AV := enc f_i_EnergyOf_h0 [.i s.1, .l s.2.1, .i t20, .i s.2.2]
def f_i_EnergyOf_g0_1 : List Sh := [.u, .u, .u, .u, .u, .u, .u, .p (.int .i64), .u, .u, .u, .u, .u, .u, .u, .u, .u, .u, .u, .u, .u, .u, .u, .u, .u, .u, .u, .u, .u, .u, .u, .u]
def f_i_EnergyOf_x0_1 (t20 : Int) (e : Int) : X × List AV := (.out 0, enc f_i_EnergyOf_g0_1 [.i e])
def f_i_EnergyOf_x0_2 (t20 : Int) (_e : Unit) : X × List AV := (.ret, [])
theorem f_i_EnergyOf_p0 {R : Type} (t20 : Int) (s : Int × List Sc × Int) (kN : Int × List Sc × Int → Option R) (kA : Int → Option R) (kB : Unit → Option R) : f_i_EnergyOf_k0 t20 s.1 s.2.1 s.2.2 kN kA = (f_i_EnergyOf_r0 t20 s).bind (Ro.el kN kA kB) := by
  simp only [f_i_EnergyOf_k0, f_i_EnergyOf_r0, brB, someB, noneB, Ro.el]
theorem f_i_EnergyOf_e0 (t20 : Int) (s : Int × List Sc × Int) : EC E0 f_i_EnergyOf_M H0 f_i_EnergyOf_F (asL (noL)) 0 (bodyOf Try.f19 0) (f_i_EnergyOf_fr0 t20 s) (done (klOf f_i_EnergyOf_F 0)) = f_i_EnergyOf_k0 t20 s.1 s.2.1 s.2.2 (fun s => some (.norm, f_i_EnergyOf_fr0 t20 s)) (fun e => some (f_i_EnergyOf_x0_1 t20 e)) := by kernel_rfl
theorem f_i_EnergyOf_l0 (t20 : Int) : ∀ s r, loopL (f_i_EnergyOf_r0 t20) s = some r → LS Try.prog f_i_EnergyOf_F (bodyOf Try.f19 0) (f_i_EnergyOf_fr0 t20 s) (enX (f_i_EnergyOf_x0_1 t20) (f_i_EnergyOf_x0_2 t20) r) :=
  loop_true E0ok f_i_EnergyOf_Mt (noL_true) f_i_EnergyOf_o (fun _ h => by cases h) (fun _ h => by cases h) (fun _ h => by cases h) (fun _ h => by cases h) (fun s => (f_i_EnergyOf_e0 t20 s).trans (f_i_EnergyOf_p0 t20 s _ _ (fun e => some (f_i_EnergyOf_x0_2 t20 e))))
def f_i_EnergyOf_t0 (σ : List AV) : Option (Bool × Bool × (X × List AV) × (X × List AV)) := match dec f_i_EnergyOf_h0 σ with
  | some [.i n7, .l t19, .i t20, .i t21] => some (isOne (loopL (f_i_EnergyOf_r0 t20) (n7, t19, t21)), true, f_i_EnergyOf_x0_1 t20 (getOne 0 (loopL (f_i_EnergyOf_r0 t20) (n7, t19, t21))), (.ret, []))
  | _ => none
theorem f_i_EnergyOf_tt0 : TTrue Try.prog f_i_EnergyOf_F Try.f19 0 (f_i_EnergyOf_t0) := by
  intro σ p r r' h
  unfold f_i_EnergyOf_t0 at h
  split at h
  · rename_i hd
    rw [← dec_enc hd]
    exact row1 (f_i_EnergyOf_l0 _ _) h
  · cases h
theorem f_i_EnergyOf_p {R : Type} (g0 : List Sc) (a1 : Int) (b2 : Int) (kR : Int → Option R) : f_i_EnergyOf_k g0 a1 b2 kR = (f_i_EnergyOf_k g0 a1 b2 some).bind kR := by
  simp only [f_i_EnergyOf_k, brB, boB, bl1B, someB]
theorem f_i_EnergyOf_e (g0 : List Sc) (a1 : Int) (b2 : Int) : runFn E0 f_i_EnergyOf_M H0 f_i_EnergyOf_F (asL (addL 0 (f_i_EnergyOf_t0) (noL))) Try.f19 (f_i_EnergyOf_a g0 a1 b2) (f_i_EnergyOf_i g0 a1 b2) = f_i_EnergyOf_k g0 a1 b2 (fun r => some (f_i_EnergyOf_en r)) := by kernel_rfl
theorem f_i_EnergyOf_ok (g0 : List Sc) (a1 : Int) (b2 : Int) (r : Int) (h : f_i_EnergyOf g0 a1 b2 = some r) : CS Try.prog 19 (f_i_EnergyOf_a g0 a1 b2) (f_i_EnergyOf_i g0 a1 b2) (f_i_EnergyOf_en r).1 (f_i_EnergyOf_en r).2 :=
  fn_true (Gk := fun k => f_i_EnergyOf_k g0 a1 b2 k) (en := f_i_EnergyOf_en) Try.func19 E0ok f_i_EnergyOf_Mt (addL_true (f_i_EnergyOf_tt0) (noL_true)) f_i_EnergyOf_o (f_i_EnergyOf_e g0 a1 b2) (f_i_EnergyOf_p g0 a1 b2) h
def f_i_EnergyOf_c : CRow := fun args inh => match dec2 [.p .gr, .p (.int .i64), .p (.int .i64)] [] args inh with
  | some ([.l g0, .i a1, .i b2], []) => some ((f_i_EnergyOf g0 a1 b2).isSome, (f_i_EnergyOf_en ((f_i_EnergyOf g0 a1 b2).getD 0)).1, (f_i_EnergyOf_en ((f_i_EnergyOf g0 a1 b2).getD 0)).2)
  | _ => none
theorem f_i_EnergyOf_cc : CTrue Try.prog 19 f_i_EnergyOf_c := by
  intro args inh rs out h
  unfold f_i_EnergyOf_c at h
  split at h
  · rename_i hd
    obtain ⟨h1, h2⟩ := dec2_enc hd
    rw [← h1, ← h2]
    exact rowC (f_i_EnergyOf_ok _ _ _) h
  · cases h

def f_i_IsPeriodic_F : Fi := { nv := 0, nc := 0, m := 0, vt := [], kl := [], sk := [], mvs := [], fz := [] }
def f_i_IsPeriodic_a (g0 : List Sc) (a1 : Int) : List AV := enc [.p .gr, .p (.int .i64)] [.l g0, .i a1]
def f_i_IsPeriodic_i (g0 : List Sc) (a1 : Int) : List AV := enc [] []
def f_i_IsPeriodic_en (r : Bool) : List AV × List AV := (enc [.p .boo] [.b r], enc [] [])
def f_i_IsPeriodic_M : Calling := addC 38 f_i_IsSet_c (addC 16 f_i_StabilizerOf_c (addC 34 f_i_bits_c (noC)))
theorem f_i_IsPeriodic_Mt : CallOk Try.prog (f_i_IsPeriodic_M) := addC_true f_i_IsSet_cc (addC_true f_i_StabilizerOf_cc (addC_true f_i_bits_cc (noC_true)))
theorem f_i_IsPeriodic_o : loopsOnce Try.f20 = true := by kernel_rfl
theorem f_i_IsPeriodic_p {R : Type} (g0 : List Sc) (a1 : Int) (kR : Bool → Option R) : f_i_IsPeriodic_k g0 a1 kR = (f_i_IsPeriodic_k g0 a1 some).bind kR := by
  simp only [f_i_IsPeriodic_k, brB, boB, someB]
theorem f_i_IsPeriodic_e (g0 : List Sc) (a1 : Int) : runFn E0 f_i_IsPeriodic_M H0 f_i_IsPeriodic_F (asL (noL)) Try.f20 (f_i_IsPeriodic_a g0 a1) (f_i_IsPeriodic_i g0 a1) = f_i_IsPeriodic_k g0 a1 (fun r => some (f_i_IsPeriodic_en r)) := by kernel_rfl
theorem f_i_IsPeriodic_ok (g0 : List Sc) (a1 : Int) (r : Bool) (h : f_i_IsPeriodic g0 a1 = some r) : CS Try.prog 20 (f_i_IsPeriodic_a g0 a1) (f_i_IsPeriodic_i g0 a1) (f_i_IsPeriodic_en r).1 (f_i_IsPeriodic_en r).2 :=
  fn_true (Gk := fun k => f_i_IsPeriodic_k g0 a1 k) (en := f_i_IsPeriodic_en) Try.func20 E0ok f_i_IsPeriodic_Mt (noL_true) f_i_IsPeriodic_o (f_i_IsPeriodic_e g0 a1) (f_i_IsPeriodic_p g0 a1) h
def f_i_IsPeriodic_c : CRow := fun args inh => match dec2 [.p .gr, .p (.int .i64)] [] args inh with
  | some ([.l g0, .i a1], []) => some ((f_i_IsPeriodic g0 a1).isSome, (f_i_IsPeriodic_en ((f_i_IsPeriodic g0 a1).getD false)).1, (f_i_IsPeriodic_en ((f_i_IsPeriodic g0 a1).getD false)).2)
  | _ => none
theorem f_i_IsPeriodic_cc : CTrue Try.prog 20 f_i_IsPeriodic_c := by
  intro args inh rs out h
  unfold f_i_IsPeriodic_c at h
  split at h
  · rename_i hd
    obtain ⟨h1, h2⟩ := dec2_enc hd
    rw [← h1, ← h2]
    exact rowC (f_i_IsPeriodic_ok _ _) h
  · cases h

def f_i_CorrelationOf_F : Fi := { nv := 0, nc := 0, m := 0, vt := [], kl := [], sk := [], mvs := [], fz := [] }
def f_i_CorrelationOf_a (g0 : List Sc) (a1 : Int) (b2 : Int) : List AV := enc [.p .gr, .p (.int .i64), .p (.int .i64)] [.l g0, .i a1, .i b2]
def f_i_CorrelationOf_i (g0 : List Sc) (a1 : Int) (b2 : Int) : List AV := enc [] []
def f_i_CorrelationOf_en (r : List Sc) : List AV × List AV := (enc [.p (.al 0)] [], enc [.own 3] [.l r])
def f_i_CorrelationOf_M : Calling := addC 24 f_i_areSets_c (addC 41 f_i_Group_opposite_c (addC 7 f_i_SumTable_c (noC)))
theorem f_i_CorrelationOf_Mt : CallOk Try.prog (f_i_CorrelationOf_M) := addC_true f_i_areSets_cc (addC_true f_i_Group_opposite_cc (addC_true f_i_SumTable_cc (noC_true)))
theorem f_i_CorrelationOf_o : loopsOnce Try.f21 = true := by kernel_rfl
theorem f_i_CorrelationOf_p {R : Type} (g0 : List Sc) (a1 : Int) (b2 : Int) (kR : List Sc → Option R) : f_i_CorrelationOf_k g0 a1 b2 kR = (f_i_CorrelationOf_k g0 a1 b2 some).bind kR := by
  simp only [f_i_CorrelationOf_k, brB, boB, someB]
theorem f_i_CorrelationOf_e (g0 : List Sc) (a1 : Int) (b2 : Int) : runFn E0 f_i_CorrelationOf_M H0 f_i_CorrelationOf_F (asL (noL)) Try.f21 (f_i_CorrelationOf_a g0 a1 b2) (f_i_CorrelationOf_i g0 a1 b2) = f_i_CorrelationOf_k g0 a1 b2 (fun r => some (f_i_CorrelationOf_en r)) := by kernel_rfl
theorem f_i_CorrelationOf_ok (g0 : List Sc) (a1 : Int) (b2 : Int) (r : List Sc) (h : f_i_CorrelationOf g0 a1 b2 = some r) : CS Try.prog 21 (f_i_CorrelationOf_a g0 a1 b2) (f_i_CorrelationOf_i g0 a1 b2) (f_i_CorrelationOf_en r).1 (f_i_CorrelationOf_en r).2 :=
  fn_true (Gk := fun k => f_i_CorrelationOf_k g0 a1 b2 k) (en := f_i_CorrelationOf_en) Try.func21 E0ok f_i_CorrelationOf_Mt (noL_true) f_i_CorrelationOf_o (f_i_CorrelationOf_e g0 a1 b2) (f_i_CorrelationOf_p g0 a1 b2) h
def f_i_CorrelationOf_c : CRow := fun args inh => match dec2 [.p .gr, .p (.int .i64), .p (.int .i64)] [] args inh with
  | some ([.l g0, .i a1, .i b2], []) => some ((f_i_CorrelationOf g0 a1 b2).isSome, (f_i_CorrelationOf_en ((f_i_CorrelationOf g0 a1 b2).getD [])).1, (f_i_CorrelationOf_en ((f_i_CorrelationOf g0 a1 b2).getD [])).2)
  | _ => none
theorem f_i_CorrelationOf_cc : CTrue Try.prog 21 f_i_CorrelationOf_c := by
  intro args inh rs out h
  unfold f_i_CorrelationOf_c at h
  split at h
  · rename_i hd
    obtain ⟨h1, h2⟩ := dec2_enc hd
    rw [← h1, ← h2]
    exact rowC (f_i_CorrelationOf_ok _ _ _) h
  · cases h

def f_i_Group_has_F : Fi := { nv := 0, nc := 0, m := 0, vt := [], kl := [], sk := [], mvs := [], fz := [] }
def f_i_Group_has_a (g0 : List Sc) (x1 : Int) : List AV := enc [.p .gr, .p (.int .i64)] [.l g0, .i x1]
def f_i_Group_has_i (g0 : List Sc) (x1 : Int) : List AV := enc [] []
def f_i_Group_has_en (r : Bool) : List AV × List AV := (enc [.p .boo] [.b r], enc [] [])
def f_i_Group_has_M : Calling := addC 26 f_i_OrderOf_c (addC 52 f_i_within_c (noC))
theorem f_i_Group_has_Mt : CallOk Try.prog (f_i_Group_has_M) := addC_true f_i_OrderOf_cc (addC_true f_i_within_cc (noC_true))
theorem f_i_Group_has_o : loopsOnce Try.f42 = true := by kernel_rfl
theorem f_i_Group_has_p {R : Type} (g0 : List Sc) (x1 : Int) (kR : Bool → Option R) : f_i_Group_has_k g0 x1 kR = (f_i_Group_has_k g0 x1 some).bind kR := by
  simp only [f_i_Group_has_k, boB, someB]
theorem f_i_Group_has_e (g0 : List Sc) (x1 : Int) : runFn E0 f_i_Group_has_M H0 f_i_Group_has_F (asL (noL)) Try.f42 (f_i_Group_has_a g0 x1) (f_i_Group_has_i g0 x1) = f_i_Group_has_k g0 x1 (fun r => some (f_i_Group_has_en r)) := by kernel_rfl
theorem f_i_Group_has_ok (g0 : List Sc) (x1 : Int) (r : Bool) (h : f_i_Group_has g0 x1 = some r) : CS Try.prog 42 (f_i_Group_has_a g0 x1) (f_i_Group_has_i g0 x1) (f_i_Group_has_en r).1 (f_i_Group_has_en r).2 :=
  fn_true (Gk := fun k => f_i_Group_has_k g0 x1 k) (en := f_i_Group_has_en) Try.func42 E0ok f_i_Group_has_Mt (noL_true) f_i_Group_has_o (f_i_Group_has_e g0 x1) (f_i_Group_has_p g0 x1) h
def f_i_Group_has_c : CRow := fun args inh => match dec2 [.p .gr, .p (.int .i64)] [] args inh with
  | some ([.l g0, .i x1], []) => some ((f_i_Group_has g0 x1).isSome, (f_i_Group_has_en ((f_i_Group_has g0 x1).getD false)).1, (f_i_Group_has_en ((f_i_Group_has g0 x1).getD false)).2)
  | _ => none
theorem f_i_Group_has_cc : CTrue Try.prog 42 f_i_Group_has_c := by
  intro args inh rs out h
  unfold f_i_Group_has_c at h
  split at h
  · rename_i hd
    obtain ⟨h1, h2⟩ := dec2_enc hd
    rw [← h1, ← h2]
    exact rowC (f_i_Group_has_ok _ _) h
  · cases h

def f_i_CountSums_F : Fi := { nv := 0, nc := 0, m := 0, vt := [], kl := [], sk := [], mvs := [], fz := [] }
def f_i_CountSums_a (g0 : List Sc) (a1 : Int) (b2 : Int) (x3 : Int) : List AV := enc [.p .gr, .p (.int .i64), .p (.int .i64), .p (.int .i64)] [.l g0, .i a1, .i b2, .i x3]
def f_i_CountSums_i (g0 : List Sc) (a1 : Int) (b2 : Int) (x3 : Int) : List AV := enc [] []
def f_i_CountSums_en (r : Int) : List AV × List AV := (enc [.p (.int .i64)] [.i r], enc [] [])
def f_i_CountSums_M : Calling := addC 24 f_i_areSets_c (addC 42 f_i_Group_has_c (addC 7 f_i_SumTable_c (noC)))
theorem f_i_CountSums_Mt : CallOk Try.prog (f_i_CountSums_M) := addC_true f_i_areSets_cc (addC_true f_i_Group_has_cc (addC_true f_i_SumTable_cc (noC_true)))
theorem f_i_CountSums_o : loopsOnce Try.f22 = true := by kernel_rfl
theorem f_i_CountSums_p {R : Type} (g0 : List Sc) (a1 : Int) (b2 : Int) (x3 : Int) (kR : Int → Option R) : f_i_CountSums_k g0 a1 b2 x3 kR = (f_i_CountSums_k g0 a1 b2 x3 some).bind kR := by
  simp only [f_i_CountSums_k, brB, boB, someB, noneB]
theorem f_i_CountSums_e (g0 : List Sc) (a1 : Int) (b2 : Int) (x3 : Int) : runFn E0 f_i_CountSums_M H0 f_i_CountSums_F (asL (noL)) Try.f22 (f_i_CountSums_a g0 a1 b2 x3) (f_i_CountSums_i g0 a1 b2 x3) = f_i_CountSums_k g0 a1 b2 x3 (fun r => some (f_i_CountSums_en r)) := by kernel_rfl
theorem f_i_CountSums_ok (g0 : List Sc) (a1 : Int) (b2 : Int) (x3 : Int) (r : Int) (h : f_i_CountSums g0 a1 b2 x3 = some r) : CS Try.prog 22 (f_i_CountSums_a g0 a1 b2 x3) (f_i_CountSums_i g0 a1 b2 x3) (f_i_CountSums_en r).1 (f_i_CountSums_en r).2 :=
  fn_true (Gk := fun k => f_i_CountSums_k g0 a1 b2 x3 k) (en := f_i_CountSums_en) Try.func22 E0ok f_i_CountSums_Mt (noL_true) f_i_CountSums_o (f_i_CountSums_e g0 a1 b2 x3) (f_i_CountSums_p g0 a1 b2 x3) h
def f_i_CountSums_c : CRow := fun args inh => match dec2 [.p .gr, .p (.int .i64), .p (.int .i64), .p (.int .i64)] [] args inh with
  | some ([.l g0, .i a1, .i b2, .i x3], []) => some ((f_i_CountSums g0 a1 b2 x3).isSome, (f_i_CountSums_en ((f_i_CountSums g0 a1 b2 x3).getD 0)).1, (f_i_CountSums_en ((f_i_CountSums g0 a1 b2 x3).getD 0)).2)
  | _ => none
theorem f_i_CountSums_cc : CTrue Try.prog 22 f_i_CountSums_c := by
  intro args inh rs out h
  unfold f_i_CountSums_c at h
  split at h
  · rename_i hd
    obtain ⟨h1, h2⟩ := dec2_enc hd
    rw [← h1, ← h2]
    exact rowC (f_i_CountSums_ok _ _ _ _) h
  · cases h
end
end Go.Proofs.Ytbajbkdmfdfdmaa
