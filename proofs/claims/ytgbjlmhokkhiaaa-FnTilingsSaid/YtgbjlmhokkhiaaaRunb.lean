/-
  That the program computes just that (printed by gen2.py).
-/
import Derived.Test.YtgbjlmhokkhiaaaRuna
set_option linter.unusedVariables false
set_option linter.unusedSimpArgs false
namespace Go.Proofs.Ytgbjlmhokkhiaaa
open Go Ev
noncomputable section
def f_i_IsGroup_F : Fi := { nv := 0, nc := 0, m := 0, vt := [], kl := [(0, ([0, 1, 2, 4, 5, 6, 7, 8, 9, 10, 14, 15, 16, 17, 18, 19, 20, 21, 22, 23, 24, 25], [0, 1, 2, 4, 5, 6, 7, 8, 9, 10, 11, 12, 13, 14, 15, 16, 17, 18, 19, 20, 21, 22, 23, 24, 25], [0, 1, 3, 4, 5, 6, 7, 8, 9, 10, 11, 12, 13, 14, 15, 16, 17, 18, 19, 20, 21, 22, 23, 24, 25]))], sk := [], mvs := [], fz := [] }
def f_i_IsGroup_a (g0 : List Sc) : List AV := enc [.p .gr] [.l g0]
def f_i_IsGroup_i (g0 : List Sc) : List AV := enc [] []
def f_i_IsGroup_en (r : Bool) : List AV × List AV := (enc [.p .boo] [.b r], enc [] [])
def f_i_IsGroup_M : Calling := addC 62 f_i_within_c (noC)
theorem f_i_IsGroup_Mt : CallOk Try.prog (f_i_IsGroup_M) := addC_true f_i_within_cc (noC_true)
theorem f_i_IsGroup_o : loopsOnce Try.f48 = true := by kernel_rfl
def f_i_IsGroup_h0 : List Sh := [.u, .u, .u, .p (.int .i64), .u, .u, .u, .u, .u, .u, .u, .p .sl, .p (.int .i64), .p (.int .i64), .u, .u, .u, .u, .u, .u, .u, .u, .u, .u, .u, .u]
def f_i_IsGroup_fr0 (t11 : List Sc) (t12 : Int) (s : Int × Int) : List AV := enc f_i_IsGroup_h0 [.i s.1, .l t11, .i t12, .i s.2]
def f_i_IsGroup_g0_1 : List Sh := [.u, .u, .u, .p (.int .i64), .u, .u, .u, .u, .u, .u, .u, .u, .u, .u, .u, .u, .u, .u, .u, .u, .u, .u, .u, .u, .u, .u]
def f_i_IsGroup_x0_1 (t11 : List Sc) (t12 : Int) (e : Int) : X × List AV := (.out 0, enc f_i_IsGroup_g0_1 [.i e])
def f_i_IsGroup_g0_2 : List Sh := [.u, .u, .p .boo, .u, .u, .u, .u, .u, .u, .u, .u, .u, .u, .u, .u, .u, .u, .u, .u, .u, .u, .u, .u, .u, .u, .u]
def f_i_IsGroup_x0_2 (t11 : List Sc) (t12 : Int) (e : Unit) : X × List AV := (.ret, enc f_i_IsGroup_g0_2 [.b false])
theorem f_i_IsGroup_p0 {R : Type} (t11 : List Sc) (t12 : Int) (s : Int × Int) (kN : Int × Int → Option R) (kA : Int → Option R) (kB : Unit → Option R) : f_i_IsGroup_k0 t11 t12 s.1 s.2 kN kA kB = (f_i_IsGroup_r0 t11 t12 s).bind (Ro.el kN kA kB) := by
  simp only [f_i_IsGroup_k0, f_i_IsGroup_r0, brB, boB, someB, noneB, Ro.el]
theorem f_i_IsGroup_e0 (t11 : List Sc) (t12 : Int) (s : Int × Int) : EC E0 f_i_IsGroup_M H0 f_i_IsGroup_F (asL (noL)) 0 (bodyOf Try.f48 0) (f_i_IsGroup_fr0 t11 t12 s) (done (klOf f_i_IsGroup_F 0)) = f_i_IsGroup_k0 t11 t12 s.1 s.2 (fun s => some (.norm, f_i_IsGroup_fr0 t11 t12 s)) (fun e => some (f_i_IsGroup_x0_1 t11 t12 e)) (fun e => some (f_i_IsGroup_x0_2 t11 t12 e)) := by kernel_rfl
theorem f_i_IsGroup_l0 (t11 : List Sc) (t12 : Int) : ∀ s r, loopL (f_i_IsGroup_r0 t11 t12) s = some r → LS Try.prog f_i_IsGroup_F (bodyOf Try.f48 0) (f_i_IsGroup_fr0 t11 t12 s) (enX (f_i_IsGroup_x0_1 t11 t12) (f_i_IsGroup_x0_2 t11 t12) r) :=
  loop_true E0ok f_i_IsGroup_Mt (noL_true) f_i_IsGroup_o (fun _ h => by cases h) (fun _ h => by cases h) (fun s => (f_i_IsGroup_e0 t11 t12 s).trans (f_i_IsGroup_p0 t11 t12 s _ _ (fun e => some (f_i_IsGroup_x0_2 t11 t12 e))))
def f_i_IsGroup_t0 (σ : List AV) : Option (Bool × Bool × (X × List AV) × (X × List AV)) := match dec f_i_IsGroup_h0 σ with
  | some [.i n3, .l t11, .i t12, .i t13] => some ((loopL (f_i_IsGroup_r0 t11 t12) (n3, t13)).isSome, isOne (loopL (f_i_IsGroup_r0 t11 t12) (n3, t13)), f_i_IsGroup_x0_1 t11 t12 (getOne 0 (loopL (f_i_IsGroup_r0 t11 t12) (n3, t13))), f_i_IsGroup_x0_2 t11 t12 (getTwo () (loopL (f_i_IsGroup_r0 t11 t12) (n3, t13))))
  | _ => none
theorem f_i_IsGroup_tt0 : TTrue Try.prog f_i_IsGroup_F Try.f48 0 (f_i_IsGroup_t0) := by
  intro σ p r r' h
  unfold f_i_IsGroup_t0 at h
  split at h
  · rename_i hd
    rw [← dec_enc hd]
    exact row2 (f_i_IsGroup_l0 _ _ _) h
  · cases h
theorem f_i_IsGroup_p {R : Type} (g0 : List Sc) (kR : Bool → Option R) : f_i_IsGroup_k g0 kR = (f_i_IsGroup_k g0 some).bind kR := by
  simp only [f_i_IsGroup_k, brB, blB, someB]
theorem f_i_IsGroup_e (g0 : List Sc) : runFn E0 f_i_IsGroup_M H0 f_i_IsGroup_F (asL (addL 0 (f_i_IsGroup_t0) (noL))) Try.f48 (f_i_IsGroup_a g0) (f_i_IsGroup_i g0) = f_i_IsGroup_k g0 (fun r => some (f_i_IsGroup_en r)) := by kernel_rfl
theorem f_i_IsGroup_ok (g0 : List Sc) (r : Bool) (h : f_i_IsGroup g0 = some r) : CS Try.prog 48 (f_i_IsGroup_a g0) (f_i_IsGroup_i g0) (f_i_IsGroup_en r).1 (f_i_IsGroup_en r).2 :=
  fn_true (Gk := fun k => f_i_IsGroup_k g0 k) (en := f_i_IsGroup_en) Try.func48 E0ok f_i_IsGroup_Mt (addL_true (f_i_IsGroup_tt0) (noL_true)) f_i_IsGroup_o (f_i_IsGroup_e g0) (f_i_IsGroup_p g0) h
def f_i_IsGroup_c : CRow := fun args inh => match dec2 [.p .gr] [] args inh with
  | some ([.l g0], []) => some ((f_i_IsGroup g0).isSome, (f_i_IsGroup_en ((f_i_IsGroup g0).getD false)).1, (f_i_IsGroup_en ((f_i_IsGroup g0).getD false)).2)
  | _ => none
theorem f_i_IsGroup_cc : CTrue Try.prog 48 f_i_IsGroup_c := by
  intro args inh rs out h
  unfold f_i_IsGroup_c at h
  split at h
  · rename_i hd
    obtain ⟨h1, h2⟩ := dec2_enc hd
    rw [← h1, ← h2]
    exact rowC (f_i_IsGroup_ok _) h
  · cases h

def f_i_OrderOf_F : Fi := { nv := 0, nc := 0, m := 0, vt := [], kl := [(0, ([0, 1, 2, 4, 5, 6, 7, 8, 9, 13, 14, 15, 16, 17, 18, 19, 20], [0, 1, 2, 4, 5, 6, 7, 8, 9, 10, 11, 12, 13, 14, 15, 16, 17, 18, 19, 20], [0, 1, 3, 4, 5, 6, 7, 8, 9, 10, 11, 12, 13, 14, 15, 16, 17, 18, 19, 20]))], sk := [], mvs := [], fz := [] }
def f_i_OrderOf_a (g0 : List Sc) : List AV := enc [.p .gr] [.l g0]
def f_i_OrderOf_i (g0 : List Sc) : List AV := enc [] []
def f_i_OrderOf_en (r : Int) : List AV × List AV := (enc [.p (.int .i64)] [.i r], enc [] [])
def f_i_OrderOf_M : Calling := addC 48 f_i_IsGroup_c (noC)
theorem f_i_OrderOf_Mt : CallOk Try.prog (f_i_OrderOf_M) := addC_true f_i_IsGroup_cc (noC_true)
theorem f_i_OrderOf_o : loopsOnce Try.f49 = true := by kernel_rfl
def f_i_OrderOf_h0 : List Sh := [.u, .u, .u, .p (.int .i64), .u, .u, .u, .u, .u, .u, .p .sl, .p (.int .i64), .p (.int .i64), .u, .u, .u, .u, .u, .u, .u, .u]
def f_i_OrderOf_fr0 (t10 : List Sc) (t11 : Int) (s : Int × Int) : List AV := enc f_i_OrderOf_h0 [.i s.1, .l t10, .i t11, .i s.2]
def f_i_OrderOf_g0_1 : List Sh := [.u, .u, .u, .p (.int .i64), .u, .u, .u, .u, .u, .u, .u, .u, .u, .u, .u, .u, .u, .u, .u, .u, .u]
def f_i_OrderOf_x0_1 (t10 : List Sc) (t11 : Int) (e : Int) : X × List AV := (.out 0, enc f_i_OrderOf_g0_1 [.i e])
def f_i_OrderOf_x0_2 (t10 : List Sc) (t11 : Int) (_e : Unit) : X × List AV := (.ret, [])
theorem f_i_OrderOf_p0 {R : Type} (t10 : List Sc) (t11 : Int) (s : Int × Int) (kN : Int × Int → Option R) (kA : Int → Option R) (kB : Unit → Option R) : f_i_OrderOf_k0 t10 t11 s.1 s.2 kN kA = (f_i_OrderOf_r0 t10 t11 s).bind (Ro.el kN kA kB) := by
  simp only [f_i_OrderOf_k0, f_i_OrderOf_r0, brB, someB, noneB, Ro.el]
theorem f_i_OrderOf_e0 (t10 : List Sc) (t11 : Int) (s : Int × Int) : EC E0 f_i_OrderOf_M H0 f_i_OrderOf_F (asL (noL)) 0 (bodyOf Try.f49 0) (f_i_OrderOf_fr0 t10 t11 s) (done (klOf f_i_OrderOf_F 0)) = f_i_OrderOf_k0 t10 t11 s.1 s.2 (fun s => some (.norm, f_i_OrderOf_fr0 t10 t11 s)) (fun e => some (f_i_OrderOf_x0_1 t10 t11 e)) := by kernel_rfl
theorem f_i_OrderOf_l0 (t10 : List Sc) (t11 : Int) : ∀ s r, loopL (f_i_OrderOf_r0 t10 t11) s = some r → LS Try.prog f_i_OrderOf_F (bodyOf Try.f49 0) (f_i_OrderOf_fr0 t10 t11 s) (enX (f_i_OrderOf_x0_1 t10 t11) (f_i_OrderOf_x0_2 t10 t11) r) :=
  loop_true E0ok f_i_OrderOf_Mt (noL_true) f_i_OrderOf_o (fun _ h => by cases h) (fun _ h => by cases h) (fun s => (f_i_OrderOf_e0 t10 t11 s).trans (f_i_OrderOf_p0 t10 t11 s _ _ (fun e => some (f_i_OrderOf_x0_2 t10 t11 e))))
def f_i_OrderOf_t0 (σ : List AV) : Option (Bool × Bool × (X × List AV) × (X × List AV)) := match dec f_i_OrderOf_h0 σ with
  | some [.i n3, .l t10, .i t11, .i t12] => some (isOne (loopL (f_i_OrderOf_r0 t10 t11) (n3, t12)), true, f_i_OrderOf_x0_1 t10 t11 (getOne 0 (loopL (f_i_OrderOf_r0 t10 t11) (n3, t12))), (.ret, []))
  | _ => none
theorem f_i_OrderOf_tt0 : TTrue Try.prog f_i_OrderOf_F Try.f49 0 (f_i_OrderOf_t0) := by
  intro σ p r r' h
  unfold f_i_OrderOf_t0 at h
  split at h
  · rename_i hd
    rw [← dec_enc hd]
    exact row1 (f_i_OrderOf_l0 _ _ _) h
  · cases h
theorem f_i_OrderOf_p {R : Type} (g0 : List Sc) (kR : Int → Option R) : f_i_OrderOf_k g0 kR = (f_i_OrderOf_k g0 some).bind kR := by
  simp only [f_i_OrderOf_k, brB, boB, bl1B, someB]
theorem f_i_OrderOf_e (g0 : List Sc) : runFn E0 f_i_OrderOf_M H0 f_i_OrderOf_F (asL (addL 0 (f_i_OrderOf_t0) (noL))) Try.f49 (f_i_OrderOf_a g0) (f_i_OrderOf_i g0) = f_i_OrderOf_k g0 (fun r => some (f_i_OrderOf_en r)) := by kernel_rfl
theorem f_i_OrderOf_ok (g0 : List Sc) (r : Int) (h : f_i_OrderOf g0 = some r) : CS Try.prog 49 (f_i_OrderOf_a g0) (f_i_OrderOf_i g0) (f_i_OrderOf_en r).1 (f_i_OrderOf_en r).2 :=
  fn_true (Gk := fun k => f_i_OrderOf_k g0 k) (en := f_i_OrderOf_en) Try.func49 E0ok f_i_OrderOf_Mt (addL_true (f_i_OrderOf_tt0) (noL_true)) f_i_OrderOf_o (f_i_OrderOf_e g0) (f_i_OrderOf_p g0) h
def f_i_OrderOf_c : CRow := fun args inh => match dec2 [.p .gr] [] args inh with
  | some ([.l g0], []) => some ((f_i_OrderOf g0).isSome, (f_i_OrderOf_en ((f_i_OrderOf g0).getD 0)).1, (f_i_OrderOf_en ((f_i_OrderOf g0).getD 0)).2)
  | _ => none
theorem f_i_OrderOf_cc : CTrue Try.prog 49 f_i_OrderOf_c := by
  intro args inh rs out h
  unfold f_i_OrderOf_c at h
  split at h
  · rename_i hd
    obtain ⟨h1, h2⟩ := dec2_enc hd
    rw [← h1, ← h2]
    exact rowC (f_i_OrderOf_ok _) h
  · cases h

def f_i_IsSet_F : Fi := { nv := 0, nc := 0, m := 0, vt := [], kl := [], sk := [], mvs := [], fz := [] }
def f_i_IsSet_a (g0 : List Sc) (a1 : Int) : List AV := enc [.p .gr, .p (.int .i64)] [.l g0, .i a1]
def f_i_IsSet_i (g0 : List Sc) (a1 : Int) : List AV := enc [] []
def f_i_IsSet_en (r : Bool) : List AV × List AV := (enc [.p .boo] [.b r], enc [] [])
def f_i_IsSet_M : Calling := addC 48 f_i_IsGroup_c (addC 49 f_i_OrderOf_c (noC))
theorem f_i_IsSet_Mt : CallOk Try.prog (f_i_IsSet_M) := addC_true f_i_IsGroup_cc (addC_true f_i_OrderOf_cc (noC_true))
theorem f_i_IsSet_o : loopsOnce Try.f28 = true := by kernel_rfl
theorem f_i_IsSet_p {R : Type} (g0 : List Sc) (a1 : Int) (kR : Bool → Option R) : f_i_IsSet_k g0 a1 kR = (f_i_IsSet_k g0 a1 some).bind kR := by
  simp only [f_i_IsSet_k, brB, boB, someB, noneB]
theorem f_i_IsSet_e (g0 : List Sc) (a1 : Int) : runFn E0 f_i_IsSet_M H0 f_i_IsSet_F (asL (noL)) Try.f28 (f_i_IsSet_a g0 a1) (f_i_IsSet_i g0 a1) = f_i_IsSet_k g0 a1 (fun r => some (f_i_IsSet_en r)) := by kernel_rfl
theorem f_i_IsSet_ok (g0 : List Sc) (a1 : Int) (r : Bool) (h : f_i_IsSet g0 a1 = some r) : CS Try.prog 28 (f_i_IsSet_a g0 a1) (f_i_IsSet_i g0 a1) (f_i_IsSet_en r).1 (f_i_IsSet_en r).2 :=
  fn_true (Gk := fun k => f_i_IsSet_k g0 a1 k) (en := f_i_IsSet_en) Try.func28 E0ok f_i_IsSet_Mt (noL_true) f_i_IsSet_o (f_i_IsSet_e g0 a1) (f_i_IsSet_p g0 a1) h
def f_i_IsSet_c : CRow := fun args inh => match dec2 [.p .gr, .p (.int .i64)] [] args inh with
  | some ([.l g0, .i a1], []) => some ((f_i_IsSet g0 a1).isSome, (f_i_IsSet_en ((f_i_IsSet g0 a1).getD false)).1, (f_i_IsSet_en ((f_i_IsSet g0 a1).getD false)).2)
  | _ => none
theorem f_i_IsSet_cc : CTrue Try.prog 28 f_i_IsSet_c := by
  intro args inh rs out h
  unfold f_i_IsSet_c at h
  split at h
  · rename_i hd
    obtain ⟨h1, h2⟩ := dec2_enc hd
    rw [← h1, ← h2]
    exact rowC (f_i_IsSet_ok _ _) h
  · cases h

def f_i_FullSet_F : Fi := { nv := 0, nc := 0, m := 0, vt := [], kl := [], sk := [], mvs := [], fz := [] }
def f_i_FullSet_a (g0 : List Sc) : List AV := enc [.p .gr] [.l g0]
def f_i_FullSet_i (g0 : List Sc) : List AV := enc [] []
def f_i_FullSet_en (r : Int) : List AV × List AV := (enc [.p (.int .i64)] [.i r], enc [] [])
def f_i_FullSet_M : Calling := addC 48 f_i_IsGroup_c (addC 49 f_i_OrderOf_c (noC))
theorem f_i_FullSet_Mt : CallOk Try.prog (f_i_FullSet_M) := addC_true f_i_IsGroup_cc (addC_true f_i_OrderOf_cc (noC_true))
theorem f_i_FullSet_o : loopsOnce Try.f36 = true := by kernel_rfl
theorem f_i_FullSet_p {R : Type} (g0 : List Sc) (kR : Int → Option R) : f_i_FullSet_k g0 kR = (f_i_FullSet_k g0 some).bind kR := by
  simp only [f_i_FullSet_k, brB, boB, someB, noneB]
theorem f_i_FullSet_e (g0 : List Sc) : runFn E0 f_i_FullSet_M H0 f_i_FullSet_F (asL (noL)) Try.f36 (f_i_FullSet_a g0) (f_i_FullSet_i g0) = f_i_FullSet_k g0 (fun r => some (f_i_FullSet_en r)) := by kernel_rfl
theorem f_i_FullSet_ok (g0 : List Sc) (r : Int) (h : f_i_FullSet g0 = some r) : CS Try.prog 36 (f_i_FullSet_a g0) (f_i_FullSet_i g0) (f_i_FullSet_en r).1 (f_i_FullSet_en r).2 :=
  fn_true (Gk := fun k => f_i_FullSet_k g0 k) (en := f_i_FullSet_en) Try.func36 E0ok f_i_FullSet_Mt (noL_true) f_i_FullSet_o (f_i_FullSet_e g0) (f_i_FullSet_p g0) h
def f_i_FullSet_c : CRow := fun args inh => match dec2 [.p .gr] [] args inh with
  | some ([.l g0], []) => some ((f_i_FullSet g0).isSome, (f_i_FullSet_en ((f_i_FullSet g0).getD 0)).1, (f_i_FullSet_en ((f_i_FullSet g0).getD 0)).2)
  | _ => none
theorem f_i_FullSet_cc : CTrue Try.prog 36 f_i_FullSet_c := by
  intro args inh rs out h
  unfold f_i_FullSet_c at h
  split at h
  · rename_i hd
    obtain ⟨h1, h2⟩ := dec2_enc hd
    rw [← h1, ← h2]
    exact rowC (f_i_FullSet_ok _) h
  · cases h

def f_i_in_F : Fi := { nv := 0, nc := 0, m := 0, vt := [], kl := [], sk := [], mvs := [], fz := [] }
def f_i_in_a (a0 : Int) (x1 : Int) : List AV := enc [.p (.int .i64), .p (.int .i64)] [.i a0, .i x1]
def f_i_in_i (a0 : Int) (x1 : Int) : List AV := enc [] []
def f_i_in_en (r : Bool) : List AV × List AV := (enc [.p .boo] [.b r], enc [] [])
def f_i_in_M : Calling := noC
theorem f_i_in_Mt : CallOk Try.prog (f_i_in_M) := noC_true
theorem f_i_in_o : loopsOnce Try.f51 = true := by kernel_rfl
theorem f_i_in_p {R : Type} (a0 : Int) (x1 : Int) (kR : Bool → Option R) : f_i_in_k a0 x1 kR = (f_i_in_k a0 x1 some).bind kR := by
  simp only [f_i_in_k, brB, someB, noneB]
theorem f_i_in_e (a0 : Int) (x1 : Int) : runFn E0 f_i_in_M H0 f_i_in_F (asL (noL)) Try.f51 (f_i_in_a a0 x1) (f_i_in_i a0 x1) = f_i_in_k a0 x1 (fun r => some (f_i_in_en r)) := by kernel_rfl
theorem f_i_in_ok (a0 : Int) (x1 : Int) (r : Bool) (h : f_i_in a0 x1 = some r) : CS Try.prog 51 (f_i_in_a a0 x1) (f_i_in_i a0 x1) (f_i_in_en r).1 (f_i_in_en r).2 :=
  fn_true (Gk := fun k => f_i_in_k a0 x1 k) (en := f_i_in_en) Try.func51 E0ok f_i_in_Mt (noL_true) f_i_in_o (f_i_in_e a0 x1) (f_i_in_p a0 x1) h
def f_i_in_c : CRow := fun args inh => match dec2 [.p (.int .i64), .p (.int .i64)] [] args inh with
  | some ([.i a0, .i x1], []) => some ((f_i_in a0 x1).isSome, (f_i_in_en ((f_i_in a0 x1).getD false)).1, (f_i_in_en ((f_i_in a0 x1).getD false)).2)
  | _ => none
theorem f_i_in_cc : CTrue Try.prog 51 f_i_in_c := by
  intro args inh rs out h
  unfold f_i_in_c at h
  split at h
  · rename_i hd
    obtain ⟨h1, h2⟩ := dec2_enc hd
    rw [← h1, ← h2]
    exact rowC (f_i_in_ok _ _) h
  · cases h

def f_i_members_F : Fi := { nv := 0, nc := 0, m := 0, vt := [], kl := [(0, ([1, 2, 5, 6, 7, 8, 9, 10, 11, 12, 13, 14, 15, 16, 17, 18, 19, 20, 21], [0, 1, 2, 4, 5, 6, 7, 8, 9, 10, 11, 12, 13, 14, 15, 16, 17, 18, 19, 20, 21], [0, 1, 3, 4, 5, 6, 7, 8, 9, 10, 11, 12, 13, 14, 15, 16, 17, 18, 19, 20, 21]))], sk := [], mvs := [], fz := [] }
def f_i_members_a (a0 : Int) : List AV := enc [.p (.int .i64)] [.i a0]
def f_i_members_i (a0 : Int) : List AV := enc [] []
def f_i_members_en (r : List Sc) : List AV × List AV := (enc [.p (.al 0)] [], enc [.own 3] [.l r])
def f_i_members_M : Calling := noC
theorem f_i_members_Mt : CallOk Try.prog (f_i_members_M) := noC_true
theorem f_i_members_o : loopsOnce Try.f52 = true := by kernel_rfl
def f_i_members_h0 : List Sh := [.p (.int .i64), .u, .u, .own 3, .p (.int .i64), .u, .u, .u, .u, .u, .u, .u, .u, .u, .u, .u, .u, .u, .u, .u, .u, .u]
def f_i_members_fr0 (a0 : Int) (s : List Sc × Int) : List AV := enc f_i_members_h0 [.i a0, .l s.1, .i s.2]
def f_i_members_g0_1 : List Sh := [.u, .u, .u, .own 3, .u, .u, .u, .u, .u, .u, .u, .u, .u, .u, .u, .u, .u, .u, .u, .u, .u, .u]
def f_i_members_x0_1 (a0 : Int) (e : List Sc) : X × List AV := (.out 0, enc f_i_members_g0_1 [.l e])
def f_i_members_x0_2 (a0 : Int) (_e : Unit) : X × List AV := (.ret, [])
theorem f_i_members_p0 {R : Type} (a0 : Int) (s : List Sc × Int) (kN : List Sc × Int → Option R) (kA : List Sc → Option R) (kB : Unit → Option R) : f_i_members_k0 a0 s.1 s.2 kN kA = (f_i_members_r0 a0 s).bind (Ro.el kN kA kB) := by
  simp only [f_i_members_k0, f_i_members_r0, brB, someB, noneB, Ro.el]
theorem f_i_members_e0 (a0 : Int) (s : List Sc × Int) : EC E0 f_i_members_M H0 f_i_members_F (asL (noL)) 0 (bodyOf Try.f52 0) (f_i_members_fr0 a0 s) (done (klOf f_i_members_F 0)) = f_i_members_k0 a0 s.1 s.2 (fun s => some (.norm, f_i_members_fr0 a0 s)) (fun e => some (f_i_members_x0_1 a0 e)) := by kernel_rfl
theorem f_i_members_l0 (a0 : Int) : ∀ s r, loopL (f_i_members_r0 a0) s = some r → LS Try.prog f_i_members_F (bodyOf Try.f52 0) (f_i_members_fr0 a0 s) (enX (f_i_members_x0_1 a0) (f_i_members_x0_2 a0) r) :=
  loop_true E0ok f_i_members_Mt (noL_true) f_i_members_o (fun _ h => by cases h) (fun _ h => by cases h) (fun s => (f_i_members_e0 a0 s).trans (f_i_members_p0 a0 s _ _ (fun e => some (f_i_members_x0_2 a0 e))))
def f_i_members_t0 (σ : List AV) : Option (Bool × Bool × (X × List AV) × (X × List AV)) := match dec f_i_members_h0 σ with
  | some [.i a0, .l out3, .i x4] => some (isOne (loopL (f_i_members_r0 a0) (out3, x4)), true, f_i_members_x0_1 a0 (getOne [] (loopL (f_i_members_r0 a0) (out3, x4))), (.ret, []))
  | _ => none
theorem f_i_members_tt0 : TTrue Try.prog f_i_members_F Try.f52 0 (f_i_members_t0) := by
  intro σ p r r' h
  unfold f_i_members_t0 at h
  split at h
  · rename_i hd
    rw [← dec_enc hd]
    exact row1 (f_i_members_l0 _ _) h
  · cases h
theorem f_i_members_p {R : Type} (a0 : Int) (kR : List Sc → Option R) : f_i_members_k a0 kR = (f_i_members_k a0 some).bind kR := by
  simp only [f_i_members_k, bl1B, someB]
theorem f_i_members_e (a0 : Int) : runFn E0 f_i_members_M H0 f_i_members_F (asL (addL 0 (f_i_members_t0) (noL))) Try.f52 (f_i_members_a a0) (f_i_members_i a0) = f_i_members_k a0 (fun r => some (f_i_members_en r)) := by kernel_rfl
theorem f_i_members_ok (a0 : Int) (r : List Sc) (h : f_i_members a0 = some r) : CS Try.prog 52 (f_i_members_a a0) (f_i_members_i a0) (f_i_members_en r).1 (f_i_members_en r).2 :=
  fn_true (Gk := fun k => f_i_members_k a0 k) (en := f_i_members_en) Try.func52 E0ok f_i_members_Mt (addL_true (f_i_members_tt0) (noL_true)) f_i_members_o (f_i_members_e a0) (f_i_members_p a0) h
def f_i_members_c : CRow := fun args inh => match dec2 [.p (.int .i64)] [] args inh with
  | some ([.i a0], []) => some ((f_i_members a0).isSome, (f_i_members_en ((f_i_members a0).getD [])).1, (f_i_members_en ((f_i_members a0).getD [])).2)
  | _ => none
theorem f_i_members_cc : CTrue Try.prog 52 f_i_members_c := by
  intro args inh rs out h
  unfold f_i_members_c at h
  split at h
  · rename_i hd
    obtain ⟨h1, h2⟩ := dec2_enc hd
    rw [← h1, ← h2]
    exact rowC (f_i_members_ok _) h
  · cases h

def f_i_Group_negate_F : Fi := { nv := 0, nc := 0, m := 0, vt := [], kl := [(0, ([0, 2, 3, 4, 7, 8, 9, 13, 14, 15, 16, 17, 18, 19, 20, 21, 22, 23, 24, 25, 26, 27, 28, 29, 30, 31, 32, 33, 34], [0, 1, 2, 3, 4, 6, 7, 8, 9, 10, 11, 12, 13, 14, 15, 16, 17, 18, 19, 20, 21, 22, 23, 24, 25, 26, 27, 28, 29, 30, 31, 32, 33, 34], [0, 1, 2, 3, 5, 6, 7, 8, 9, 10, 11, 12, 13, 14, 15, 16, 17, 18, 19, 20, 21, 22, 23, 24, 25, 26, 27, 28, 29, 30, 31, 32, 33, 34]))], sk := [], mvs := [], fz := [] }
def f_i_Group_negate_a (g0 : List Sc) (x1 : Int) : List AV := enc [.p .gr, .p (.int .i64)] [.l g0, .i x1]
def f_i_Group_negate_i (g0 : List Sc) (x1 : Int) : List AV := enc [] []
def f_i_Group_negate_en (r : Int) : List AV × List AV := (enc [.p (.int .i64)] [.i r], enc [] [])
def f_i_Group_negate_M : Calling := noC
theorem f_i_Group_negate_Mt : CallOk Try.prog (f_i_Group_negate_M) := noC_true
theorem f_i_Group_negate_o : loopsOnce Try.f74 = true := by kernel_rfl
def f_i_Group_negate_h0 : List Sh := [.u, .p (.int .i64), .u, .u, .u, .p (.int .i64), .p (.int .i64), .u, .u, .u, .p .sl, .p (.int .i64), .p (.int .i64), .u, .u, .u, .u, .u, .u, .u, .u, .u, .u, .u, .u, .u, .u, .u, .u, .u, .u, .u, .u, .u, .u]
def f_i_Group_negate_fr0 (t10 : List Sc) (t11 : Int) (s : Int × Int × Int × Int) : List AV := enc f_i_Group_negate_h0 [.i s.1, .i s.2.1, .i s.2.2.1, .l t10, .i t11, .i s.2.2.2]
def f_i_Group_negate_g0_1 : List Sh := [.u, .u, .u, .u, .u, .p (.int .i64), .u, .u, .u, .u, .u, .u, .u, .u, .u, .u, .u, .u, .u, .u, .u, .u, .u, .u, .u, .u, .u, .u, .u, .u, .u, .u, .u, .u, .u]
def f_i_Group_negate_x0_1 (t10 : List Sc) (t11 : Int) (e : Int) : X × List AV := (.out 0, enc f_i_Group_negate_g0_1 [.i e])
def f_i_Group_negate_x0_2 (t10 : List Sc) (t11 : Int) (_e : Unit) : X × List AV := (.ret, [])
theorem f_i_Group_negate_p0 {R : Type} (t10 : List Sc) (t11 : Int) (s : Int × Int × Int × Int) (kN : Int × Int × Int × Int → Option R) (kA : Int → Option R) (kB : Unit → Option R) : f_i_Group_negate_k0 t10 t11 s.1 s.2.1 s.2.2.1 s.2.2.2 kN kA = (f_i_Group_negate_r0 t10 t11 s).bind (Ro.el kN kA kB) := by
  simp only [f_i_Group_negate_k0, f_i_Group_negate_r0, brB, someB, noneB, Ro.el]
theorem f_i_Group_negate_e0 (t10 : List Sc) (t11 : Int) (s : Int × Int × Int × Int) : EC E0 f_i_Group_negate_M H0 f_i_Group_negate_F (asL (noL)) 0 (bodyOf Try.f74 0) (f_i_Group_negate_fr0 t10 t11 s) (done (klOf f_i_Group_negate_F 0)) = f_i_Group_negate_k0 t10 t11 s.1 s.2.1 s.2.2.1 s.2.2.2 (fun s => some (.norm, f_i_Group_negate_fr0 t10 t11 s)) (fun e => some (f_i_Group_negate_x0_1 t10 t11 e)) := by kernel_rfl
theorem f_i_Group_negate_l0 (t10 : List Sc) (t11 : Int) : ∀ s r, loopL (f_i_Group_negate_r0 t10 t11) s = some r → LS Try.prog f_i_Group_negate_F (bodyOf Try.f74 0) (f_i_Group_negate_fr0 t10 t11 s) (enX (f_i_Group_negate_x0_1 t10 t11) (f_i_Group_negate_x0_2 t10 t11) r) :=
  loop_true E0ok f_i_Group_negate_Mt (noL_true) f_i_Group_negate_o (fun _ h => by cases h) (fun _ h => by cases h) (fun s => (f_i_Group_negate_e0 t10 t11 s).trans (f_i_Group_negate_p0 t10 t11 s _ _ (fun e => some (f_i_Group_negate_x0_2 t10 t11 e))))
def f_i_Group_negate_t0 (σ : List AV) : Option (Bool × Bool × (X × List AV) × (X × List AV)) := match dec f_i_Group_negate_h0 σ with
  | some [.i x1, .i sum5, .i unit6, .l t10, .i t11, .i t12] => some (isOne (loopL (f_i_Group_negate_r0 t10 t11) (x1, sum5, unit6, t12)), true, f_i_Group_negate_x0_1 t10 t11 (getOne 0 (loopL (f_i_Group_negate_r0 t10 t11) (x1, sum5, unit6, t12))), (.ret, []))
  | _ => none
theorem f_i_Group_negate_tt0 : TTrue Try.prog f_i_Group_negate_F Try.f74 0 (f_i_Group_negate_t0) := by
  intro σ p r r' h
  unfold f_i_Group_negate_t0 at h
  split at h
  · rename_i hd
    rw [← dec_enc hd]
    exact row1 (f_i_Group_negate_l0 _ _ _) h
  · cases h
theorem f_i_Group_negate_p {R : Type} (g0 : List Sc) (x1 : Int) (kR : Int → Option R) : f_i_Group_negate_k g0 x1 kR = (f_i_Group_negate_k g0 x1 some).bind kR := by
  simp only [f_i_Group_negate_k, bl1B, someB]
theorem f_i_Group_negate_e (g0 : List Sc) (x1 : Int) : runFn E0 f_i_Group_negate_M H0 f_i_Group_negate_F (asL (addL 0 (f_i_Group_negate_t0) (noL))) Try.f74 (f_i_Group_negate_a g0 x1) (f_i_Group_negate_i g0 x1) = f_i_Group_negate_k g0 x1 (fun r => some (f_i_Group_negate_en r)) := by kernel_rfl
theorem f_i_Group_negate_ok (g0 : List Sc) (x1 : Int) (r : Int) (h : f_i_Group_negate g0 x1 = some r) : CS Try.prog 74 (f_i_Group_negate_a g0 x1) (f_i_Group_negate_i g0 x1) (f_i_Group_negate_en r).1 (f_i_Group_negate_en r).2 :=
  fn_true (Gk := fun k => f_i_Group_negate_k g0 x1 k) (en := f_i_Group_negate_en) Try.func74 E0ok f_i_Group_negate_Mt (addL_true (f_i_Group_negate_tt0) (noL_true)) f_i_Group_negate_o (f_i_Group_negate_e g0 x1) (f_i_Group_negate_p g0 x1) h
def f_i_Group_negate_c : CRow := fun args inh => match dec2 [.p .gr, .p (.int .i64)] [] args inh with
  | some ([.l g0, .i x1], []) => some ((f_i_Group_negate g0 x1).isSome, (f_i_Group_negate_en ((f_i_Group_negate g0 x1).getD 0)).1, (f_i_Group_negate_en ((f_i_Group_negate g0 x1).getD 0)).2)
  | _ => none
theorem f_i_Group_negate_cc : CTrue Try.prog 74 f_i_Group_negate_c := by
  intro args inh rs out h
  unfold f_i_Group_negate_c at h
  split at h
  · rename_i hd
    obtain ⟨h1, h2⟩ := dec2_enc hd
    rw [← h1, ← h2]
    exact rowC (f_i_Group_negate_ok _ _) h
  · cases h

def f_i_Group_add_F : Fi := { nv := 0, nc := 0, m := 0, vt := [], kl := [(0, ([0, 3, 4, 5, 6, 9, 10, 11, 15, 16, 17, 18, 19, 20, 21, 22, 23, 24, 25, 26, 27, 28, 29, 30, 31, 32, 33, 34, 35, 36, 37, 38, 39, 40, 41], [0, 1, 2, 3, 4, 5, 6, 8, 9, 10, 11, 12, 13, 14, 15, 16, 17, 18, 19, 20, 21, 22, 23, 24, 25, 26, 27, 28, 29, 30, 31, 32, 33, 34, 35, 36, 37, 38, 39, 40, 41], [0, 1, 2, 3, 4, 5, 7, 8, 9, 10, 11, 12, 13, 14, 15, 16, 17, 18, 19, 20, 21, 22, 23, 24, 25, 26, 27, 28, 29, 30, 31, 32, 33, 34, 35, 36, 37, 38, 39, 40, 41]))], sk := [], mvs := [], fz := [] }
def f_i_Group_add_a (g0 : List Sc) (x1 : Int) (y2 : Int) : List AV := enc [.p .gr, .p (.int .i64), .p (.int .i64)] [.l g0, .i x1, .i y2]
def f_i_Group_add_i (g0 : List Sc) (x1 : Int) (y2 : Int) : List AV := enc [] []
def f_i_Group_add_en (r : Int) : List AV × List AV := (enc [.p (.int .i64)] [.i r], enc [] [])
def f_i_Group_add_M : Calling := noC
theorem f_i_Group_add_Mt : CallOk Try.prog (f_i_Group_add_M) := noC_true
theorem f_i_Group_add_o : loopsOnce Try.f73 = true := by kernel_rfl
def f_i_Group_add_h0 : List Sh := [.u, .p (.int .i64), .p (.int .i64), .u, .u, .u, .u, .p (.int .i64), .p (.int .i64), .u, .u, .u, .p .sl, .p (.int .i64), .p (.int .i64), .u, .u, .u, .u, .u, .u, .u, .u, .u, .u, .u, .u, .u, .u, .u, .u, .u, .u, .u, .u, .u, .u, .u, .u, .u, .u, .u]
def f_i_Group_add_fr0 (t12 : List Sc) (t13 : Int) (s : Int × Int × Int × Int × Int) : List AV := enc f_i_Group_add_h0 [.i s.1, .i s.2.1, .i s.2.2.1, .i s.2.2.2.1, .l t12, .i t13, .i s.2.2.2.2]
def f_i_Group_add_g0_1 : List Sh := [.u, .u, .u, .u, .u, .u, .u, .p (.int .i64), .u, .u, .u, .u, .u, .u, .u, .u, .u, .u, .u, .u, .u, .u, .u, .u, .u, .u, .u, .u, .u, .u, .u, .u, .u, .u, .u, .u, .u, .u, .u, .u, .u, .u]
def f_i_Group_add_x0_1 (t12 : List Sc) (t13 : Int) (e : Int) : X × List AV := (.out 0, enc f_i_Group_add_g0_1 [.i e])
def f_i_Group_add_x0_2 (t12 : List Sc) (t13 : Int) (_e : Unit) : X × List AV := (.ret, [])
theorem f_i_Group_add_p0 {R : Type} (t12 : List Sc) (t13 : Int) (s : Int × Int × Int × Int × Int) (kN : Int × Int × Int × Int × Int → Option R) (kA : Int → Option R) (kB : Unit → Option R) : f_i_Group_add_k0 t12 t13 s.1 s.2.1 s.2.2.1 s.2.2.2.1 s.2.2.2.2 kN kA = (f_i_Group_add_r0 t12 t13 s).bind (Ro.el kN kA kB) := by
  simp only [f_i_Group_add_k0, f_i_Group_add_r0, brB, someB, noneB, Ro.el]
theorem f_i_Group_add_e0 (t12 : List Sc) (t13 : Int) (s : Int × Int × Int × Int × Int) : EC E0 f_i_Group_add_M H0 f_i_Group_add_F (asL (noL)) 0 (bodyOf Try.f73 0) (f_i_Group_add_fr0 t12 t13 s) (done (klOf f_i_Group_add_F 0)) = f_i_Group_add_k0 t12 t13 s.1 s.2.1 s.2.2.1 s.2.2.2.1 s.2.2.2.2 (fun s => some (.norm, f_i_Group_add_fr0 t12 t13 s)) (fun e => some (f_i_Group_add_x0_1 t12 t13 e)) := by kernel_rfl
theorem f_i_Group_add_l0 (t12 : List Sc) (t13 : Int) : ∀ s r, loopL (f_i_Group_add_r0 t12 t13) s = some r → LS Try.prog f_i_Group_add_F (bodyOf Try.f73 0) (f_i_Group_add_fr0 t12 t13 s) (enX (f_i_Group_add_x0_1 t12 t13) (f_i_Group_add_x0_2 t12 t13) r) :=
  loop_true E0ok f_i_Group_add_Mt (noL_true) f_i_Group_add_o (fun _ h => by cases h) (fun _ h => by cases h) (fun s => (f_i_Group_add_e0 t12 t13 s).trans (f_i_Group_add_p0 t12 t13 s _ _ (fun e => some (f_i_Group_add_x0_2 t12 t13 e))))
def f_i_Group_add_t0 (σ : List AV) : Option (Bool × Bool × (X × List AV) × (X × List AV)) := match dec f_i_Group_add_h0 σ with
  | some [.i x1, .i y2, .i sum7, .i unit8, .l t12, .i t13, .i t14] => some (isOne (loopL (f_i_Group_add_r0 t12 t13) (x1, y2, sum7, unit8, t14)), true, f_i_Group_add_x0_1 t12 t13 (getOne 0 (loopL (f_i_Group_add_r0 t12 t13) (x1, y2, sum7, unit8, t14))), (.ret, []))
  | _ => none
theorem f_i_Group_add_tt0 : TTrue Try.prog f_i_Group_add_F Try.f73 0 (f_i_Group_add_t0) := by
  intro σ p r r' h
  unfold f_i_Group_add_t0 at h
  split at h
  · rename_i hd
    rw [← dec_enc hd]
    exact row1 (f_i_Group_add_l0 _ _ _) h
  · cases h
theorem f_i_Group_add_p {R : Type} (g0 : List Sc) (x1 : Int) (y2 : Int) (kR : Int → Option R) : f_i_Group_add_k g0 x1 y2 kR = (f_i_Group_add_k g0 x1 y2 some).bind kR := by
  simp only [f_i_Group_add_k, bl1B, someB]
theorem f_i_Group_add_e (g0 : List Sc) (x1 : Int) (y2 : Int) : runFn E0 f_i_Group_add_M H0 f_i_Group_add_F (asL (addL 0 (f_i_Group_add_t0) (noL))) Try.f73 (f_i_Group_add_a g0 x1 y2) (f_i_Group_add_i g0 x1 y2) = f_i_Group_add_k g0 x1 y2 (fun r => some (f_i_Group_add_en r)) := by kernel_rfl
theorem f_i_Group_add_ok (g0 : List Sc) (x1 : Int) (y2 : Int) (r : Int) (h : f_i_Group_add g0 x1 y2 = some r) : CS Try.prog 73 (f_i_Group_add_a g0 x1 y2) (f_i_Group_add_i g0 x1 y2) (f_i_Group_add_en r).1 (f_i_Group_add_en r).2 :=
  fn_true (Gk := fun k => f_i_Group_add_k g0 x1 y2 k) (en := f_i_Group_add_en) Try.func73 E0ok f_i_Group_add_Mt (addL_true (f_i_Group_add_tt0) (noL_true)) f_i_Group_add_o (f_i_Group_add_e g0 x1 y2) (f_i_Group_add_p g0 x1 y2) h
def f_i_Group_add_c : CRow := fun args inh => match dec2 [.p .gr, .p (.int .i64), .p (.int .i64)] [] args inh with
  | some ([.l g0, .i x1, .i y2], []) => some ((f_i_Group_add g0 x1 y2).isSome, (f_i_Group_add_en ((f_i_Group_add g0 x1 y2).getD 0)).1, (f_i_Group_add_en ((f_i_Group_add g0 x1 y2).getD 0)).2)
  | _ => none
theorem f_i_Group_add_cc : CTrue Try.prog 73 f_i_Group_add_c := by
  intro args inh rs out h
  unfold f_i_Group_add_c at h
  split at h
  · rename_i hd
    obtain ⟨h1, h2⟩ := dec2_enc hd
    rw [← h1, ← h2]
    exact rowC (f_i_Group_add_ok _ _ _) h
  · cases h

def f_i_Group_minus_F : Fi := { nv := 0, nc := 0, m := 0, vt := [], kl := [], sk := [], mvs := [], fz := [] }
def f_i_Group_minus_a (g0 : List Sc) (x1 : Int) (y2 : Int) : List AV := enc [.p .gr, .p (.int .i64), .p (.int .i64)] [.l g0, .i x1, .i y2]
def f_i_Group_minus_i (g0 : List Sc) (x1 : Int) (y2 : Int) : List AV := enc [] []
def f_i_Group_minus_en (r : Int) : List AV × List AV := (enc [.p (.int .i64)] [.i r], enc [] [])
def f_i_Group_minus_M : Calling := addC 74 f_i_Group_negate_c (addC 73 f_i_Group_add_c (noC))
theorem f_i_Group_minus_Mt : CallOk Try.prog (f_i_Group_minus_M) := addC_true f_i_Group_negate_cc (addC_true f_i_Group_add_cc (noC_true))
theorem f_i_Group_minus_o : loopsOnce Try.f53 = true := by kernel_rfl
theorem f_i_Group_minus_p {R : Type} (g0 : List Sc) (x1 : Int) (y2 : Int) (kR : Int → Option R) : f_i_Group_minus_k g0 x1 y2 kR = (f_i_Group_minus_k g0 x1 y2 some).bind kR := by
  simp only [f_i_Group_minus_k, boB, someB]
theorem f_i_Group_minus_e (g0 : List Sc) (x1 : Int) (y2 : Int) : runFn E0 f_i_Group_minus_M H0 f_i_Group_minus_F (asL (noL)) Try.f53 (f_i_Group_minus_a g0 x1 y2) (f_i_Group_minus_i g0 x1 y2) = f_i_Group_minus_k g0 x1 y2 (fun r => some (f_i_Group_minus_en r)) := by kernel_rfl
theorem f_i_Group_minus_ok (g0 : List Sc) (x1 : Int) (y2 : Int) (r : Int) (h : f_i_Group_minus g0 x1 y2 = some r) : CS Try.prog 53 (f_i_Group_minus_a g0 x1 y2) (f_i_Group_minus_i g0 x1 y2) (f_i_Group_minus_en r).1 (f_i_Group_minus_en r).2 :=
  fn_true (Gk := fun k => f_i_Group_minus_k g0 x1 y2 k) (en := f_i_Group_minus_en) Try.func53 E0ok f_i_Group_minus_Mt (noL_true) f_i_Group_minus_o (f_i_Group_minus_e g0 x1 y2) (f_i_Group_minus_p g0 x1 y2) h
def f_i_Group_minus_c : CRow := fun args inh => match dec2 [.p .gr, .p (.int .i64), .p (.int .i64)] [] args inh with
  | some ([.l g0, .i x1, .i y2], []) => some ((f_i_Group_minus g0 x1 y2).isSome, (f_i_Group_minus_en ((f_i_Group_minus g0 x1 y2).getD 0)).1, (f_i_Group_minus_en ((f_i_Group_minus g0 x1 y2).getD 0)).2)
  | _ => none
theorem f_i_Group_minus_cc : CTrue Try.prog 53 f_i_Group_minus_c := by
  intro args inh rs out h
  unfold f_i_Group_minus_c at h
  split at h
  · rename_i hd
    obtain ⟨h1, h2⟩ := dec2_enc hd
    rw [← h1, ← h2]
    exact rowC (f_i_Group_minus_ok _ _ _) h
  · cases h

def f_i_Group_shift_F : Fi := { nv := 0, nc := 0, m := 0, vt := [], kl := [(0, ([0, 4, 5, 6, 9, 10, 11, 12, 13, 14, 15, 16, 17, 18, 19, 20, 21, 22, 23, 24, 25, 26, 27], [0, 1, 2, 3, 4, 5, 6, 8, 9, 10, 11, 12, 13, 14, 15, 16, 17, 18, 19, 20, 21, 22, 23, 24, 25, 26, 27], [0, 1, 2, 3, 4, 5, 7, 8, 9, 10, 11, 12, 13, 14, 15, 16, 17, 18, 19, 20, 21, 22, 23, 24, 25, 26, 27]))], sk := [], mvs := [], fz := [] }
def f_i_Group_shift_a (g0 : List Sc) (a1 : Int) (x2 : Int) : List AV := enc [.p .gr, .p (.int .i64), .p (.int .i64)] [.l g0, .i a1, .i x2]
def f_i_Group_shift_i (g0 : List Sc) (a1 : Int) (x2 : Int) : List AV := enc [] []
def f_i_Group_shift_en (r : Int) : List AV × List AV := (enc [.p (.int .i64)] [.i r], enc [] [])
def f_i_Group_shift_M : Calling := addC 73 f_i_Group_add_c (noC)
theorem f_i_Group_shift_Mt : CallOk Try.prog (f_i_Group_shift_M) := addC_true f_i_Group_add_cc (noC_true)
theorem f_i_Group_shift_o : loopsOnce Try.f54 = true := by kernel_rfl
def f_i_Group_shift_h0 : List Sh := [.u, .p (.int .i64), .p (.int .i64), .p .el, .u, .u, .u, .p (.int .i64), .p (.int .i64), .u, .u, .u, .u, .u, .u, .u, .u, .u, .u, .u, .u, .u, .u, .u, .u, .u, .u, .u]
def f_i_Group_shift_fr0 (a1 : Int) (x2 : Int) (g3 : List Sc) (s : Int × Int) : List AV := enc f_i_Group_shift_h0 [.i a1, .i x2, .l g3, .i s.1, .i s.2]
def f_i_Group_shift_g0_1 : List Sh := [.u, .u, .u, .u, .u, .u, .u, .p (.int .i64), .u, .u, .u, .u, .u, .u, .u, .u, .u, .u, .u, .u, .u, .u, .u, .u, .u, .u, .u, .u]
def f_i_Group_shift_x0_1 (a1 : Int) (x2 : Int) (g3 : List Sc) (e : Int) : X × List AV := (.out 0, enc f_i_Group_shift_g0_1 [.i e])
def f_i_Group_shift_x0_2 (a1 : Int) (x2 : Int) (g3 : List Sc) (_e : Unit) : X × List AV := (.ret, [])
theorem f_i_Group_shift_p0 {R : Type} (a1 : Int) (x2 : Int) (g3 : List Sc) (s : Int × Int) (kN : Int × Int → Option R) (kA : Int → Option R) (kB : Unit → Option R) : f_i_Group_shift_k0 a1 x2 g3 s.1 s.2 kN kA = (f_i_Group_shift_r0 a1 x2 g3 s).bind (Ro.el kN kA kB) := by
  simp only [f_i_Group_shift_k0, f_i_Group_shift_r0, brB, boB, someB, noneB, Ro.el]
theorem f_i_Group_shift_e0 (a1 : Int) (x2 : Int) (g3 : List Sc) (s : Int × Int) : EC E0 f_i_Group_shift_M H0 f_i_Group_shift_F (asL (noL)) 0 (bodyOf Try.f54 0) (f_i_Group_shift_fr0 a1 x2 g3 s) (done (klOf f_i_Group_shift_F 0)) = f_i_Group_shift_k0 a1 x2 g3 s.1 s.2 (fun s => some (.norm, f_i_Group_shift_fr0 a1 x2 g3 s)) (fun e => some (f_i_Group_shift_x0_1 a1 x2 g3 e)) := by kernel_rfl
theorem f_i_Group_shift_l0 (a1 : Int) (x2 : Int) (g3 : List Sc) : ∀ s r, loopL (f_i_Group_shift_r0 a1 x2 g3) s = some r → LS Try.prog f_i_Group_shift_F (bodyOf Try.f54 0) (f_i_Group_shift_fr0 a1 x2 g3 s) (enX (f_i_Group_shift_x0_1 a1 x2 g3) (f_i_Group_shift_x0_2 a1 x2 g3) r) :=
  loop_true E0ok f_i_Group_shift_Mt (noL_true) f_i_Group_shift_o (fun _ h => by cases h) (fun _ h => by cases h) (fun s => (f_i_Group_shift_e0 a1 x2 g3 s).trans (f_i_Group_shift_p0 a1 x2 g3 s _ _ (fun e => some (f_i_Group_shift_x0_2 a1 x2 g3 e))))
def f_i_Group_shift_t0 (σ : List AV) : Option (Bool × Bool × (X × List AV) × (X × List AV)) := match dec f_i_Group_shift_h0 σ with
  | some [.i a1, .i x2, .l g3, .i out7, .i y8] => some (isOne (loopL (f_i_Group_shift_r0 a1 x2 g3) (out7, y8)), true, f_i_Group_shift_x0_1 a1 x2 g3 (getOne 0 (loopL (f_i_Group_shift_r0 a1 x2 g3) (out7, y8))), (.ret, []))
  | _ => none
theorem f_i_Group_shift_tt0 : TTrue Try.prog f_i_Group_shift_F Try.f54 0 (f_i_Group_shift_t0) := by
  intro σ p r r' h
  unfold f_i_Group_shift_t0 at h
  split at h
  · rename_i hd
    rw [← dec_enc hd]
    exact row1 (f_i_Group_shift_l0 _ _ _ _) h
  · cases h
theorem f_i_Group_shift_p {R : Type} (g0 : List Sc) (a1 : Int) (x2 : Int) (kR : Int → Option R) : f_i_Group_shift_k g0 a1 x2 kR = (f_i_Group_shift_k g0 a1 x2 some).bind kR := by
  simp only [f_i_Group_shift_k, bl1B, someB]
theorem f_i_Group_shift_e (g0 : List Sc) (a1 : Int) (x2 : Int) : runFn E0 f_i_Group_shift_M H0 f_i_Group_shift_F (asL (addL 0 (f_i_Group_shift_t0) (noL))) Try.f54 (f_i_Group_shift_a g0 a1 x2) (f_i_Group_shift_i g0 a1 x2) = f_i_Group_shift_k g0 a1 x2 (fun r => some (f_i_Group_shift_en r)) := by kernel_rfl
theorem f_i_Group_shift_ok (g0 : List Sc) (a1 : Int) (x2 : Int) (r : Int) (h : f_i_Group_shift g0 a1 x2 = some r) : CS Try.prog 54 (f_i_Group_shift_a g0 a1 x2) (f_i_Group_shift_i g0 a1 x2) (f_i_Group_shift_en r).1 (f_i_Group_shift_en r).2 :=
  fn_true (Gk := fun k => f_i_Group_shift_k g0 a1 x2 k) (en := f_i_Group_shift_en) Try.func54 E0ok f_i_Group_shift_Mt (addL_true (f_i_Group_shift_tt0) (noL_true)) f_i_Group_shift_o (f_i_Group_shift_e g0 a1 x2) (f_i_Group_shift_p g0 a1 x2) h
def f_i_Group_shift_c : CRow := fun args inh => match dec2 [.p .gr, .p (.int .i64), .p (.int .i64)] [] args inh with
  | some ([.l g0, .i a1, .i x2], []) => some ((f_i_Group_shift g0 a1 x2).isSome, (f_i_Group_shift_en ((f_i_Group_shift g0 a1 x2).getD 0)).1, (f_i_Group_shift_en ((f_i_Group_shift g0 a1 x2).getD 0)).2)
  | _ => none
theorem f_i_Group_shift_cc : CTrue Try.prog 54 f_i_Group_shift_c := by
  intro args inh rs out h
  unfold f_i_Group_shift_c at h
  split at h
  · rename_i hd
    obtain ⟨h1, h2⟩ := dec2_enc hd
    rw [← h1, ← h2]
    exact rowC (f_i_Group_shift_ok _ _ _) h
  · cases h

def f_i_tiles_1_F : Fi := { nv := 2, nc := 2, m := 2, vt := [], kl := [(2, ([9, 10, 12, 13, 14, 15, 16, 17, 18, 19, 20, 21, 22, 23, 24, 25, 26, 27, 28, 29, 33, 34, 35, 36, 37, 38, 39, 40, 41, 42, 43, 44, 45, 46, 47, 48, 49, 50, 51, 52, 53, 54, 55, 56, 57, 58, 59, 60, 61, 62, 63], [2, 3, 4, 5, 6, 7, 8, 9, 10, 11, 12, 13, 14, 15, 16, 17, 18, 19, 20, 21, 22, 23, 24, 25, 26, 27, 28, 29, 30, 31, 32, 33, 34, 35, 36, 37, 38, 39, 40, 41, 42, 43, 44, 45, 46, 47, 48, 49, 50, 51, 52, 53, 54, 55, 56, 57, 58, 59, 60, 61, 62, 63], [2, 3, 4, 5, 6, 7, 8, 9, 10, 11, 12, 13, 14, 15, 16, 17, 18, 19, 20, 21, 22, 23, 24, 25, 26, 27, 28, 29, 30, 31, 32, 33, 34, 35, 36, 37, 38, 39, 40, 41, 42, 43, 44, 45, 46, 47, 48, 49, 50, 51, 52, 53, 54, 55, 56, 57, 58, 59, 60, 61, 62, 63])), (0, ([9, 10, 12, 13, 14, 15, 16, 17, 18, 19, 20, 21, 22, 23, 24, 25, 26, 27, 28, 29, 30, 31, 32, 33, 34, 35, 36, 37, 38, 39, 40, 41, 42, 43, 44, 45, 46, 47, 48, 49, 50, 51, 52, 53, 54, 55, 56, 57, 58, 59, 60, 61, 62, 63], [9, 10, 12, 13, 14, 15, 16, 17, 18, 19, 20, 21, 22, 23, 24, 25, 26, 27, 28, 29, 30, 31, 32, 33, 34, 35, 36, 37, 38, 39, 40, 41, 42, 43, 44, 45, 46, 47, 48, 49, 50, 51, 52, 53, 54, 55, 56, 57, 58, 59, 60, 61, 62, 63], [2, 3, 4, 5, 6, 7, 8, 9, 10, 11, 12, 13, 14, 15, 16, 17, 18, 19, 20, 21, 22, 23, 24, 25, 26, 27, 28, 29, 30, 31, 32, 33, 34, 35, 36, 37, 38, 39, 40, 41, 42, 43, 44, 45, 46, 47, 48, 49, 50, 51, 52, 53, 54, 55, 56, 57, 58, 59, 60, 61, 62, 63]))], sk := [], mvs := [], fz := [] }
def f_i_tiles_1_a (shifts0 : Int) (reached1 : Int) (p2 : List Sc) (p4 : Int) (p5 : Int) (h0 : List Sc) (h1_0 : List Sc) (h1_1 : Int) (h1_2 : Int) : List AV := enc [.p (.int .i64), .p (.int .i64), .p .el, .p (.pt 0 1), .p (.evi .i64), .p (.evi .i64), .p (.pt 1 1)] [.i shifts0, .i reached1, .l p2, .i p4, .i p5]
def f_i_tiles_1_i (shifts0 : Int) (reached1 : Int) (p2 : List Sc) (p4 : Int) (p5 : Int) (h0 : List Sc) (h1_0 : List Sc) (h1_1 : Int) (h1_2 : Int) : List AV := enc [.own 3, .fn 50 [.el, .pt 0 1, .evi .i64, .evi .i64, .pt 1 1]] [.l h0, .l h1_0, .i h1_1, .i h1_2]
def f_i_tiles_1_en (r : List Sc × List Sc × Int × Int) : List AV × List AV := (enc [] [], enc [.own 3, .fn 50 [.el, .pt 0 1, .evi .i64, .evi .i64, .pt 1 1]] [.l r.1, .l r.2.1, .i r.2.2.1, .i r.2.2.2])
def f_i_tiles_1_cs (self : (Int × Int × List Sc × Int × Int × List Sc × List Sc × Int × Int) → Option (List Sc × List Sc × Int × Int)) : CRow := fun args inh => match dec2 [.p (.int .i64), .p (.int .i64), .p .el, .p (.pt 0 1), .p (.evi .i64), .p (.evi .i64), .p (.pt 1 1)] [.own 3, .fn 50 [.el, .pt 0 1, .evi .i64, .evi .i64, .pt 1 1]] args inh with
  | some ([.i shifts0, .i reached1, .l p2, .i p4, .i p5], [.l h0, .l h1_0, .i h1_1, .i h1_2]) => some ((self (shifts0, reached1, p2, p4, p5, h0, h1_0, h1_1, h1_2)).isSome, (f_i_tiles_1_en ((self (shifts0, reached1, p2, p4, p5, h0, h1_0, h1_1, h1_2)).getD ([], [], 0, 0))).1, (f_i_tiles_1_en ((self (shifts0, reached1, p2, p4, p5, h0, h1_0, h1_1, h1_2)).getD ([], [], 0, 0))).2)
  | _ => none
theorem f_i_tiles_1_cst (self : (Int × Int × List Sc × Int × Int × List Sc × List Sc × Int × Int) → Option (List Sc × List Sc × Int × Int)) (hs : ∀ a r, self a = some r → CS Try.prog 50 (f_i_tiles_1_a a.1 a.2.1 a.2.2.1 a.2.2.2.1 a.2.2.2.2.1 a.2.2.2.2.2.1 a.2.2.2.2.2.2.1 a.2.2.2.2.2.2.2.1 a.2.2.2.2.2.2.2.2) (f_i_tiles_1_i a.1 a.2.1 a.2.2.1 a.2.2.2.1 a.2.2.2.2.1 a.2.2.2.2.2.1 a.2.2.2.2.2.2.1 a.2.2.2.2.2.2.2.1 a.2.2.2.2.2.2.2.2) (f_i_tiles_1_en r).1 (f_i_tiles_1_en r).2) : CTrue Try.prog 50 (f_i_tiles_1_cs self) := by
  intro args inh rs out h
  unfold f_i_tiles_1_cs at h
  split at h
  · rename_i hd
    obtain ⟨h1, h2⟩ := dec2_enc hd
    rw [← h1, ← h2]
    exact rowC (hs _) h
  · cases h
def f_i_tiles_1_M (self : (Int × Int × List Sc × Int × Int × List Sc × List Sc × Int × Int) → Option (List Sc × List Sc × Int × Int)) : Calling := addC 50 (f_i_tiles_1_cs self) (addC 36 f_i_FullSet_c (addC 51 f_i_in_c (addC 52 f_i_members_c (addC 53 f_i_Group_minus_c (addC 54 f_i_Group_shift_c (noC))))))
theorem f_i_tiles_1_Mt (self : (Int × Int × List Sc × Int × Int × List Sc × List Sc × Int × Int) → Option (List Sc × List Sc × Int × Int)) (hs : ∀ a r, self a = some r → CS Try.prog 50 (f_i_tiles_1_a a.1 a.2.1 a.2.2.1 a.2.2.2.1 a.2.2.2.2.1 a.2.2.2.2.2.1 a.2.2.2.2.2.2.1 a.2.2.2.2.2.2.2.1 a.2.2.2.2.2.2.2.2) (f_i_tiles_1_i a.1 a.2.1 a.2.2.1 a.2.2.2.1 a.2.2.2.2.1 a.2.2.2.2.2.1 a.2.2.2.2.2.2.1 a.2.2.2.2.2.2.2.1 a.2.2.2.2.2.2.2.2) (f_i_tiles_1_en r).1 (f_i_tiles_1_en r).2) : CallOk Try.prog (f_i_tiles_1_M self) := addC_true (f_i_tiles_1_cst self hs) (addC_true f_i_FullSet_cc (addC_true f_i_in_cc (addC_true f_i_members_cc (addC_true f_i_Group_minus_cc (addC_true f_i_Group_shift_cc (noC_true))))))
theorem f_i_tiles_1_o : loopsOnce Try.f50 = true := by kernel_rfl
def f_i_tiles_1_h0 : List Sh := [.own 3, .fn 50 [.el, .pt 0 1, .evi .i64, .evi .i64, .pt 1 1], .p (.int .i64), .p (.int .i64), .p .el, .p (.pt 0 1), .p (.evi .i64), .p (.evi .i64), .p (.pt 1 1), .u, .u, .p (.int .i64), .u, .u, .u, .u, .u, .u, .u, .u, .u, .u, .u, .u, .u, .u, .u, .u, .u, .u, .u, .u, .u, .u, .u, .u, .u, .u, .u, .u, .u, .u, .u, .u, .u, .u, .u, .u, .u, .u, .u, .u, .u, .u, .u, .u, .u, .u, .u, .u, .u, .u, .u, .u]
def f_i_tiles_1_fr0 (self : (Int × Int × List Sc × Int × Int × List Sc × List Sc × Int × Int) → Option (List Sc × List Sc × Int × Int)) (shifts0 : Int) (reached1 : Int) (t2 : List Sc) (t4 : Int) (t5 : Int) (s : List Sc × List Sc × Int × Int × Int) : List AV := enc f_i_tiles_1_h0 [.l s.1, .l s.2.1, .i s.2.2.1, .i s.2.2.2.1, .i shifts0, .i reached1, .l t2, .i t4, .i t5, .i s.2.2.2.2]
def f_i_tiles_1_g0_1 : List Sh := [.own 3, .fn 50 [.el, .pt 0 1, .evi .i64, .evi .i64, .pt 1 1], .p (.int .i64), .p (.int .i64), .p .el, .p (.pt 0 1), .p (.evi .i64), .p (.evi .i64), .p (.pt 1 1), .u, .u, .p (.int .i64), .u, .u, .u, .u, .u, .u, .u, .u, .u, .u, .u, .u, .u, .u, .u, .u, .u, .u, .u, .u, .u, .u, .u, .u, .u, .u, .u, .u, .u, .u, .u, .u, .u, .u, .u, .u, .u, .u, .u, .u, .u, .u, .u, .u, .u, .u, .u, .u, .u, .u, .u, .u]
def f_i_tiles_1_x0_1 (self : (Int × Int × List Sc × Int × Int × List Sc × List Sc × Int × Int) → Option (List Sc × List Sc × Int × Int)) (shifts0 : Int) (reached1 : Int) (t2 : List Sc) (t4 : Int) (t5 : Int) (e : List Sc × List Sc × Int × Int × Int) : X × List AV := (.out 0, enc f_i_tiles_1_g0_1 [.l e.1, .l e.2.1, .i e.2.2.1, .i e.2.2.2.1, .i shifts0, .i reached1, .l t2, .i t4, .i t5, .i e.2.2.2.2])
def f_i_tiles_1_x0_2 (self : (Int × Int × List Sc × Int × Int × List Sc × List Sc × Int × Int) → Option (List Sc × List Sc × Int × Int)) (shifts0 : Int) (reached1 : Int) (t2 : List Sc) (t4 : Int) (t5 : Int) (_e : Unit) : X × List AV := (.ret, [])
theorem f_i_tiles_1_p0 {R : Type} (self : (Int × Int × List Sc × Int × Int × List Sc × List Sc × Int × Int) → Option (List Sc × List Sc × Int × Int)) (shifts0 : Int) (reached1 : Int) (t2 : List Sc) (t4 : Int) (t5 : Int) (s : List Sc × List Sc × Int × Int × Int) (kN : List Sc × List Sc × Int × Int × Int → Option R) (kA : List Sc × List Sc × Int × Int × Int → Option R) (kB : Unit → Option R) : f_i_tiles_1_k0 self shifts0 reached1 t2 t4 t5 s.1 s.2.1 s.2.2.1 s.2.2.2.1 s.2.2.2.2 kN kA = (f_i_tiles_1_r0 self shifts0 reached1 t2 t4 t5 s).bind (Ro.el kN kA kB) := by
  simp only [f_i_tiles_1_k0, f_i_tiles_1_r0, brB, boB, someB, Ro.el]
theorem f_i_tiles_1_e0 (self : (Int × Int × List Sc × Int × Int × List Sc × List Sc × Int × Int) → Option (List Sc × List Sc × Int × Int)) (shifts0 : Int) (reached1 : Int) (t2 : List Sc) (t4 : Int) (t5 : Int) (s : List Sc × List Sc × Int × Int × Int) : EC E0 (f_i_tiles_1_M self) H0 f_i_tiles_1_F (asL (noL)) 0 (bodyOf Try.f50 0) (f_i_tiles_1_fr0 self shifts0 reached1 t2 t4 t5 s) (done (klOf f_i_tiles_1_F 0)) = f_i_tiles_1_k0 self shifts0 reached1 t2 t4 t5 s.1 s.2.1 s.2.2.1 s.2.2.2.1 s.2.2.2.2 (fun s => some (.norm, f_i_tiles_1_fr0 self shifts0 reached1 t2 t4 t5 s)) (fun e => some (f_i_tiles_1_x0_1 self shifts0 reached1 t2 t4 t5 e)) := by kernel_rfl
theorem f_i_tiles_1_l0 (self : (Int × Int × List Sc × Int × Int × List Sc × List Sc × Int × Int) → Option (List Sc × List Sc × Int × Int)) (hs : ∀ a r, self a = some r → CS Try.prog 50 (f_i_tiles_1_a a.1 a.2.1 a.2.2.1 a.2.2.2.1 a.2.2.2.2.1 a.2.2.2.2.2.1 a.2.2.2.2.2.2.1 a.2.2.2.2.2.2.2.1 a.2.2.2.2.2.2.2.2) (f_i_tiles_1_i a.1 a.2.1 a.2.2.1 a.2.2.2.1 a.2.2.2.2.1 a.2.2.2.2.2.1 a.2.2.2.2.2.2.1 a.2.2.2.2.2.2.2.1 a.2.2.2.2.2.2.2.2) (f_i_tiles_1_en r).1 (f_i_tiles_1_en r).2) (shifts0 : Int) (reached1 : Int) (t2 : List Sc) (t4 : Int) (t5 : Int) : ∀ s r, loopL (f_i_tiles_1_r0 self shifts0 reached1 t2 t4 t5) s = some r → LS Try.prog f_i_tiles_1_F (bodyOf Try.f50 0) (f_i_tiles_1_fr0 self shifts0 reached1 t2 t4 t5 s) (enX (f_i_tiles_1_x0_1 self shifts0 reached1 t2 t4 t5) (f_i_tiles_1_x0_2 self shifts0 reached1 t2 t4 t5) r) :=
  loop_true E0ok (f_i_tiles_1_Mt self hs) (noL_true) f_i_tiles_1_o (fun _ h => by cases h) (fun _ h => by cases h) (fun s => (f_i_tiles_1_e0 self shifts0 reached1 t2 t4 t5 s).trans (f_i_tiles_1_p0 self shifts0 reached1 t2 t4 t5 s _ _ (fun e => some (f_i_tiles_1_x0_2 self shifts0 reached1 t2 t4 t5 e))))
def f_i_tiles_1_t0 (self : (Int × Int × List Sc × Int × Int × List Sc × List Sc × Int × Int) → Option (List Sc × List Sc × Int × Int)) (σ : List AV) : Option (Bool × Bool × (X × List AV) × (X × List AV)) := match dec f_i_tiles_1_h0 σ with
  | some [.l v0, .l v1_0, .i v1_1, .i v1_2, .i shifts0, .i reached1, .l t2, .i t4, .i t5, .i e9] => some (isOne (loopL (f_i_tiles_1_r0 self shifts0 reached1 t2 t4 t5) (v0, v1_0, v1_1, v1_2, e9)), true, f_i_tiles_1_x0_1 self shifts0 reached1 t2 t4 t5 (getOne ([], [], 0, 0, 0) (loopL (f_i_tiles_1_r0 self shifts0 reached1 t2 t4 t5) (v0, v1_0, v1_1, v1_2, e9))), (.ret, []))
  | _ => none
theorem f_i_tiles_1_tt0 (self : (Int × Int × List Sc × Int × Int × List Sc × List Sc × Int × Int) → Option (List Sc × List Sc × Int × Int)) (hs : ∀ a r, self a = some r → CS Try.prog 50 (f_i_tiles_1_a a.1 a.2.1 a.2.2.1 a.2.2.2.1 a.2.2.2.2.1 a.2.2.2.2.2.1 a.2.2.2.2.2.2.1 a.2.2.2.2.2.2.2.1 a.2.2.2.2.2.2.2.2) (f_i_tiles_1_i a.1 a.2.1 a.2.2.1 a.2.2.2.1 a.2.2.2.2.1 a.2.2.2.2.2.1 a.2.2.2.2.2.2.1 a.2.2.2.2.2.2.2.1 a.2.2.2.2.2.2.2.2) (f_i_tiles_1_en r).1 (f_i_tiles_1_en r).2) : TTrue Try.prog f_i_tiles_1_F Try.f50 0 (f_i_tiles_1_t0 self) := by
  intro σ p r r' h
  unfold f_i_tiles_1_t0 at h
  split at h
  · rename_i hd
    rw [← dec_enc hd]
    exact row1 (f_i_tiles_1_l0 self hs _ _ _ _ _ _) h
  · cases h
def f_i_tiles_1_h2 : List Sh := [.own 3, .fn 50 [.el, .pt 0 1, .evi .i64, .evi .i64, .pt 1 1], .p (.int .i64), .p (.int .i64), .p .el, .p (.pt 0 1), .p (.evi .i64), .p (.evi .i64), .p (.pt 1 1), .u, .u, .p (.int .i64), .u, .u, .u, .u, .u, .u, .u, .u, .u, .u, .u, .u, .u, .u, .u, .u, .u, .u, .own 3, .p (.int .i64), .p (.int .i64), .u, .u, .u, .u, .u, .u, .u, .u, .u, .u, .u, .u, .u, .u, .u, .u, .u, .u, .u, .u, .u, .u, .u, .u, .u, .u, .u, .u, .u, .u, .u]
def f_i_tiles_1_fr2 (self : (Int × Int × List Sc × Int × Int × List Sc × List Sc × Int × Int) → Option (List Sc × List Sc × Int × Int)) (shifts0 : Int) (reached1 : Int) (t2 : List Sc) (t4 : Int) (t5 : Int) (e9 : Int) (t29 : Int) (s : List Sc × List Sc × Int × Int × List Sc × Int) : List AV := enc f_i_tiles_1_h2 [.l s.1, .l s.2.1, .i s.2.2.1, .i s.2.2.2.1, .i shifts0, .i reached1, .l t2, .i t4, .i t5, .i e9, .l s.2.2.2.2.1, .i t29, .i s.2.2.2.2.2]
def f_i_tiles_1_g2_1 : List Sh := [.own 3, .fn 50 [.el, .pt 0 1, .evi .i64, .evi .i64, .pt 1 1], .u, .u, .u, .u, .u, .u, .u, .u, .u, .u, .u, .u, .u, .u, .u, .u, .u, .u, .u, .u, .u, .u, .u, .u, .u, .u, .u, .u, .u, .u, .u, .u, .u, .u, .u, .u, .u, .u, .u, .u, .u, .u, .u, .u, .u, .u, .u, .u, .u, .u, .u, .u, .u, .u, .u, .u, .u, .u, .u, .u, .u, .u]
def f_i_tiles_1_x2_1 (self : (Int × Int × List Sc × Int × Int × List Sc × List Sc × Int × Int) → Option (List Sc × List Sc × Int × Int)) (shifts0 : Int) (reached1 : Int) (t2 : List Sc) (t4 : Int) (t5 : Int) (e9 : Int) (t29 : Int) (e : List Sc × List Sc × Int × Int) : X × List AV := (.out 2, enc f_i_tiles_1_g2_1 [.l e.1, .l e.2.1, .i e.2.2.1, .i e.2.2.2])
def f_i_tiles_1_x2_2 (self : (Int × Int × List Sc × Int × Int × List Sc × List Sc × Int × Int) → Option (List Sc × List Sc × Int × Int)) (shifts0 : Int) (reached1 : Int) (t2 : List Sc) (t4 : Int) (t5 : Int) (e9 : Int) (t29 : Int) (_e : Unit) : X × List AV := (.ret, [])
theorem f_i_tiles_1_p2 {R : Type} (self : (Int × Int × List Sc × Int × Int × List Sc × List Sc × Int × Int) → Option (List Sc × List Sc × Int × Int)) (shifts0 : Int) (reached1 : Int) (t2 : List Sc) (t4 : Int) (t5 : Int) (e9 : Int) (t29 : Int) (s : List Sc × List Sc × Int × Int × List Sc × Int) (kN : List Sc × List Sc × Int × Int × List Sc × Int → Option R) (kA : List Sc × List Sc × Int × Int → Option R) (kB : Unit → Option R) : f_i_tiles_1_k2 self shifts0 reached1 t2 t4 t5 e9 t29 s.1 s.2.1 s.2.2.1 s.2.2.2.1 s.2.2.2.2.1 s.2.2.2.2.2 kN kA = (f_i_tiles_1_r2 self shifts0 reached1 t2 t4 t5 e9 t29 s).bind (Ro.el kN kA kB) := by
  simp only [f_i_tiles_1_k2, f_i_tiles_1_r2, brB, boB, someB, noneB, Ro.el]
theorem f_i_tiles_1_e2 (self : (Int × Int × List Sc × Int × Int × List Sc × List Sc × Int × Int) → Option (List Sc × List Sc × Int × Int)) (shifts0 : Int) (reached1 : Int) (t2 : List Sc) (t4 : Int) (t5 : Int) (e9 : Int) (t29 : Int) (s : List Sc × List Sc × Int × Int × List Sc × Int) : EC E0 (f_i_tiles_1_M self) H0 f_i_tiles_1_F (asL (addL 0 (f_i_tiles_1_t0 self) (noL))) 2 (bodyOf Try.f50 2) (f_i_tiles_1_fr2 self shifts0 reached1 t2 t4 t5 e9 t29 s) (done (klOf f_i_tiles_1_F 2)) = f_i_tiles_1_k2 self shifts0 reached1 t2 t4 t5 e9 t29 s.1 s.2.1 s.2.2.1 s.2.2.2.1 s.2.2.2.2.1 s.2.2.2.2.2 (fun s => some (.norm, f_i_tiles_1_fr2 self shifts0 reached1 t2 t4 t5 e9 t29 s)) (fun e => some (f_i_tiles_1_x2_1 self shifts0 reached1 t2 t4 t5 e9 t29 e)) := by kernel_rfl
theorem f_i_tiles_1_l2 (self : (Int × Int × List Sc × Int × Int × List Sc × List Sc × Int × Int) → Option (List Sc × List Sc × Int × Int)) (hs : ∀ a r, self a = some r → CS Try.prog 50 (f_i_tiles_1_a a.1 a.2.1 a.2.2.1 a.2.2.2.1 a.2.2.2.2.1 a.2.2.2.2.2.1 a.2.2.2.2.2.2.1 a.2.2.2.2.2.2.2.1 a.2.2.2.2.2.2.2.2) (f_i_tiles_1_i a.1 a.2.1 a.2.2.1 a.2.2.2.1 a.2.2.2.2.1 a.2.2.2.2.2.1 a.2.2.2.2.2.2.1 a.2.2.2.2.2.2.2.1 a.2.2.2.2.2.2.2.2) (f_i_tiles_1_en r).1 (f_i_tiles_1_en r).2) (shifts0 : Int) (reached1 : Int) (t2 : List Sc) (t4 : Int) (t5 : Int) (e9 : Int) (t29 : Int) : ∀ s r, loopL (f_i_tiles_1_r2 self shifts0 reached1 t2 t4 t5 e9 t29) s = some r → LS Try.prog f_i_tiles_1_F (bodyOf Try.f50 2) (f_i_tiles_1_fr2 self shifts0 reached1 t2 t4 t5 e9 t29 s) (enX (f_i_tiles_1_x2_1 self shifts0 reached1 t2 t4 t5 e9 t29) (f_i_tiles_1_x2_2 self shifts0 reached1 t2 t4 t5 e9 t29) r) :=
  loop_true E0ok (f_i_tiles_1_Mt self hs) (addL_true (f_i_tiles_1_tt0 self hs) (noL_true)) f_i_tiles_1_o (fun _ h => by cases h) (fun _ h => by cases h) (fun s => (f_i_tiles_1_e2 self shifts0 reached1 t2 t4 t5 e9 t29 s).trans (f_i_tiles_1_p2 self shifts0 reached1 t2 t4 t5 e9 t29 s _ _ (fun e => some (f_i_tiles_1_x2_2 self shifts0 reached1 t2 t4 t5 e9 t29 e))))
def f_i_tiles_1_t2 (self : (Int × Int × List Sc × Int × Int × List Sc × List Sc × Int × Int) → Option (List Sc × List Sc × Int × Int)) (σ : List AV) : Option (Bool × Bool × (X × List AV) × (X × List AV)) := match dec f_i_tiles_1_h2 σ with
  | some [.l v0, .l v1_0, .i v1_1, .i v1_2, .i shifts0, .i reached1, .l t2, .i t4, .i t5, .i e9, .l t28, .i t29, .i t30] => some (isOne (loopL (f_i_tiles_1_r2 self shifts0 reached1 t2 t4 t5 e9 t29) (v0, v1_0, v1_1, v1_2, t28, t30)), true, f_i_tiles_1_x2_1 self shifts0 reached1 t2 t4 t5 e9 t29 (getOne ([], [], 0, 0) (loopL (f_i_tiles_1_r2 self shifts0 reached1 t2 t4 t5 e9 t29) (v0, v1_0, v1_1, v1_2, t28, t30))), (.ret, []))
  | _ => none
theorem f_i_tiles_1_tt2 (self : (Int × Int × List Sc × Int × Int × List Sc × List Sc × Int × Int) → Option (List Sc × List Sc × Int × Int)) (hs : ∀ a r, self a = some r → CS Try.prog 50 (f_i_tiles_1_a a.1 a.2.1 a.2.2.1 a.2.2.2.1 a.2.2.2.2.1 a.2.2.2.2.2.1 a.2.2.2.2.2.2.1 a.2.2.2.2.2.2.2.1 a.2.2.2.2.2.2.2.2) (f_i_tiles_1_i a.1 a.2.1 a.2.2.1 a.2.2.2.1 a.2.2.2.2.1 a.2.2.2.2.2.1 a.2.2.2.2.2.2.1 a.2.2.2.2.2.2.2.1 a.2.2.2.2.2.2.2.2) (f_i_tiles_1_en r).1 (f_i_tiles_1_en r).2) : TTrue Try.prog f_i_tiles_1_F Try.f50 2 (f_i_tiles_1_t2 self) := by
  intro σ p r r' h
  unfold f_i_tiles_1_t2 at h
  split at h
  · rename_i hd
    rw [← dec_enc hd]
    exact row1 (f_i_tiles_1_l2 self hs _ _ _ _ _ _ _ _) h
  · cases h
theorem f_i_tiles_1_p {R : Type} (self : (Int × Int × List Sc × Int × Int × List Sc × List Sc × Int × Int) → Option (List Sc × List Sc × Int × Int)) (shifts0 : Int) (reached1 : Int) (p2 : List Sc) (p4 : Int) (p5 : Int) (h0 : List Sc) (h1_0 : List Sc) (h1_1 : Int) (h1_2 : Int) (kR : List Sc × List Sc × Int × Int → Option R) : f_i_tiles_1_k self shifts0 reached1 p2 p4 p5 h0 h1_0 h1_1 h1_2 kR = (f_i_tiles_1_k self shifts0 reached1 p2 p4 p5 h0 h1_0 h1_1 h1_2 some).bind kR := by
  simp only [f_i_tiles_1_k, brB, boB, bl1B, someB, noneB]
theorem f_i_tiles_1_e (self : (Int × Int × List Sc × Int × Int × List Sc × List Sc × Int × Int) → Option (List Sc × List Sc × Int × Int)) (shifts0 : Int) (reached1 : Int) (p2 : List Sc) (p4 : Int) (p5 : Int) (h0 : List Sc) (h1_0 : List Sc) (h1_1 : Int) (h1_2 : Int) : runFn E0 (f_i_tiles_1_M self) H0 f_i_tiles_1_F (asL (addL 2 (f_i_tiles_1_t2 self) (addL 0 (f_i_tiles_1_t0 self) (noL)))) Try.f50 (f_i_tiles_1_a shifts0 reached1 p2 p4 p5 h0 h1_0 h1_1 h1_2) (f_i_tiles_1_i shifts0 reached1 p2 p4 p5 h0 h1_0 h1_1 h1_2) = f_i_tiles_1_k self shifts0 reached1 p2 p4 p5 h0 h1_0 h1_1 h1_2 (fun r => some (f_i_tiles_1_en r)) := by kernel_rfl
theorem f_i_tiles_1_ks (self : (Int × Int × List Sc × Int × Int × List Sc × List Sc × Int × Int) → Option (List Sc × List Sc × Int × Int)) (hs : ∀ a r, self a = some r → CS Try.prog 50 (f_i_tiles_1_a a.1 a.2.1 a.2.2.1 a.2.2.2.1 a.2.2.2.2.1 a.2.2.2.2.2.1 a.2.2.2.2.2.2.1 a.2.2.2.2.2.2.2.1 a.2.2.2.2.2.2.2.2) (f_i_tiles_1_i a.1 a.2.1 a.2.2.1 a.2.2.2.1 a.2.2.2.2.1 a.2.2.2.2.2.1 a.2.2.2.2.2.2.1 a.2.2.2.2.2.2.2.1 a.2.2.2.2.2.2.2.2) (f_i_tiles_1_en r).1 (f_i_tiles_1_en r).2) (shifts0 : Int) (reached1 : Int) (p2 : List Sc) (p4 : Int) (p5 : Int) (h0 : List Sc) (h1_0 : List Sc) (h1_1 : Int) (h1_2 : Int) (r : List Sc × List Sc × Int × Int) (h : f_i_tiles_1_k self shifts0 reached1 p2 p4 p5 h0 h1_0 h1_1 h1_2 some = some r) : CS Try.prog 50 (f_i_tiles_1_a shifts0 reached1 p2 p4 p5 h0 h1_0 h1_1 h1_2) (f_i_tiles_1_i shifts0 reached1 p2 p4 p5 h0 h1_0 h1_1 h1_2) (f_i_tiles_1_en r).1 (f_i_tiles_1_en r).2 :=
  fn_true (Gk := fun k => f_i_tiles_1_k self shifts0 reached1 p2 p4 p5 h0 h1_0 h1_1 h1_2 k) (en := f_i_tiles_1_en) Try.func50 E0ok (f_i_tiles_1_Mt self hs) (addL_true (f_i_tiles_1_tt2 self hs) (addL_true (f_i_tiles_1_tt0 self hs) (noL_true))) f_i_tiles_1_o (f_i_tiles_1_e self shifts0 reached1 p2 p4 p5 h0 h1_0 h1_1 h1_2) (f_i_tiles_1_p self shifts0 reached1 p2 p4 p5 h0 h1_0 h1_1 h1_2) h
theorem f_i_tiles_1_ns : ∀ n a r, f_i_tiles_1_n n a = some r → CS Try.prog 50 (f_i_tiles_1_a a.1 a.2.1 a.2.2.1 a.2.2.2.1 a.2.2.2.2.1 a.2.2.2.2.2.1 a.2.2.2.2.2.2.1 a.2.2.2.2.2.2.2.1 a.2.2.2.2.2.2.2.2) (f_i_tiles_1_i a.1 a.2.1 a.2.2.1 a.2.2.2.1 a.2.2.2.2.1 a.2.2.2.2.2.1 a.2.2.2.2.2.2.1 a.2.2.2.2.2.2.2.1 a.2.2.2.2.2.2.2.2) (f_i_tiles_1_en r).1 (f_i_tiles_1_en r).2
  | 0, _, _, h => by cases h
  | n + 1, a, r, h => f_i_tiles_1_ks (f_i_tiles_1_n n) (f_i_tiles_1_ns n) a.1 a.2.1 a.2.2.1 a.2.2.2.1 a.2.2.2.2.1 a.2.2.2.2.2.1 a.2.2.2.2.2.2.1 a.2.2.2.2.2.2.2.1 a.2.2.2.2.2.2.2.2 r h
theorem f_i_tiles_1_ok (shifts0 : Int) (reached1 : Int) (p2 : List Sc) (p4 : Int) (p5 : Int) (h0 : List Sc) (h1_0 : List Sc) (h1_1 : Int) (h1_2 : Int) (r : List Sc × List Sc × Int × Int) (h : f_i_tiles_1 shifts0 reached1 p2 p4 p5 h0 h1_0 h1_1 h1_2 = some r) : CS Try.prog 50 (f_i_tiles_1_a shifts0 reached1 p2 p4 p5 h0 h1_0 h1_1 h1_2) (f_i_tiles_1_i shifts0 reached1 p2 p4 p5 h0 h1_0 h1_1 h1_2) (f_i_tiles_1_en r).1 (f_i_tiles_1_en r).2 := by
  obtain ⟨n, hn⟩ := limF_some h
  exact f_i_tiles_1_ns n _ r hn
def f_i_tiles_1_c : CRow := fun args inh => match dec2 [.p (.int .i64), .p (.int .i64), .p .el, .p (.pt 0 1), .p (.evi .i64), .p (.evi .i64), .p (.pt 1 1)] [.own 3, .fn 50 [.el, .pt 0 1, .evi .i64, .evi .i64, .pt 1 1]] args inh with
  | some ([.i shifts0, .i reached1, .l p2, .i p4, .i p5], [.l h0, .l h1_0, .i h1_1, .i h1_2]) => some ((f_i_tiles_1 shifts0 reached1 p2 p4 p5 h0 h1_0 h1_1 h1_2).isSome, (f_i_tiles_1_en ((f_i_tiles_1 shifts0 reached1 p2 p4 p5 h0 h1_0 h1_1 h1_2).getD ([], [], 0, 0))).1, (f_i_tiles_1_en ((f_i_tiles_1 shifts0 reached1 p2 p4 p5 h0 h1_0 h1_1 h1_2).getD ([], [], 0, 0))).2)
  | _ => none
theorem f_i_tiles_1_cc : CTrue Try.prog 50 f_i_tiles_1_c := by
  intro args inh rs out h
  unfold f_i_tiles_1_c at h
  split at h
  · rename_i hd
    obtain ⟨h1, h2⟩ := dec2_enc hd
    rw [← h1, ← h2]
    exact rowC (f_i_tiles_1_ok _ _ _ _ _ _ _ _ _) h
  · cases h

def f_i_tiles_F : Fi := { nv := 2, nc := 2, m := 0, vt := [(7, 0), (8, 1)], kl := [], sk := [], mvs := [], fz := [] }
def f_i_tiles_a (g0 : List Sc) (a1 : Int) (most2 : Int) : List AV := enc [.p .gr, .p (.int .i64), .p (.int .i64)] [.l g0, .i a1, .i most2]
def f_i_tiles_i (g0 : List Sc) (a1 : Int) (most2 : Int) : List AV := enc [] []
def f_i_tiles_en (r : List Sc) : List AV × List AV := (enc [.p (.al 0)] [], enc [.own 3] [.l r])
def f_i_tiles_M : Calling := addC 50 f_i_tiles_1_c (noC)
theorem f_i_tiles_Mt : CallOk Try.prog (f_i_tiles_M) := addC_true f_i_tiles_1_cc (noC_true)
theorem f_i_tiles_o : loopsOnce Try.f29 = true := by kernel_rfl
theorem f_i_tiles_p {R : Type} (g0 : List Sc) (a1 : Int) (most2 : Int) (kR : List Sc → Option R) : f_i_tiles_k g0 a1 most2 kR = (f_i_tiles_k g0 a1 most2 some).bind kR := by
  simp only [f_i_tiles_k, boB, someB]
theorem f_i_tiles_e (g0 : List Sc) (a1 : Int) (most2 : Int) : runFn E0 f_i_tiles_M H0 f_i_tiles_F (asL (noL)) Try.f29 (f_i_tiles_a g0 a1 most2) (f_i_tiles_i g0 a1 most2) = f_i_tiles_k g0 a1 most2 (fun r => some (f_i_tiles_en r)) := by kernel_rfl
theorem f_i_tiles_ok (g0 : List Sc) (a1 : Int) (most2 : Int) (r : List Sc) (h : f_i_tiles g0 a1 most2 = some r) : CS Try.prog 29 (f_i_tiles_a g0 a1 most2) (f_i_tiles_i g0 a1 most2) (f_i_tiles_en r).1 (f_i_tiles_en r).2 :=
  fn_true (Gk := fun k => f_i_tiles_k g0 a1 most2 k) (en := f_i_tiles_en) Try.func29 E0ok f_i_tiles_Mt (noL_true) f_i_tiles_o (f_i_tiles_e g0 a1 most2) (f_i_tiles_p g0 a1 most2) h
def f_i_tiles_c : CRow := fun args inh => match dec2 [.p .gr, .p (.int .i64), .p (.int .i64)] [] args inh with
  | some ([.l g0, .i a1, .i most2], []) => some ((f_i_tiles g0 a1 most2).isSome, (f_i_tiles_en ((f_i_tiles g0 a1 most2).getD [])).1, (f_i_tiles_en ((f_i_tiles g0 a1 most2).getD [])).2)
  | _ => none
theorem f_i_tiles_cc : CTrue Try.prog 29 f_i_tiles_c := by
  intro args inh rs out h
  unfold f_i_tiles_c at h
  split at h
  · rename_i hd
    obtain ⟨h1, h2⟩ := dec2_enc hd
    rw [← h1, ← h2]
    exact rowC (f_i_tiles_ok _ _ _) h
  · cases h

def f_slices_Sort_a (h0 : List Sc) : List AV := enc [.p (.al 0)] []
def f_slices_Sort_i (h0 : List Sc) : List AV := enc [.own 3] [.l h0]
def f_slices_Sort_en (r : List Sc) : List AV × List AV := (enc [] [], enc [.own 3] [.l r])
theorem f_slices_Sort_ok (h0 : List Sc) (r : List Sc) (h : f_slices_Sort h0 = some r) : CS Try.prog 30 (f_slices_Sort_a h0) (f_slices_Sort_i h0) (f_slices_Sort_en r).1 (f_slices_Sort_en r).2 :=
  sort_CS (e := 3) ⟨_, Try.func30, by kernel_rfl⟩ Try.slices_Sort_int Try.slices_Sort_int_none h
def f_slices_Sort_c : CRow := fun args inh => match dec2 [.p (.al 0)] [.own 3] args inh with
  | some ([], [.l h0]) => some ((f_slices_Sort h0).isSome, (f_slices_Sort_en ((f_slices_Sort h0).getD [])).1, (f_slices_Sort_en ((f_slices_Sort h0).getD [])).2)
  | _ => none
theorem f_slices_Sort_cc : CTrue Try.prog 30 f_slices_Sort_c := by
  intro args inh rs out h
  unfold f_slices_Sort_c at h
  split at h
  · rename_i hd
    obtain ⟨h1, h2⟩ := dec2_enc hd
    rw [← h1, ← h2]
    exact rowC (f_slices_Sort_ok _) h
  · cases h

def f_i_TilesOf_F : Fi := { nv := 0, nc := 0, m := 0, vt := [], kl := [], sk := [], mvs := [], fz := [] }
def f_i_TilesOf_a (g0 : List Sc) (a1 : Int) : List AV := enc [.p .gr, .p (.int .i64)] [.l g0, .i a1]
def f_i_TilesOf_i (g0 : List Sc) (a1 : Int) : List AV := enc [] []
def f_i_TilesOf_en (r : List Sc × Bool) : List AV × List AV := (enc [.p (.al 0), .p .boo] [.b r.2], enc [.own 3] [.l r.1])
def f_i_TilesOf_M : Calling := addC 28 f_i_IsSet_c (addC 29 f_i_tiles_c (addC 30 f_slices_Sort_c (noC)))
theorem f_i_TilesOf_Mt : CallOk Try.prog (f_i_TilesOf_M) := addC_true f_i_IsSet_cc (addC_true f_i_tiles_cc (addC_true f_slices_Sort_cc (noC_true)))
theorem f_i_TilesOf_o : loopsOnce Try.f6 = true := by kernel_rfl
theorem f_i_TilesOf_p {R : Type} (g0 : List Sc) (a1 : Int) (kR : List Sc × Bool → Option R) : f_i_TilesOf_k g0 a1 kR = (f_i_TilesOf_k g0 a1 some).bind kR := by
  simp only [f_i_TilesOf_k, brB, boB, someB]
theorem f_i_TilesOf_e (g0 : List Sc) (a1 : Int) : runFn E0 f_i_TilesOf_M H0 f_i_TilesOf_F (asL (noL)) Try.f6 (f_i_TilesOf_a g0 a1) (f_i_TilesOf_i g0 a1) = f_i_TilesOf_k g0 a1 (fun r => some (f_i_TilesOf_en r)) := by kernel_rfl
theorem f_i_TilesOf_ok (g0 : List Sc) (a1 : Int) (r : List Sc × Bool) (h : f_i_TilesOf g0 a1 = some r) : CS Try.prog 6 (f_i_TilesOf_a g0 a1) (f_i_TilesOf_i g0 a1) (f_i_TilesOf_en r).1 (f_i_TilesOf_en r).2 :=
  fn_true (Gk := fun k => f_i_TilesOf_k g0 a1 k) (en := f_i_TilesOf_en) Try.func6 E0ok f_i_TilesOf_Mt (noL_true) f_i_TilesOf_o (f_i_TilesOf_e g0 a1) (f_i_TilesOf_p g0 a1) h
def f_i_TilesOf_c : CRow := fun args inh => match dec2 [.p .gr, .p (.int .i64)] [] args inh with
  | some ([.l g0, .i a1], []) => some ((f_i_TilesOf g0 a1).isSome, (f_i_TilesOf_en ((f_i_TilesOf g0 a1).getD ([], false))).1, (f_i_TilesOf_en ((f_i_TilesOf g0 a1).getD ([], false))).2)
  | _ => none
theorem f_i_TilesOf_cc : CTrue Try.prog 6 f_i_TilesOf_c := by
  intro args inh rs out h
  unfold f_i_TilesOf_c at h
  split at h
  · rename_i hd
    obtain ⟨h1, h2⟩ := dec2_enc hd
    rw [← h1, ← h2]
    exact rowC (f_i_TilesOf_ok _ _) h
  · cases h

def f_s_TilesOf_F : Fi := { nv := 0, nc := 0, m := 0, vt := [], kl := [(0, ([0, 1, 2, 3, 4, 5, 9, 10, 11, 12, 13, 14, 15, 16, 17, 18, 19, 20, 21, 22, 23, 24, 25, 26, 27, 28, 29, 30, 31, 32, 33, 34, 35, 36, 37, 38, 39], [0, 1, 2, 3, 4, 5, 7, 8, 9, 10, 11, 12, 13, 14, 15, 16, 17, 18, 19, 20, 21, 22, 23, 24, 25, 26, 27, 28, 29, 30, 31, 32, 33, 34, 35, 36, 37, 38, 39], [0, 1, 2, 3, 6, 7, 8, 9, 10, 11, 12, 13, 14, 15, 16, 17, 18, 19, 20, 21, 22, 23, 24, 25, 26, 27, 28, 29, 30, 31, 32, 33, 34, 35, 36, 37, 38, 39]))], sk := [], mvs := [], fz := [], so := true, fl := [18] }
def f_s_TilesOf_a (g0 : List Sc) (a1 : Int) : List AV := enc [.p .gr, .p (.int .i64)] [.l g0, .i a1]
def f_s_TilesOf_i (g0 : List Sc) (a1 : Int) : List AV := enc [] []
def f_s_TilesOf_en (r : List Sc × Bool) : List AV × List AV := (enc [.p .sl, .p .boo] [.l r.1, .b r.2], enc [] [])
def f_s_TilesOf_M : Calling := addC 31 f_s_IsSet_c (addC 33 f_s_l2Order_c (addC 32 f_s_l20Search_c (addC 34 f_s_l5Put_c (noC))))
theorem f_s_TilesOf_Mt : CallOk Try.prog (f_s_TilesOf_M) := addC_true f_s_IsSet_cc (addC_true f_s_l2Order_cc (addC_true f_s_l20Search_cc (addC_true f_s_l5Put_cc (noC_true))))
theorem f_s_TilesOf_o : loopsOnce Try.f7 = true := by kernel_rfl
def f_s_TilesOf_h0 : List Sh := [.u, .u, .u, .u, .u, .u, .p .sl, .own 3, .p (.int .i64), .u, .u, .u, .u, .u, .u, .u, .u, .u, .u, .u, .u, .u, .u, .u, .u, .u, .u, .u, .u, .u, .u, .u, .u, .u, .u, .u, .u, .u, .u, .u]
def f_s_TilesOf_fr0 (s : List Sc × List Sc × Int) : List AV := enc f_s_TilesOf_h0 [.l s.1, .l s.2.1, .i s.2.2]
def f_s_TilesOf_g0_1 : List Sh := [.u, .u, .u, .u, .u, .u, .p .sl, .u, .u, .u, .u, .u, .u, .u, .u, .u, .u, .u, .u, .u, .u, .u, .u, .u, .u, .u, .u, .u, .u, .u, .u, .u, .u, .u, .u, .u, .u, .u, .u, .u]
def f_s_TilesOf_x0_1 (e : List Sc) : X × List AV := (.out 0, enc f_s_TilesOf_g0_1 [.l e])
def f_s_TilesOf_x0_2 (_e : Unit) : X × List AV := (.ret, [])
theorem f_s_TilesOf_p0 {R : Type} (s : List Sc × List Sc × Int) (kN : List Sc × List Sc × Int → Option R) (kA : List Sc → Option R) (kB : Unit → Option R) : f_s_TilesOf_k0 s.1 s.2.1 s.2.2 kN kA = (f_s_TilesOf_r0 s).bind (Ro.el kN kA kB) := by
  simp only [f_s_TilesOf_k0, f_s_TilesOf_r0, brB, boB, someB, noneB, Ro.el]
theorem f_s_TilesOf_e0 (s : List Sc × List Sc × Int) : EC E0 f_s_TilesOf_M H0 f_s_TilesOf_F (asL (noL)) 0 (bodyOf Try.f7 0) (f_s_TilesOf_fr0 s) (done (klOf f_s_TilesOf_F 0)) = f_s_TilesOf_k0 s.1 s.2.1 s.2.2 (fun s => some (.norm, f_s_TilesOf_fr0 s)) (fun e => some (f_s_TilesOf_x0_1 e)) := by kernel_rfl
theorem f_s_TilesOf_l0 : ∀ s r, loopL (f_s_TilesOf_r0) s = some r → LS Try.prog f_s_TilesOf_F (bodyOf Try.f7 0) (f_s_TilesOf_fr0 s) (enX (f_s_TilesOf_x0_1) (f_s_TilesOf_x0_2) r) :=
  loop_true E0ok f_s_TilesOf_Mt (noL_true) f_s_TilesOf_o (fun _ h => by cases h) (fun _ h => by cases h) (fun s => (f_s_TilesOf_e0 s).trans (f_s_TilesOf_p0 s _ _ (fun e => some (f_s_TilesOf_x0_2 e))))
def f_s_TilesOf_t0 (σ : List AV) : Option (Bool × Bool × (X × List AV) × (X × List AV)) := match dec f_s_TilesOf_h0 σ with
  | some [.l out6, .l l7, .i i8] => some (isOne (loopL (f_s_TilesOf_r0) (out6, l7, i8)), true, f_s_TilesOf_x0_1 (getOne [] (loopL (f_s_TilesOf_r0) (out6, l7, i8))), (.ret, []))
  | _ => none
theorem f_s_TilesOf_tt0 : TTrue Try.prog f_s_TilesOf_F Try.f7 0 (f_s_TilesOf_t0) := by
  intro σ p r r' h
  unfold f_s_TilesOf_t0 at h
  split at h
  · rename_i hd
    rw [← dec_enc hd]
    exact row1 (f_s_TilesOf_l0 _) h
  · cases h
theorem f_s_TilesOf_p {R : Type} (g0 : List Sc) (a1 : Int) (kR : List Sc × Bool → Option R) : f_s_TilesOf_k g0 a1 kR = (f_s_TilesOf_k g0 a1 some).bind kR := by
  simp only [f_s_TilesOf_k, brB, boB, bl1B, someB, noneB]
theorem f_s_TilesOf_e (g0 : List Sc) (a1 : Int) : runFn E0 f_s_TilesOf_M H0 f_s_TilesOf_F (asL (addL 0 (f_s_TilesOf_t0) (noL))) Try.f7 (f_s_TilesOf_a g0 a1) (f_s_TilesOf_i g0 a1) = f_s_TilesOf_k g0 a1 (fun r => some (f_s_TilesOf_en r)) := by kernel_rfl
theorem f_s_TilesOf_ok (g0 : List Sc) (a1 : Int) (r : List Sc × Bool) (h : f_s_TilesOf g0 a1 = some r) : CS Try.prog 7 (f_s_TilesOf_a g0 a1) (f_s_TilesOf_i g0 a1) (f_s_TilesOf_en r).1 (f_s_TilesOf_en r).2 :=
  fn_true (Gk := fun k => f_s_TilesOf_k g0 a1 k) (en := f_s_TilesOf_en) Try.func7 E0ok f_s_TilesOf_Mt (addL_true (f_s_TilesOf_tt0) (noL_true)) f_s_TilesOf_o (f_s_TilesOf_e g0 a1) (f_s_TilesOf_p g0 a1) h
def f_s_TilesOf_c : CRow := fun args inh => match dec2 [.p .gr, .p (.int .i64)] [] args inh with
  | some ([.l g0, .i a1], []) => some ((f_s_TilesOf g0 a1).isSome, (f_s_TilesOf_en ((f_s_TilesOf g0 a1).getD ([], false))).1, (f_s_TilesOf_en ((f_s_TilesOf g0 a1).getD ([], false))).2)
  | _ => none
theorem f_s_TilesOf_cc : CTrue Try.prog 7 f_s_TilesOf_c := by
  intro args inh rs out h
  unfold f_s_TilesOf_c at h
  split at h
  · rename_i hd
    obtain ⟨h1, h2⟩ := dec2_enc hd
    rw [← h1, ← h2]
    exact rowC (f_s_TilesOf_ok _ _) h
  · cases h

def f_i_FindTile_F : Fi := { nv := 0, nc := 0, m := 0, vt := [], kl := [], sk := [], mvs := [], fz := [] }
def f_i_FindTile_a (g0 : List Sc) (a1 : Int) : List AV := enc [.p .gr, .p (.int .i64)] [.l g0, .i a1]
def f_i_FindTile_i (g0 : List Sc) (a1 : Int) : List AV := enc [] []
def f_i_FindTile_en (r : Int × Bool) : List AV × List AV := (enc [.p (.int .i64), .p .boo] [.i r.1, .b r.2], enc [] [])
def f_i_FindTile_M : Calling := addC 28 f_i_IsSet_c (addC 29 f_i_tiles_c (noC))
theorem f_i_FindTile_Mt : CallOk Try.prog (f_i_FindTile_M) := addC_true f_i_IsSet_cc (addC_true f_i_tiles_cc (noC_true))
theorem f_i_FindTile_o : loopsOnce Try.f8 = true := by kernel_rfl
theorem f_i_FindTile_p {R : Type} (g0 : List Sc) (a1 : Int) (kR : Int × Bool → Option R) : f_i_FindTile_k g0 a1 kR = (f_i_FindTile_k g0 a1 some).bind kR := by
  simp only [f_i_FindTile_k, brB, boB, someB, noneB]
theorem f_i_FindTile_e (g0 : List Sc) (a1 : Int) : runFn E0 f_i_FindTile_M H0 f_i_FindTile_F (asL (noL)) Try.f8 (f_i_FindTile_a g0 a1) (f_i_FindTile_i g0 a1) = f_i_FindTile_k g0 a1 (fun r => some (f_i_FindTile_en r)) := by kernel_rfl
theorem f_i_FindTile_ok (g0 : List Sc) (a1 : Int) (r : Int × Bool) (h : f_i_FindTile g0 a1 = some r) : CS Try.prog 8 (f_i_FindTile_a g0 a1) (f_i_FindTile_i g0 a1) (f_i_FindTile_en r).1 (f_i_FindTile_en r).2 :=
  fn_true (Gk := fun k => f_i_FindTile_k g0 a1 k) (en := f_i_FindTile_en) Try.func8 E0ok f_i_FindTile_Mt (noL_true) f_i_FindTile_o (f_i_FindTile_e g0 a1) (f_i_FindTile_p g0 a1) h
def f_i_FindTile_c : CRow := fun args inh => match dec2 [.p .gr, .p (.int .i64)] [] args inh with
  | some ([.l g0, .i a1], []) => some ((f_i_FindTile g0 a1).isSome, (f_i_FindTile_en ((f_i_FindTile g0 a1).getD (0, false))).1, (f_i_FindTile_en ((f_i_FindTile g0 a1).getD (0, false))).2)
  | _ => none
theorem f_i_FindTile_cc : CTrue Try.prog 8 f_i_FindTile_c := by
  intro args inh rs out h
  unfold f_i_FindTile_c at h
  split at h
  · rename_i hd
    obtain ⟨h1, h2⟩ := dec2_enc hd
    rw [← h1, ← h2]
    exact rowC (f_i_FindTile_ok _ _) h
  · cases h

def f_l_sameInts_F : Fi := { nv := 0, nc := 0, m := 0, vt := [], kl := [(0, ([2, 3, 4, 6, 7, 8, 9, 10, 11, 12, 13, 14, 15, 16, 17, 18, 19, 20, 21, 22, 23, 24, 25], [0, 1, 2, 3, 4, 5, 6, 7, 8, 9, 10, 11, 12, 13, 14, 15, 16, 17, 18, 19, 20, 21, 22, 23, 24, 25], [0, 1, 2, 3, 5, 6, 7, 8, 9, 10, 11, 12, 13, 14, 15, 16, 17, 18, 19, 20, 21, 22, 23, 24, 25]))], sk := [], mvs := [], fz := [] }
def f_l_sameInts_a (a0 : List Sc) (b1 : List Sc) : List AV := enc [.p .sl, .p .sl] [.l a0, .l b1]
def f_l_sameInts_i (a0 : List Sc) (b1 : List Sc) : List AV := enc [] []
def f_l_sameInts_en (r : Bool) : List AV × List AV := (enc [.p .boo] [.b r], enc [] [])
def f_l_sameInts_M : Calling := noC
theorem f_l_sameInts_Mt : CallOk Try.prog (f_l_sameInts_M) := noC_true
theorem f_l_sameInts_o : loopsOnce Try.f10 = true := by kernel_rfl
def f_l_sameInts_h0 : List Sh := [.p .sl, .p .sl, .u, .u, .u, .p (.int .i64), .u, .u, .u, .u, .u, .u, .u, .u, .u, .u, .u, .u, .u, .u, .u, .u, .u, .u, .u, .u]
def f_l_sameInts_fr0 (a0 : List Sc) (b1 : List Sc) (s : Int) : List AV := enc f_l_sameInts_h0 [.l a0, .l b1, .i s]
def f_l_sameInts_g0_1 : List Sh := [.u, .u, .u, .u, .u, .u, .u, .u, .u, .u, .u, .u, .u, .u, .u, .u, .u, .u, .u, .u, .u, .u, .u, .u, .u, .u]
def f_l_sameInts_x0_1 (a0 : List Sc) (b1 : List Sc) (e : Unit) : X × List AV := (.out 0, enc f_l_sameInts_g0_1 [])
def f_l_sameInts_g0_2 : List Sh := [.u, .u, .u, .u, .p .boo, .u, .u, .u, .u, .u, .u, .u, .u, .u, .u, .u, .u, .u, .u, .u, .u, .u, .u, .u, .u, .u]
def f_l_sameInts_x0_2 (a0 : List Sc) (b1 : List Sc) (e : Unit) : X × List AV := (.ret, enc f_l_sameInts_g0_2 [.b false])
theorem f_l_sameInts_p0 {R : Type} (a0 : List Sc) (b1 : List Sc) (s : Int) (kN : Int → Option R) (kA : Unit → Option R) (kB : Unit → Option R) : f_l_sameInts_k0 a0 b1 s kN kA kB = (f_l_sameInts_r0 a0 b1 s).bind (Ro.el kN kA kB) := by
  simp only [f_l_sameInts_k0, f_l_sameInts_r0, brB, someB, noneB, Ro.el]
theorem f_l_sameInts_e0 (a0 : List Sc) (b1 : List Sc) (s : Int) : EC E0 f_l_sameInts_M H0 f_l_sameInts_F (asL (noL)) 0 (bodyOf Try.f10 0) (f_l_sameInts_fr0 a0 b1 s) (done (klOf f_l_sameInts_F 0)) = f_l_sameInts_k0 a0 b1 s (fun s => some (.norm, f_l_sameInts_fr0 a0 b1 s)) (fun e => some (f_l_sameInts_x0_1 a0 b1 e)) (fun e => some (f_l_sameInts_x0_2 a0 b1 e)) := by kernel_rfl
theorem f_l_sameInts_l0 (a0 : List Sc) (b1 : List Sc) : ∀ s r, loopL (f_l_sameInts_r0 a0 b1) s = some r → LS Try.prog f_l_sameInts_F (bodyOf Try.f10 0) (f_l_sameInts_fr0 a0 b1 s) (enX (f_l_sameInts_x0_1 a0 b1) (f_l_sameInts_x0_2 a0 b1) r) :=
  loop_true E0ok f_l_sameInts_Mt (noL_true) f_l_sameInts_o (fun _ h => by cases h) (fun _ h => by cases h) (fun s => (f_l_sameInts_e0 a0 b1 s).trans (f_l_sameInts_p0 a0 b1 s _ _ (fun e => some (f_l_sameInts_x0_2 a0 b1 e))))
def f_l_sameInts_t0 (σ : List AV) : Option (Bool × Bool × (X × List AV) × (X × List AV)) := match dec f_l_sameInts_h0 σ with
  | some [.l a0, .l b1, .i i5] => some ((loopL (f_l_sameInts_r0 a0 b1) i5).isSome, isOne (loopL (f_l_sameInts_r0 a0 b1) i5), f_l_sameInts_x0_1 a0 b1 (getOne () (loopL (f_l_sameInts_r0 a0 b1) i5)), f_l_sameInts_x0_2 a0 b1 (getTwo () (loopL (f_l_sameInts_r0 a0 b1) i5)))
  | _ => none
theorem f_l_sameInts_tt0 : TTrue Try.prog f_l_sameInts_F Try.f10 0 (f_l_sameInts_t0) := by
  intro σ p r r' h
  unfold f_l_sameInts_t0 at h
  split at h
  · rename_i hd
    rw [← dec_enc hd]
    exact row2 (f_l_sameInts_l0 _ _ _) h
  · cases h
theorem f_l_sameInts_p {R : Type} (a0 : List Sc) (b1 : List Sc) (kR : Bool → Option R) : f_l_sameInts_k a0 b1 kR = (f_l_sameInts_k a0 b1 some).bind kR := by
  simp only [f_l_sameInts_k, brB, blB, someB]
theorem f_l_sameInts_e (a0 : List Sc) (b1 : List Sc) : runFn E0 f_l_sameInts_M H0 f_l_sameInts_F (asL (addL 0 (f_l_sameInts_t0) (noL))) Try.f10 (f_l_sameInts_a a0 b1) (f_l_sameInts_i a0 b1) = f_l_sameInts_k a0 b1 (fun r => some (f_l_sameInts_en r)) := by kernel_rfl
theorem f_l_sameInts_ok (a0 : List Sc) (b1 : List Sc) (r : Bool) (h : f_l_sameInts a0 b1 = some r) : CS Try.prog 10 (f_l_sameInts_a a0 b1) (f_l_sameInts_i a0 b1) (f_l_sameInts_en r).1 (f_l_sameInts_en r).2 :=
  fn_true (Gk := fun k => f_l_sameInts_k a0 b1 k) (en := f_l_sameInts_en) Try.func10 E0ok f_l_sameInts_Mt (addL_true (f_l_sameInts_tt0) (noL_true)) f_l_sameInts_o (f_l_sameInts_e a0 b1) (f_l_sameInts_p a0 b1) h
def f_l_sameInts_c : CRow := fun args inh => match dec2 [.p .sl, .p .sl] [] args inh with
  | some ([.l a0, .l b1], []) => some ((f_l_sameInts a0 b1).isSome, (f_l_sameInts_en ((f_l_sameInts a0 b1).getD false)).1, (f_l_sameInts_en ((f_l_sameInts a0 b1).getD false)).2)
  | _ => none
theorem f_l_sameInts_cc : CTrue Try.prog 10 f_l_sameInts_c := by
  intro args inh rs out h
  unfold f_l_sameInts_c at h
  split at h
  · rename_i hd
    obtain ⟨h1, h2⟩ := dec2_enc hd
    rw [← h1, ← h2]
    exact rowC (f_l_sameInts_ok _ _) h
  · cases h

def f_i_SplitsOf_F : Fi := { nv := 1, nc := 0, m := 0, vt := [(10, 0)], kl := [], sk := [], mvs := [0], fz := [] }
def f_i_SplitsOf_a (g0 : List Sc) (a1 : Int) : List AV := enc [.p .gr, .p (.int .i64)] [.l g0, .i a1]
def f_i_SplitsOf_i (g0 : List Sc) (a1 : Int) : List AV := enc [] []
def f_i_SplitsOf_en (r : Int) : List AV × List AV := (enc [.p (.int .i64)] [.i r], enc [] [])
def f_i_SplitsOf_M : Calling := addC 6 f_i_TilesOf_c (noC)
theorem f_i_SplitsOf_Mt : CallOk Try.prog (f_i_SplitsOf_M) := addC_true f_i_TilesOf_cc (noC_true)
theorem f_i_SplitsOf_o : loopsOnce Try.f11 = true := by kernel_rfl
theorem f_i_SplitsOf_p {R : Type} (g0 : List Sc) (a1 : Int) (kR : Int → Option R) : f_i_SplitsOf_k g0 a1 kR = (f_i_SplitsOf_k g0 a1 some).bind kR := by
  simp only [f_i_SplitsOf_k, brB, boB, someB]
theorem f_i_SplitsOf_e (g0 : List Sc) (a1 : Int) : runFn E0 f_i_SplitsOf_M H0 f_i_SplitsOf_F (asL (noL)) Try.f11 (f_i_SplitsOf_a g0 a1) (f_i_SplitsOf_i g0 a1) = f_i_SplitsOf_k g0 a1 (fun r => some (f_i_SplitsOf_en r)) := by kernel_rfl
theorem f_i_SplitsOf_ok (g0 : List Sc) (a1 : Int) (r : Int) (h : f_i_SplitsOf g0 a1 = some r) : CS Try.prog 11 (f_i_SplitsOf_a g0 a1) (f_i_SplitsOf_i g0 a1) (f_i_SplitsOf_en r).1 (f_i_SplitsOf_en r).2 :=
  fn_true (Gk := fun k => f_i_SplitsOf_k g0 a1 k) (en := f_i_SplitsOf_en) Try.func11 E0ok f_i_SplitsOf_Mt (noL_true) f_i_SplitsOf_o (f_i_SplitsOf_e g0 a1) (f_i_SplitsOf_p g0 a1) h
def f_i_SplitsOf_c : CRow := fun args inh => match dec2 [.p .gr, .p (.int .i64)] [] args inh with
  | some ([.l g0, .i a1], []) => some ((f_i_SplitsOf g0 a1).isSome, (f_i_SplitsOf_en ((f_i_SplitsOf g0 a1).getD 0)).1, (f_i_SplitsOf_en ((f_i_SplitsOf g0 a1).getD 0)).2)
  | _ => none
theorem f_i_SplitsOf_cc : CTrue Try.prog 11 f_i_SplitsOf_c := by
  intro args inh rs out h
  unfold f_i_SplitsOf_c at h
  split at h
  · rename_i hd
    obtain ⟨h1, h2⟩ := dec2_enc hd
    rw [← h1, ← h2]
    exact rowC (f_i_SplitsOf_ok _ _) h
  · cases h

def f_s_SplitsOf_F : Fi := { nv := 0, nc := 0, m := 0, vt := [], kl := [], sk := [], mvs := [], fz := [] }
def f_s_SplitsOf_a (g0 : List Sc) (a1 : Int) : List AV := enc [.p .gr, .p (.int .i64)] [.l g0, .i a1]
def f_s_SplitsOf_i (g0 : List Sc) (a1 : Int) : List AV := enc [] []
def f_s_SplitsOf_en (r : Int) : List AV × List AV := (enc [.p (.int .i64)] [.i r], enc [] [])
def f_s_SplitsOf_M : Calling := addC 7 f_s_TilesOf_c (noC)
theorem f_s_SplitsOf_Mt : CallOk Try.prog (f_s_SplitsOf_M) := addC_true f_s_TilesOf_cc (noC_true)
theorem f_s_SplitsOf_o : loopsOnce Try.f12 = true := by kernel_rfl
theorem f_s_SplitsOf_p {R : Type} (g0 : List Sc) (a1 : Int) (kR : Int → Option R) : f_s_SplitsOf_k g0 a1 kR = (f_s_SplitsOf_k g0 a1 some).bind kR := by
  simp only [f_s_SplitsOf_k, brB, boB, someB]
theorem f_s_SplitsOf_e (g0 : List Sc) (a1 : Int) : runFn E0 f_s_SplitsOf_M H0 f_s_SplitsOf_F (asL (noL)) Try.f12 (f_s_SplitsOf_a g0 a1) (f_s_SplitsOf_i g0 a1) = f_s_SplitsOf_k g0 a1 (fun r => some (f_s_SplitsOf_en r)) := by kernel_rfl
theorem f_s_SplitsOf_ok (g0 : List Sc) (a1 : Int) (r : Int) (h : f_s_SplitsOf g0 a1 = some r) : CS Try.prog 12 (f_s_SplitsOf_a g0 a1) (f_s_SplitsOf_i g0 a1) (f_s_SplitsOf_en r).1 (f_s_SplitsOf_en r).2 :=
  fn_true (Gk := fun k => f_s_SplitsOf_k g0 a1 k) (en := f_s_SplitsOf_en) Try.func12 E0ok f_s_SplitsOf_Mt (noL_true) f_s_SplitsOf_o (f_s_SplitsOf_e g0 a1) (f_s_SplitsOf_p g0 a1) h
def f_s_SplitsOf_c : CRow := fun args inh => match dec2 [.p .gr, .p (.int .i64)] [] args inh with
  | some ([.l g0, .i a1], []) => some ((f_s_SplitsOf g0 a1).isSome, (f_s_SplitsOf_en ((f_s_SplitsOf g0 a1).getD 0)).1, (f_s_SplitsOf_en ((f_s_SplitsOf g0 a1).getD 0)).2)
  | _ => none
theorem f_s_SplitsOf_cc : CTrue Try.prog 12 f_s_SplitsOf_c := by
  intro args inh rs out h
  unfold f_s_SplitsOf_c at h
  split at h
  · rename_i hd
    obtain ⟨h1, h2⟩ := dec2_enc hd
    rw [← h1, ← h2]
    exact rowC (f_s_SplitsOf_ok _ _) h
  · cases h

def f_i_areSets_F : Fi := { nv := 0, nc := 0, m := 0, vt := [], kl := [(0, ([0, 1, 3, 4, 5, 6, 10, 11, 12, 13, 14, 15, 16, 17, 18, 19], [0, 1, 3, 4, 5, 6, 7, 8, 9, 10, 11, 12, 13, 14, 15, 16, 17, 18, 19], [0, 1, 2, 3, 5, 6, 7, 8, 9, 10, 11, 12, 13, 14, 15, 16, 17, 18, 19]))], sk := [], mvs := [], fz := [] }
def f_i_areSets_a (g0 : List Sc) (l1 : List Sc) : List AV := enc [.p .gr, .p .sl] [.l g0, .l l1]
def f_i_areSets_i (g0 : List Sc) (l1 : List Sc) : List AV := enc [] []
def f_i_areSets_en (r : Bool) : List AV × List AV := (enc [.p .boo] [.b r], enc [] [])
def f_i_areSets_M : Calling := addC 28 f_i_IsSet_c (addC 48 f_i_IsGroup_c (noC))
theorem f_i_areSets_Mt : CallOk Try.prog (f_i_areSets_M) := addC_true f_i_IsSet_cc (addC_true f_i_IsGroup_cc (noC_true))
theorem f_i_areSets_o : loopsOnce Try.f37 = true := by kernel_rfl
def f_i_areSets_h0 : List Sh := [.u, .u, .p .el, .u, .u, .u, .u, .p .sl, .p (.int .i64), .p (.int .i64), .u, .u, .u, .u, .u, .u, .u, .u, .u, .u]
def f_i_areSets_fr0 (g2 : List Sc) (t7 : List Sc) (t8 : Int) (s : Int) : List AV := enc f_i_areSets_h0 [.l g2, .l t7, .i t8, .i s]
def f_i_areSets_g0_1 : List Sh := [.u, .u, .p .el, .u, .u, .u, .u, .u, .u, .u, .u, .u, .u, .u, .u, .u, .u, .u, .u, .u]
def f_i_areSets_x0_1 (g2 : List Sc) (t7 : List Sc) (t8 : Int) (e : Unit) : X × List AV := (.out 0, enc f_i_areSets_g0_1 [.l g2])
def f_i_areSets_g0_2 : List Sh := [.u, .u, .u, .u, .p .boo, .u, .u, .u, .u, .u, .u, .u, .u, .u, .u, .u, .u, .u, .u, .u]
def f_i_areSets_x0_2 (g2 : List Sc) (t7 : List Sc) (t8 : Int) (e : Unit) : X × List AV := (.ret, enc f_i_areSets_g0_2 [.b false])
theorem f_i_areSets_p0 {R : Type} (g2 : List Sc) (t7 : List Sc) (t8 : Int) (s : Int) (kN : Int → Option R) (kA : Unit → Option R) (kB : Unit → Option R) : f_i_areSets_k0 g2 t7 t8 s kN kA kB = (f_i_areSets_r0 g2 t7 t8 s).bind (Ro.el kN kA kB) := by
  simp only [f_i_areSets_k0, f_i_areSets_r0, brB, boB, someB, noneB, Ro.el]
theorem f_i_areSets_e0 (g2 : List Sc) (t7 : List Sc) (t8 : Int) (s : Int) : EC E0 f_i_areSets_M H0 f_i_areSets_F (asL (noL)) 0 (bodyOf Try.f37 0) (f_i_areSets_fr0 g2 t7 t8 s) (done (klOf f_i_areSets_F 0)) = f_i_areSets_k0 g2 t7 t8 s (fun s => some (.norm, f_i_areSets_fr0 g2 t7 t8 s)) (fun e => some (f_i_areSets_x0_1 g2 t7 t8 e)) (fun e => some (f_i_areSets_x0_2 g2 t7 t8 e)) := by kernel_rfl
theorem f_i_areSets_l0 (g2 : List Sc) (t7 : List Sc) (t8 : Int) : ∀ s r, loopL (f_i_areSets_r0 g2 t7 t8) s = some r → LS Try.prog f_i_areSets_F (bodyOf Try.f37 0) (f_i_areSets_fr0 g2 t7 t8 s) (enX (f_i_areSets_x0_1 g2 t7 t8) (f_i_areSets_x0_2 g2 t7 t8) r) :=
  loop_true E0ok f_i_areSets_Mt (noL_true) f_i_areSets_o (fun _ h => by cases h) (fun _ h => by cases h) (fun s => (f_i_areSets_e0 g2 t7 t8 s).trans (f_i_areSets_p0 g2 t7 t8 s _ _ (fun e => some (f_i_areSets_x0_2 g2 t7 t8 e))))
def f_i_areSets_t0 (σ : List AV) : Option (Bool × Bool × (X × List AV) × (X × List AV)) := match dec f_i_areSets_h0 σ with
  | some [.l g2, .l t7, .i t8, .i t9] => some ((loopL (f_i_areSets_r0 g2 t7 t8) t9).isSome, isOne (loopL (f_i_areSets_r0 g2 t7 t8) t9), f_i_areSets_x0_1 g2 t7 t8 (getOne () (loopL (f_i_areSets_r0 g2 t7 t8) t9)), f_i_areSets_x0_2 g2 t7 t8 (getTwo () (loopL (f_i_areSets_r0 g2 t7 t8) t9)))
  | _ => none
theorem f_i_areSets_tt0 : TTrue Try.prog f_i_areSets_F Try.f37 0 (f_i_areSets_t0) := by
  intro σ p r r' h
  unfold f_i_areSets_t0 at h
  split at h
  · rename_i hd
    rw [← dec_enc hd]
    exact row2 (f_i_areSets_l0 _ _ _ _) h
  · cases h
theorem f_i_areSets_p {R : Type} (g0 : List Sc) (l1 : List Sc) (kR : Bool → Option R) : f_i_areSets_k g0 l1 kR = (f_i_areSets_k g0 l1 some).bind kR := by
  simp only [f_i_areSets_k, boB, blB, someB]
theorem f_i_areSets_e (g0 : List Sc) (l1 : List Sc) : runFn E0 f_i_areSets_M H0 f_i_areSets_F (asL (addL 0 (f_i_areSets_t0) (noL))) Try.f37 (f_i_areSets_a g0 l1) (f_i_areSets_i g0 l1) = f_i_areSets_k g0 l1 (fun r => some (f_i_areSets_en r)) := by kernel_rfl
theorem f_i_areSets_ok (g0 : List Sc) (l1 : List Sc) (r : Bool) (h : f_i_areSets g0 l1 = some r) : CS Try.prog 37 (f_i_areSets_a g0 l1) (f_i_areSets_i g0 l1) (f_i_areSets_en r).1 (f_i_areSets_en r).2 :=
  fn_true (Gk := fun k => f_i_areSets_k g0 l1 k) (en := f_i_areSets_en) Try.func37 E0ok f_i_areSets_Mt (addL_true (f_i_areSets_tt0) (noL_true)) f_i_areSets_o (f_i_areSets_e g0 l1) (f_i_areSets_p g0 l1) h
def f_i_areSets_c : CRow := fun args inh => match dec2 [.p .gr, .p .sl] [] args inh with
  | some ([.l g0, .l l1], []) => some ((f_i_areSets g0 l1).isSome, (f_i_areSets_en ((f_i_areSets g0 l1).getD false)).1, (f_i_areSets_en ((f_i_areSets g0 l1).getD false)).2)
  | _ => none
theorem f_i_areSets_cc : CTrue Try.prog 37 f_i_areSets_c := by
  intro args inh rs out h
  unfold f_i_areSets_c at h
  split at h
  · rename_i hd
    obtain ⟨h1, h2⟩ := dec2_enc hd
    rw [← h1, ← h2]
    exact rowC (f_i_areSets_ok _ _) h
  · cases h

def f_i_Group_sum_F : Fi := { nv := 0, nc := 0, m := 0, vt := [], kl := [(0, ([0, 1, 4, 5, 6, 8, 9, 10, 14, 15, 16, 17, 18, 19, 20, 21, 22, 23, 24], [0, 1, 2, 3, 4, 5, 6, 8, 9, 10, 11, 12, 13, 14, 15, 16, 17, 18, 19, 20, 21, 22, 23, 24], [0, 1, 2, 3, 4, 5, 7, 8, 9, 10, 11, 12, 13, 14, 15, 16, 17, 18, 19, 20, 21, 22, 23, 24]))], sk := [], mvs := [], fz := [] }
def f_i_Group_sum_a (g0 : List Sc) (a1 : Int) (b2 : Int) : List AV := enc [.p .gr, .p (.int .i64), .p (.int .i64)] [.l g0, .i a1, .i b2]
def f_i_Group_sum_i (g0 : List Sc) (a1 : Int) (b2 : Int) : List AV := enc [] []
def f_i_Group_sum_en (r : Int) : List AV × List AV := (enc [.p (.int .i64)] [.i r], enc [] [])
def f_i_Group_sum_M : Calling := addC 52 f_i_members_c (addC 54 f_i_Group_shift_c (noC))
theorem f_i_Group_sum_Mt : CallOk Try.prog (f_i_Group_sum_M) := addC_true f_i_members_cc (addC_true f_i_Group_shift_cc (noC_true))
theorem f_i_Group_sum_o : loopsOnce Try.f35 = true := by kernel_rfl
def f_i_Group_sum_h0 : List Sh := [.u, .u, .p (.int .i64), .p .el, .u, .u, .u, .p (.int .i64), .u, .u, .u, .own 3, .p (.int .i64), .p (.int .i64), .u, .u, .u, .u, .u, .u, .u, .u, .u, .u, .u]
def f_i_Group_sum_fr0 (b2 : Int) (g3 : List Sc) (t12 : Int) (s : Int × List Sc × Int) : List AV := enc f_i_Group_sum_h0 [.i b2, .l g3, .i s.1, .l s.2.1, .i t12, .i s.2.2]
def f_i_Group_sum_g0_1 : List Sh := [.u, .u, .u, .u, .u, .u, .u, .p (.int .i64), .u, .u, .u, .u, .u, .u, .u, .u, .u, .u, .u, .u, .u, .u, .u, .u, .u]
def f_i_Group_sum_x0_1 (b2 : Int) (g3 : List Sc) (t12 : Int) (e : Int) : X × List AV := (.out 0, enc f_i_Group_sum_g0_1 [.i e])
def f_i_Group_sum_x0_2 (b2 : Int) (g3 : List Sc) (t12 : Int) (_e : Unit) : X × List AV := (.ret, [])
theorem f_i_Group_sum_p0 {R : Type} (b2 : Int) (g3 : List Sc) (t12 : Int) (s : Int × List Sc × Int) (kN : Int × List Sc × Int → Option R) (kA : Int → Option R) (kB : Unit → Option R) : f_i_Group_sum_k0 b2 g3 t12 s.1 s.2.1 s.2.2 kN kA = (f_i_Group_sum_r0 b2 g3 t12 s).bind (Ro.el kN kA kB) := by
  simp only [f_i_Group_sum_k0, f_i_Group_sum_r0, brB, boB, someB, noneB, Ro.el]
theorem f_i_Group_sum_e0 (b2 : Int) (g3 : List Sc) (t12 : Int) (s : Int × List Sc × Int) : EC E0 f_i_Group_sum_M H0 f_i_Group_sum_F (asL (noL)) 0 (bodyOf Try.f35 0) (f_i_Group_sum_fr0 b2 g3 t12 s) (done (klOf f_i_Group_sum_F 0)) = f_i_Group_sum_k0 b2 g3 t12 s.1 s.2.1 s.2.2 (fun s => some (.norm, f_i_Group_sum_fr0 b2 g3 t12 s)) (fun e => some (f_i_Group_sum_x0_1 b2 g3 t12 e)) := by kernel_rfl
theorem f_i_Group_sum_l0 (b2 : Int) (g3 : List Sc) (t12 : Int) : ∀ s r, loopL (f_i_Group_sum_r0 b2 g3 t12) s = some r → LS Try.prog f_i_Group_sum_F (bodyOf Try.f35 0) (f_i_Group_sum_fr0 b2 g3 t12 s) (enX (f_i_Group_sum_x0_1 b2 g3 t12) (f_i_Group_sum_x0_2 b2 g3 t12) r) :=
  loop_true E0ok f_i_Group_sum_Mt (noL_true) f_i_Group_sum_o (fun _ h => by cases h) (fun _ h => by cases h) (fun s => (f_i_Group_sum_e0 b2 g3 t12 s).trans (f_i_Group_sum_p0 b2 g3 t12 s _ _ (fun e => some (f_i_Group_sum_x0_2 b2 g3 t12 e))))
def f_i_Group_sum_t0 (σ : List AV) : Option (Bool × Bool × (X × List AV) × (X × List AV)) := match dec f_i_Group_sum_h0 σ with
  | some [.i b2, .l g3, .i out7, .l t11, .i t12, .i t13] => some (isOne (loopL (f_i_Group_sum_r0 b2 g3 t12) (out7, t11, t13)), true, f_i_Group_sum_x0_1 b2 g3 t12 (getOne 0 (loopL (f_i_Group_sum_r0 b2 g3 t12) (out7, t11, t13))), (.ret, []))
  | _ => none
theorem f_i_Group_sum_tt0 : TTrue Try.prog f_i_Group_sum_F Try.f35 0 (f_i_Group_sum_t0) := by
  intro σ p r r' h
  unfold f_i_Group_sum_t0 at h
  split at h
  · rename_i hd
    rw [← dec_enc hd]
    exact row1 (f_i_Group_sum_l0 _ _ _ _) h
  · cases h
theorem f_i_Group_sum_p {R : Type} (g0 : List Sc) (a1 : Int) (b2 : Int) (kR : Int → Option R) : f_i_Group_sum_k g0 a1 b2 kR = (f_i_Group_sum_k g0 a1 b2 some).bind kR := by
  simp only [f_i_Group_sum_k, boB, bl1B, someB]
theorem f_i_Group_sum_e (g0 : List Sc) (a1 : Int) (b2 : Int) : runFn E0 f_i_Group_sum_M H0 f_i_Group_sum_F (asL (addL 0 (f_i_Group_sum_t0) (noL))) Try.f35 (f_i_Group_sum_a g0 a1 b2) (f_i_Group_sum_i g0 a1 b2) = f_i_Group_sum_k g0 a1 b2 (fun r => some (f_i_Group_sum_en r)) := by kernel_rfl
theorem f_i_Group_sum_ok (g0 : List Sc) (a1 : Int) (b2 : Int) (r : Int) (h : f_i_Group_sum g0 a1 b2 = some r) : CS Try.prog 35 (f_i_Group_sum_a g0 a1 b2) (f_i_Group_sum_i g0 a1 b2) (f_i_Group_sum_en r).1 (f_i_Group_sum_en r).2 :=
  fn_true (Gk := fun k => f_i_Group_sum_k g0 a1 b2 k) (en := f_i_Group_sum_en) Try.func35 E0ok f_i_Group_sum_Mt (addL_true (f_i_Group_sum_tt0) (noL_true)) f_i_Group_sum_o (f_i_Group_sum_e g0 a1 b2) (f_i_Group_sum_p g0 a1 b2) h
def f_i_Group_sum_c : CRow := fun args inh => match dec2 [.p .gr, .p (.int .i64), .p (.int .i64)] [] args inh with
  | some ([.l g0, .i a1, .i b2], []) => some ((f_i_Group_sum g0 a1 b2).isSome, (f_i_Group_sum_en ((f_i_Group_sum g0 a1 b2).getD 0)).1, (f_i_Group_sum_en ((f_i_Group_sum g0 a1 b2).getD 0)).2)
  | _ => none
theorem f_i_Group_sum_cc : CTrue Try.prog 35 f_i_Group_sum_c := by
  intro args inh rs out h
  unfold f_i_Group_sum_c at h
  split at h
  · rename_i hd
    obtain ⟨h1, h2⟩ := dec2_enc hd
    rw [← h1, ← h2]
    exact rowC (f_i_Group_sum_ok _ _ _) h
  · cases h

def f_i_bits_F : Fi := { nv := 0, nc := 0, m := 0, vt := [], kl := [(0, ([1, 2, 4, 5, 6, 7, 8, 9, 10, 11, 12], [0, 1, 2, 4, 5, 6, 7, 8, 9, 10, 11, 12], [0, 1, 3, 4, 5, 6, 7, 8, 9, 10, 11, 12]))], sk := [], mvs := [], fz := [] }
def f_i_bits_a (a0 : Int) : List AV := enc [.p (.int .i64)] [.i a0]
def f_i_bits_i (a0 : Int) : List AV := enc [] []
def f_i_bits_en (r : Int) : List AV × List AV := (enc [.p (.int .i64)] [.i r], enc [] [])
def f_i_bits_M : Calling := noC
theorem f_i_bits_Mt : CallOk Try.prog (f_i_bits_M) := noC_true
theorem f_i_bits_o : loopsOnce Try.f38 = true := by kernel_rfl
def f_i_bits_h0 : List Sh := [.p (.int .i64), .u, .u, .p (.int .i64), .u, .u, .u, .u, .u, .u, .u, .u, .u]
def f_i_bits_fr0 (s : Int × Int) : List AV := enc f_i_bits_h0 [.i s.1, .i s.2]
def f_i_bits_g0_1 : List Sh := [.u, .u, .u, .p (.int .i64), .u, .u, .u, .u, .u, .u, .u, .u, .u]
def f_i_bits_x0_1 (e : Int) : X × List AV := (.out 0, enc f_i_bits_g0_1 [.i e])
def f_i_bits_x0_2 (_e : Unit) : X × List AV := (.ret, [])
theorem f_i_bits_p0 {R : Type} (s : Int × Int) (kN : Int × Int → Option R) (kA : Int → Option R) (kB : Unit → Option R) : f_i_bits_k0 s.1 s.2 kN kA = (f_i_bits_r0 s).bind (Ro.el kN kA kB) := by
  simp only [f_i_bits_k0, f_i_bits_r0, brB, someB, Ro.el]
theorem f_i_bits_e0 (s : Int × Int) : EC E0 f_i_bits_M H0 f_i_bits_F (asL (noL)) 0 (bodyOf Try.f38 0) (f_i_bits_fr0 s) (done (klOf f_i_bits_F 0)) = f_i_bits_k0 s.1 s.2 (fun s => some (.norm, f_i_bits_fr0 s)) (fun e => some (f_i_bits_x0_1 e)) := by kernel_rfl
theorem f_i_bits_l0 : ∀ s r, loopL (f_i_bits_r0) s = some r → LS Try.prog f_i_bits_F (bodyOf Try.f38 0) (f_i_bits_fr0 s) (enX (f_i_bits_x0_1) (f_i_bits_x0_2) r) :=
  loop_true E0ok f_i_bits_Mt (noL_true) f_i_bits_o (fun _ h => by cases h) (fun _ h => by cases h) (fun s => (f_i_bits_e0 s).trans (f_i_bits_p0 s _ _ (fun e => some (f_i_bits_x0_2 e))))
def f_i_bits_t0 (σ : List AV) : Option (Bool × Bool × (X × List AV) × (X × List AV)) := match dec f_i_bits_h0 σ with
  | some [.i a0, .i n3] => some (isOne (loopL (f_i_bits_r0) (a0, n3)), true, f_i_bits_x0_1 (getOne 0 (loopL (f_i_bits_r0) (a0, n3))), (.ret, []))
  | _ => none
theorem f_i_bits_tt0 : TTrue Try.prog f_i_bits_F Try.f38 0 (f_i_bits_t0) := by
  intro σ p r r' h
  unfold f_i_bits_t0 at h
  split at h
  · rename_i hd
    rw [← dec_enc hd]
    exact row1 (f_i_bits_l0 _) h
  · cases h
theorem f_i_bits_p {R : Type} (a0 : Int) (kR : Int → Option R) : f_i_bits_k a0 kR = (f_i_bits_k a0 some).bind kR := by
  simp only [f_i_bits_k, bl1B, someB]
theorem f_i_bits_e (a0 : Int) : runFn E0 f_i_bits_M H0 f_i_bits_F (asL (addL 0 (f_i_bits_t0) (noL))) Try.f38 (f_i_bits_a a0) (f_i_bits_i a0) = f_i_bits_k a0 (fun r => some (f_i_bits_en r)) := by kernel_rfl
theorem f_i_bits_ok (a0 : Int) (r : Int) (h : f_i_bits a0 = some r) : CS Try.prog 38 (f_i_bits_a a0) (f_i_bits_i a0) (f_i_bits_en r).1 (f_i_bits_en r).2 :=
  fn_true (Gk := fun k => f_i_bits_k a0 k) (en := f_i_bits_en) Try.func38 E0ok f_i_bits_Mt (addL_true (f_i_bits_tt0) (noL_true)) f_i_bits_o (f_i_bits_e a0) (f_i_bits_p a0) h
def f_i_bits_c : CRow := fun args inh => match dec2 [.p (.int .i64)] [] args inh with
  | some ([.i a0], []) => some ((f_i_bits a0).isSome, (f_i_bits_en ((f_i_bits a0).getD 0)).1, (f_i_bits_en ((f_i_bits a0).getD 0)).2)
  | _ => none
theorem f_i_bits_cc : CTrue Try.prog 38 f_i_bits_c := by
  intro args inh rs out h
  unfold f_i_bits_c at h
  split at h
  · rename_i hd
    obtain ⟨h1, h2⟩ := dec2_enc hd
    rw [← h1, ← h2]
    exact rowC (f_i_bits_ok _) h
  · cases h

def f_i_IsDirect_F : Fi := { nv := 0, nc := 0, m := 0, vt := [], kl := [], sk := [], mvs := [], fz := [] }
def f_i_IsDirect_a (g0 : List Sc) (a1 : Int) (b2 : Int) : List AV := enc [.p .gr, .p (.int .i64), .p (.int .i64)] [.l g0, .i a1, .i b2]
def f_i_IsDirect_i (g0 : List Sc) (a1 : Int) (b2 : Int) : List AV := enc [] []
def f_i_IsDirect_en (r : Bool) : List AV × List AV := (enc [.p .boo] [.b r], enc [] [])
def f_i_IsDirect_M : Calling := addC 37 f_i_areSets_c (addC 35 f_i_Group_sum_c (addC 38 f_i_bits_c (noC)))
theorem f_i_IsDirect_Mt : CallOk Try.prog (f_i_IsDirect_M) := addC_true f_i_areSets_cc (addC_true f_i_Group_sum_cc (addC_true f_i_bits_cc (noC_true)))
theorem f_i_IsDirect_o : loopsOnce Try.f14 = true := by kernel_rfl
theorem f_i_IsDirect_p {R : Type} (g0 : List Sc) (a1 : Int) (b2 : Int) (kR : Bool → Option R) : f_i_IsDirect_k g0 a1 b2 kR = (f_i_IsDirect_k g0 a1 b2 some).bind kR := by
  simp only [f_i_IsDirect_k, brB, boB, someB]
theorem f_i_IsDirect_e (g0 : List Sc) (a1 : Int) (b2 : Int) : runFn E0 f_i_IsDirect_M H0 f_i_IsDirect_F (asL (noL)) Try.f14 (f_i_IsDirect_a g0 a1 b2) (f_i_IsDirect_i g0 a1 b2) = f_i_IsDirect_k g0 a1 b2 (fun r => some (f_i_IsDirect_en r)) := by kernel_rfl
theorem f_i_IsDirect_ok (g0 : List Sc) (a1 : Int) (b2 : Int) (r : Bool) (h : f_i_IsDirect g0 a1 b2 = some r) : CS Try.prog 14 (f_i_IsDirect_a g0 a1 b2) (f_i_IsDirect_i g0 a1 b2) (f_i_IsDirect_en r).1 (f_i_IsDirect_en r).2 :=
  fn_true (Gk := fun k => f_i_IsDirect_k g0 a1 b2 k) (en := f_i_IsDirect_en) Try.func14 E0ok f_i_IsDirect_Mt (noL_true) f_i_IsDirect_o (f_i_IsDirect_e g0 a1 b2) (f_i_IsDirect_p g0 a1 b2) h
def f_i_IsDirect_c : CRow := fun args inh => match dec2 [.p .gr, .p (.int .i64), .p (.int .i64)] [] args inh with
  | some ([.l g0, .i a1, .i b2], []) => some ((f_i_IsDirect g0 a1 b2).isSome, (f_i_IsDirect_en ((f_i_IsDirect g0 a1 b2).getD false)).1, (f_i_IsDirect_en ((f_i_IsDirect g0 a1 b2).getD false)).2)
  | _ => none
theorem f_i_IsDirect_cc : CTrue Try.prog 14 f_i_IsDirect_c := by
  intro args inh rs out h
  unfold f_i_IsDirect_c at h
  split at h
  · rename_i hd
    obtain ⟨h1, h2⟩ := dec2_enc hd
    rw [← h1, ← h2]
    exact rowC (f_i_IsDirect_ok _ _ _) h
  · cases h

def f_i_IsTiling_F : Fi := { nv := 0, nc := 0, m := 0, vt := [], kl := [], sk := [], mvs := [], fz := [] }
def f_i_IsTiling_a (g0 : List Sc) (a1 : Int) (b2 : Int) : List AV := enc [.p .gr, .p (.int .i64), .p (.int .i64)] [.l g0, .i a1, .i b2]
def f_i_IsTiling_i (g0 : List Sc) (a1 : Int) (b2 : Int) : List AV := enc [] []
def f_i_IsTiling_en (r : Bool) : List AV × List AV := (enc [.p .boo] [.b r], enc [] [])
def f_i_IsTiling_M : Calling := addC 14 f_i_IsDirect_c (addC 35 f_i_Group_sum_c (addC 36 f_i_FullSet_c (noC)))
theorem f_i_IsTiling_Mt : CallOk Try.prog (f_i_IsTiling_M) := addC_true f_i_IsDirect_cc (addC_true f_i_Group_sum_cc (addC_true f_i_FullSet_cc (noC_true)))
theorem f_i_IsTiling_o : loopsOnce Try.f13 = true := by kernel_rfl
theorem f_i_IsTiling_p {R : Type} (g0 : List Sc) (a1 : Int) (b2 : Int) (kR : Bool → Option R) : f_i_IsTiling_k g0 a1 b2 kR = (f_i_IsTiling_k g0 a1 b2 some).bind kR := by
  simp only [f_i_IsTiling_k, brB, boB, someB]
theorem f_i_IsTiling_e (g0 : List Sc) (a1 : Int) (b2 : Int) : runFn E0 f_i_IsTiling_M H0 f_i_IsTiling_F (asL (noL)) Try.f13 (f_i_IsTiling_a g0 a1 b2) (f_i_IsTiling_i g0 a1 b2) = f_i_IsTiling_k g0 a1 b2 (fun r => some (f_i_IsTiling_en r)) := by kernel_rfl
theorem f_i_IsTiling_ok (g0 : List Sc) (a1 : Int) (b2 : Int) (r : Bool) (h : f_i_IsTiling g0 a1 b2 = some r) : CS Try.prog 13 (f_i_IsTiling_a g0 a1 b2) (f_i_IsTiling_i g0 a1 b2) (f_i_IsTiling_en r).1 (f_i_IsTiling_en r).2 :=
  fn_true (Gk := fun k => f_i_IsTiling_k g0 a1 b2 k) (en := f_i_IsTiling_en) Try.func13 E0ok f_i_IsTiling_Mt (noL_true) f_i_IsTiling_o (f_i_IsTiling_e g0 a1 b2) (f_i_IsTiling_p g0 a1 b2) h
def f_i_IsTiling_c : CRow := fun args inh => match dec2 [.p .gr, .p (.int .i64), .p (.int .i64)] [] args inh with
  | some ([.l g0, .i a1, .i b2], []) => some ((f_i_IsTiling g0 a1 b2).isSome, (f_i_IsTiling_en ((f_i_IsTiling g0 a1 b2).getD false)).1, (f_i_IsTiling_en ((f_i_IsTiling g0 a1 b2).getD false)).2)
  | _ => none
theorem f_i_IsTiling_cc : CTrue Try.prog 13 f_i_IsTiling_c := by
  intro args inh rs out h
  unfold f_i_IsTiling_c at h
  split at h
  · rename_i hd
    obtain ⟨h1, h2⟩ := dec2_enc hd
    rw [← h1, ← h2]
    exact rowC (f_i_IsTiling_ok _ _ _) h
  · cases h

def f_s_l3Bits_F : Fi := { nv := 0, nc := 0, m := 0, vt := [], kl := [(0, ([0, 1, 2, 5, 6, 7, 8, 9, 10, 11, 12, 13, 14], [0, 1, 2, 4, 5, 6, 7, 8, 9, 10, 11, 12, 13, 14], [0, 1, 3, 4, 5, 6, 7, 8, 9, 10, 11, 12, 13, 14]))], sk := [], mvs := [], fz := [] }
def f_s_l3Bits_a (a0 : Int) : List AV := enc [.p (.int .i64)] [.i a0]
def f_s_l3Bits_i (a0 : Int) : List AV := enc [] []
def f_s_l3Bits_en (r : Int) : List AV × List AV := (enc [.p (.int .i64)] [.i r], enc [] [])
def f_s_l3Bits_M : Calling := noC
theorem f_s_l3Bits_Mt : CallOk Try.prog (f_s_l3Bits_M) := noC_true
theorem f_s_l3Bits_o : loopsOnce Try.f40 = true := by kernel_rfl
def f_s_l3Bits_h0 : List Sh := [.u, .u, .u, .p (.int .i64), .p (.int .i64), .u, .u, .u, .u, .u, .u, .u, .u, .u, .u]
def f_s_l3Bits_fr0 (s : Int × Int) : List AV := enc f_s_l3Bits_h0 [.i s.1, .i s.2]
def f_s_l3Bits_g0_1 : List Sh := [.u, .u, .u, .p (.int .i64), .u, .u, .u, .u, .u, .u, .u, .u, .u, .u, .u]
def f_s_l3Bits_x0_1 (e : Int) : X × List AV := (.out 0, enc f_s_l3Bits_g0_1 [.i e])
def f_s_l3Bits_x0_2 (_e : Unit) : X × List AV := (.ret, [])
theorem f_s_l3Bits_p0 {R : Type} (s : Int × Int) (kN : Int × Int → Option R) (kA : Int → Option R) (kB : Unit → Option R) : f_s_l3Bits_k0 s.1 s.2 kN kA = (f_s_l3Bits_r0 s).bind (Ro.el kN kA kB) := by
  simp only [f_s_l3Bits_k0, f_s_l3Bits_r0, brB, someB, Ro.el]
theorem f_s_l3Bits_e0 (s : Int × Int) : EC E0 f_s_l3Bits_M H0 f_s_l3Bits_F (asL (noL)) 0 (bodyOf Try.f40 0) (f_s_l3Bits_fr0 s) (done (klOf f_s_l3Bits_F 0)) = f_s_l3Bits_k0 s.1 s.2 (fun s => some (.norm, f_s_l3Bits_fr0 s)) (fun e => some (f_s_l3Bits_x0_1 e)) := by kernel_rfl
theorem f_s_l3Bits_l0 : ∀ s r, loopL (f_s_l3Bits_r0) s = some r → LS Try.prog f_s_l3Bits_F (bodyOf Try.f40 0) (f_s_l3Bits_fr0 s) (enX (f_s_l3Bits_x0_1) (f_s_l3Bits_x0_2) r) :=
  loop_true E0ok f_s_l3Bits_Mt (noL_true) f_s_l3Bits_o (fun _ h => by cases h) (fun _ h => by cases h) (fun s => (f_s_l3Bits_e0 s).trans (f_s_l3Bits_p0 s _ _ (fun e => some (f_s_l3Bits_x0_2 e))))
def f_s_l3Bits_t0 (σ : List AV) : Option (Bool × Bool × (X × List AV) × (X × List AV)) := match dec f_s_l3Bits_h0 σ with
  | some [.i n3, .i x4] => some (isOne (loopL (f_s_l3Bits_r0) (n3, x4)), true, f_s_l3Bits_x0_1 (getOne 0 (loopL (f_s_l3Bits_r0) (n3, x4))), (.ret, []))
  | _ => none
theorem f_s_l3Bits_tt0 : TTrue Try.prog f_s_l3Bits_F Try.f40 0 (f_s_l3Bits_t0) := by
  intro σ p r r' h
  unfold f_s_l3Bits_t0 at h
  split at h
  · rename_i hd
    rw [← dec_enc hd]
    exact row1 (f_s_l3Bits_l0 _) h
  · cases h
theorem f_s_l3Bits_p {R : Type} (a0 : Int) (kR : Int → Option R) : f_s_l3Bits_k a0 kR = (f_s_l3Bits_k a0 some).bind kR := by
  simp only [f_s_l3Bits_k, bl1B, someB]
theorem f_s_l3Bits_e (a0 : Int) : runFn E0 f_s_l3Bits_M H0 f_s_l3Bits_F (asL (addL 0 (f_s_l3Bits_t0) (noL))) Try.f40 (f_s_l3Bits_a a0) (f_s_l3Bits_i a0) = f_s_l3Bits_k a0 (fun r => some (f_s_l3Bits_en r)) := by kernel_rfl
theorem f_s_l3Bits_ok (a0 : Int) (r : Int) (h : f_s_l3Bits a0 = some r) : CS Try.prog 40 (f_s_l3Bits_a a0) (f_s_l3Bits_i a0) (f_s_l3Bits_en r).1 (f_s_l3Bits_en r).2 :=
  fn_true (Gk := fun k => f_s_l3Bits_k a0 k) (en := f_s_l3Bits_en) Try.func40 E0ok f_s_l3Bits_Mt (addL_true (f_s_l3Bits_tt0) (noL_true)) f_s_l3Bits_o (f_s_l3Bits_e a0) (f_s_l3Bits_p a0) h
def f_s_l3Bits_c : CRow := fun args inh => match dec2 [.p (.int .i64)] [] args inh with
  | some ([.i a0], []) => some ((f_s_l3Bits a0).isSome, (f_s_l3Bits_en ((f_s_l3Bits a0).getD 0)).1, (f_s_l3Bits_en ((f_s_l3Bits a0).getD 0)).2)
  | _ => none
theorem f_s_l3Bits_cc : CTrue Try.prog 40 f_s_l3Bits_c := by
  intro args inh rs out h
  unfold f_s_l3Bits_c at h
  split at h
  · rename_i hd
    obtain ⟨h1, h2⟩ := dec2_enc hd
    rw [← h1, ← h2]
    exact rowC (f_s_l3Bits_ok _) h
  · cases h

def f_s_CountSet_F : Fi := { nv := 0, nc := 0, m := 0, vt := [], kl := [], sk := [], mvs := [], fz := [] }
def f_s_CountSet_a (g0 : List Sc) (a1 : Int) : List AV := enc [.p .gr, .p (.int .i64)] [.l g0, .i a1]
def f_s_CountSet_i (g0 : List Sc) (a1 : Int) : List AV := enc [] []
def f_s_CountSet_en (r : Int) : List AV × List AV := (enc [.p (.int .i64)] [.i r], enc [] [])
def f_s_CountSet_M : Calling := addC 31 f_s_IsSet_c (addC 40 f_s_l3Bits_c (noC))
theorem f_s_CountSet_Mt : CallOk Try.prog (f_s_CountSet_M) := addC_true f_s_IsSet_cc (addC_true f_s_l3Bits_cc (noC_true))
theorem f_s_CountSet_o : loopsOnce Try.f16 = true := by kernel_rfl
theorem f_s_CountSet_p {R : Type} (g0 : List Sc) (a1 : Int) (kR : Int → Option R) : f_s_CountSet_k g0 a1 kR = (f_s_CountSet_k g0 a1 some).bind kR := by
  simp only [f_s_CountSet_k, brB, boB, someB]
theorem f_s_CountSet_e (g0 : List Sc) (a1 : Int) : runFn E0 f_s_CountSet_M H0 f_s_CountSet_F (asL (noL)) Try.f16 (f_s_CountSet_a g0 a1) (f_s_CountSet_i g0 a1) = f_s_CountSet_k g0 a1 (fun r => some (f_s_CountSet_en r)) := by kernel_rfl
theorem f_s_CountSet_ok (g0 : List Sc) (a1 : Int) (r : Int) (h : f_s_CountSet g0 a1 = some r) : CS Try.prog 16 (f_s_CountSet_a g0 a1) (f_s_CountSet_i g0 a1) (f_s_CountSet_en r).1 (f_s_CountSet_en r).2 :=
  fn_true (Gk := fun k => f_s_CountSet_k g0 a1 k) (en := f_s_CountSet_en) Try.func16 E0ok f_s_CountSet_Mt (noL_true) f_s_CountSet_o (f_s_CountSet_e g0 a1) (f_s_CountSet_p g0 a1) h
def f_s_CountSet_c : CRow := fun args inh => match dec2 [.p .gr, .p (.int .i64)] [] args inh with
  | some ([.l g0, .i a1], []) => some ((f_s_CountSet g0 a1).isSome, (f_s_CountSet_en ((f_s_CountSet g0 a1).getD 0)).1, (f_s_CountSet_en ((f_s_CountSet g0 a1).getD 0)).2)
  | _ => none
theorem f_s_CountSet_cc : CTrue Try.prog 16 f_s_CountSet_c := by
  intro args inh rs out h
  unfold f_s_CountSet_c at h
  split at h
  · rename_i hd
    obtain ⟨h1, h2⟩ := dec2_enc hd
    rw [← h1, ← h2]
    exact rowC (f_s_CountSet_ok _ _) h
  · cases h
end
end Go.Proofs.Ytgbjlmhokkhiaaa
