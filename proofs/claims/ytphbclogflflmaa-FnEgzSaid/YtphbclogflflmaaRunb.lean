/-
  That the program computes just that (printed by gen2.py).
-/
import Derived.Test.YtphbclogflflmaaRuna
set_option linter.unusedVariables false
namespace Go.Proofs.Ytphbclogflflmaa
open Go Ev
noncomputable section
def f_s_EgzExample_F : Fi := { nv := 0, nc := 0, m := 0, vt := [], kl := [], sk := [], mvs := [], fz := [], so := true }
def f_s_EgzExample_a (g0 : List Sc) : List AV := enc [.p .gr] [.l g0]
def f_s_EgzExample_i (g0 : List Sc) : List AV := enc [] []
def f_s_EgzExample_en (r : List Sc × Bool) : List AV × List AV := (enc [.p .sl, .p .boo] [.l r.1, .b r.2], enc [] [])
def f_s_EgzExample_M : Calling := addC 179 f_s_IsGroup_c (addC 139 f_s_l2Order_c (addC 71 f_s_ExponentOf_c (addC 180 f_s_l18Longest_c (noC))))
theorem f_s_EgzExample_Mt : CallOk Try.prog (f_s_EgzExample_M) := addC_true f_s_IsGroup_cc (addC_true f_s_l2Order_cc (addC_true f_s_ExponentOf_cc (addC_true f_s_l18Longest_cc (noC_true))))
theorem f_s_EgzExample_o : loopsOnce Try.f67 = true := by kernel_rfl
theorem f_s_EgzExample_p {R : Type} (g0 : List Sc) (kR : List Sc × Bool → Option R) : f_s_EgzExample_k g0 kR = (f_s_EgzExample_k g0 some).bind kR := by
  simp only [f_s_EgzExample_k, brB, boB, someB]
theorem f_s_EgzExample_e (g0 : List Sc) : runFn E0 f_s_EgzExample_M H0 f_s_EgzExample_F (asL (noL)) Try.f67 (f_s_EgzExample_a g0) (f_s_EgzExample_i g0) = f_s_EgzExample_k g0 (fun r => some (f_s_EgzExample_en r)) := by kernel_rfl
theorem f_s_EgzExample_ok (g0 : List Sc) (r : List Sc × Bool) (h : f_s_EgzExample g0 = some r) : CS Try.prog 67 (f_s_EgzExample_a g0) (f_s_EgzExample_i g0) (f_s_EgzExample_en r).1 (f_s_EgzExample_en r).2 :=
  fn_true (Gk := fun k => f_s_EgzExample_k g0 k) (en := f_s_EgzExample_en) Try.func67 E0ok f_s_EgzExample_Mt (noL_true) f_s_EgzExample_o (f_s_EgzExample_e g0) (f_s_EgzExample_p g0) h
def f_s_EgzExample_c : CRow := fun args inh => match dec2 [.p .gr] [] args inh with
  | some ([.l g0], []) => some ((f_s_EgzExample g0).isSome, (f_s_EgzExample_en ((f_s_EgzExample g0).getD ([], false))).1, (f_s_EgzExample_en ((f_s_EgzExample g0).getD ([], false))).2)
  | _ => none
theorem f_s_EgzExample_cc : CTrue Try.prog 67 f_s_EgzExample_c := by
  intro args inh rs out h
  unfold f_s_EgzExample_c at h
  split at h
  · rename_i hd
    obtain ⟨h1, h2⟩ := dec2_enc hd
    rw [← h1, ← h2]
    exact rowC (f_s_EgzExample_ok _) h
  · cases h

def f_i_EgzConstant_F : Fi := { nv := 1, nc := 0, m := 0, vt := [(7, 0)], kl := [], sk := [], mvs := [0], fz := [] }
def f_i_EgzConstant_a (g0 : List Sc) : List AV := enc [.p .gr] [.l g0]
def f_i_EgzConstant_i (g0 : List Sc) : List AV := enc [] []
def f_i_EgzConstant_en (r : Int) : List AV × List AV := (enc [.p (.int .i64)] [.i r], enc [] [])
def f_i_EgzConstant_M : Calling := addC 66 f_i_EgzExample_c (noC)
theorem f_i_EgzConstant_Mt : CallOk Try.prog (f_i_EgzConstant_M) := addC_true f_i_EgzExample_cc (noC_true)
theorem f_i_EgzConstant_o : loopsOnce Try.f68 = true := by kernel_rfl
theorem f_i_EgzConstant_p {R : Type} (g0 : List Sc) (kR : Int → Option R) : f_i_EgzConstant_k g0 kR = (f_i_EgzConstant_k g0 some).bind kR := by
  simp only [f_i_EgzConstant_k, brB, boB, someB]
theorem f_i_EgzConstant_e (g0 : List Sc) : runFn E0 f_i_EgzConstant_M H0 f_i_EgzConstant_F (asL (noL)) Try.f68 (f_i_EgzConstant_a g0) (f_i_EgzConstant_i g0) = f_i_EgzConstant_k g0 (fun r => some (f_i_EgzConstant_en r)) := by kernel_rfl
theorem f_i_EgzConstant_ok (g0 : List Sc) (r : Int) (h : f_i_EgzConstant g0 = some r) : CS Try.prog 68 (f_i_EgzConstant_a g0) (f_i_EgzConstant_i g0) (f_i_EgzConstant_en r).1 (f_i_EgzConstant_en r).2 :=
  fn_true (Gk := fun k => f_i_EgzConstant_k g0 k) (en := f_i_EgzConstant_en) Try.func68 E0ok f_i_EgzConstant_Mt (noL_true) f_i_EgzConstant_o (f_i_EgzConstant_e g0) (f_i_EgzConstant_p g0) h
def f_i_EgzConstant_c : CRow := fun args inh => match dec2 [.p .gr] [] args inh with
  | some ([.l g0], []) => some ((f_i_EgzConstant g0).isSome, (f_i_EgzConstant_en ((f_i_EgzConstant g0).getD 0)).1, (f_i_EgzConstant_en ((f_i_EgzConstant g0).getD 0)).2)
  | _ => none
theorem f_i_EgzConstant_cc : CTrue Try.prog 68 f_i_EgzConstant_c := by
  intro args inh rs out h
  unfold f_i_EgzConstant_c at h
  split at h
  · rename_i hd
    obtain ⟨h1, h2⟩ := dec2_enc hd
    rw [← h1, ← h2]
    exact rowC (f_i_EgzConstant_ok _) h
  · cases h

def f_s_EgzConstant_F : Fi := { nv := 0, nc := 0, m := 0, vt := [], kl := [], sk := [], mvs := [], fz := [] }
def f_s_EgzConstant_a (g0 : List Sc) : List AV := enc [.p .gr] [.l g0]
def f_s_EgzConstant_i (g0 : List Sc) : List AV := enc [] []
def f_s_EgzConstant_en (r : Int) : List AV × List AV := (enc [.p (.int .i64)] [.i r], enc [] [])
def f_s_EgzConstant_M : Calling := addC 67 f_s_EgzExample_c (noC)
theorem f_s_EgzConstant_Mt : CallOk Try.prog (f_s_EgzConstant_M) := addC_true f_s_EgzExample_cc (noC_true)
theorem f_s_EgzConstant_o : loopsOnce Try.f69 = true := by kernel_rfl
theorem f_s_EgzConstant_p {R : Type} (g0 : List Sc) (kR : Int → Option R) : f_s_EgzConstant_k g0 kR = (f_s_EgzConstant_k g0 some).bind kR := by
  simp only [f_s_EgzConstant_k, brB, boB, someB]
theorem f_s_EgzConstant_e (g0 : List Sc) : runFn E0 f_s_EgzConstant_M H0 f_s_EgzConstant_F (asL (noL)) Try.f69 (f_s_EgzConstant_a g0) (f_s_EgzConstant_i g0) = f_s_EgzConstant_k g0 (fun r => some (f_s_EgzConstant_en r)) := by kernel_rfl
theorem f_s_EgzConstant_ok (g0 : List Sc) (r : Int) (h : f_s_EgzConstant g0 = some r) : CS Try.prog 69 (f_s_EgzConstant_a g0) (f_s_EgzConstant_i g0) (f_s_EgzConstant_en r).1 (f_s_EgzConstant_en r).2 :=
  fn_true (Gk := fun k => f_s_EgzConstant_k g0 k) (en := f_s_EgzConstant_en) Try.func69 E0ok f_s_EgzConstant_Mt (noL_true) f_s_EgzConstant_o (f_s_EgzConstant_e g0) (f_s_EgzConstant_p g0) h
def f_s_EgzConstant_c : CRow := fun args inh => match dec2 [.p .gr] [] args inh with
  | some ([.l g0], []) => some ((f_s_EgzConstant g0).isSome, (f_s_EgzConstant_en ((f_s_EgzConstant g0).getD 0)).1, (f_s_EgzConstant_en ((f_s_EgzConstant g0).getD 0)).2)
  | _ => none
theorem f_s_EgzConstant_cc : CTrue Try.prog 69 f_s_EgzConstant_c := by
  intro args inh rs out h
  unfold f_s_EgzConstant_c at h
  split at h
  · rename_i hd
    obtain ⟨h1, h2⟩ := dec2_enc hd
    rw [← h1, ← h2]
    exact rowC (f_s_EgzConstant_ok _) h
  · cases h

def f_i_Group_has_F : Fi := { nv := 0, nc := 0, m := 0, vt := [], kl := [], sk := [], mvs := [], fz := [] }
def f_i_Group_has_a (g0 : List Sc) (x1 : Int) : List AV := enc [.p .gr, .p (.int .i64)] [.l g0, .i x1]
def f_i_Group_has_i (g0 : List Sc) (x1 : Int) : List AV := enc [] []
def f_i_Group_has_en (r : Bool) : List AV × List AV := (enc [.p .boo] [.b r], enc [] [])
def f_i_Group_has_M : Calling := addC 122 f_i_OrderOf_c (addC 144 f_i_within_c (noC))
theorem f_i_Group_has_Mt : CallOk Try.prog (f_i_Group_has_M) := addC_true f_i_OrderOf_cc (addC_true f_i_within_cc (noC_true))
theorem f_i_Group_has_o : loopsOnce Try.f143 = true := by kernel_rfl
theorem f_i_Group_has_p {R : Type} (g0 : List Sc) (x1 : Int) (kR : Bool → Option R) : f_i_Group_has_k g0 x1 kR = (f_i_Group_has_k g0 x1 some).bind kR := by
  simp only [f_i_Group_has_k, boB, someB]
theorem f_i_Group_has_e (g0 : List Sc) (x1 : Int) : runFn E0 f_i_Group_has_M H0 f_i_Group_has_F (asL (noL)) Try.f143 (f_i_Group_has_a g0 x1) (f_i_Group_has_i g0 x1) = f_i_Group_has_k g0 x1 (fun r => some (f_i_Group_has_en r)) := by kernel_rfl
theorem f_i_Group_has_ok (g0 : List Sc) (x1 : Int) (r : Bool) (h : f_i_Group_has g0 x1 = some r) : CS Try.prog 143 (f_i_Group_has_a g0 x1) (f_i_Group_has_i g0 x1) (f_i_Group_has_en r).1 (f_i_Group_has_en r).2 :=
  fn_true (Gk := fun k => f_i_Group_has_k g0 x1 k) (en := f_i_Group_has_en) Try.func143 E0ok f_i_Group_has_Mt (noL_true) f_i_Group_has_o (f_i_Group_has_e g0 x1) (f_i_Group_has_p g0 x1) h
def f_i_Group_has_c : CRow := fun args inh => match dec2 [.p .gr, .p (.int .i64)] [] args inh with
  | some ([.l g0, .i x1], []) => some ((f_i_Group_has g0 x1).isSome, (f_i_Group_has_en ((f_i_Group_has g0 x1).getD false)).1, (f_i_Group_has_en ((f_i_Group_has g0 x1).getD false)).2)
  | _ => none
theorem f_i_Group_has_cc : CTrue Try.prog 143 f_i_Group_has_c := by
  intro args inh rs out h
  unfold f_i_Group_has_c at h
  split at h
  · rename_i hd
    obtain ⟨h1, h2⟩ := dec2_enc hd
    rw [← h1, ← h2]
    exact rowC (f_i_Group_has_ok _ _) h
  · cases h

def f_cmp_isNaN_F : Fi := { nv := 0, nc := 0, m := 0, vt := [], kl := [], sk := [], mvs := [], fz := [] }
def f_cmp_isNaN_a (x0 : Int) : List AV := enc [.p (.int .i64)] [.i x0]
def f_cmp_isNaN_i (x0 : Int) : List AV := enc [] []
def f_cmp_isNaN_en (r : Bool) : List AV × List AV := (enc [.p .boo] [.b r], enc [] [])
def f_cmp_isNaN_M : Calling := noC
theorem f_cmp_isNaN_Mt : CallOk Try.prog (f_cmp_isNaN_M) := noC_true
theorem f_cmp_isNaN_o : loopsOnce Try.f214 = true := by kernel_rfl
theorem f_cmp_isNaN_p {R : Type} (x0 : Int) (kR : Bool → Option R) : f_cmp_isNaN_k x0 kR = (f_cmp_isNaN_k x0 some).bind kR := by
  simp only [f_cmp_isNaN_k, someB]
theorem f_cmp_isNaN_e (x0 : Int) : runFn E0 f_cmp_isNaN_M H0 f_cmp_isNaN_F (asL (noL)) Try.f214 (f_cmp_isNaN_a x0) (f_cmp_isNaN_i x0) = f_cmp_isNaN_k x0 (fun r => some (f_cmp_isNaN_en r)) := by kernel_rfl
theorem f_cmp_isNaN_ok (x0 : Int) (r : Bool) (h : f_cmp_isNaN x0 = some r) : CS Try.prog 214 (f_cmp_isNaN_a x0) (f_cmp_isNaN_i x0) (f_cmp_isNaN_en r).1 (f_cmp_isNaN_en r).2 :=
  fn_true (Gk := fun k => f_cmp_isNaN_k x0 k) (en := f_cmp_isNaN_en) Try.func214 E0ok f_cmp_isNaN_Mt (noL_true) f_cmp_isNaN_o (f_cmp_isNaN_e x0) (f_cmp_isNaN_p x0) h
def f_cmp_isNaN_c : CRow := fun args inh => match dec2 [.p (.int .i64)] [] args inh with
  | some ([.i x0], []) => some ((f_cmp_isNaN x0).isSome, (f_cmp_isNaN_en ((f_cmp_isNaN x0).getD false)).1, (f_cmp_isNaN_en ((f_cmp_isNaN x0).getD false)).2)
  | _ => none
theorem f_cmp_isNaN_cc : CTrue Try.prog 214 f_cmp_isNaN_c := by
  intro args inh rs out h
  unfold f_cmp_isNaN_c at h
  split at h
  · rename_i hd
    obtain ⟨h1, h2⟩ := dec2_enc hd
    rw [← h1, ← h2]
    exact rowC (f_cmp_isNaN_ok _) h
  · cases h

def f_cmp_Less_F : Fi := { nv := 0, nc := 0, m := 0, vt := [], kl := [], sk := [], mvs := [], fz := [] }
def f_cmp_Less_a (x0 : Int) (y1 : Int) : List AV := enc [.p (.int .i64), .p (.int .i64)] [.i x0, .i y1]
def f_cmp_Less_i (x0 : Int) (y1 : Int) : List AV := enc [] []
def f_cmp_Less_en (r : Bool) : List AV × List AV := (enc [.p .boo] [.b r], enc [] [])
def f_cmp_Less_M : Calling := addC 214 f_cmp_isNaN_c (noC)
theorem f_cmp_Less_Mt : CallOk Try.prog (f_cmp_Less_M) := addC_true f_cmp_isNaN_cc (noC_true)
theorem f_cmp_Less_o : loopsOnce Try.f210 = true := by kernel_rfl
theorem f_cmp_Less_p {R : Type} (x0 : Int) (y1 : Int) (kR : Bool → Option R) : f_cmp_Less_k x0 y1 kR = (f_cmp_Less_k x0 y1 some).bind kR := by
  simp only [f_cmp_Less_k, brB, boB, someB]
theorem f_cmp_Less_e (x0 : Int) (y1 : Int) : runFn E0 f_cmp_Less_M H0 f_cmp_Less_F (asL (noL)) Try.f210 (f_cmp_Less_a x0 y1) (f_cmp_Less_i x0 y1) = f_cmp_Less_k x0 y1 (fun r => some (f_cmp_Less_en r)) := by kernel_rfl
theorem f_cmp_Less_ok (x0 : Int) (y1 : Int) (r : Bool) (h : f_cmp_Less x0 y1 = some r) : CS Try.prog 210 (f_cmp_Less_a x0 y1) (f_cmp_Less_i x0 y1) (f_cmp_Less_en r).1 (f_cmp_Less_en r).2 :=
  fn_true (Gk := fun k => f_cmp_Less_k x0 y1 k) (en := f_cmp_Less_en) Try.func210 E0ok f_cmp_Less_Mt (noL_true) f_cmp_Less_o (f_cmp_Less_e x0 y1) (f_cmp_Less_p x0 y1) h
def f_cmp_Less_c : CRow := fun args inh => match dec2 [.p (.int .i64), .p (.int .i64)] [] args inh with
  | some ([.i x0, .i y1], []) => some ((f_cmp_Less x0 y1).isSome, (f_cmp_Less_en ((f_cmp_Less x0 y1).getD false)).1, (f_cmp_Less_en ((f_cmp_Less x0 y1).getD false)).2)
  | _ => none
theorem f_cmp_Less_cc : CTrue Try.prog 210 f_cmp_Less_c := by
  intro args inh rs out h
  unfold f_cmp_Less_c at h
  split at h
  · rename_i hd
    obtain ⟨h1, h2⟩ := dec2_enc hd
    rw [← h1, ← h2]
    exact rowC (f_cmp_Less_ok _ _) h
  · cases h

def f_slices_IsSorted_F : Fi := { nv := 0, nc := 0, m := 0, vt := [], kl := [(0, ([1, 2, 4, 5, 6, 7, 8, 9, 10, 11, 12, 13, 14, 15, 16, 17, 18, 19, 20], [0, 1, 2, 3, 4, 5, 6, 7, 8, 9, 10, 11, 12, 13, 14, 15, 16, 17, 18, 19, 20], [0, 1, 3, 4, 5, 6, 7, 8, 9, 10, 11, 12, 13, 14, 15, 16, 17, 18, 19, 20]))], sk := [], mvs := [], fz := [] }
def f_slices_IsSorted_a (x0 : List Sc) : List AV := enc [.p .sl] [.l x0]
def f_slices_IsSorted_i (x0 : List Sc) : List AV := enc [] []
def f_slices_IsSorted_en (r : Bool) : List AV × List AV := (enc [.p .boo] [.b r], enc [] [])
def f_slices_IsSorted_M : Calling := addC 210 f_cmp_Less_c (noC)
theorem f_slices_IsSorted_Mt : CallOk Try.prog (f_slices_IsSorted_M) := addC_true f_cmp_Less_cc (noC_true)
theorem f_slices_IsSorted_o : loopsOnce Try.f197 = true := by kernel_rfl
def f_slices_IsSorted_h0 : List Sh := [.p .sl, .u, .u, .p (.int .i64), .u, .u, .u, .u, .u, .u, .u, .u, .u, .u, .u, .u, .u, .u, .u, .u, .u]
def f_slices_IsSorted_fr0 (x0 : List Sc) (s : Int) : List AV := enc f_slices_IsSorted_h0 [.l x0, .i s]
def f_slices_IsSorted_g0_1 : List Sh := [.u, .u, .u, .u, .u, .u, .u, .u, .u, .u, .u, .u, .u, .u, .u, .u, .u, .u, .u, .u, .u]
def f_slices_IsSorted_x0_1 (x0 : List Sc) (e : Unit) : X × List AV := (.out 0, enc f_slices_IsSorted_g0_1 [])
def f_slices_IsSorted_g0_2 : List Sh := [.u, .u, .p .boo, .u, .u, .u, .u, .u, .u, .u, .u, .u, .u, .u, .u, .u, .u, .u, .u, .u, .u]
def f_slices_IsSorted_x0_2 (x0 : List Sc) (e : Unit) : X × List AV := (.ret, enc f_slices_IsSorted_g0_2 [.b false])
theorem f_slices_IsSorted_p0 {R : Type} (x0 : List Sc) (s : Int) (kN : Int → Option R) (kA : Unit → Option R) (kB : Unit → Option R) : f_slices_IsSorted_k0 x0 s kN kA kB = (f_slices_IsSorted_r0 x0 s).bind (Ro.el kN kA kB) := by
  simp only [f_slices_IsSorted_k0, f_slices_IsSorted_r0, brB, boB, someB, noneB, Ro.el]
theorem f_slices_IsSorted_e0 (x0 : List Sc) (s : Int) : EC E0 f_slices_IsSorted_M H0 f_slices_IsSorted_F (asL (noL)) 0 (bodyOf Try.f197 0) (f_slices_IsSorted_fr0 x0 s) (done (klOf f_slices_IsSorted_F 0)) = f_slices_IsSorted_k0 x0 s (fun s => some (.norm, f_slices_IsSorted_fr0 x0 s)) (fun e => some (f_slices_IsSorted_x0_1 x0 e)) (fun e => some (f_slices_IsSorted_x0_2 x0 e)) := by kernel_rfl
theorem f_slices_IsSorted_l0 (x0 : List Sc) : ∀ s r, loopL (f_slices_IsSorted_r0 x0) s = some r → LS Try.prog f_slices_IsSorted_F (bodyOf Try.f197 0) (f_slices_IsSorted_fr0 x0 s) (enX (f_slices_IsSorted_x0_1 x0) (f_slices_IsSorted_x0_2 x0) r) :=
  loop_true E0ok f_slices_IsSorted_Mt (noL_true) f_slices_IsSorted_o (fun _ h => by cases h) (fun _ h => by cases h) (fun s => (f_slices_IsSorted_e0 x0 s).trans (f_slices_IsSorted_p0 x0 s _ _ (fun e => some (f_slices_IsSorted_x0_2 x0 e))))
def f_slices_IsSorted_t0 (σ : List AV) : Option (Bool × Bool × (X × List AV) × (X × List AV)) := match dec f_slices_IsSorted_h0 σ with
  | some [.l x0, .i i3] => some ((loopL (f_slices_IsSorted_r0 x0) i3).isSome, isOne (loopL (f_slices_IsSorted_r0 x0) i3), f_slices_IsSorted_x0_1 x0 (getOne () (loopL (f_slices_IsSorted_r0 x0) i3)), f_slices_IsSorted_x0_2 x0 (getTwo () (loopL (f_slices_IsSorted_r0 x0) i3)))
  | _ => none
theorem f_slices_IsSorted_tt0 : TTrue Try.prog f_slices_IsSorted_F Try.f197 0 (f_slices_IsSorted_t0) := by
  intro σ p r r' h
  unfold f_slices_IsSorted_t0 at h
  split at h
  · rename_i hd
    rw [← dec_enc hd]
    exact row2 (f_slices_IsSorted_l0 _ _) h
  · cases h
theorem f_slices_IsSorted_p {R : Type} (x0 : List Sc) (kR : Bool → Option R) : f_slices_IsSorted_k x0 kR = (f_slices_IsSorted_k x0 some).bind kR := by
  simp only [f_slices_IsSorted_k, blB, someB]
theorem f_slices_IsSorted_e (x0 : List Sc) : runFn E0 f_slices_IsSorted_M H0 f_slices_IsSorted_F (asL (addL 0 (f_slices_IsSorted_t0) (noL))) Try.f197 (f_slices_IsSorted_a x0) (f_slices_IsSorted_i x0) = f_slices_IsSorted_k x0 (fun r => some (f_slices_IsSorted_en r)) := by kernel_rfl
theorem f_slices_IsSorted_ok (x0 : List Sc) (r : Bool) (h : f_slices_IsSorted x0 = some r) : CS Try.prog 197 (f_slices_IsSorted_a x0) (f_slices_IsSorted_i x0) (f_slices_IsSorted_en r).1 (f_slices_IsSorted_en r).2 :=
  fn_true (Gk := fun k => f_slices_IsSorted_k x0 k) (en := f_slices_IsSorted_en) Try.func197 E0ok f_slices_IsSorted_Mt (addL_true (f_slices_IsSorted_tt0) (noL_true)) f_slices_IsSorted_o (f_slices_IsSorted_e x0) (f_slices_IsSorted_p x0) h
def f_slices_IsSorted_c : CRow := fun args inh => match dec2 [.p .sl] [] args inh with
  | some ([.l x0], []) => some ((f_slices_IsSorted x0).isSome, (f_slices_IsSorted_en ((f_slices_IsSorted x0).getD false)).1, (f_slices_IsSorted_en ((f_slices_IsSorted x0).getD false)).2)
  | _ => none
theorem f_slices_IsSorted_cc : CTrue Try.prog 197 f_slices_IsSorted_c := by
  intro args inh rs out h
  unfold f_slices_IsSorted_c at h
  split at h
  · rename_i hd
    obtain ⟨h1, h2⟩ := dec2_enc hd
    rw [← h1, ← h2]
    exact rowC (f_slices_IsSorted_ok _) h
  · cases h

def f_i_IsSequence_F : Fi := { nv := 0, nc := 0, m := 0, vt := [], kl := [(0, ([0, 3, 4, 5, 6, 10, 11, 12, 13, 14, 15, 16, 17, 18, 19, 20, 21, 22, 23, 24, 25, 26, 27, 28], [0, 3, 4, 5, 6, 7, 8, 9, 10, 11, 12, 13, 14, 15, 16, 17, 18, 19, 20, 21, 22, 23, 24, 25, 26, 27, 28], [0, 1, 2, 3, 5, 6, 7, 8, 9, 10, 11, 12, 13, 14, 15, 16, 17, 18, 19, 20, 21, 22, 23, 24, 25, 26, 27, 28]))], sk := [], mvs := [], fz := [] }
def f_i_IsSequence_a (g0 : List Sc) (l1 : List Sc) : List AV := enc [.p .gr, .p .sl] [.l g0, .l l1]
def f_i_IsSequence_i (g0 : List Sc) (l1 : List Sc) : List AV := enc [] []
def f_i_IsSequence_en (r : Bool) : List AV × List AV := (enc [.p .boo] [.b r], enc [] [])
def f_i_IsSequence_M : Calling := addC 143 f_i_Group_has_c (addC 142 f_i_IsGroup_c (addC 197 f_slices_IsSorted_c (noC)))
theorem f_i_IsSequence_Mt : CallOk Try.prog (f_i_IsSequence_M) := addC_true f_i_Group_has_cc (addC_true f_i_IsGroup_cc (addC_true f_slices_IsSorted_cc (noC_true)))
theorem f_i_IsSequence_o : loopsOnce Try.f104 = true := by kernel_rfl
def f_i_IsSequence_h0 : List Sh := [.u, .p .sl, .p .el, .u, .u, .u, .u, .p .sl, .p (.int .i64), .p (.int .i64), .u, .u, .u, .u, .u, .u, .u, .u, .u, .u, .u, .u, .u, .u, .u, .u, .u, .u, .u]
def f_i_IsSequence_fr0 (l1 : List Sc) (g2 : List Sc) (t7 : List Sc) (t8 : Int) (s : Int) : List AV := enc f_i_IsSequence_h0 [.l l1, .l g2, .l t7, .i t8, .i s]
def f_i_IsSequence_g0_1 : List Sh := [.u, .p .sl, .p .el, .u, .u, .u, .u, .u, .u, .u, .u, .u, .u, .u, .u, .u, .u, .u, .u, .u, .u, .u, .u, .u, .u, .u, .u, .u, .u]
def f_i_IsSequence_x0_1 (l1 : List Sc) (g2 : List Sc) (t7 : List Sc) (t8 : Int) (e : Unit) : X × List AV := (.out 0, enc f_i_IsSequence_g0_1 [.l l1, .l g2])
def f_i_IsSequence_g0_2 : List Sh := [.u, .u, .u, .u, .p .boo, .u, .u, .u, .u, .u, .u, .u, .u, .u, .u, .u, .u, .u, .u, .u, .u, .u, .u, .u, .u, .u, .u, .u, .u]
def f_i_IsSequence_x0_2 (l1 : List Sc) (g2 : List Sc) (t7 : List Sc) (t8 : Int) (e : Unit) : X × List AV := (.ret, enc f_i_IsSequence_g0_2 [.b false])
theorem f_i_IsSequence_p0 {R : Type} (l1 : List Sc) (g2 : List Sc) (t7 : List Sc) (t8 : Int) (s : Int) (kN : Int → Option R) (kA : Unit → Option R) (kB : Unit → Option R) : f_i_IsSequence_k0 l1 g2 t7 t8 s kN kA kB = (f_i_IsSequence_r0 l1 g2 t7 t8 s).bind (Ro.el kN kA kB) := by
  simp only [f_i_IsSequence_k0, f_i_IsSequence_r0, brB, boB, someB, noneB, Ro.el]
theorem f_i_IsSequence_e0 (l1 : List Sc) (g2 : List Sc) (t7 : List Sc) (t8 : Int) (s : Int) : EC E0 f_i_IsSequence_M H0 f_i_IsSequence_F (asL (noL)) 0 (bodyOf Try.f104 0) (f_i_IsSequence_fr0 l1 g2 t7 t8 s) (done (klOf f_i_IsSequence_F 0)) = f_i_IsSequence_k0 l1 g2 t7 t8 s (fun s => some (.norm, f_i_IsSequence_fr0 l1 g2 t7 t8 s)) (fun e => some (f_i_IsSequence_x0_1 l1 g2 t7 t8 e)) (fun e => some (f_i_IsSequence_x0_2 l1 g2 t7 t8 e)) := by kernel_rfl
theorem f_i_IsSequence_l0 (l1 : List Sc) (g2 : List Sc) (t7 : List Sc) (t8 : Int) : ∀ s r, loopL (f_i_IsSequence_r0 l1 g2 t7 t8) s = some r → LS Try.prog f_i_IsSequence_F (bodyOf Try.f104 0) (f_i_IsSequence_fr0 l1 g2 t7 t8 s) (enX (f_i_IsSequence_x0_1 l1 g2 t7 t8) (f_i_IsSequence_x0_2 l1 g2 t7 t8) r) :=
  loop_true E0ok f_i_IsSequence_Mt (noL_true) f_i_IsSequence_o (fun _ h => by cases h) (fun _ h => by cases h) (fun s => (f_i_IsSequence_e0 l1 g2 t7 t8 s).trans (f_i_IsSequence_p0 l1 g2 t7 t8 s _ _ (fun e => some (f_i_IsSequence_x0_2 l1 g2 t7 t8 e))))
def f_i_IsSequence_t0 (σ : List AV) : Option (Bool × Bool × (X × List AV) × (X × List AV)) := match dec f_i_IsSequence_h0 σ with
  | some [.l l1, .l g2, .l t7, .i t8, .i t9] => some ((loopL (f_i_IsSequence_r0 l1 g2 t7 t8) t9).isSome, isOne (loopL (f_i_IsSequence_r0 l1 g2 t7 t8) t9), f_i_IsSequence_x0_1 l1 g2 t7 t8 (getOne () (loopL (f_i_IsSequence_r0 l1 g2 t7 t8) t9)), f_i_IsSequence_x0_2 l1 g2 t7 t8 (getTwo () (loopL (f_i_IsSequence_r0 l1 g2 t7 t8) t9)))
  | _ => none
theorem f_i_IsSequence_tt0 : TTrue Try.prog f_i_IsSequence_F Try.f104 0 (f_i_IsSequence_t0) := by
  intro σ p r r' h
  unfold f_i_IsSequence_t0 at h
  split at h
  · rename_i hd
    rw [← dec_enc hd]
    exact row2 (f_i_IsSequence_l0 _ _ _ _ _) h
  · cases h
theorem f_i_IsSequence_p {R : Type} (g0 : List Sc) (l1 : List Sc) (kR : Bool → Option R) : f_i_IsSequence_k g0 l1 kR = (f_i_IsSequence_k g0 l1 some).bind kR := by
  simp only [f_i_IsSequence_k, brB, boB, blB, someB]
theorem f_i_IsSequence_e (g0 : List Sc) (l1 : List Sc) : runFn E0 f_i_IsSequence_M H0 f_i_IsSequence_F (asL (addL 0 (f_i_IsSequence_t0) (noL))) Try.f104 (f_i_IsSequence_a g0 l1) (f_i_IsSequence_i g0 l1) = f_i_IsSequence_k g0 l1 (fun r => some (f_i_IsSequence_en r)) := by kernel_rfl
theorem f_i_IsSequence_ok (g0 : List Sc) (l1 : List Sc) (r : Bool) (h : f_i_IsSequence g0 l1 = some r) : CS Try.prog 104 (f_i_IsSequence_a g0 l1) (f_i_IsSequence_i g0 l1) (f_i_IsSequence_en r).1 (f_i_IsSequence_en r).2 :=
  fn_true (Gk := fun k => f_i_IsSequence_k g0 l1 k) (en := f_i_IsSequence_en) Try.func104 E0ok f_i_IsSequence_Mt (addL_true (f_i_IsSequence_tt0) (noL_true)) f_i_IsSequence_o (f_i_IsSequence_e g0 l1) (f_i_IsSequence_p g0 l1) h
def f_i_IsSequence_c : CRow := fun args inh => match dec2 [.p .gr, .p .sl] [] args inh with
  | some ([.l g0, .l l1], []) => some ((f_i_IsSequence g0 l1).isSome, (f_i_IsSequence_en ((f_i_IsSequence g0 l1).getD false)).1, (f_i_IsSequence_en ((f_i_IsSequence g0 l1).getD false)).2)
  | _ => none
theorem f_i_IsSequence_cc : CTrue Try.prog 104 f_i_IsSequence_c := by
  intro args inh rs out h
  unfold f_i_IsSequence_c at h
  split at h
  · rename_i hd
    obtain ⟨h1, h2⟩ := dec2_enc hd
    rw [← h1, ← h2]
    exact rowC (f_i_IsSequence_ok _ _) h
  · cases h

def f_i_Group_total_F : Fi := { nv := 0, nc := 0, m := 0, vt := [], kl := [(0, ([0, 1, 3, 4, 6, 7, 11, 12, 13, 14, 15, 16, 17, 18, 19], [0, 1, 2, 3, 4, 6, 7, 8, 9, 10, 11, 12, 13, 14, 15, 16, 17, 18, 19], [0, 1, 2, 3, 5, 6, 7, 8, 9, 10, 11, 12, 13, 14, 15, 16, 17, 18, 19]))], sk := [], mvs := [], fz := [] }
def f_i_Group_total_a (g0 : List Sc) (l1 : List Sc) : List AV := enc [.p .gr, .p .sl] [.l g0, .l l1]
def f_i_Group_total_i (g0 : List Sc) (l1 : List Sc) : List AV := enc [] []
def f_i_Group_total_en (r : Int) : List AV × List AV := (enc [.p (.int .i64)] [.i r], enc [] [])
def f_i_Group_total_M : Calling := addC 155 f_i_Group_add_c (noC)
theorem f_i_Group_total_Mt : CallOk Try.prog (f_i_Group_total_M) := addC_true f_i_Group_add_cc (noC_true)
theorem f_i_Group_total_o : loopsOnce Try.f181 = true := by kernel_rfl
def f_i_Group_total_h0 : List Sh := [.u, .u, .p .el, .u, .u, .p (.int .i64), .u, .u, .p .sl, .p (.int .i64), .p (.int .i64), .u, .u, .u, .u, .u, .u, .u, .u, .u]
def f_i_Group_total_fr0 (g2 : List Sc) (t8 : List Sc) (t9 : Int) (s : Int × Int) : List AV := enc f_i_Group_total_h0 [.l g2, .i s.1, .l t8, .i t9, .i s.2]
def f_i_Group_total_g0_1 : List Sh := [.u, .u, .u, .u, .u, .p (.int .i64), .u, .u, .u, .u, .u, .u, .u, .u, .u, .u, .u, .u, .u, .u]
def f_i_Group_total_x0_1 (g2 : List Sc) (t8 : List Sc) (t9 : Int) (e : Int) : X × List AV := (.out 0, enc f_i_Group_total_g0_1 [.i e])
def f_i_Group_total_x0_2 (g2 : List Sc) (t8 : List Sc) (t9 : Int) (_e : Unit) : X × List AV := (.ret, [])
theorem f_i_Group_total_p0 {R : Type} (g2 : List Sc) (t8 : List Sc) (t9 : Int) (s : Int × Int) (kN : Int × Int → Option R) (kA : Int → Option R) (kB : Unit → Option R) : f_i_Group_total_k0 g2 t8 t9 s.1 s.2 kN kA = (f_i_Group_total_r0 g2 t8 t9 s).bind (Ro.el kN kA kB) := by
  simp only [f_i_Group_total_k0, f_i_Group_total_r0, brB, boB, someB, noneB, Ro.el]
theorem f_i_Group_total_e0 (g2 : List Sc) (t8 : List Sc) (t9 : Int) (s : Int × Int) : EC E0 f_i_Group_total_M H0 f_i_Group_total_F (asL (noL)) 0 (bodyOf Try.f181 0) (f_i_Group_total_fr0 g2 t8 t9 s) (done (klOf f_i_Group_total_F 0)) = f_i_Group_total_k0 g2 t8 t9 s.1 s.2 (fun s => some (.norm, f_i_Group_total_fr0 g2 t8 t9 s)) (fun e => some (f_i_Group_total_x0_1 g2 t8 t9 e)) := by kernel_rfl
theorem f_i_Group_total_l0 (g2 : List Sc) (t8 : List Sc) (t9 : Int) : ∀ s r, loopL (f_i_Group_total_r0 g2 t8 t9) s = some r → LS Try.prog f_i_Group_total_F (bodyOf Try.f181 0) (f_i_Group_total_fr0 g2 t8 t9 s) (enX (f_i_Group_total_x0_1 g2 t8 t9) (f_i_Group_total_x0_2 g2 t8 t9) r) :=
  loop_true E0ok f_i_Group_total_Mt (noL_true) f_i_Group_total_o (fun _ h => by cases h) (fun _ h => by cases h) (fun s => (f_i_Group_total_e0 g2 t8 t9 s).trans (f_i_Group_total_p0 g2 t8 t9 s _ _ (fun e => some (f_i_Group_total_x0_2 g2 t8 t9 e))))
def f_i_Group_total_t0 (σ : List AV) : Option (Bool × Bool × (X × List AV) × (X × List AV)) := match dec f_i_Group_total_h0 σ with
  | some [.l g2, .i s5, .l t8, .i t9, .i t10] => some (isOne (loopL (f_i_Group_total_r0 g2 t8 t9) (s5, t10)), true, f_i_Group_total_x0_1 g2 t8 t9 (getOne 0 (loopL (f_i_Group_total_r0 g2 t8 t9) (s5, t10))), (.ret, []))
  | _ => none
theorem f_i_Group_total_tt0 : TTrue Try.prog f_i_Group_total_F Try.f181 0 (f_i_Group_total_t0) := by
  intro σ p r r' h
  unfold f_i_Group_total_t0 at h
  split at h
  · rename_i hd
    rw [← dec_enc hd]
    exact row1 (f_i_Group_total_l0 _ _ _ _) h
  · cases h
theorem f_i_Group_total_p {R : Type} (g0 : List Sc) (l1 : List Sc) (kR : Int → Option R) : f_i_Group_total_k g0 l1 kR = (f_i_Group_total_k g0 l1 some).bind kR := by
  simp only [f_i_Group_total_k, bl1B, someB]
theorem f_i_Group_total_e (g0 : List Sc) (l1 : List Sc) : runFn E0 f_i_Group_total_M H0 f_i_Group_total_F (asL (addL 0 (f_i_Group_total_t0) (noL))) Try.f181 (f_i_Group_total_a g0 l1) (f_i_Group_total_i g0 l1) = f_i_Group_total_k g0 l1 (fun r => some (f_i_Group_total_en r)) := by kernel_rfl
theorem f_i_Group_total_ok (g0 : List Sc) (l1 : List Sc) (r : Int) (h : f_i_Group_total g0 l1 = some r) : CS Try.prog 181 (f_i_Group_total_a g0 l1) (f_i_Group_total_i g0 l1) (f_i_Group_total_en r).1 (f_i_Group_total_en r).2 :=
  fn_true (Gk := fun k => f_i_Group_total_k g0 l1 k) (en := f_i_Group_total_en) Try.func181 E0ok f_i_Group_total_Mt (addL_true (f_i_Group_total_tt0) (noL_true)) f_i_Group_total_o (f_i_Group_total_e g0 l1) (f_i_Group_total_p g0 l1) h
def f_i_Group_total_c : CRow := fun args inh => match dec2 [.p .gr, .p .sl] [] args inh with
  | some ([.l g0, .l l1], []) => some ((f_i_Group_total g0 l1).isSome, (f_i_Group_total_en ((f_i_Group_total g0 l1).getD 0)).1, (f_i_Group_total_en ((f_i_Group_total g0 l1).getD 0)).2)
  | _ => none
theorem f_i_Group_total_cc : CTrue Try.prog 181 f_i_Group_total_c := by
  intro args inh rs out h
  unfold f_i_Group_total_c at h
  split at h
  · rename_i hd
    obtain ⟨h1, h2⟩ := dec2_enc hd
    rw [← h1, ← h2]
    exact rowC (f_i_Group_total_ok _ _) h
  · cases h

def f_i_ZeroOfLength_F : Fi := { nv := 0, nc := 0, m := 0, vt := [], kl := [(0, ([0, 4, 5, 6, 7, 8, 9, 10, 11, 12, 13, 14, 15, 16, 17, 18, 19, 20, 21, 22, 25, 26, 27, 28, 29, 30, 31, 32, 33, 34, 35, 36, 37, 38, 39, 40, 41, 42, 43], [0, 1, 2, 3, 4, 5, 6, 7, 8, 9, 10, 11, 12, 13, 14, 15, 16, 17, 18, 19, 20, 21, 22, 23, 24, 25, 26, 27, 28, 29, 30, 31, 32, 33, 34, 35, 36, 37, 38, 39, 40, 41, 42, 43], [0, 1, 2, 3, 4, 5, 8, 9, 10, 11, 12, 13, 14, 15, 16, 17, 18, 19, 20, 21, 22, 23, 24, 25, 26, 27, 28, 29, 30, 31, 32, 33, 34, 35, 36, 37, 38, 39, 40, 41, 42, 43]))], sk := [], mvs := [], fz := [] }
def f_i_ZeroOfLength_a (g0 : List Sc) (l1 : List Sc) (k2 : Int) : List AV := enc [.p .gr, .p .sl, .p (.int .i64)] [.l g0, .l l1, .i k2]
def f_i_ZeroOfLength_i (g0 : List Sc) (l1 : List Sc) (k2 : Int) : List AV := enc [] []
def f_i_ZeroOfLength_en (r : List Sc × Bool) : List AV × List AV := (enc [.p (.al 0), .p .boo] [.b r.2], enc [.own 3] [.l r.1])
def f_i_ZeroOfLength_M : Calling := addC 104 f_i_IsSequence_c (addC 144 f_i_within_c (addC 126 f_i_bits_c (addC 173 f_i_part_c (addC 181 f_i_Group_total_c (noC)))))
theorem f_i_ZeroOfLength_Mt : CallOk Try.prog (f_i_ZeroOfLength_M) := addC_true f_i_IsSequence_cc (addC_true f_i_within_cc (addC_true f_i_bits_cc (addC_true f_i_part_cc (addC_true f_i_Group_total_cc (noC_true)))))
theorem f_i_ZeroOfLength_o : loopsOnce Try.f70 = true := by kernel_rfl
def f_i_ZeroOfLength_h0 : List Sh := [.u, .p .sl, .p (.int .i64), .p .el, .u, .u, .u, .u, .u, .u, .u, .u, .u, .u, .u, .u, .u, .u, .u, .u, .u, .u, .u, .p (.int .i64), .p (.int .i64), .u, .u, .u, .u, .u, .u, .u, .u, .u, .u, .u, .u, .u, .u, .u, .u, .u, .u, .u]
def f_i_ZeroOfLength_fr0 (l1 : List Sc) (k2 : Int) (g3 : List Sc) (t23 : Int) (s : Int) : List AV := enc f_i_ZeroOfLength_h0 [.l l1, .i k2, .l g3, .i t23, .i s]
def f_i_ZeroOfLength_g0_1 : List Sh := [.u, .u, .u, .u, .u, .u, .u, .u, .u, .u, .u, .u, .u, .u, .u, .u, .u, .u, .u, .u, .u, .u, .u, .u, .u, .u, .u, .u, .u, .u, .u, .u, .u, .u, .u, .u, .u, .u, .u, .u, .u, .u, .u, .u]
def f_i_ZeroOfLength_x0_1 (l1 : List Sc) (k2 : Int) (g3 : List Sc) (t23 : Int) (e : Unit) : X × List AV := (.out 0, enc f_i_ZeroOfLength_g0_1 [])
def f_i_ZeroOfLength_g0_2 : List Sh := [.u, .u, .u, .u, .u, .u, .own 3, .p .boo, .u, .u, .u, .u, .u, .u, .u, .u, .u, .u, .u, .u, .u, .u, .u, .u, .u, .u, .u, .u, .u, .u, .u, .u, .u, .u, .u, .u, .u, .u, .u, .u, .u, .u, .u, .u]
def f_i_ZeroOfLength_x0_2 (l1 : List Sc) (k2 : Int) (g3 : List Sc) (t23 : Int) (e : List Sc) : X × List AV := (.ret, enc f_i_ZeroOfLength_g0_2 [.l e, .b true])
theorem f_i_ZeroOfLength_p0 {R : Type} (l1 : List Sc) (k2 : Int) (g3 : List Sc) (t23 : Int) (s : Int) (kN : Int → Option R) (kA : Unit → Option R) (kB : List Sc → Option R) : f_i_ZeroOfLength_k0 l1 k2 g3 t23 s kN kA kB = (f_i_ZeroOfLength_r0 l1 k2 g3 t23 s).bind (Ro.el kN kA kB) := by
  simp only [f_i_ZeroOfLength_k0, f_i_ZeroOfLength_r0, brB, boB, someB, Ro.el]
theorem f_i_ZeroOfLength_e0 (l1 : List Sc) (k2 : Int) (g3 : List Sc) (t23 : Int) (s : Int) : EC E0 f_i_ZeroOfLength_M H0 f_i_ZeroOfLength_F (asL (noL)) 0 (bodyOf Try.f70 0) (f_i_ZeroOfLength_fr0 l1 k2 g3 t23 s) (done (klOf f_i_ZeroOfLength_F 0)) = f_i_ZeroOfLength_k0 l1 k2 g3 t23 s (fun s => some (.norm, f_i_ZeroOfLength_fr0 l1 k2 g3 t23 s)) (fun e => some (f_i_ZeroOfLength_x0_1 l1 k2 g3 t23 e)) (fun e => some (f_i_ZeroOfLength_x0_2 l1 k2 g3 t23 e)) := by kernel_rfl
theorem f_i_ZeroOfLength_l0 (l1 : List Sc) (k2 : Int) (g3 : List Sc) (t23 : Int) : ∀ s r, loopL (f_i_ZeroOfLength_r0 l1 k2 g3 t23) s = some r → LS Try.prog f_i_ZeroOfLength_F (bodyOf Try.f70 0) (f_i_ZeroOfLength_fr0 l1 k2 g3 t23 s) (enX (f_i_ZeroOfLength_x0_1 l1 k2 g3 t23) (f_i_ZeroOfLength_x0_2 l1 k2 g3 t23) r) :=
  loop_true E0ok f_i_ZeroOfLength_Mt (noL_true) f_i_ZeroOfLength_o (fun _ h => by cases h) (fun _ h => by cases h) (fun s => (f_i_ZeroOfLength_e0 l1 k2 g3 t23 s).trans (f_i_ZeroOfLength_p0 l1 k2 g3 t23 s _ _ (fun e => some (f_i_ZeroOfLength_x0_2 l1 k2 g3 t23 e))))
def f_i_ZeroOfLength_t0 (σ : List AV) : Option (Bool × Bool × (X × List AV) × (X × List AV)) := match dec f_i_ZeroOfLength_h0 σ with
  | some [.l l1, .i k2, .l g3, .i t23, .i t24] => some ((loopL (f_i_ZeroOfLength_r0 l1 k2 g3 t23) t24).isSome, isOne (loopL (f_i_ZeroOfLength_r0 l1 k2 g3 t23) t24), f_i_ZeroOfLength_x0_1 l1 k2 g3 t23 (getOne () (loopL (f_i_ZeroOfLength_r0 l1 k2 g3 t23) t24)), f_i_ZeroOfLength_x0_2 l1 k2 g3 t23 (getTwo [] (loopL (f_i_ZeroOfLength_r0 l1 k2 g3 t23) t24)))
  | _ => none
theorem f_i_ZeroOfLength_tt0 : TTrue Try.prog f_i_ZeroOfLength_F Try.f70 0 (f_i_ZeroOfLength_t0) := by
  intro σ p r r' h
  unfold f_i_ZeroOfLength_t0 at h
  split at h
  · rename_i hd
    rw [← dec_enc hd]
    exact row2 (f_i_ZeroOfLength_l0 _ _ _ _ _) h
  · cases h
theorem f_i_ZeroOfLength_p {R : Type} (g0 : List Sc) (l1 : List Sc) (k2 : Int) (kR : List Sc × Bool → Option R) : f_i_ZeroOfLength_k g0 l1 k2 kR = (f_i_ZeroOfLength_k g0 l1 k2 some).bind kR := by
  simp only [f_i_ZeroOfLength_k, brB, boB, blB, someB, noneB]
theorem f_i_ZeroOfLength_e (g0 : List Sc) (l1 : List Sc) (k2 : Int) : runFn E0 f_i_ZeroOfLength_M H0 f_i_ZeroOfLength_F (asL (addL 0 (f_i_ZeroOfLength_t0) (noL))) Try.f70 (f_i_ZeroOfLength_a g0 l1 k2) (f_i_ZeroOfLength_i g0 l1 k2) = f_i_ZeroOfLength_k g0 l1 k2 (fun r => some (f_i_ZeroOfLength_en r)) := by kernel_rfl
theorem f_i_ZeroOfLength_ok (g0 : List Sc) (l1 : List Sc) (k2 : Int) (r : List Sc × Bool) (h : f_i_ZeroOfLength g0 l1 k2 = some r) : CS Try.prog 70 (f_i_ZeroOfLength_a g0 l1 k2) (f_i_ZeroOfLength_i g0 l1 k2) (f_i_ZeroOfLength_en r).1 (f_i_ZeroOfLength_en r).2 :=
  fn_true (Gk := fun k => f_i_ZeroOfLength_k g0 l1 k2 k) (en := f_i_ZeroOfLength_en) Try.func70 E0ok f_i_ZeroOfLength_Mt (addL_true (f_i_ZeroOfLength_tt0) (noL_true)) f_i_ZeroOfLength_o (f_i_ZeroOfLength_e g0 l1 k2) (f_i_ZeroOfLength_p g0 l1 k2) h
def f_i_ZeroOfLength_c : CRow := fun args inh => match dec2 [.p .gr, .p .sl, .p (.int .i64)] [] args inh with
  | some ([.l g0, .l l1, .i k2], []) => some ((f_i_ZeroOfLength g0 l1 k2).isSome, (f_i_ZeroOfLength_en ((f_i_ZeroOfLength g0 l1 k2).getD ([], false))).1, (f_i_ZeroOfLength_en ((f_i_ZeroOfLength g0 l1 k2).getD ([], false))).2)
  | _ => none
theorem f_i_ZeroOfLength_cc : CTrue Try.prog 70 f_i_ZeroOfLength_c := by
  intro args inh rs out h
  unfold f_i_ZeroOfLength_c at h
  split at h
  · rename_i hd
    obtain ⟨h1, h2⟩ := dec2_enc hd
    rw [← h1, ← h2]
    exact rowC (f_i_ZeroOfLength_ok _ _ _) h
  · cases h

def f_s_l2Draw_io_F : Fi := { nv := 4, nc := 4, m := 3, vt := [(4, 3)], kl := [(0, ([4, 6, 7, 9, 13, 14, 15, 16, 17, 18, 19, 20, 21, 22, 23, 24, 25, 26, 27, 28, 29, 30, 31, 32, 33, 34, 35, 36, 37, 38, 39, 40, 41, 42, 43, 44, 45, 46, 47, 48, 49, 50, 51, 52, 53, 54, 55, 56, 57, 58, 59, 60, 61, 62, 63, 64], [4, 6, 7, 9, 12, 13, 14, 15, 16, 17, 18, 19, 20, 21, 22, 23, 24, 25, 26, 27, 28, 29, 30, 31, 32, 33, 34, 35, 36, 37, 38, 39, 40, 41, 42, 43, 44, 45, 46, 47, 48, 49, 50, 51, 52, 53, 54, 55, 56, 57, 58, 59, 60, 61, 62, 63, 64], [4, 5, 6, 7, 9, 10, 11, 12, 13, 14, 15, 16, 17, 18, 19, 20, 21, 22, 23, 24, 25, 26, 27, 28, 29, 30, 31, 32, 33, 34, 35, 36, 37, 38, 39, 40, 41, 42, 43, 44, 45, 46, 47, 48, 49, 50, 51, 52, 53, 54, 55, 56, 57, 58, 59, 60, 61, 62, 63, 64]))], sk := [], mvs := [], fz := [], fl := [9, 10, 11, 12, 13, 14, 15, 16, 17, 18, 19, 20, 21, 22, 23, 24, 25, 26, 27, 28, 29, 30, 31] }
def f_s_l2Draw_io_a (most1 : Int) (h0 : List Sc) (h1 : Int) (h2 : Int) : List AV := enc [.p (.pt 0 3), .p (.int .i64)] [.i most1]
def f_s_l2Draw_io_i (most1 : Int) (h0 : List Sc) (h1 : Int) (h2 : Int) : List AV := enc [.p .sl, .p (.int .i64), .p (.int .i64)] [.l h0, .i h1, .i h2]
def f_s_l2Draw_io_en (r : List Sc × List Sc × Int × Int) : List AV × List AV := (enc [.p (.go 3)] [], enc [.p .sl, .p (.int .i64), .p (.int .i64), .own 3] [.l r.2.1, .i r.2.2.1, .i r.2.2.2, .l r.1])
def f_s_l2Draw_io_M : Calling := addC 166 f_s_l1Below_io_c (noC)
theorem f_s_l2Draw_io_Mt : CallOk Try.prog (f_s_l2Draw_io_M) := addC_true f_s_l1Below_io_cc (noC_true)
theorem f_s_l2Draw_io_o : loopsOnce Try.f165 = true := by kernel_rfl
def f_s_l2Draw_io_h0 : List Sh := [.p .sl, .p (.int .i64), .p (.int .i64), .p .sl, .u, .p (.int .i64), .u, .u, .p (.pt 3 1), .u, .p .sl, .p (.int .i64), .p (.int .i64), .u, .u, .u, .u, .u, .u, .u, .u, .u, .u, .u, .u, .u, .u, .u, .u, .u, .u, .u, .u, .u, .u, .u, .u, .u, .u, .u, .u, .u, .u, .u, .u, .u, .u, .u, .u, .u, .u, .u, .u, .u, .u, .u, .u, .u, .u, .u, .u, .u, .u, .u, .u]
def f_s_l2Draw_io_fr0 (most1 : Int) (o6 : List Sc) (s : List Sc × Int × Int × List Sc × Int × Int) : List AV := enc f_s_l2Draw_io_h0 [.l s.1, .i s.2.1, .i s.2.2.1, .l s.2.2.2.1, .i most1, .l o6, .i s.2.2.2.2.1, .i s.2.2.2.2.2]
def f_s_l2Draw_io_g0_1 : List Sh := [.p .sl, .p (.int .i64), .p (.int .i64), .p .sl, .u, .p (.int .i64), .u, .u, .p (.pt 3 1), .u, .p .sl, .p (.int .i64), .u, .u, .u, .u, .u, .u, .u, .u, .u, .u, .u, .u, .u, .u, .u, .u, .u, .u, .u, .u, .u, .u, .u, .u, .u, .u, .u, .u, .u, .u, .u, .u, .u, .u, .u, .u, .u, .u, .u, .u, .u, .u, .u, .u, .u, .u, .u, .u, .u, .u, .u, .u, .u]
def f_s_l2Draw_io_x0_1 (most1 : Int) (o6 : List Sc) (e : List Sc × Int × Int × List Sc × Int) : X × List AV := (.out 0, enc f_s_l2Draw_io_g0_1 [.l e.1, .i e.2.1, .i e.2.2.1, .l e.2.2.2.1, .i most1, .l o6, .i e.2.2.2.2])
def f_s_l2Draw_io_x0_2 (most1 : Int) (o6 : List Sc) (_e : Unit) : X × List AV := (.ret, [])
theorem f_s_l2Draw_io_p0 {R : Type} (most1 : Int) (o6 : List Sc) (s : List Sc × Int × Int × List Sc × Int × Int) (kN : List Sc × Int × Int × List Sc × Int × Int → Option R) (kA : List Sc × Int × Int × List Sc × Int → Option R) (kB : Unit → Option R) : f_s_l2Draw_io_k0 most1 o6 s.1 s.2.1 s.2.2.1 s.2.2.2.1 s.2.2.2.2.1 s.2.2.2.2.2 kN kA = (f_s_l2Draw_io_r0 most1 o6 s).bind (Ro.el kN kA kB) := by
  simp only [f_s_l2Draw_io_k0, f_s_l2Draw_io_r0, brB, someB, noneB, Ro.el]
theorem f_s_l2Draw_io_e0 (most1 : Int) (o6 : List Sc) (s : List Sc × Int × Int × List Sc × Int × Int) : EC E0 f_s_l2Draw_io_M H0 f_s_l2Draw_io_F (asL (noL)) 0 (bodyOf Try.f165 0) (f_s_l2Draw_io_fr0 most1 o6 s) (done (klOf f_s_l2Draw_io_F 0)) = f_s_l2Draw_io_k0 most1 o6 s.1 s.2.1 s.2.2.1 s.2.2.2.1 s.2.2.2.2.1 s.2.2.2.2.2 (fun s => some (.norm, f_s_l2Draw_io_fr0 most1 o6 s)) (fun e => some (f_s_l2Draw_io_x0_1 most1 o6 e)) := by kernel_rfl
theorem f_s_l2Draw_io_l0 (most1 : Int) (o6 : List Sc) : ∀ s r, loopL (f_s_l2Draw_io_r0 most1 o6) s = some r → LS Try.prog f_s_l2Draw_io_F (bodyOf Try.f165 0) (f_s_l2Draw_io_fr0 most1 o6 s) (enX (f_s_l2Draw_io_x0_1 most1 o6) (f_s_l2Draw_io_x0_2 most1 o6) r) :=
  loop_true E0ok f_s_l2Draw_io_Mt (noL_true) f_s_l2Draw_io_o (fun _ h => by cases h) (fun _ h => by cases h) (fun s => (f_s_l2Draw_io_e0 most1 o6 s).trans (f_s_l2Draw_io_p0 most1 o6 s _ _ (fun e => some (f_s_l2Draw_io_x0_2 most1 o6 e))))
def f_s_l2Draw_io_t0 (σ : List AV) : Option (Bool × Bool × (X × List AV) × (X × List AV)) := match dec f_s_l2Draw_io_h0 σ with
  | some [.l v0, .i v1, .i v2, .l v3, .i most1, .l o6, .i n7, .i i8] => some (isOne (loopL (f_s_l2Draw_io_r0 most1 o6) (v0, v1, v2, v3, n7, i8)), true, f_s_l2Draw_io_x0_1 most1 o6 (getOne ([], 0, 0, [], 0) (loopL (f_s_l2Draw_io_r0 most1 o6) (v0, v1, v2, v3, n7, i8))), (.ret, []))
  | _ => none
theorem f_s_l2Draw_io_tt0 : TTrue Try.prog f_s_l2Draw_io_F Try.f165 0 (f_s_l2Draw_io_t0) := by
  intro σ p r r' h
  unfold f_s_l2Draw_io_t0 at h
  split at h
  · rename_i hd
    rw [← dec_enc hd]
    exact row1 (f_s_l2Draw_io_l0 _ _ _) h
  · cases h
theorem f_s_l2Draw_io_p {R : Type} (most1 : Int) (h0 : List Sc) (h1 : Int) (h2 : Int) (kR : List Sc × List Sc × Int × Int → Option R) : f_s_l2Draw_io_k most1 h0 h1 h2 kR = (f_s_l2Draw_io_k most1 h0 h1 h2 some).bind kR := by
  simp only [f_s_l2Draw_io_k, brB, boB, bl1B, someB, noneB]
theorem f_s_l2Draw_io_e (most1 : Int) (h0 : List Sc) (h1 : Int) (h2 : Int) : runFn E0 f_s_l2Draw_io_M H0 f_s_l2Draw_io_F (asL (addL 0 (f_s_l2Draw_io_t0) (noL))) Try.f165 (f_s_l2Draw_io_a most1 h0 h1 h2) (f_s_l2Draw_io_i most1 h0 h1 h2) = f_s_l2Draw_io_k most1 h0 h1 h2 (fun r => some (f_s_l2Draw_io_en r)) := by kernel_rfl
theorem f_s_l2Draw_io_ok (most1 : Int) (h0 : List Sc) (h1 : Int) (h2 : Int) (r : List Sc × List Sc × Int × Int) (h : f_s_l2Draw_io most1 h0 h1 h2 = some r) : CS Try.prog 165 (f_s_l2Draw_io_a most1 h0 h1 h2) (f_s_l2Draw_io_i most1 h0 h1 h2) (f_s_l2Draw_io_en r).1 (f_s_l2Draw_io_en r).2 :=
  fn_true (Gk := fun k => f_s_l2Draw_io_k most1 h0 h1 h2 k) (en := f_s_l2Draw_io_en) Try.func165 E0ok f_s_l2Draw_io_Mt (addL_true (f_s_l2Draw_io_tt0) (noL_true)) f_s_l2Draw_io_o (f_s_l2Draw_io_e most1 h0 h1 h2) (f_s_l2Draw_io_p most1 h0 h1 h2) h
def f_s_l2Draw_io_c : CRow := fun args inh => match dec2 [.p (.pt 0 3), .p (.int .i64)] [.p .sl, .p (.int .i64), .p (.int .i64)] args inh with
  | some ([.i most1], [.l h0, .i h1, .i h2]) => some ((f_s_l2Draw_io most1 h0 h1 h2).isSome, (f_s_l2Draw_io_en ((f_s_l2Draw_io most1 h0 h1 h2).getD ([], [], 0, 0))).1, (f_s_l2Draw_io_en ((f_s_l2Draw_io most1 h0 h1 h2).getD ([], [], 0, 0))).2)
  | _ => none
theorem f_s_l2Draw_io_cc : CTrue Try.prog 165 f_s_l2Draw_io_c := by
  intro args inh rs out h
  unfold f_s_l2Draw_io_c at h
  split at h
  · rename_i hd
    obtain ⟨h1, h2⟩ := dec2_enc hd
    rw [← h1, ← h2]
    exact rowC (f_s_l2Draw_io_ok _ _ _ _) h
  · cases h

def f_s_l2Any_io_F : Fi := { nv := 6, nc := 5, m := 3, vt := [(2, 3), (3, 4), (5, 5)], kl := [], sk := [], mvs := [5], fz := [] }
def f_s_l2Any_io_a (h0 : List Sc) (h1 : Int) (h2 : Int) : List AV := enc [.p (.pt 0 3)] []
def f_s_l2Any_io_i (h0 : List Sc) (h1 : Int) (h2 : Int) : List AV := enc [.p .sl, .p (.int .i64), .p (.int .i64)] [.l h0, .i h1, .i h2]
def f_s_l2Any_io_en (r : List Sc × List Sc × Int × Int) : List AV × List AV := (enc [.p (.go 3)] [], enc [.p .sl, .p (.int .i64), .p (.int .i64), .own 3] [.l r.2.1, .i r.2.2.1, .i r.2.2.2, .l r.1])
def f_s_l2Any_io_M : Calling := addC 165 f_s_l2Draw_io_c (addC 166 f_s_l1Below_io_c (addC 168 f_s_l1PickInt_io_c (noC)))
theorem f_s_l2Any_io_Mt : CallOk Try.prog (f_s_l2Any_io_M) := addC_true f_s_l2Draw_io_cc (addC_true f_s_l1Below_io_cc (addC_true f_s_l1PickInt_io_cc (noC_true)))
theorem f_s_l2Any_io_o : loopsOnce Try.f163 = true := by kernel_rfl
theorem f_s_l2Any_io_p {R : Type} (h0 : List Sc) (h1 : Int) (h2 : Int) (kR : List Sc × List Sc × Int × Int → Option R) : f_s_l2Any_io_k h0 h1 h2 kR = (f_s_l2Any_io_k h0 h1 h2 some).bind kR := by
  simp only [f_s_l2Any_io_k, brB, boB, someB]
theorem f_s_l2Any_io_e (h0 : List Sc) (h1 : Int) (h2 : Int) : runFn E0 f_s_l2Any_io_M H0 f_s_l2Any_io_F (asL (noL)) Try.f163 (f_s_l2Any_io_a h0 h1 h2) (f_s_l2Any_io_i h0 h1 h2) = f_s_l2Any_io_k h0 h1 h2 (fun r => some (f_s_l2Any_io_en r)) := by kernel_rfl
theorem f_s_l2Any_io_ok (h0 : List Sc) (h1 : Int) (h2 : Int) (r : List Sc × List Sc × Int × Int) (h : f_s_l2Any_io h0 h1 h2 = some r) : CS Try.prog 163 (f_s_l2Any_io_a h0 h1 h2) (f_s_l2Any_io_i h0 h1 h2) (f_s_l2Any_io_en r).1 (f_s_l2Any_io_en r).2 :=
  fn_true (Gk := fun k => f_s_l2Any_io_k h0 h1 h2 k) (en := f_s_l2Any_io_en) Try.func163 E0ok f_s_l2Any_io_Mt (noL_true) f_s_l2Any_io_o (f_s_l2Any_io_e h0 h1 h2) (f_s_l2Any_io_p h0 h1 h2) h
def f_s_l2Any_io_c : CRow := fun args inh => match dec2 [.p (.pt 0 3)] [.p .sl, .p (.int .i64), .p (.int .i64)] args inh with
  | some ([], [.l h0, .i h1, .i h2]) => some ((f_s_l2Any_io h0 h1 h2).isSome, (f_s_l2Any_io_en ((f_s_l2Any_io h0 h1 h2).getD ([], [], 0, 0))).1, (f_s_l2Any_io_en ((f_s_l2Any_io h0 h1 h2).getD ([], [], 0, 0))).2)
  | _ => none
theorem f_s_l2Any_io_cc : CTrue Try.prog 163 f_s_l2Any_io_c := by
  intro args inh rs out h
  unfold f_s_l2Any_io_c at h
  split at h
  · rename_i hd
    obtain ⟨h1, h2⟩ := dec2_enc hd
    rw [← h1, ← h2]
    exact rowC (f_s_l2Any_io_ok _ _ _) h
  · cases h

def f_s_l1Once_io_F : Fi := { nv := 3, nc := 3, m := 3, vt := [], kl := [], sk := [], mvs := [], fz := [] }
def f_s_l1Once_io_a (n1 : Int) (h0 : List Sc) (h1 : Int) (h2 : Int) : List AV := enc [.p (.pt 0 3), .p (.int .i64)] [.i n1]
def f_s_l1Once_io_i (n1 : Int) (h0 : List Sc) (h1 : Int) (h2 : Int) : List AV := enc [.p .sl, .p (.int .i64), .p (.int .i64)] [.l h0, .i h1, .i h2]
def f_s_l1Once_io_en (r : Bool × List Sc × Int × Int) : List AV × List AV := (enc [.p .boo] [.b r.1], enc [.p .sl, .p (.int .i64), .p (.int .i64)] [.l r.2.1, .i r.2.2.1, .i r.2.2.2])
def f_s_l1Once_io_M : Calling := addC 166 f_s_l1Below_io_c (noC)
theorem f_s_l1Once_io_Mt : CallOk Try.prog (f_s_l1Once_io_M) := addC_true f_s_l1Below_io_cc (noC_true)
theorem f_s_l1Once_io_o : loopsOnce Try.f167 = true := by kernel_rfl
theorem f_s_l1Once_io_p {R : Type} (n1 : Int) (h0 : List Sc) (h1 : Int) (h2 : Int) (kR : Bool × List Sc × Int × Int → Option R) : f_s_l1Once_io_k n1 h0 h1 h2 kR = (f_s_l1Once_io_k n1 h0 h1 h2 some).bind kR := by
  simp only [f_s_l1Once_io_k, boB, someB]
theorem f_s_l1Once_io_e (n1 : Int) (h0 : List Sc) (h1 : Int) (h2 : Int) : runFn E0 f_s_l1Once_io_M H0 f_s_l1Once_io_F (asL (noL)) Try.f167 (f_s_l1Once_io_a n1 h0 h1 h2) (f_s_l1Once_io_i n1 h0 h1 h2) = f_s_l1Once_io_k n1 h0 h1 h2 (fun r => some (f_s_l1Once_io_en r)) := by kernel_rfl
theorem f_s_l1Once_io_ok (n1 : Int) (h0 : List Sc) (h1 : Int) (h2 : Int) (r : Bool × List Sc × Int × Int) (h : f_s_l1Once_io n1 h0 h1 h2 = some r) : CS Try.prog 167 (f_s_l1Once_io_a n1 h0 h1 h2) (f_s_l1Once_io_i n1 h0 h1 h2) (f_s_l1Once_io_en r).1 (f_s_l1Once_io_en r).2 :=
  fn_true (Gk := fun k => f_s_l1Once_io_k n1 h0 h1 h2 k) (en := f_s_l1Once_io_en) Try.func167 E0ok f_s_l1Once_io_Mt (noL_true) f_s_l1Once_io_o (f_s_l1Once_io_e n1 h0 h1 h2) (f_s_l1Once_io_p n1 h0 h1 h2) h
def f_s_l1Once_io_c : CRow := fun args inh => match dec2 [.p (.pt 0 3), .p (.int .i64)] [.p .sl, .p (.int .i64), .p (.int .i64)] args inh with
  | some ([.i n1], [.l h0, .i h1, .i h2]) => some ((f_s_l1Once_io n1 h0 h1 h2).isSome, (f_s_l1Once_io_en ((f_s_l1Once_io n1 h0 h1 h2).getD (false, [], 0, 0))).1, (f_s_l1Once_io_en ((f_s_l1Once_io n1 h0 h1 h2).getD (false, [], 0, 0))).2)
  | _ => none
theorem f_s_l1Once_io_cc : CTrue Try.prog 167 f_s_l1Once_io_c := by
  intro args inh rs out h
  unfold f_s_l1Once_io_c at h
  split at h
  · rename_i hd
    obtain ⟨h1, h2⟩ := dec2_enc hd
    rw [← h1, ← h2]
    exact rowC (f_s_l1Once_io_ok _ _ _ _) h
  · cases h

def f_s_l16Sort_F : Fi := { nv := 0, nc := 0, m := 0, vt := [], kl := [(2, ([1, 2, 6, 7, 8, 9, 10, 11, 12, 13, 14, 15, 16, 17, 18, 19, 20, 21, 22, 23, 24, 25, 26, 27, 28, 29, 30, 31, 32, 33, 34, 35, 36, 37, 38, 39, 40, 41, 42, 43, 44, 45, 46], [1, 2, 6, 7, 8, 9, 10, 11, 12, 13, 14, 15, 16, 17, 18, 19, 20, 21, 22, 23, 24, 25, 26, 27, 28, 29, 30, 31, 32, 33, 34, 35, 36, 37, 38, 39, 40, 41, 42, 43, 44, 45, 46], [0, 1, 3, 4, 5, 6, 7, 8, 9, 10, 11, 12, 13, 14, 15, 16, 17, 18, 19, 20, 21, 22, 23, 24, 25, 26, 27, 28, 29, 30, 31, 32, 33, 34, 35, 36, 37, 38, 39, 40, 41, 42, 43, 44, 45, 46])), (0, ([1, 2, 5, 6, 7, 8, 9, 10, 11, 12, 13, 14, 15, 16, 17, 18, 19, 20, 21, 22, 23, 24, 25, 26, 27, 28, 29, 30, 31, 32, 33, 34, 35, 36, 37, 38, 39, 40, 41, 42, 43, 44, 45, 46], [1, 2, 6, 7, 8, 9, 10, 11, 12, 13, 14, 15, 16, 17, 18, 19, 20, 21, 22, 23, 24, 25, 26, 27, 28, 29, 30, 31, 32, 33, 34, 35, 36, 37, 38, 39, 40, 41, 42, 43, 44, 45, 46], [0, 1, 3, 4, 5, 6, 7, 8, 9, 10, 11, 12, 13, 14, 15, 16, 17, 18, 19, 20, 21, 22, 23, 24, 25, 26, 27, 28, 29, 30, 31, 32, 33, 34, 35, 36, 37, 38, 39, 40, 41, 42, 43, 44, 45, 46]))], sk := [], mvs := [], fz := [], fa := [3] }
def f_s_l16Sort_a (l0 : List Sc) : List AV := enc [.p .sl] [.l l0]
def f_s_l16Sort_i (l0 : List Sc) : List AV := enc [] []
def f_s_l16Sort_en (r : List Sc) : List AV × List AV := (enc [.p (.al 0)] [], enc [.own 3] [.l r])
def f_s_l16Sort_M : Calling := noC
theorem f_s_l16Sort_Mt : CallOk Try.prog (f_s_l16Sort_M) := noC_true
theorem f_s_l16Sort_o : loopsOnce Try.f199 = true := by kernel_rfl
def f_s_l16Sort_h2 : List Sh := [.p .sl, .u, .u, .fr 3, .p (.int .i64), .p (.int .i64), .u, .u, .u, .u, .u, .u, .u, .u, .u, .u, .u, .u, .u, .u, .u, .u, .u, .u, .u, .u, .u, .u, .u, .u, .u, .u, .u, .u, .u, .u, .u, .u, .u, .u, .u, .u, .u, .u, .u, .u, .u]
def f_s_l16Sort_fr2 (l0 : List Sc) (out3 : List Sc) (i4 : Int) (s : Int) : List AV := enc f_s_l16Sort_h2 [.l l0, .l out3, .i i4, .i s]
def f_s_l16Sort_g2_1 : List Sh := [.p .sl, .u, .u, .fr 3, .p (.int .i64), .p (.int .i64), .u, .u, .u, .u, .u, .u, .u, .u, .u, .u, .u, .u, .u, .u, .u, .u, .u, .u, .u, .u, .u, .u, .u, .u, .u, .u, .u, .u, .u, .u, .u, .u, .u, .u, .u, .u, .u, .u, .u, .u, .u]
def f_s_l16Sort_x2_1 (l0 : List Sc) (out3 : List Sc) (i4 : Int) (e : Int) : X × List AV := (.out 2, enc f_s_l16Sort_g2_1 [.l l0, .l out3, .i i4, .i e])
def f_s_l16Sort_x2_2 (l0 : List Sc) (out3 : List Sc) (i4 : Int) (_e : Unit) : X × List AV := (.ret, [])
theorem f_s_l16Sort_p2 {R : Type} (l0 : List Sc) (out3 : List Sc) (i4 : Int) (s : Int) (kN : Int → Option R) (kA : Int → Option R) (kB : Unit → Option R) : f_s_l16Sort_k2 l0 out3 i4 s kN kA = (f_s_l16Sort_r2 l0 out3 i4 s).bind (Ro.el kN kA kB) := by
  simp only [f_s_l16Sort_k2, f_s_l16Sort_r2, brB, someB, noneB, Ro.el]
theorem f_s_l16Sort_e2 (l0 : List Sc) (out3 : List Sc) (i4 : Int) (s : Int) : EC E0 f_s_l16Sort_M H0 f_s_l16Sort_F (asL (noL)) 2 (bodyOf Try.f199 2) (f_s_l16Sort_fr2 l0 out3 i4 s) (done (klOf f_s_l16Sort_F 2)) = f_s_l16Sort_k2 l0 out3 i4 s (fun s => some (.norm, f_s_l16Sort_fr2 l0 out3 i4 s)) (fun e => some (f_s_l16Sort_x2_1 l0 out3 i4 e)) := by kernel_rfl
theorem f_s_l16Sort_l2 (l0 : List Sc) (out3 : List Sc) (i4 : Int) : ∀ s r, loopL (f_s_l16Sort_r2 l0 out3 i4) s = some r → LS Try.prog f_s_l16Sort_F (bodyOf Try.f199 2) (f_s_l16Sort_fr2 l0 out3 i4 s) (enX (f_s_l16Sort_x2_1 l0 out3 i4) (f_s_l16Sort_x2_2 l0 out3 i4) r) :=
  loop_true E0ok f_s_l16Sort_Mt (noL_true) f_s_l16Sort_o (fun _ h => by cases h) (fun _ h => by cases h) (fun s => (f_s_l16Sort_e2 l0 out3 i4 s).trans (f_s_l16Sort_p2 l0 out3 i4 s _ _ (fun e => some (f_s_l16Sort_x2_2 l0 out3 i4 e))))
def f_s_l16Sort_t2 (σ : List AV) : Option (Bool × Bool × (X × List AV) × (X × List AV)) := match dec f_s_l16Sort_h2 σ with
  | some [.l l0, .l out3, .i i4, .i k5] => some (isOne (loopL (f_s_l16Sort_r2 l0 out3 i4) k5), true, f_s_l16Sort_x2_1 l0 out3 i4 (getOne 0 (loopL (f_s_l16Sort_r2 l0 out3 i4) k5)), (.ret, []))
  | _ => none
theorem f_s_l16Sort_tt2 : TTrue Try.prog f_s_l16Sort_F Try.f199 2 (f_s_l16Sort_t2) := by
  intro σ p r r' h
  unfold f_s_l16Sort_t2 at h
  split at h
  · rename_i hd
    rw [← dec_enc hd]
    exact row1 (f_s_l16Sort_l2 _ _ _ _) h
  · cases h
def f_s_l16Sort_h0 : List Sh := [.p .sl, .u, .u, .fr 3, .p (.int .i64), .u, .u, .u, .u, .u, .u, .u, .u, .u, .u, .u, .u, .u, .u, .u, .u, .u, .u, .u, .u, .u, .u, .u, .u, .u, .u, .u, .u, .u, .u, .u, .u, .u, .u, .u, .u, .u, .u, .u, .u, .u, .u]
def f_s_l16Sort_fr0 (l0 : List Sc) (s : List Sc × Int) : List AV := enc f_s_l16Sort_h0 [.l l0, .l s.1, .i s.2]
def f_s_l16Sort_g0_1 : List Sh := [.p .sl, .u, .u, .fr 3, .p (.int .i64), .u, .u, .u, .u, .u, .u, .u, .u, .u, .u, .u, .u, .u, .u, .u, .u, .u, .u, .u, .u, .u, .u, .u, .u, .u, .u, .u, .u, .u, .u, .u, .u, .u, .u, .u, .u, .u, .u, .u, .u, .u, .u]
def f_s_l16Sort_x0_1 (l0 : List Sc) (e : List Sc × Int) : X × List AV := (.out 0, enc f_s_l16Sort_g0_1 [.l l0, .l e.1, .i e.2])
def f_s_l16Sort_x0_2 (l0 : List Sc) (_e : Unit) : X × List AV := (.ret, [])
theorem f_s_l16Sort_p0 {R : Type} (l0 : List Sc) (s : List Sc × Int) (kN : List Sc × Int → Option R) (kA : List Sc × Int → Option R) (kB : Unit → Option R) : f_s_l16Sort_k0 l0 s.1 s.2 kN kA = (f_s_l16Sort_r0 l0 s).bind (Ro.el kN kA kB) := by
  simp only [f_s_l16Sort_k0, f_s_l16Sort_r0, brB, bl1B, someB, noneB, Ro.el]
theorem f_s_l16Sort_e0 (l0 : List Sc) (s : List Sc × Int) : EC E0 f_s_l16Sort_M H0 f_s_l16Sort_F (asL (addL 2 (f_s_l16Sort_t2) (noL))) 0 (bodyOf Try.f199 0) (f_s_l16Sort_fr0 l0 s) (done (klOf f_s_l16Sort_F 0)) = f_s_l16Sort_k0 l0 s.1 s.2 (fun s => some (.norm, f_s_l16Sort_fr0 l0 s)) (fun e => some (f_s_l16Sort_x0_1 l0 e)) := by kernel_rfl
theorem f_s_l16Sort_l0 (l0 : List Sc) : ∀ s r, loopL (f_s_l16Sort_r0 l0) s = some r → LS Try.prog f_s_l16Sort_F (bodyOf Try.f199 0) (f_s_l16Sort_fr0 l0 s) (enX (f_s_l16Sort_x0_1 l0) (f_s_l16Sort_x0_2 l0) r) :=
  loop_true E0ok f_s_l16Sort_Mt (addL_true (f_s_l16Sort_tt2) (noL_true)) f_s_l16Sort_o (fun _ h => by cases h) (fun _ h => by cases h) (fun s => (f_s_l16Sort_e0 l0 s).trans (f_s_l16Sort_p0 l0 s _ _ (fun e => some (f_s_l16Sort_x0_2 l0 e))))
def f_s_l16Sort_t0 (σ : List AV) : Option (Bool × Bool × (X × List AV) × (X × List AV)) := match dec f_s_l16Sort_h0 σ with
  | some [.l l0, .l out3, .i i4] => some (isOne (loopL (f_s_l16Sort_r0 l0) (out3, i4)), true, f_s_l16Sort_x0_1 l0 (getOne ([], 0) (loopL (f_s_l16Sort_r0 l0) (out3, i4))), (.ret, []))
  | _ => none
theorem f_s_l16Sort_tt0 : TTrue Try.prog f_s_l16Sort_F Try.f199 0 (f_s_l16Sort_t0) := by
  intro σ p r r' h
  unfold f_s_l16Sort_t0 at h
  split at h
  · rename_i hd
    rw [← dec_enc hd]
    exact row1 (f_s_l16Sort_l0 _ _) h
  · cases h
theorem f_s_l16Sort_p {R : Type} (l0 : List Sc) (kR : List Sc → Option R) : f_s_l16Sort_k l0 kR = (f_s_l16Sort_k l0 some).bind kR := by
  simp only [f_s_l16Sort_k, bl1B, someB]
theorem f_s_l16Sort_e (l0 : List Sc) : runFn E0 f_s_l16Sort_M H0 f_s_l16Sort_F (asL (addL 0 (f_s_l16Sort_t0) (addL 2 (f_s_l16Sort_t2) (noL)))) Try.f199 (f_s_l16Sort_a l0) (f_s_l16Sort_i l0) = f_s_l16Sort_k l0 (fun r => some (f_s_l16Sort_en r)) := by kernel_rfl
theorem f_s_l16Sort_ok (l0 : List Sc) (r : List Sc) (h : f_s_l16Sort l0 = some r) : CS Try.prog 199 (f_s_l16Sort_a l0) (f_s_l16Sort_i l0) (f_s_l16Sort_en r).1 (f_s_l16Sort_en r).2 :=
  fn_true (Gk := fun k => f_s_l16Sort_k l0 k) (en := f_s_l16Sort_en) Try.func199 E0ok f_s_l16Sort_Mt (addL_true (f_s_l16Sort_tt0) (addL_true (f_s_l16Sort_tt2) (noL_true))) f_s_l16Sort_o (f_s_l16Sort_e l0) (f_s_l16Sort_p l0) h
def f_s_l16Sort_c : CRow := fun args inh => match dec2 [.p .sl] [] args inh with
  | some ([.l l0], []) => some ((f_s_l16Sort l0).isSome, (f_s_l16Sort_en ((f_s_l16Sort l0).getD [])).1, (f_s_l16Sort_en ((f_s_l16Sort l0).getD [])).2)
  | _ => none
theorem f_s_l16Sort_cc : CTrue Try.prog 199 f_s_l16Sort_c := by
  intro args inh rs out h
  unfold f_s_l16Sort_c at h
  split at h
  · rename_i hd
    obtain ⟨h1, h2⟩ := dec2_enc hd
    rw [← h1, ← h2]
    exact rowC (f_s_l16Sort_ok _) h
  · cases h

def f_s_l16Draw_io_F : Fi := { nv := 6, nc := 5, m := 3, vt := [(4, 3), (6, 4), (11, 5)], kl := [(0, ([5, 7, 8, 9, 11, 16, 17, 18, 19, 20, 21, 22, 23, 24, 25, 26, 27, 28, 29, 30, 31, 32, 33, 34, 35, 36, 37, 38, 39, 40, 41, 42, 43, 44, 45, 46, 47, 48, 49, 50, 51, 52, 53, 54, 55], [5, 7, 8, 9, 11, 14, 15, 16, 17, 18, 19, 20, 21, 22, 23, 24, 25, 26, 27, 28, 29, 30, 31, 32, 33, 34, 35, 36, 37, 38, 39, 40, 41, 42, 43, 44, 45, 46, 47, 48, 49, 50, 51, 52, 53, 54, 55], [4, 5, 6, 7, 8, 9, 12, 13, 14, 15, 16, 17, 18, 19, 20, 21, 22, 23, 24, 25, 26, 27, 28, 29, 30, 31, 32, 33, 34, 35, 36, 37, 38, 39, 40, 41, 42, 43, 44, 45, 46, 47, 48, 49, 50, 51, 52, 53, 54, 55]))], sk := [], mvs := [5], fz := [] }
def f_s_l16Draw_io_a (most1 : Int) (h0 : List Sc) (h1 : Int) (h2 : Int) : List AV := enc [.p (.pt 0 3), .p (.int .i64)] [.i most1]
def f_s_l16Draw_io_i (most1 : Int) (h0 : List Sc) (h1 : Int) (h2 : Int) : List AV := enc [.p .sl, .p (.int .i64), .p (.int .i64)] [.l h0, .i h1, .i h2]
def f_s_l16Draw_io_en (r : List Sc × List Sc × List Sc × Int × Int) : List AV × List AV := (enc [.p (.go 3), .p (.al 4)] [], enc [.p .sl, .p (.int .i64), .p (.int .i64), .own 3, .own 3] [.l r.2.2.1, .i r.2.2.2.1, .i r.2.2.2.2, .l r.1, .l r.2.1])
def f_s_l16Draw_io_M : Calling := addC 163 f_s_l2Any_io_c (addC 72 f_s_OrderOf_c (addC 166 f_s_l1Below_io_c (addC 167 f_s_l1Once_io_c (addC 168 f_s_l1PickInt_io_c (addC 199 f_s_l16Sort_c (noC))))))
theorem f_s_l16Draw_io_Mt : CallOk Try.prog (f_s_l16Draw_io_M) := addC_true f_s_l2Any_io_cc (addC_true f_s_OrderOf_cc (addC_true f_s_l1Below_io_cc (addC_true f_s_l1Once_io_cc (addC_true f_s_l1PickInt_io_cc (addC_true f_s_l16Sort_cc (noC_true))))))
theorem f_s_l16Draw_io_o : loopsOnce Try.f195 = true := by kernel_rfl
def f_s_l16Draw_io_h0 : List Sh := [.p .sl, .p (.int .i64), .p (.int .i64), .p .sl, .own 3, .u, .p (.pt 0 3), .u, .u, .u, .p (.pt 3 1), .u, .p (.pt 4 1), .own 3, .p (.int .i64), .p (.int .i64), .u, .u, .u, .u, .u, .u, .u, .u, .u, .u, .u, .u, .u, .u, .u, .u, .u, .u, .u, .u, .u, .u, .u, .u, .u, .u, .u, .u, .u, .u, .u, .u, .u, .u, .u, .u, .u, .u, .u, .u]
def f_s_l16Draw_io_fr0 (s : List Sc × Int × Int × List Sc × List Sc × List Sc × Int × Int) : List AV := enc f_s_l16Draw_io_h0 [.l s.1, .i s.2.1, .i s.2.2.1, .l s.2.2.2.1, .l s.2.2.2.2.1, .l s.2.2.2.2.2.1, .i s.2.2.2.2.2.2.1, .i s.2.2.2.2.2.2.2]
def f_s_l16Draw_io_g0_1 : List Sh := [.p .sl, .p (.int .i64), .p (.int .i64), .p .sl, .own 3, .u, .p (.pt 0 3), .u, .u, .u, .p (.pt 3 1), .u, .p (.pt 4 1), .own 3, .u, .u, .u, .u, .u, .u, .u, .u, .u, .u, .u, .u, .u, .u, .u, .u, .u, .u, .u, .u, .u, .u, .u, .u, .u, .u, .u, .u, .u, .u, .u, .u, .u, .u, .u, .u, .u, .u, .u, .u, .u, .u]
def f_s_l16Draw_io_x0_1 (e : List Sc × Int × Int × List Sc × List Sc × List Sc) : X × List AV := (.out 0, enc f_s_l16Draw_io_g0_1 [.l e.1, .i e.2.1, .i e.2.2.1, .l e.2.2.2.1, .l e.2.2.2.2.1, .l e.2.2.2.2.2])
def f_s_l16Draw_io_x0_2 (_e : Unit) : X × List AV := (.ret, [])
theorem f_s_l16Draw_io_p0 {R : Type} (s : List Sc × Int × Int × List Sc × List Sc × List Sc × Int × Int) (kN : List Sc × Int × Int × List Sc × List Sc × List Sc × Int × Int → Option R) (kA : List Sc × Int × Int × List Sc × List Sc × List Sc → Option R) (kB : Unit → Option R) : f_s_l16Draw_io_k0 s.1 s.2.1 s.2.2.1 s.2.2.2.1 s.2.2.2.2.1 s.2.2.2.2.2.1 s.2.2.2.2.2.2.1 s.2.2.2.2.2.2.2 kN kA = (f_s_l16Draw_io_r0 s).bind (Ro.el kN kA kB) := by
  simp only [f_s_l16Draw_io_k0, f_s_l16Draw_io_r0, brB, boB, someB, noneB, Ro.el]
theorem f_s_l16Draw_io_e0 (s : List Sc × Int × Int × List Sc × List Sc × List Sc × Int × Int) : EC E0 f_s_l16Draw_io_M H0 f_s_l16Draw_io_F (asL (noL)) 0 (bodyOf Try.f195 0) (f_s_l16Draw_io_fr0 s) (done (klOf f_s_l16Draw_io_F 0)) = f_s_l16Draw_io_k0 s.1 s.2.1 s.2.2.1 s.2.2.2.1 s.2.2.2.2.1 s.2.2.2.2.2.1 s.2.2.2.2.2.2.1 s.2.2.2.2.2.2.2 (fun s => some (.norm, f_s_l16Draw_io_fr0 s)) (fun e => some (f_s_l16Draw_io_x0_1 e)) := by kernel_rfl
theorem f_s_l16Draw_io_l0 : ∀ s r, loopL (f_s_l16Draw_io_r0) s = some r → LS Try.prog f_s_l16Draw_io_F (bodyOf Try.f195 0) (f_s_l16Draw_io_fr0 s) (enX (f_s_l16Draw_io_x0_1) (f_s_l16Draw_io_x0_2) r) :=
  loop_true E0ok f_s_l16Draw_io_Mt (noL_true) f_s_l16Draw_io_o (fun _ h => by cases h) (fun _ h => by cases h) (fun s => (f_s_l16Draw_io_e0 s).trans (f_s_l16Draw_io_p0 s _ _ (fun e => some (f_s_l16Draw_io_x0_2 e))))
def f_s_l16Draw_io_t0 (σ : List AV) : Option (Bool × Bool × (X × List AV) × (X × List AV)) := match dec f_s_l16Draw_io_h0 σ with
  | some [.l v0, .i v1, .i v2, .l v3, .l v4, .l l7, .i x8, .i n9] => some (isOne (loopL (f_s_l16Draw_io_r0) (v0, v1, v2, v3, v4, l7, x8, n9)), true, f_s_l16Draw_io_x0_1 (getOne ([], 0, 0, [], [], []) (loopL (f_s_l16Draw_io_r0) (v0, v1, v2, v3, v4, l7, x8, n9))), (.ret, []))
  | _ => none
theorem f_s_l16Draw_io_tt0 : TTrue Try.prog f_s_l16Draw_io_F Try.f195 0 (f_s_l16Draw_io_t0) := by
  intro σ p r r' h
  unfold f_s_l16Draw_io_t0 at h
  split at h
  · rename_i hd
    rw [← dec_enc hd]
    exact row1 (f_s_l16Draw_io_l0 _) h
  · cases h
theorem f_s_l16Draw_io_p {R : Type} (most1 : Int) (h0 : List Sc) (h1 : Int) (h2 : Int) (kR : List Sc × List Sc × List Sc × Int × Int → Option R) : f_s_l16Draw_io_k most1 h0 h1 h2 kR = (f_s_l16Draw_io_k most1 h0 h1 h2 some).bind kR := by
  simp only [f_s_l16Draw_io_k, brB, boB, bl1B, someB, noneB]
theorem f_s_l16Draw_io_e (most1 : Int) (h0 : List Sc) (h1 : Int) (h2 : Int) : runFn E0 f_s_l16Draw_io_M H0 f_s_l16Draw_io_F (asL (addL 0 (f_s_l16Draw_io_t0) (noL))) Try.f195 (f_s_l16Draw_io_a most1 h0 h1 h2) (f_s_l16Draw_io_i most1 h0 h1 h2) = f_s_l16Draw_io_k most1 h0 h1 h2 (fun r => some (f_s_l16Draw_io_en r)) := by kernel_rfl
theorem f_s_l16Draw_io_ok (most1 : Int) (h0 : List Sc) (h1 : Int) (h2 : Int) (r : List Sc × List Sc × List Sc × Int × Int) (h : f_s_l16Draw_io most1 h0 h1 h2 = some r) : CS Try.prog 195 (f_s_l16Draw_io_a most1 h0 h1 h2) (f_s_l16Draw_io_i most1 h0 h1 h2) (f_s_l16Draw_io_en r).1 (f_s_l16Draw_io_en r).2 :=
  fn_true (Gk := fun k => f_s_l16Draw_io_k most1 h0 h1 h2 k) (en := f_s_l16Draw_io_en) Try.func195 E0ok f_s_l16Draw_io_Mt (addL_true (f_s_l16Draw_io_tt0) (noL_true)) f_s_l16Draw_io_o (f_s_l16Draw_io_e most1 h0 h1 h2) (f_s_l16Draw_io_p most1 h0 h1 h2) h
def f_s_l16Draw_io_c : CRow := fun args inh => match dec2 [.p (.pt 0 3), .p (.int .i64)] [.p .sl, .p (.int .i64), .p (.int .i64)] args inh with
  | some ([.i most1], [.l h0, .i h1, .i h2]) => some ((f_s_l16Draw_io most1 h0 h1 h2).isSome, (f_s_l16Draw_io_en ((f_s_l16Draw_io most1 h0 h1 h2).getD ([], [], [], 0, 0))).1, (f_s_l16Draw_io_en ((f_s_l16Draw_io most1 h0 h1 h2).getD ([], [], [], 0, 0))).2)
  | _ => none
theorem f_s_l16Draw_io_cc : CTrue Try.prog 195 f_s_l16Draw_io_c := by
  intro args inh rs out h
  unfold f_s_l16Draw_io_c at h
  split at h
  · rename_i hd
    obtain ⟨h1, h2⟩ := dec2_enc hd
    rw [← h1, ← h2]
    exact rowC (f_s_l16Draw_io_ok _ _ _ _) h
  · cases h

def f_s_l16Both_F : Fi := { nv := 7, nc := 5, m := 0, vt := [(2, 0), (4, 1), (8, 2), (9, 5)], kl := [], sk := [], mvs := [5, 6], fz := [] }
def f_s_l16Both_a (code0 : List Sc) : List AV := enc [.p .sl] [.l code0]
def f_s_l16Both_i (code0 : List Sc) : List AV := enc [] []
def f_s_l16Both_en (r : List Sc × List Sc) : List AV × List AV := (enc [.p (.go 0), .p (.al 1)] [], enc [.own 3, .own 3] [.l r.1, .l r.2])
def f_s_l16Both_M : Calling := addC 162 f_s_l1New_c (addC 195 f_s_l16Draw_io_c (noC))
theorem f_s_l16Both_Mt : CallOk Try.prog (f_s_l16Both_M) := addC_true f_s_l1New_cc (addC_true f_s_l16Draw_io_cc (noC_true))
theorem f_s_l16Both_o : loopsOnce Try.f182 = true := by kernel_rfl
theorem f_s_l16Both_p {R : Type} (code0 : List Sc) (kR : List Sc × List Sc → Option R) : f_s_l16Both_k code0 kR = (f_s_l16Both_k code0 some).bind kR := by
  simp only [f_s_l16Both_k, boB, someB]
theorem f_s_l16Both_e (code0 : List Sc) : runFn E0 f_s_l16Both_M H0 f_s_l16Both_F (asL (noL)) Try.f182 (f_s_l16Both_a code0) (f_s_l16Both_i code0) = f_s_l16Both_k code0 (fun r => some (f_s_l16Both_en r)) := by kernel_rfl
theorem f_s_l16Both_ok (code0 : List Sc) (r : List Sc × List Sc) (h : f_s_l16Both code0 = some r) : CS Try.prog 182 (f_s_l16Both_a code0) (f_s_l16Both_i code0) (f_s_l16Both_en r).1 (f_s_l16Both_en r).2 :=
  fn_true (Gk := fun k => f_s_l16Both_k code0 k) (en := f_s_l16Both_en) Try.func182 E0ok f_s_l16Both_Mt (noL_true) f_s_l16Both_o (f_s_l16Both_e code0) (f_s_l16Both_p code0) h
def f_s_l16Both_c : CRow := fun args inh => match dec2 [.p .sl] [] args inh with
  | some ([.l code0], []) => some ((f_s_l16Both code0).isSome, (f_s_l16Both_en ((f_s_l16Both code0).getD ([], []))).1, (f_s_l16Both_en ((f_s_l16Both code0).getD ([], []))).2)
  | _ => none
theorem f_s_l16Both_cc : CTrue Try.prog 182 f_s_l16Both_c := by
  intro args inh rs out h
  unfold f_s_l16Both_c at h
  split at h
  · rename_i hd
    obtain ⟨h1, h2⟩ := dec2_enc hd
    rw [← h1, ← h2]
    exact rowC (f_s_l16Both_ok _) h
  · cases h

def f_s_DrawZeroOfLength_F : Fi := { nv := 4, nc := 2, m := 0, vt := [(2, 0), (5, 1), (9, 2)], kl := [(100002, ([2, 3, 5, 7, 8, 11, 12, 13, 14, 15, 16, 17, 18, 19, 20, 21, 22, 23], [1, 2, 3, 4, 5, 9, 10, 11, 12, 13, 14, 15, 16, 17, 18, 19, 20, 21, 22, 23], []))], sk := [], mvs := [2, 3], fz := [], tb := [2] }
def f_s_DrawZeroOfLength_a (code0 : List Sc) : List AV := enc [.p .sl] [.l code0]
def f_s_DrawZeroOfLength_i (code0 : List Sc) : List AV := enc [] []
def f_s_DrawZeroOfLength_en (r : List Sc × List Sc × Int) : List AV × List AV := (enc [.p (.go 0), .p (.al 1), .p (.int .i64)] [.i r.2.2], enc [.own 3, .own 3] [.l r.1, .l r.2.1])
def f_s_DrawZeroOfLength_M : Calling := addC 182 f_s_l16Both_c (noC)
theorem f_s_DrawZeroOfLength_Mt : CallOk Try.prog (f_s_DrawZeroOfLength_M) := addC_true f_s_l16Both_cc (noC_true)
theorem f_s_DrawZeroOfLength_o : loopsOnce Try.f73 = true := by kernel_rfl
def f_s_DrawZeroOfLength_hg2 : List Sh := [.p .sl, .own 3, .u, .u, .p .sl, .u, .p (.pt 0 1), .u, .u, .p (.pt 1 1), .own 3, .u, .u, .u, .u, .u, .u, .u, .u, .u, .u, .u, .u, .u]
def f_s_DrawZeroOfLength_frg2 (v0 : List Sc) (v1 : List Sc) (t0 : List Sc) (t6 : List Sc) : List AV := enc f_s_DrawZeroOfLength_hg2 [.l v0, .l v1, .l t0, .l t6]
def f_s_DrawZeroOfLength_xg2 (v0 : List Sc) (v1 : List Sc) (t0 : List Sc) (t6 : List Sc) (e : Int) : X × List AV := (.norm, enc [.own 3, .u, .u, .u, .u, .u, .p (.pt 0 1), .own 3, .p (.int .i64), .u, .u, .u, .u, .u, .u, .u, .u, .u, .u, .u, .u, .u, .u, .u] [.l v1, .l t6, .i e])
theorem f_s_DrawZeroOfLength_pg2 {R : Type} (v0 : List Sc) (v1 : List Sc) (t0 : List Sc) (t6 : List Sc) (kA : Int → Option R) : f_s_DrawZeroOfLength_g2_k v0 v1 t0 t6 kA = (f_s_DrawZeroOfLength_g2 v0 v1 t0 t6).bind kA := by
  simp only [f_s_DrawZeroOfLength_g2_k, f_s_DrawZeroOfLength_g2, brB, someB, noneB]
theorem f_s_DrawZeroOfLength_bg2 : bodyOf Try.f73 100002 = .region 2 (opsAt (bodyOf Try.f73 100002)) true := by kernel_rfl
def f_s_DrawZeroOfLength_Dg2 : List (Array Bool) := [#[false, false, false, false, false, false, false, false, false, false, false], #[true, false, false, false, false, false, false, false, false, false, false], #[false, true, false, false, false, false, false, false, false, false, false], #[false, false, true, false, false, false, false, false, false, false, false], #[false, false, false, true, false, false, false, false, false, false, false], #[true, true, false, false, false, false, false, false, false, false, false], #[true, false, true, false, false, false, false, false, false, false, false], #[true, false, false, true, false, false, false, false, false, false, false], #[true, false, false, false, false, false, false, false, true, false, false], #[false, true, true, false, false, false, false, false, false, false, false], #[false, true, false, true, false, false, false, false, false, false, false], #[false, false, true, true, false, false, false, false, false, false, false], #[false, false, false, true, true, false, false, false, false, false, false], #[true, true, true, false, false, false, false, false, false, false, false], #[true, true, false, true, false, false, false, false, false, false, false], #[true, true, false, false, false, false, false, false, true, false, false], #[true, false, true, true, false, false, false, false, false, false, false], #[true, false, true, false, false, false, false, false, true, false, false], #[true, false, false, true, true, false, false, false, false, false, false], #[true, false, false, true, false, false, false, false, true, false, false], #[false, true, true, true, false, false, false, false, false, false, false], #[false, true, false, true, true, false, false, false, false, false, false], #[false, false, true, true, true, false, false, false, false, false, false], #[false, false, false, true, true, true, false, false, false, false, false], #[true, true, true, true, false, false, false, false, false, false, false], #[true, true, true, false, false, false, false, false, true, false, false], #[true, true, false, true, true, false, false, false, false, false, false], #[true, true, false, true, false, false, false, false, true, false, false], #[true, true, false, false, false, false, false, false, true, true, false], #[true, false, true, true, true, false, false, false, false, false, false], #[true, false, true, true, false, false, false, false, true, false, false], #[true, false, false, true, true, true, false, false, false, false, false], #[true, false, false, true, true, false, false, false, true, false, false], #[false, true, true, true, true, false, false, false, false, false, false], #[false, true, false, true, true, true, false, false, false, false, false], #[false, false, true, true, true, true, false, false, false, false, false], #[true, true, true, true, true, false, false, false, false, false, false], #[true, true, true, true, false, false, false, false, true, false, false], #[true, true, true, false, false, false, false, false, true, true, false], #[true, true, false, true, true, true, false, false, false, false, false], #[true, true, false, true, true, false, false, false, true, false, false], #[true, true, false, true, false, false, false, false, true, true, false], #[true, false, true, true, true, true, false, false, false, false, false], #[true, false, true, true, true, false, false, false, true, false, false], #[true, false, false, true, true, true, false, false, true, false, false], #[false, true, true, true, true, true, false, false, false, false, false], #[false, false, true, true, true, true, true, false, false, false, false], #[true, true, true, true, true, true, false, false, false, false, false], #[true, true, true, true, true, false, false, false, true, false, false], #[true, true, true, true, false, false, false, false, true, true, false], #[true, true, false, true, true, true, false, false, true, false, false], #[true, true, false, true, true, false, false, false, true, true, false], #[true, false, true, true, true, true, true, false, false, false, false], #[true, false, true, true, true, true, false, false, true, false, false], #[false, true, true, true, true, true, true, false, false, false, false], #[false, false, true, true, true, true, true, true, false, false, false], #[true, true, true, true, true, true, true, false, false, false, false], #[true, true, true, true, true, true, false, false, true, false, false], #[true, true, true, true, true, false, false, false, true, true, false], #[true, true, false, true, true, true, false, false, true, true, false], #[true, false, true, true, true, true, true, true, false, false, false], #[true, false, true, true, true, true, true, false, true, false, false], #[false, true, true, true, true, true, true, true, false, false, false], #[true, true, true, true, true, true, true, true, false, false, false], #[true, true, true, true, true, true, true, false, true, false, false], #[true, true, true, true, true, true, false, false, true, true, false], #[true, false, true, true, true, true, true, true, true, false, false], #[true, true, true, true, true, true, true, true, true, false, false], #[true, true, true, true, true, true, true, false, true, true, false], #[true, true, true, true, true, true, true, true, true, true, false], #[true, true, true, true, true, true, true, true, true, true, true]]
theorem f_s_DrawZeroOfLength_cg2 : closedB (opsAt (bodyOf Try.f73 100002)) f_s_DrawZeroOfLength_Dg2 = true := by kernel_rfl
def f_s_DrawZeroOfLength_sg2_0 (v0 : List Sc) (v1 : List Sc) (t0 : List Sc) (t6 : List Sc) (fr : List AV) : Option (List AV) :=
  some (setAll [] fr)
def f_s_DrawZeroOfLength_sg2_1 (v0 : List Sc) (v1 : List Sc) (t0 : List Sc) (t6 : List Sc) (fr : List AV) : Option (List AV) :=
  some (setAll [(16, .p (.go 1))] fr)
def f_s_DrawZeroOfLength_sg2_2 (v0 : List Sc) (v1 : List Sc) (t0 : List Sc) (t6 : List Sc) (fr : List AV) : Option (List AV) :=
  some (setAll [(17, .p (.al 10))] fr)
def f_s_DrawZeroOfLength_sg2_4 (v0 : List Sc) (v1 : List Sc) (t0 : List Sc) (t6 : List Sc) (fr : List AV) : Option (List AV) :=
  some (setAll [(18, .own 3 [(Sc.n .i64 1), (Sc.n .i64 2), (Sc.n .i64 3), (Sc.n .i64 4), (Sc.n .i64 0), (Sc.n .i64 13)])] fr)
def f_s_DrawZeroOfLength_sg2_8 (v0 : List Sc) (v1 : List Sc) (t0 : List Sc) (t6 : List Sc) (fr : List AV) : Option (List AV) :=
  some (setAll [(19, .p (.sl t0))] fr)
def f_s_DrawZeroOfLength_sg2_3 (v0 : List Sc) (v1 : List Sc) (t0 : List Sc) (t6 : List Sc) (fr : List AV) : Option (List AV) :=
  some (setAll [(16, .p (.go 1)), (17, .p (.al 10))] fr)
def f_s_DrawZeroOfLength_sg2_5 (v0 : List Sc) (v1 : List Sc) (t0 : List Sc) (t6 : List Sc) (fr : List AV) : Option (List AV) :=
  some (setAll [(16, .p (.go 1)), (18, .own 3 [(Sc.n .i64 1), (Sc.n .i64 2), (Sc.n .i64 3), (Sc.n .i64 4), (Sc.n .i64 0), (Sc.n .i64 13)])] fr)
def f_s_DrawZeroOfLength_sg2_9 (v0 : List Sc) (v1 : List Sc) (t0 : List Sc) (t6 : List Sc) (fr : List AV) : Option (List AV) :=
  some (setAll [(16, .p (.go 1)), (19, .p (.sl t0))] fr)
def f_s_DrawZeroOfLength_sg2_257 (v0 : List Sc) (v1 : List Sc) (t0 : List Sc) (t6 : List Sc) (fr : List AV) : Option (List AV) :=
  some (setAll [(0, .own 3 v1), (1, .p (.al 0)), (16, .p (.go 0))] fr)
def f_s_DrawZeroOfLength_sg2_6 (v0 : List Sc) (v1 : List Sc) (t0 : List Sc) (t6 : List Sc) (fr : List AV) : Option (List AV) :=
  some (setAll [(17, .p (.al 10)), (18, .own 3 [(Sc.n .i64 1), (Sc.n .i64 2), (Sc.n .i64 3), (Sc.n .i64 4), (Sc.n .i64 0), (Sc.n .i64 13)])] fr)
def f_s_DrawZeroOfLength_sg2_10 (v0 : List Sc) (v1 : List Sc) (t0 : List Sc) (t6 : List Sc) (fr : List AV) : Option (List AV) :=
  some (setAll [(17, .p (.al 10)), (19, .p (.sl t0))] fr)
def f_s_DrawZeroOfLength_sg2_12 (v0 : List Sc) (v1 : List Sc) (t0 : List Sc) (t6 : List Sc) (fr : List AV) : Option (List AV) :=
  some (setAll [(18, .own 3 [(Sc.n .i64 1), (Sc.n .i64 2), (Sc.n .i64 3), (Sc.n .i64 4), (Sc.n .i64 0), (Sc.n .i64 13)]), (19, .p (.sl t0))] fr)
def f_s_DrawZeroOfLength_sg2_24 (v0 : List Sc) (v1 : List Sc) (t0 : List Sc) (t6 : List Sc) (fr : List AV) : Option (List AV) :=
  some (setAll [(19, .p (.sl t0)), (20, .p (.sc (Sc.n .i64 (t0.length : Int))))] fr)
def f_s_DrawZeroOfLength_sg2_7 (v0 : List Sc) (v1 : List Sc) (t0 : List Sc) (t6 : List Sc) (fr : List AV) : Option (List AV) :=
  some (setAll [(16, .p (.go 1)), (17, .p (.al 10)), (18, .own 3 [(Sc.n .i64 1), (Sc.n .i64 2), (Sc.n .i64 3), (Sc.n .i64 4), (Sc.n .i64 0), (Sc.n .i64 13)])] fr)
def f_s_DrawZeroOfLength_sg2_11 (v0 : List Sc) (v1 : List Sc) (t0 : List Sc) (t6 : List Sc) (fr : List AV) : Option (List AV) :=
  some (setAll [(16, .p (.go 1)), (17, .p (.al 10)), (19, .p (.sl t0))] fr)
def f_s_DrawZeroOfLength_sg2_259 (v0 : List Sc) (v1 : List Sc) (t0 : List Sc) (t6 : List Sc) (fr : List AV) : Option (List AV) :=
  some (setAll [(0, .own 3 v1), (1, .p (.al 0)), (16, .p (.go 0)), (17, .p (.al 10))] fr)
def f_s_DrawZeroOfLength_sg2_13 (v0 : List Sc) (v1 : List Sc) (t0 : List Sc) (t6 : List Sc) (fr : List AV) : Option (List AV) :=
  some (setAll [(16, .p (.go 1)), (18, .own 3 [(Sc.n .i64 1), (Sc.n .i64 2), (Sc.n .i64 3), (Sc.n .i64 4), (Sc.n .i64 0), (Sc.n .i64 13)]), (19, .p (.sl t0))] fr)
def f_s_DrawZeroOfLength_sg2_261 (v0 : List Sc) (v1 : List Sc) (t0 : List Sc) (t6 : List Sc) (fr : List AV) : Option (List AV) :=
  some (setAll [(0, .own 3 v1), (1, .p (.al 0)), (16, .p (.go 0)), (18, .own 3 [(Sc.n .i64 1), (Sc.n .i64 2), (Sc.n .i64 3), (Sc.n .i64 4), (Sc.n .i64 0), (Sc.n .i64 13)])] fr)
def f_s_DrawZeroOfLength_sg2_25 (v0 : List Sc) (v1 : List Sc) (t0 : List Sc) (t6 : List Sc) (fr : List AV) : Option (List AV) :=
  some (setAll [(16, .p (.go 1)), (19, .p (.sl t0)), (20, .p (.sc (Sc.n .i64 (t0.length : Int))))] fr)
def f_s_DrawZeroOfLength_sg2_265 (v0 : List Sc) (v1 : List Sc) (t0 : List Sc) (t6 : List Sc) (fr : List AV) : Option (List AV) :=
  some (setAll [(0, .own 3 v1), (1, .p (.al 0)), (16, .p (.go 0)), (19, .p (.sl t0))] fr)
def f_s_DrawZeroOfLength_sg2_14 (v0 : List Sc) (v1 : List Sc) (t0 : List Sc) (t6 : List Sc) (fr : List AV) : Option (List AV) :=
  some (setAll [(17, .p (.al 10)), (18, .own 3 [(Sc.n .i64 1), (Sc.n .i64 2), (Sc.n .i64 3), (Sc.n .i64 4), (Sc.n .i64 0), (Sc.n .i64 13)]), (19, .p (.sl t0))] fr)
def f_s_DrawZeroOfLength_sg2_26 (v0 : List Sc) (v1 : List Sc) (t0 : List Sc) (t6 : List Sc) (fr : List AV) : Option (List AV) :=
  some (setAll [(17, .p (.al 10)), (19, .p (.sl t0)), (20, .p (.sc (Sc.n .i64 (t0.length : Int))))] fr)
def f_s_DrawZeroOfLength_sg2_28 (v0 : List Sc) (v1 : List Sc) (t0 : List Sc) (t6 : List Sc) (fr : List AV) : Option (List AV) :=
  some (setAll [(18, .own 3 [(Sc.n .i64 1), (Sc.n .i64 2), (Sc.n .i64 3), (Sc.n .i64 4), (Sc.n .i64 0), (Sc.n .i64 13)]), (19, .p (.sl t0)), (20, .p (.sc (Sc.n .i64 (t0.length : Int))))] fr)
def f_s_DrawZeroOfLength_sg2_56 (v0 : List Sc) (v1 : List Sc) (t0 : List Sc) (t6 : List Sc) (fr : List AV) : Option (List AV) :=
  some (setAll [(19, .p (.sl t0)), (20, .p (.sc (Sc.n .i64 (t0.length : Int)))), (21, .p (.sc (Sc.n .i64 ((t0.length : Int).tmod 6))))] fr)
def f_s_DrawZeroOfLength_sg2_15 (v0 : List Sc) (v1 : List Sc) (t0 : List Sc) (t6 : List Sc) (fr : List AV) : Option (List AV) :=
  some (setAll [(16, .p (.go 1)), (17, .p (.al 10)), (18, .own 3 [(Sc.n .i64 1), (Sc.n .i64 2), (Sc.n .i64 3), (Sc.n .i64 4), (Sc.n .i64 0), (Sc.n .i64 13)]), (19, .p (.sl t0))] fr)
def f_s_DrawZeroOfLength_sg2_263 (v0 : List Sc) (v1 : List Sc) (t0 : List Sc) (t6 : List Sc) (fr : List AV) : Option (List AV) :=
  some (setAll [(0, .own 3 v1), (1, .p (.al 0)), (16, .p (.go 0)), (17, .p (.al 10)), (18, .own 3 [(Sc.n .i64 1), (Sc.n .i64 2), (Sc.n .i64 3), (Sc.n .i64 4), (Sc.n .i64 0), (Sc.n .i64 13)])] fr)
def f_s_DrawZeroOfLength_sg2_27 (v0 : List Sc) (v1 : List Sc) (t0 : List Sc) (t6 : List Sc) (fr : List AV) : Option (List AV) :=
  some (setAll [(16, .p (.go 1)), (17, .p (.al 10)), (19, .p (.sl t0)), (20, .p (.sc (Sc.n .i64 (t0.length : Int))))] fr)
def f_s_DrawZeroOfLength_sg2_267 (v0 : List Sc) (v1 : List Sc) (t0 : List Sc) (t6 : List Sc) (fr : List AV) : Option (List AV) :=
  some (setAll [(0, .own 3 v1), (1, .p (.al 0)), (16, .p (.go 0)), (17, .p (.al 10)), (19, .p (.sl t0))] fr)
def f_s_DrawZeroOfLength_sg2_771 (v0 : List Sc) (v1 : List Sc) (t0 : List Sc) (t6 : List Sc) (fr : List AV) : Option (List AV) :=
  some (setAll [(0, .own 3 v1), (1, .p (.al 0)), (7, .own 3 t6), (10, .p (.al 7)), (16, .p (.go 0)), (17, .p (.al 7))] fr)
def f_s_DrawZeroOfLength_sg2_29 (v0 : List Sc) (v1 : List Sc) (t0 : List Sc) (t6 : List Sc) (fr : List AV) : Option (List AV) :=
  some (setAll [(16, .p (.go 1)), (18, .own 3 [(Sc.n .i64 1), (Sc.n .i64 2), (Sc.n .i64 3), (Sc.n .i64 4), (Sc.n .i64 0), (Sc.n .i64 13)]), (19, .p (.sl t0)), (20, .p (.sc (Sc.n .i64 (t0.length : Int))))] fr)
def f_s_DrawZeroOfLength_sg2_269 (v0 : List Sc) (v1 : List Sc) (t0 : List Sc) (t6 : List Sc) (fr : List AV) : Option (List AV) :=
  some (setAll [(0, .own 3 v1), (1, .p (.al 0)), (16, .p (.go 0)), (18, .own 3 [(Sc.n .i64 1), (Sc.n .i64 2), (Sc.n .i64 3), (Sc.n .i64 4), (Sc.n .i64 0), (Sc.n .i64 13)]), (19, .p (.sl t0))] fr)
def f_s_DrawZeroOfLength_sg2_57 (v0 : List Sc) (v1 : List Sc) (t0 : List Sc) (t6 : List Sc) (fr : List AV) : Option (List AV) :=
  some (setAll [(16, .p (.go 1)), (19, .p (.sl t0)), (20, .p (.sc (Sc.n .i64 (t0.length : Int)))), (21, .p (.sc (Sc.n .i64 ((t0.length : Int).tmod 6))))] fr)
def f_s_DrawZeroOfLength_sg2_281 (v0 : List Sc) (v1 : List Sc) (t0 : List Sc) (t6 : List Sc) (fr : List AV) : Option (List AV) :=
  some (setAll [(0, .own 3 v1), (1, .p (.al 0)), (16, .p (.go 0)), (19, .p (.sl t0)), (20, .p (.sc (Sc.n .i64 (t0.length : Int))))] fr)
def f_s_DrawZeroOfLength_sg2_30 (v0 : List Sc) (v1 : List Sc) (t0 : List Sc) (t6 : List Sc) (fr : List AV) : Option (List AV) :=
  some (setAll [(17, .p (.al 10)), (18, .own 3 [(Sc.n .i64 1), (Sc.n .i64 2), (Sc.n .i64 3), (Sc.n .i64 4), (Sc.n .i64 0), (Sc.n .i64 13)]), (19, .p (.sl t0)), (20, .p (.sc (Sc.n .i64 (t0.length : Int))))] fr)
def f_s_DrawZeroOfLength_sg2_58 (v0 : List Sc) (v1 : List Sc) (t0 : List Sc) (t6 : List Sc) (fr : List AV) : Option (List AV) :=
  some (setAll [(17, .p (.al 10)), (19, .p (.sl t0)), (20, .p (.sc (Sc.n .i64 (t0.length : Int)))), (21, .p (.sc (Sc.n .i64 ((t0.length : Int).tmod 6))))] fr)
def f_s_DrawZeroOfLength_sg2_60 (v0 : List Sc) (v1 : List Sc) (t0 : List Sc) (t6 : List Sc) (fr : List AV) : Option (List AV) :=
  some (setAll [(18, .own 3 [(Sc.n .i64 1), (Sc.n .i64 2), (Sc.n .i64 3), (Sc.n .i64 4), (Sc.n .i64 0), (Sc.n .i64 13)]), (19, .p (.sl t0)), (20, .p (.sc (Sc.n .i64 (t0.length : Int)))), (21, .p (.sc (Sc.n .i64 ((t0.length : Int).tmod 6))))] fr)
def f_s_DrawZeroOfLength_sg2_31 (v0 : List Sc) (v1 : List Sc) (t0 : List Sc) (t6 : List Sc) (fr : List AV) : Option (List AV) :=
  some (setAll [(16, .p (.go 1)), (17, .p (.al 10)), (18, .own 3 [(Sc.n .i64 1), (Sc.n .i64 2), (Sc.n .i64 3), (Sc.n .i64 4), (Sc.n .i64 0), (Sc.n .i64 13)]), (19, .p (.sl t0)), (20, .p (.sc (Sc.n .i64 (t0.length : Int))))] fr)
def f_s_DrawZeroOfLength_sg2_271 (v0 : List Sc) (v1 : List Sc) (t0 : List Sc) (t6 : List Sc) (fr : List AV) : Option (List AV) :=
  some (setAll [(0, .own 3 v1), (1, .p (.al 0)), (16, .p (.go 0)), (17, .p (.al 10)), (18, .own 3 [(Sc.n .i64 1), (Sc.n .i64 2), (Sc.n .i64 3), (Sc.n .i64 4), (Sc.n .i64 0), (Sc.n .i64 13)]), (19, .p (.sl t0))] fr)
def f_s_DrawZeroOfLength_sg2_775 (v0 : List Sc) (v1 : List Sc) (t0 : List Sc) (t6 : List Sc) (fr : List AV) : Option (List AV) :=
  some (setAll [(0, .own 3 v1), (1, .p (.al 0)), (7, .own 3 t6), (10, .p (.al 7)), (16, .p (.go 0)), (17, .p (.al 7)), (18, .own 3 [(Sc.n .i64 1), (Sc.n .i64 2), (Sc.n .i64 3), (Sc.n .i64 4), (Sc.n .i64 0), (Sc.n .i64 13)])] fr)
def f_s_DrawZeroOfLength_sg2_59 (v0 : List Sc) (v1 : List Sc) (t0 : List Sc) (t6 : List Sc) (fr : List AV) : Option (List AV) :=
  some (setAll [(16, .p (.go 1)), (17, .p (.al 10)), (19, .p (.sl t0)), (20, .p (.sc (Sc.n .i64 (t0.length : Int)))), (21, .p (.sc (Sc.n .i64 ((t0.length : Int).tmod 6))))] fr)
def f_s_DrawZeroOfLength_sg2_283 (v0 : List Sc) (v1 : List Sc) (t0 : List Sc) (t6 : List Sc) (fr : List AV) : Option (List AV) :=
  some (setAll [(0, .own 3 v1), (1, .p (.al 0)), (16, .p (.go 0)), (17, .p (.al 10)), (19, .p (.sl t0)), (20, .p (.sc (Sc.n .i64 (t0.length : Int))))] fr)
def f_s_DrawZeroOfLength_sg2_779 (v0 : List Sc) (v1 : List Sc) (t0 : List Sc) (t6 : List Sc) (fr : List AV) : Option (List AV) :=
  some (setAll [(0, .own 3 v1), (1, .p (.al 0)), (7, .own 3 t6), (10, .p (.al 7)), (16, .p (.go 0)), (17, .p (.al 7)), (19, .p (.sl t0))] fr)
def f_s_DrawZeroOfLength_sg2_61 (v0 : List Sc) (v1 : List Sc) (t0 : List Sc) (t6 : List Sc) (fr : List AV) : Option (List AV) :=
  some (setAll [(16, .p (.go 1)), (18, .own 3 [(Sc.n .i64 1), (Sc.n .i64 2), (Sc.n .i64 3), (Sc.n .i64 4), (Sc.n .i64 0), (Sc.n .i64 13)]), (19, .p (.sl t0)), (20, .p (.sc (Sc.n .i64 (t0.length : Int)))), (21, .p (.sc (Sc.n .i64 ((t0.length : Int).tmod 6))))] fr)
def f_s_DrawZeroOfLength_sg2_285 (v0 : List Sc) (v1 : List Sc) (t0 : List Sc) (t6 : List Sc) (fr : List AV) : Option (List AV) :=
  some (setAll [(0, .own 3 v1), (1, .p (.al 0)), (16, .p (.go 0)), (18, .own 3 [(Sc.n .i64 1), (Sc.n .i64 2), (Sc.n .i64 3), (Sc.n .i64 4), (Sc.n .i64 0), (Sc.n .i64 13)]), (19, .p (.sl t0)), (20, .p (.sc (Sc.n .i64 (t0.length : Int))))] fr)
def f_s_DrawZeroOfLength_sg2_313 (v0 : List Sc) (v1 : List Sc) (t0 : List Sc) (t6 : List Sc) (fr : List AV) : Option (List AV) :=
  some (setAll [(0, .own 3 v1), (1, .p (.al 0)), (16, .p (.go 0)), (19, .p (.sl t0)), (20, .p (.sc (Sc.n .i64 (t0.length : Int)))), (21, .p (.sc (Sc.n .i64 ((t0.length : Int).tmod 6))))] fr)
def f_s_DrawZeroOfLength_sg2_62 (v0 : List Sc) (v1 : List Sc) (t0 : List Sc) (t6 : List Sc) (fr : List AV) : Option (List AV) :=
  some (setAll [(17, .p (.al 10)), (18, .own 3 [(Sc.n .i64 1), (Sc.n .i64 2), (Sc.n .i64 3), (Sc.n .i64 4), (Sc.n .i64 0), (Sc.n .i64 13)]), (19, .p (.sl t0)), (20, .p (.sc (Sc.n .i64 (t0.length : Int)))), (21, .p (.sc (Sc.n .i64 ((t0.length : Int).tmod 6))))] fr)
def f_s_DrawZeroOfLength_sg2_124 (v0 : List Sc) (v1 : List Sc) (t0 : List Sc) (t6 : List Sc) (fr : List AV) : Option (List AV) :=
  br (inRange ((t0.length : Int).tmod 6) ([(Sc.n .i64 1), (Sc.n .i64 2), (Sc.n .i64 3), (Sc.n .i64 4), (Sc.n .i64 0), (Sc.n .i64 13)]).length)
    (some (setAll [(18, .own 3 [(Sc.n .i64 1), (Sc.n .i64 2), (Sc.n .i64 3), (Sc.n .i64 4), (Sc.n .i64 0), (Sc.n .i64 13)]), (19, .p (.sl t0)), (20, .p (.sc (Sc.n .i64 (t0.length : Int)))), (21, .p (.sc (Sc.n .i64 ((t0.length : Int).tmod 6)))), (22, .ep 18 (((t0.length : Int).tmod 6).toNat))] fr))
    none
def f_s_DrawZeroOfLength_sg2_63 (v0 : List Sc) (v1 : List Sc) (t0 : List Sc) (t6 : List Sc) (fr : List AV) : Option (List AV) :=
  some (setAll [(16, .p (.go 1)), (17, .p (.al 10)), (18, .own 3 [(Sc.n .i64 1), (Sc.n .i64 2), (Sc.n .i64 3), (Sc.n .i64 4), (Sc.n .i64 0), (Sc.n .i64 13)]), (19, .p (.sl t0)), (20, .p (.sc (Sc.n .i64 (t0.length : Int)))), (21, .p (.sc (Sc.n .i64 ((t0.length : Int).tmod 6))))] fr)
def f_s_DrawZeroOfLength_sg2_287 (v0 : List Sc) (v1 : List Sc) (t0 : List Sc) (t6 : List Sc) (fr : List AV) : Option (List AV) :=
  some (setAll [(0, .own 3 v1), (1, .p (.al 0)), (16, .p (.go 0)), (17, .p (.al 10)), (18, .own 3 [(Sc.n .i64 1), (Sc.n .i64 2), (Sc.n .i64 3), (Sc.n .i64 4), (Sc.n .i64 0), (Sc.n .i64 13)]), (19, .p (.sl t0)), (20, .p (.sc (Sc.n .i64 (t0.length : Int))))] fr)
def f_s_DrawZeroOfLength_sg2_783 (v0 : List Sc) (v1 : List Sc) (t0 : List Sc) (t6 : List Sc) (fr : List AV) : Option (List AV) :=
  some (setAll [(0, .own 3 v1), (1, .p (.al 0)), (7, .own 3 t6), (10, .p (.al 7)), (16, .p (.go 0)), (17, .p (.al 7)), (18, .own 3 [(Sc.n .i64 1), (Sc.n .i64 2), (Sc.n .i64 3), (Sc.n .i64 4), (Sc.n .i64 0), (Sc.n .i64 13)]), (19, .p (.sl t0))] fr)
def f_s_DrawZeroOfLength_sg2_315 (v0 : List Sc) (v1 : List Sc) (t0 : List Sc) (t6 : List Sc) (fr : List AV) : Option (List AV) :=
  some (setAll [(0, .own 3 v1), (1, .p (.al 0)), (16, .p (.go 0)), (17, .p (.al 10)), (19, .p (.sl t0)), (20, .p (.sc (Sc.n .i64 (t0.length : Int)))), (21, .p (.sc (Sc.n .i64 ((t0.length : Int).tmod 6))))] fr)
def f_s_DrawZeroOfLength_sg2_795 (v0 : List Sc) (v1 : List Sc) (t0 : List Sc) (t6 : List Sc) (fr : List AV) : Option (List AV) :=
  some (setAll [(0, .own 3 v1), (1, .p (.al 0)), (7, .own 3 t6), (10, .p (.al 7)), (16, .p (.go 0)), (17, .p (.al 7)), (19, .p (.sl t0)), (20, .p (.sc (Sc.n .i64 (t0.length : Int))))] fr)
def f_s_DrawZeroOfLength_sg2_125 (v0 : List Sc) (v1 : List Sc) (t0 : List Sc) (t6 : List Sc) (fr : List AV) : Option (List AV) :=
  br (inRange ((t0.length : Int).tmod 6) ([(Sc.n .i64 1), (Sc.n .i64 2), (Sc.n .i64 3), (Sc.n .i64 4), (Sc.n .i64 0), (Sc.n .i64 13)]).length)
    (some (setAll [(16, .p (.go 1)), (18, .own 3 [(Sc.n .i64 1), (Sc.n .i64 2), (Sc.n .i64 3), (Sc.n .i64 4), (Sc.n .i64 0), (Sc.n .i64 13)]), (19, .p (.sl t0)), (20, .p (.sc (Sc.n .i64 (t0.length : Int)))), (21, .p (.sc (Sc.n .i64 ((t0.length : Int).tmod 6)))), (22, .ep 18 (((t0.length : Int).tmod 6).toNat))] fr))
    none
def f_s_DrawZeroOfLength_sg2_317 (v0 : List Sc) (v1 : List Sc) (t0 : List Sc) (t6 : List Sc) (fr : List AV) : Option (List AV) :=
  some (setAll [(0, .own 3 v1), (1, .p (.al 0)), (16, .p (.go 0)), (18, .own 3 [(Sc.n .i64 1), (Sc.n .i64 2), (Sc.n .i64 3), (Sc.n .i64 4), (Sc.n .i64 0), (Sc.n .i64 13)]), (19, .p (.sl t0)), (20, .p (.sc (Sc.n .i64 (t0.length : Int)))), (21, .p (.sc (Sc.n .i64 ((t0.length : Int).tmod 6))))] fr)
def f_s_DrawZeroOfLength_sg2_126 (v0 : List Sc) (v1 : List Sc) (t0 : List Sc) (t6 : List Sc) (fr : List AV) : Option (List AV) :=
  br (inRange ((t0.length : Int).tmod 6) ([(Sc.n .i64 1), (Sc.n .i64 2), (Sc.n .i64 3), (Sc.n .i64 4), (Sc.n .i64 0), (Sc.n .i64 13)]).length)
    (some (setAll [(17, .p (.al 10)), (18, .own 3 [(Sc.n .i64 1), (Sc.n .i64 2), (Sc.n .i64 3), (Sc.n .i64 4), (Sc.n .i64 0), (Sc.n .i64 13)]), (19, .p (.sl t0)), (20, .p (.sc (Sc.n .i64 (t0.length : Int)))), (21, .p (.sc (Sc.n .i64 ((t0.length : Int).tmod 6)))), (22, .ep 18 (((t0.length : Int).tmod 6).toNat))] fr))
    none
def f_s_DrawZeroOfLength_sg2_252 (v0 : List Sc) (v1 : List Sc) (t0 : List Sc) (t6 : List Sc) (fr : List AV) : Option (List AV) :=
  br (inRange ((t0.length : Int).tmod 6) ([(Sc.n .i64 1), (Sc.n .i64 2), (Sc.n .i64 3), (Sc.n .i64 4), (Sc.n .i64 0), (Sc.n .i64 13)]).length)
    (br (kAt [(Sc.n .i64 1), (Sc.n .i64 2), (Sc.n .i64 3), (Sc.n .i64 4), (Sc.n .i64 0), (Sc.n .i64 13)] ((t0.length : Int).tmod 6).toNat)
      (some (setAll [(18, .own 3 [(Sc.n .i64 1), (Sc.n .i64 2), (Sc.n .i64 3), (Sc.n .i64 4), (Sc.n .i64 0), (Sc.n .i64 13)]), (19, .p (.sl t0)), (20, .p (.sc (Sc.n .i64 (t0.length : Int)))), (21, .p (.sc (Sc.n .i64 ((t0.length : Int).tmod 6)))), (22, .ep 18 (((t0.length : Int).tmod 6).toNat)), (23, .p (.sc (Sc.n .i64 (atN [(Sc.n .i64 1), (Sc.n .i64 2), (Sc.n .i64 3), (Sc.n .i64 4), (Sc.n .i64 0), (Sc.n .i64 13)] ((t0.length : Int).tmod 6).toNat))))] fr))
      none)
    none
def f_s_DrawZeroOfLength_sg2_127 (v0 : List Sc) (v1 : List Sc) (t0 : List Sc) (t6 : List Sc) (fr : List AV) : Option (List AV) :=
  br (inRange ((t0.length : Int).tmod 6) ([(Sc.n .i64 1), (Sc.n .i64 2), (Sc.n .i64 3), (Sc.n .i64 4), (Sc.n .i64 0), (Sc.n .i64 13)]).length)
    (some (setAll [(16, .p (.go 1)), (17, .p (.al 10)), (18, .own 3 [(Sc.n .i64 1), (Sc.n .i64 2), (Sc.n .i64 3), (Sc.n .i64 4), (Sc.n .i64 0), (Sc.n .i64 13)]), (19, .p (.sl t0)), (20, .p (.sc (Sc.n .i64 (t0.length : Int)))), (21, .p (.sc (Sc.n .i64 ((t0.length : Int).tmod 6)))), (22, .ep 18 (((t0.length : Int).tmod 6).toNat))] fr))
    none
def f_s_DrawZeroOfLength_sg2_319 (v0 : List Sc) (v1 : List Sc) (t0 : List Sc) (t6 : List Sc) (fr : List AV) : Option (List AV) :=
  some (setAll [(0, .own 3 v1), (1, .p (.al 0)), (16, .p (.go 0)), (17, .p (.al 10)), (18, .own 3 [(Sc.n .i64 1), (Sc.n .i64 2), (Sc.n .i64 3), (Sc.n .i64 4), (Sc.n .i64 0), (Sc.n .i64 13)]), (19, .p (.sl t0)), (20, .p (.sc (Sc.n .i64 (t0.length : Int)))), (21, .p (.sc (Sc.n .i64 ((t0.length : Int).tmod 6))))] fr)
def f_s_DrawZeroOfLength_sg2_799 (v0 : List Sc) (v1 : List Sc) (t0 : List Sc) (t6 : List Sc) (fr : List AV) : Option (List AV) :=
  some (setAll [(0, .own 3 v1), (1, .p (.al 0)), (7, .own 3 t6), (10, .p (.al 7)), (16, .p (.go 0)), (17, .p (.al 7)), (18, .own 3 [(Sc.n .i64 1), (Sc.n .i64 2), (Sc.n .i64 3), (Sc.n .i64 4), (Sc.n .i64 0), (Sc.n .i64 13)]), (19, .p (.sl t0)), (20, .p (.sc (Sc.n .i64 (t0.length : Int))))] fr)
def f_s_DrawZeroOfLength_sg2_827 (v0 : List Sc) (v1 : List Sc) (t0 : List Sc) (t6 : List Sc) (fr : List AV) : Option (List AV) :=
  some (setAll [(0, .own 3 v1), (1, .p (.al 0)), (7, .own 3 t6), (10, .p (.al 7)), (16, .p (.go 0)), (17, .p (.al 7)), (19, .p (.sl t0)), (20, .p (.sc (Sc.n .i64 (t0.length : Int)))), (21, .p (.sc (Sc.n .i64 ((t0.length : Int).tmod 6))))] fr)
def f_s_DrawZeroOfLength_sg2_253 (v0 : List Sc) (v1 : List Sc) (t0 : List Sc) (t6 : List Sc) (fr : List AV) : Option (List AV) :=
  br (inRange ((t0.length : Int).tmod 6) ([(Sc.n .i64 1), (Sc.n .i64 2), (Sc.n .i64 3), (Sc.n .i64 4), (Sc.n .i64 0), (Sc.n .i64 13)]).length)
    (br (kAt [(Sc.n .i64 1), (Sc.n .i64 2), (Sc.n .i64 3), (Sc.n .i64 4), (Sc.n .i64 0), (Sc.n .i64 13)] ((t0.length : Int).tmod 6).toNat)
      (some (setAll [(16, .p (.go 1)), (18, .own 3 [(Sc.n .i64 1), (Sc.n .i64 2), (Sc.n .i64 3), (Sc.n .i64 4), (Sc.n .i64 0), (Sc.n .i64 13)]), (19, .p (.sl t0)), (20, .p (.sc (Sc.n .i64 (t0.length : Int)))), (21, .p (.sc (Sc.n .i64 ((t0.length : Int).tmod 6)))), (22, .ep 18 (((t0.length : Int).tmod 6).toNat)), (23, .p (.sc (Sc.n .i64 (atN [(Sc.n .i64 1), (Sc.n .i64 2), (Sc.n .i64 3), (Sc.n .i64 4), (Sc.n .i64 0), (Sc.n .i64 13)] ((t0.length : Int).tmod 6).toNat))))] fr))
      none)
    none
def f_s_DrawZeroOfLength_sg2_381 (v0 : List Sc) (v1 : List Sc) (t0 : List Sc) (t6 : List Sc) (fr : List AV) : Option (List AV) :=
  br (inRange ((t0.length : Int).tmod 6) ([(Sc.n .i64 1), (Sc.n .i64 2), (Sc.n .i64 3), (Sc.n .i64 4), (Sc.n .i64 0), (Sc.n .i64 13)]).length)
    (some (setAll [(0, .own 3 v1), (1, .p (.al 0)), (16, .p (.go 0)), (18, .own 3 [(Sc.n .i64 1), (Sc.n .i64 2), (Sc.n .i64 3), (Sc.n .i64 4), (Sc.n .i64 0), (Sc.n .i64 13)]), (19, .p (.sl t0)), (20, .p (.sc (Sc.n .i64 (t0.length : Int)))), (21, .p (.sc (Sc.n .i64 ((t0.length : Int).tmod 6)))), (22, .ep 18 (((t0.length : Int).tmod 6).toNat))] fr))
    none
def f_s_DrawZeroOfLength_sg2_254 (v0 : List Sc) (v1 : List Sc) (t0 : List Sc) (t6 : List Sc) (fr : List AV) : Option (List AV) :=
  br (inRange ((t0.length : Int).tmod 6) ([(Sc.n .i64 1), (Sc.n .i64 2), (Sc.n .i64 3), (Sc.n .i64 4), (Sc.n .i64 0), (Sc.n .i64 13)]).length)
    (br (kAt [(Sc.n .i64 1), (Sc.n .i64 2), (Sc.n .i64 3), (Sc.n .i64 4), (Sc.n .i64 0), (Sc.n .i64 13)] ((t0.length : Int).tmod 6).toNat)
      (some (setAll [(17, .p (.al 10)), (18, .own 3 [(Sc.n .i64 1), (Sc.n .i64 2), (Sc.n .i64 3), (Sc.n .i64 4), (Sc.n .i64 0), (Sc.n .i64 13)]), (19, .p (.sl t0)), (20, .p (.sc (Sc.n .i64 (t0.length : Int)))), (21, .p (.sc (Sc.n .i64 ((t0.length : Int).tmod 6)))), (22, .ep 18 (((t0.length : Int).tmod 6).toNat)), (23, .p (.sc (Sc.n .i64 (atN [(Sc.n .i64 1), (Sc.n .i64 2), (Sc.n .i64 3), (Sc.n .i64 4), (Sc.n .i64 0), (Sc.n .i64 13)] ((t0.length : Int).tmod 6).toNat))))] fr))
      none)
    none
def f_s_DrawZeroOfLength_sg2_255 (v0 : List Sc) (v1 : List Sc) (t0 : List Sc) (t6 : List Sc) (fr : List AV) : Option (List AV) :=
  br (inRange ((t0.length : Int).tmod 6) ([(Sc.n .i64 1), (Sc.n .i64 2), (Sc.n .i64 3), (Sc.n .i64 4), (Sc.n .i64 0), (Sc.n .i64 13)]).length)
    (br (kAt [(Sc.n .i64 1), (Sc.n .i64 2), (Sc.n .i64 3), (Sc.n .i64 4), (Sc.n .i64 0), (Sc.n .i64 13)] ((t0.length : Int).tmod 6).toNat)
      (some (setAll [(16, .p (.go 1)), (17, .p (.al 10)), (18, .own 3 [(Sc.n .i64 1), (Sc.n .i64 2), (Sc.n .i64 3), (Sc.n .i64 4), (Sc.n .i64 0), (Sc.n .i64 13)]), (19, .p (.sl t0)), (20, .p (.sc (Sc.n .i64 (t0.length : Int)))), (21, .p (.sc (Sc.n .i64 ((t0.length : Int).tmod 6)))), (22, .ep 18 (((t0.length : Int).tmod 6).toNat)), (23, .p (.sc (Sc.n .i64 (atN [(Sc.n .i64 1), (Sc.n .i64 2), (Sc.n .i64 3), (Sc.n .i64 4), (Sc.n .i64 0), (Sc.n .i64 13)] ((t0.length : Int).tmod 6).toNat))))] fr))
      none)
    none
def f_s_DrawZeroOfLength_sg2_383 (v0 : List Sc) (v1 : List Sc) (t0 : List Sc) (t6 : List Sc) (fr : List AV) : Option (List AV) :=
  br (inRange ((t0.length : Int).tmod 6) ([(Sc.n .i64 1), (Sc.n .i64 2), (Sc.n .i64 3), (Sc.n .i64 4), (Sc.n .i64 0), (Sc.n .i64 13)]).length)
    (some (setAll [(0, .own 3 v1), (1, .p (.al 0)), (16, .p (.go 0)), (17, .p (.al 10)), (18, .own 3 [(Sc.n .i64 1), (Sc.n .i64 2), (Sc.n .i64 3), (Sc.n .i64 4), (Sc.n .i64 0), (Sc.n .i64 13)]), (19, .p (.sl t0)), (20, .p (.sc (Sc.n .i64 (t0.length : Int)))), (21, .p (.sc (Sc.n .i64 ((t0.length : Int).tmod 6)))), (22, .ep 18 (((t0.length : Int).tmod 6).toNat))] fr))
    none
def f_s_DrawZeroOfLength_sg2_831 (v0 : List Sc) (v1 : List Sc) (t0 : List Sc) (t6 : List Sc) (fr : List AV) : Option (List AV) :=
  some (setAll [(0, .own 3 v1), (1, .p (.al 0)), (7, .own 3 t6), (10, .p (.al 7)), (16, .p (.go 0)), (17, .p (.al 7)), (18, .own 3 [(Sc.n .i64 1), (Sc.n .i64 2), (Sc.n .i64 3), (Sc.n .i64 4), (Sc.n .i64 0), (Sc.n .i64 13)]), (19, .p (.sl t0)), (20, .p (.sc (Sc.n .i64 (t0.length : Int)))), (21, .p (.sc (Sc.n .i64 ((t0.length : Int).tmod 6))))] fr)
def f_s_DrawZeroOfLength_sg2_509 (v0 : List Sc) (v1 : List Sc) (t0 : List Sc) (t6 : List Sc) (fr : List AV) : Option (List AV) :=
  br (inRange ((t0.length : Int).tmod 6) ([(Sc.n .i64 1), (Sc.n .i64 2), (Sc.n .i64 3), (Sc.n .i64 4), (Sc.n .i64 0), (Sc.n .i64 13)]).length)
    (br (kAt [(Sc.n .i64 1), (Sc.n .i64 2), (Sc.n .i64 3), (Sc.n .i64 4), (Sc.n .i64 0), (Sc.n .i64 13)] ((t0.length : Int).tmod 6).toNat)
      (some (setAll [(0, .own 3 v1), (1, .p (.al 0)), (16, .p (.go 0)), (18, .own 3 [(Sc.n .i64 1), (Sc.n .i64 2), (Sc.n .i64 3), (Sc.n .i64 4), (Sc.n .i64 0), (Sc.n .i64 13)]), (19, .p (.sl t0)), (20, .p (.sc (Sc.n .i64 (t0.length : Int)))), (21, .p (.sc (Sc.n .i64 ((t0.length : Int).tmod 6)))), (22, .ep 18 (((t0.length : Int).tmod 6).toNat)), (23, .p (.sc (Sc.n .i64 (atN [(Sc.n .i64 1), (Sc.n .i64 2), (Sc.n .i64 3), (Sc.n .i64 4), (Sc.n .i64 0), (Sc.n .i64 13)] ((t0.length : Int).tmod 6).toNat))))] fr))
      none)
    none
def f_s_DrawZeroOfLength_sg2_511 (v0 : List Sc) (v1 : List Sc) (t0 : List Sc) (t6 : List Sc) (fr : List AV) : Option (List AV) :=
  br (inRange ((t0.length : Int).tmod 6) ([(Sc.n .i64 1), (Sc.n .i64 2), (Sc.n .i64 3), (Sc.n .i64 4), (Sc.n .i64 0), (Sc.n .i64 13)]).length)
    (br (kAt [(Sc.n .i64 1), (Sc.n .i64 2), (Sc.n .i64 3), (Sc.n .i64 4), (Sc.n .i64 0), (Sc.n .i64 13)] ((t0.length : Int).tmod 6).toNat)
      (some (setAll [(0, .own 3 v1), (1, .p (.al 0)), (16, .p (.go 0)), (17, .p (.al 10)), (18, .own 3 [(Sc.n .i64 1), (Sc.n .i64 2), (Sc.n .i64 3), (Sc.n .i64 4), (Sc.n .i64 0), (Sc.n .i64 13)]), (19, .p (.sl t0)), (20, .p (.sc (Sc.n .i64 (t0.length : Int)))), (21, .p (.sc (Sc.n .i64 ((t0.length : Int).tmod 6)))), (22, .ep 18 (((t0.length : Int).tmod 6).toNat)), (23, .p (.sc (Sc.n .i64 (atN [(Sc.n .i64 1), (Sc.n .i64 2), (Sc.n .i64 3), (Sc.n .i64 4), (Sc.n .i64 0), (Sc.n .i64 13)] ((t0.length : Int).tmod 6).toNat))))] fr))
      none)
    none
def f_s_DrawZeroOfLength_sg2_895 (v0 : List Sc) (v1 : List Sc) (t0 : List Sc) (t6 : List Sc) (fr : List AV) : Option (List AV) :=
  br (inRange ((t0.length : Int).tmod 6) ([(Sc.n .i64 1), (Sc.n .i64 2), (Sc.n .i64 3), (Sc.n .i64 4), (Sc.n .i64 0), (Sc.n .i64 13)]).length)
    (some (setAll [(0, .own 3 v1), (1, .p (.al 0)), (7, .own 3 t6), (10, .p (.al 7)), (16, .p (.go 0)), (17, .p (.al 7)), (18, .own 3 [(Sc.n .i64 1), (Sc.n .i64 2), (Sc.n .i64 3), (Sc.n .i64 4), (Sc.n .i64 0), (Sc.n .i64 13)]), (19, .p (.sl t0)), (20, .p (.sc (Sc.n .i64 (t0.length : Int)))), (21, .p (.sc (Sc.n .i64 ((t0.length : Int).tmod 6)))), (22, .ep 18 (((t0.length : Int).tmod 6).toNat))] fr))
    none
def f_s_DrawZeroOfLength_sg2_1023 (v0 : List Sc) (v1 : List Sc) (t0 : List Sc) (t6 : List Sc) (fr : List AV) : Option (List AV) :=
  br (inRange ((t0.length : Int).tmod 6) ([(Sc.n .i64 1), (Sc.n .i64 2), (Sc.n .i64 3), (Sc.n .i64 4), (Sc.n .i64 0), (Sc.n .i64 13)]).length)
    (br (kAt [(Sc.n .i64 1), (Sc.n .i64 2), (Sc.n .i64 3), (Sc.n .i64 4), (Sc.n .i64 0), (Sc.n .i64 13)] ((t0.length : Int).tmod 6).toNat)
      (some (setAll [(0, .own 3 v1), (1, .p (.al 0)), (7, .own 3 t6), (10, .p (.al 7)), (16, .p (.go 0)), (17, .p (.al 7)), (18, .own 3 [(Sc.n .i64 1), (Sc.n .i64 2), (Sc.n .i64 3), (Sc.n .i64 4), (Sc.n .i64 0), (Sc.n .i64 13)]), (19, .p (.sl t0)), (20, .p (.sc (Sc.n .i64 (t0.length : Int)))), (21, .p (.sc (Sc.n .i64 ((t0.length : Int).tmod 6)))), (22, .ep 18 (((t0.length : Int).tmod 6).toNat)), (23, .p (.sc (Sc.n .i64 (atN [(Sc.n .i64 1), (Sc.n .i64 2), (Sc.n .i64 3), (Sc.n .i64 4), (Sc.n .i64 0), (Sc.n .i64 13)] ((t0.length : Int).tmod 6).toNat))))] fr))
      none)
    none
def f_s_DrawZeroOfLength_sg2_2047 (v0 : List Sc) (v1 : List Sc) (t0 : List Sc) (t6 : List Sc) (fr : List AV) : Option (List AV) :=
  br (inRange ((t0.length : Int).tmod 6) ([(Sc.n .i64 1), (Sc.n .i64 2), (Sc.n .i64 3), (Sc.n .i64 4), (Sc.n .i64 0), (Sc.n .i64 13)]).length)
    (br (kAt [(Sc.n .i64 1), (Sc.n .i64 2), (Sc.n .i64 3), (Sc.n .i64 4), (Sc.n .i64 0), (Sc.n .i64 13)] ((t0.length : Int).tmod 6).toNat)
      (some (setAll [(0, .own 3 v1), (1, .p (.al 0)), (7, .own 3 t6), (8, .p (.sc (Sc.n .i64 (atN [(Sc.n .i64 1), (Sc.n .i64 2), (Sc.n .i64 3), (Sc.n .i64 4), (Sc.n .i64 0), (Sc.n .i64 13)] ((t0.length : Int).tmod 6).toNat)))), (10, .p (.al 7)), (16, .p (.go 0)), (17, .p (.al 7)), (18, .own 3 [(Sc.n .i64 1), (Sc.n .i64 2), (Sc.n .i64 3), (Sc.n .i64 4), (Sc.n .i64 0), (Sc.n .i64 13)]), (19, .p (.sl t0)), (20, .p (.sc (Sc.n .i64 (t0.length : Int)))), (21, .p (.sc (Sc.n .i64 ((t0.length : Int).tmod 6)))), (22, .ep 18 (((t0.length : Int).tmod 6).toNat)), (23, .p (.sc (Sc.n .i64 (atN [(Sc.n .i64 1), (Sc.n .i64 2), (Sc.n .i64 3), (Sc.n .i64 4), (Sc.n .i64 0), (Sc.n .i64 13)] ((t0.length : Int).tmod 6).toNat))))] fr))
      none)
    none
def f_s_DrawZeroOfLength_Eg2 (v0 : List Sc) (v1 : List Sc) (t0 : List Sc) (t6 : List Sc) (fr : List AV) : List (Option (List AV)) := [f_s_DrawZeroOfLength_sg2_1 v0 v1 t0 t6 fr, f_s_DrawZeroOfLength_sg2_2 v0 v1 t0 t6 fr, f_s_DrawZeroOfLength_sg2_4 v0 v1 t0 t6 fr, f_s_DrawZeroOfLength_sg2_8 v0 v1 t0 t6 fr, f_s_DrawZeroOfLength_sg2_3 v0 v1 t0 t6 fr, f_s_DrawZeroOfLength_sg2_5 v0 v1 t0 t6 fr, f_s_DrawZeroOfLength_sg2_9 v0 v1 t0 t6 fr, f_s_DrawZeroOfLength_sg2_257 v0 v1 t0 t6 fr, f_s_DrawZeroOfLength_sg2_3 v0 v1 t0 t6 fr, f_s_DrawZeroOfLength_sg2_6 v0 v1 t0 t6 fr, f_s_DrawZeroOfLength_sg2_10 v0 v1 t0 t6 fr, f_s_DrawZeroOfLength_sg2_5 v0 v1 t0 t6 fr, f_s_DrawZeroOfLength_sg2_6 v0 v1 t0 t6 fr, f_s_DrawZeroOfLength_sg2_12 v0 v1 t0 t6 fr, f_s_DrawZeroOfLength_sg2_9 v0 v1 t0 t6 fr, f_s_DrawZeroOfLength_sg2_10 v0 v1 t0 t6 fr, f_s_DrawZeroOfLength_sg2_12 v0 v1 t0 t6 fr, f_s_DrawZeroOfLength_sg2_24 v0 v1 t0 t6 fr, f_s_DrawZeroOfLength_sg2_7 v0 v1 t0 t6 fr, f_s_DrawZeroOfLength_sg2_11 v0 v1 t0 t6 fr, f_s_DrawZeroOfLength_sg2_259 v0 v1 t0 t6 fr, f_s_DrawZeroOfLength_sg2_7 v0 v1 t0 t6 fr, f_s_DrawZeroOfLength_sg2_13 v0 v1 t0 t6 fr, f_s_DrawZeroOfLength_sg2_261 v0 v1 t0 t6 fr, f_s_DrawZeroOfLength_sg2_11 v0 v1 t0 t6 fr, f_s_DrawZeroOfLength_sg2_13 v0 v1 t0 t6 fr, f_s_DrawZeroOfLength_sg2_25 v0 v1 t0 t6 fr, f_s_DrawZeroOfLength_sg2_265 v0 v1 t0 t6 fr, f_s_DrawZeroOfLength_sg2_259 v0 v1 t0 t6 fr, f_s_DrawZeroOfLength_sg2_261 v0 v1 t0 t6 fr, f_s_DrawZeroOfLength_sg2_265 v0 v1 t0 t6 fr, f_s_DrawZeroOfLength_sg2_7 v0 v1 t0 t6 fr, f_s_DrawZeroOfLength_sg2_14 v0 v1 t0 t6 fr, f_s_DrawZeroOfLength_sg2_11 v0 v1 t0 t6 fr, f_s_DrawZeroOfLength_sg2_14 v0 v1 t0 t6 fr, f_s_DrawZeroOfLength_sg2_26 v0 v1 t0 t6 fr, f_s_DrawZeroOfLength_sg2_13 v0 v1 t0 t6 fr, f_s_DrawZeroOfLength_sg2_14 v0 v1 t0 t6 fr, f_s_DrawZeroOfLength_sg2_28 v0 v1 t0 t6 fr, f_s_DrawZeroOfLength_sg2_25 v0 v1 t0 t6 fr, f_s_DrawZeroOfLength_sg2_26 v0 v1 t0 t6 fr, f_s_DrawZeroOfLength_sg2_28 v0 v1 t0 t6 fr, f_s_DrawZeroOfLength_sg2_56 v0 v1 t0 t6 fr, f_s_DrawZeroOfLength_sg2_15 v0 v1 t0 t6 fr, f_s_DrawZeroOfLength_sg2_263 v0 v1 t0 t6 fr, f_s_DrawZeroOfLength_sg2_15 v0 v1 t0 t6 fr, f_s_DrawZeroOfLength_sg2_27 v0 v1 t0 t6 fr, f_s_DrawZeroOfLength_sg2_267 v0 v1 t0 t6 fr, f_s_DrawZeroOfLength_sg2_263 v0 v1 t0 t6 fr, f_s_DrawZeroOfLength_sg2_267 v0 v1 t0 t6 fr, f_s_DrawZeroOfLength_sg2_771 v0 v1 t0 t6 fr, f_s_DrawZeroOfLength_sg2_15 v0 v1 t0 t6 fr, f_s_DrawZeroOfLength_sg2_29 v0 v1 t0 t6 fr, f_s_DrawZeroOfLength_sg2_269 v0 v1 t0 t6 fr, f_s_DrawZeroOfLength_sg2_263 v0 v1 t0 t6 fr, f_s_DrawZeroOfLength_sg2_269 v0 v1 t0 t6 fr, f_s_DrawZeroOfLength_sg2_27 v0 v1 t0 t6 fr, f_s_DrawZeroOfLength_sg2_29 v0 v1 t0 t6 fr, f_s_DrawZeroOfLength_sg2_57 v0 v1 t0 t6 fr, f_s_DrawZeroOfLength_sg2_281 v0 v1 t0 t6 fr, f_s_DrawZeroOfLength_sg2_267 v0 v1 t0 t6 fr, f_s_DrawZeroOfLength_sg2_269 v0 v1 t0 t6 fr, f_s_DrawZeroOfLength_sg2_281 v0 v1 t0 t6 fr, f_s_DrawZeroOfLength_sg2_15 v0 v1 t0 t6 fr, f_s_DrawZeroOfLength_sg2_30 v0 v1 t0 t6 fr, f_s_DrawZeroOfLength_sg2_27 v0 v1 t0 t6 fr, f_s_DrawZeroOfLength_sg2_30 v0 v1 t0 t6 fr, f_s_DrawZeroOfLength_sg2_58 v0 v1 t0 t6 fr, f_s_DrawZeroOfLength_sg2_29 v0 v1 t0 t6 fr, f_s_DrawZeroOfLength_sg2_30 v0 v1 t0 t6 fr, f_s_DrawZeroOfLength_sg2_60 v0 v1 t0 t6 fr, f_s_DrawZeroOfLength_sg2_57 v0 v1 t0 t6 fr, f_s_DrawZeroOfLength_sg2_58 v0 v1 t0 t6 fr, f_s_DrawZeroOfLength_sg2_60 v0 v1 t0 t6 fr, f_s_DrawZeroOfLength_sg2_31 v0 v1 t0 t6 fr, f_s_DrawZeroOfLength_sg2_271 v0 v1 t0 t6 fr, f_s_DrawZeroOfLength_sg2_271 v0 v1 t0 t6 fr, f_s_DrawZeroOfLength_sg2_775 v0 v1 t0 t6 fr, f_s_DrawZeroOfLength_sg2_31 v0 v1 t0 t6 fr, f_s_DrawZeroOfLength_sg2_59 v0 v1 t0 t6 fr, f_s_DrawZeroOfLength_sg2_283 v0 v1 t0 t6 fr, f_s_DrawZeroOfLength_sg2_271 v0 v1 t0 t6 fr, f_s_DrawZeroOfLength_sg2_283 v0 v1 t0 t6 fr, f_s_DrawZeroOfLength_sg2_779 v0 v1 t0 t6 fr, f_s_DrawZeroOfLength_sg2_775 v0 v1 t0 t6 fr, f_s_DrawZeroOfLength_sg2_779 v0 v1 t0 t6 fr, f_s_DrawZeroOfLength_sg2_31 v0 v1 t0 t6 fr, f_s_DrawZeroOfLength_sg2_61 v0 v1 t0 t6 fr, f_s_DrawZeroOfLength_sg2_285 v0 v1 t0 t6 fr, f_s_DrawZeroOfLength_sg2_271 v0 v1 t0 t6 fr, f_s_DrawZeroOfLength_sg2_285 v0 v1 t0 t6 fr, f_s_DrawZeroOfLength_sg2_59 v0 v1 t0 t6 fr, f_s_DrawZeroOfLength_sg2_61 v0 v1 t0 t6 fr, f_s_DrawZeroOfLength_sg2_313 v0 v1 t0 t6 fr, f_s_DrawZeroOfLength_sg2_283 v0 v1 t0 t6 fr, f_s_DrawZeroOfLength_sg2_285 v0 v1 t0 t6 fr, f_s_DrawZeroOfLength_sg2_313 v0 v1 t0 t6 fr, f_s_DrawZeroOfLength_sg2_31 v0 v1 t0 t6 fr, f_s_DrawZeroOfLength_sg2_62 v0 v1 t0 t6 fr, f_s_DrawZeroOfLength_sg2_59 v0 v1 t0 t6 fr, f_s_DrawZeroOfLength_sg2_62 v0 v1 t0 t6 fr, f_s_DrawZeroOfLength_sg2_61 v0 v1 t0 t6 fr, f_s_DrawZeroOfLength_sg2_62 v0 v1 t0 t6 fr, f_s_DrawZeroOfLength_sg2_124 v0 v1 t0 t6 fr, f_s_DrawZeroOfLength_sg2_63 v0 v1 t0 t6 fr, f_s_DrawZeroOfLength_sg2_287 v0 v1 t0 t6 fr, f_s_DrawZeroOfLength_sg2_287 v0 v1 t0 t6 fr, f_s_DrawZeroOfLength_sg2_783 v0 v1 t0 t6 fr, f_s_DrawZeroOfLength_sg2_783 v0 v1 t0 t6 fr, f_s_DrawZeroOfLength_sg2_63 v0 v1 t0 t6 fr, f_s_DrawZeroOfLength_sg2_315 v0 v1 t0 t6 fr, f_s_DrawZeroOfLength_sg2_287 v0 v1 t0 t6 fr, f_s_DrawZeroOfLength_sg2_315 v0 v1 t0 t6 fr, f_s_DrawZeroOfLength_sg2_795 v0 v1 t0 t6 fr, f_s_DrawZeroOfLength_sg2_783 v0 v1 t0 t6 fr, f_s_DrawZeroOfLength_sg2_795 v0 v1 t0 t6 fr, f_s_DrawZeroOfLength_sg2_63 v0 v1 t0 t6 fr, f_s_DrawZeroOfLength_sg2_125 v0 v1 t0 t6 fr, f_s_DrawZeroOfLength_sg2_317 v0 v1 t0 t6 fr, f_s_DrawZeroOfLength_sg2_287 v0 v1 t0 t6 fr, f_s_DrawZeroOfLength_sg2_317 v0 v1 t0 t6 fr, f_s_DrawZeroOfLength_sg2_315 v0 v1 t0 t6 fr, f_s_DrawZeroOfLength_sg2_317 v0 v1 t0 t6 fr, f_s_DrawZeroOfLength_sg2_63 v0 v1 t0 t6 fr, f_s_DrawZeroOfLength_sg2_126 v0 v1 t0 t6 fr, f_s_DrawZeroOfLength_sg2_125 v0 v1 t0 t6 fr, f_s_DrawZeroOfLength_sg2_126 v0 v1 t0 t6 fr, f_s_DrawZeroOfLength_sg2_252 v0 v1 t0 t6 fr, f_s_DrawZeroOfLength_sg2_127 v0 v1 t0 t6 fr, f_s_DrawZeroOfLength_sg2_319 v0 v1 t0 t6 fr, f_s_DrawZeroOfLength_sg2_319 v0 v1 t0 t6 fr, f_s_DrawZeroOfLength_sg2_799 v0 v1 t0 t6 fr, f_s_DrawZeroOfLength_sg2_799 v0 v1 t0 t6 fr, f_s_DrawZeroOfLength_sg2_319 v0 v1 t0 t6 fr, f_s_DrawZeroOfLength_sg2_827 v0 v1 t0 t6 fr, f_s_DrawZeroOfLength_sg2_799 v0 v1 t0 t6 fr, f_s_DrawZeroOfLength_sg2_827 v0 v1 t0 t6 fr, f_s_DrawZeroOfLength_sg2_127 v0 v1 t0 t6 fr, f_s_DrawZeroOfLength_sg2_253 v0 v1 t0 t6 fr, f_s_DrawZeroOfLength_sg2_381 v0 v1 t0 t6 fr, f_s_DrawZeroOfLength_sg2_319 v0 v1 t0 t6 fr, f_s_DrawZeroOfLength_sg2_381 v0 v1 t0 t6 fr, f_s_DrawZeroOfLength_sg2_127 v0 v1 t0 t6 fr, f_s_DrawZeroOfLength_sg2_254 v0 v1 t0 t6 fr, f_s_DrawZeroOfLength_sg2_253 v0 v1 t0 t6 fr, f_s_DrawZeroOfLength_sg2_254 v0 v1 t0 t6 fr, f_s_DrawZeroOfLength_sg2_255 v0 v1 t0 t6 fr, f_s_DrawZeroOfLength_sg2_383 v0 v1 t0 t6 fr, f_s_DrawZeroOfLength_sg2_383 v0 v1 t0 t6 fr, f_s_DrawZeroOfLength_sg2_831 v0 v1 t0 t6 fr, f_s_DrawZeroOfLength_sg2_831 v0 v1 t0 t6 fr, f_s_DrawZeroOfLength_sg2_831 v0 v1 t0 t6 fr, f_s_DrawZeroOfLength_sg2_255 v0 v1 t0 t6 fr, f_s_DrawZeroOfLength_sg2_509 v0 v1 t0 t6 fr, f_s_DrawZeroOfLength_sg2_383 v0 v1 t0 t6 fr, f_s_DrawZeroOfLength_sg2_509 v0 v1 t0 t6 fr, f_s_DrawZeroOfLength_sg2_255 v0 v1 t0 t6 fr, f_s_DrawZeroOfLength_sg2_511 v0 v1 t0 t6 fr, f_s_DrawZeroOfLength_sg2_511 v0 v1 t0 t6 fr, f_s_DrawZeroOfLength_sg2_895 v0 v1 t0 t6 fr, f_s_DrawZeroOfLength_sg2_895 v0 v1 t0 t6 fr, f_s_DrawZeroOfLength_sg2_511 v0 v1 t0 t6 fr, f_s_DrawZeroOfLength_sg2_1023 v0 v1 t0 t6 fr, f_s_DrawZeroOfLength_sg2_1023 v0 v1 t0 t6 fr, f_s_DrawZeroOfLength_sg2_2047 v0 v1 t0 t6 fr]
theorem f_s_DrawZeroOfLength_dLg2 (v0 : List Sc) (v1 : List Sc) (t0 : List Sc) (t6 : List Sc) : edgeL E0 f_s_DrawZeroOfLength_M H0 f_s_DrawZeroOfLength_F (opsAt (bodyOf Try.f73 100002)) f_s_DrawZeroOfLength_Dg2 (f_s_DrawZeroOfLength_frg2 v0 v1 t0 t6) = f_s_DrawZeroOfLength_Eg2 v0 v1 t0 t6 (f_s_DrawZeroOfLength_frg2 v0 v1 t0 t6) := by kernel_rfl
theorem f_s_DrawZeroOfLength_dRg2 (v0 : List Sc) (v1 : List Sc) (t0 : List Sc) (t6 : List Sc) : edgeR E0 f_s_DrawZeroOfLength_M H0 f_s_DrawZeroOfLength_F (opsAt (bodyOf Try.f73 100002)) f_s_DrawZeroOfLength_Dg2 (f_s_DrawZeroOfLength_frg2 v0 v1 t0 t6) = f_s_DrawZeroOfLength_Eg2 v0 v1 t0 t6 (f_s_DrawZeroOfLength_frg2 v0 v1 t0 t6) := by kernel_rfl
theorem f_s_DrawZeroOfLength_dg2 (v0 : List Sc) (v1 : List Sc) (t0 : List Sc) (t6 : List Sc) : edgeL E0 f_s_DrawZeroOfLength_M H0 f_s_DrawZeroOfLength_F (opsAt (bodyOf Try.f73 100002)) f_s_DrawZeroOfLength_Dg2 (f_s_DrawZeroOfLength_frg2 v0 v1 t0 t6) = edgeR E0 f_s_DrawZeroOfLength_M H0 f_s_DrawZeroOfLength_F (opsAt (bodyOf Try.f73 100002)) f_s_DrawZeroOfLength_Dg2 (f_s_DrawZeroOfLength_frg2 v0 v1 t0 t6) := (f_s_DrawZeroOfLength_dLg2 v0 v1 t0 t6).trans (f_s_DrawZeroOfLength_dRg2 v0 v1 t0 t6).symm
theorem f_s_DrawZeroOfLength_eg2 (v0 : List Sc) (v1 : List Sc) (t0 : List Sc) (t6 : List Sc) : goL E0 f_s_DrawZeroOfLength_M H0 f_s_DrawZeroOfLength_F (opsAt (bodyOf Try.f73 100002)) (Array.replicate (opsAt (bodyOf Try.f73 100002)).size true) (opsAt (bodyOf Try.f73 100002)).toList 0 (f_s_DrawZeroOfLength_frg2 v0 v1 t0 t6) (fun s => some (X.norm, clear (klOf f_s_DrawZeroOfLength_F 100002).2.1 s)) = f_s_DrawZeroOfLength_g2_k v0 v1 t0 t6 (fun e => some (f_s_DrawZeroOfLength_xg2 v0 v1 t0 t6 e)) := by kernel_rfl
theorem f_s_DrawZeroOfLength_lg2 (v0 : List Sc) (v1 : List Sc) (t0 : List Sc) (t6 : List Sc) (r : Int) (h : f_s_DrawZeroOfLength_g2 v0 v1 t0 t6 = some r) : LS Try.prog f_s_DrawZeroOfLength_F (bodyOf Try.f73 100002) (f_s_DrawZeroOfLength_frg2 v0 v1 t0 t6) (f_s_DrawZeroOfLength_xg2 v0 v1 t0 t6 r) :=
  region_true (S := Unit) (id := 2) (G := fun _ => f_s_DrawZeroOfLength_g2 v0 v1 t0 t6) (Gk := fun _ k => f_s_DrawZeroOfLength_g2_k v0 v1 t0 t6 k) (fr := fun _ => f_s_DrawZeroOfLength_frg2 v0 v1 t0 t6) (f1 := fun e => f_s_DrawZeroOfLength_xg2 v0 v1 t0 t6 e) E0ok f_s_DrawZeroOfLength_Mt f_s_DrawZeroOfLength_bg2 f_s_DrawZeroOfLength_cg2 (fun _ => f_s_DrawZeroOfLength_dg2 v0 v1 t0 t6) (fun _ => rfl) (fun _ => f_s_DrawZeroOfLength_eg2 v0 v1 t0 t6) (fun _ k => f_s_DrawZeroOfLength_pg2 v0 v1 t0 t6 k) () r h
def f_s_DrawZeroOfLength_tg2 (σ : List AV) : Option (Bool × Bool × (X × List AV) × (X × List AV)) := match dec f_s_DrawZeroOfLength_hg2 σ with
  | some [.l v0, .l v1, .l t0, .l t6] => some ((f_s_DrawZeroOfLength_g2 v0 v1 t0 t6).isSome, true, f_s_DrawZeroOfLength_xg2 v0 v1 t0 t6 ((f_s_DrawZeroOfLength_g2 v0 v1 t0 t6).getD 0), (.ret, []))
  | _ => none
theorem f_s_DrawZeroOfLength_ttg2 : TTrue Try.prog f_s_DrawZeroOfLength_F Try.f73 100002 f_s_DrawZeroOfLength_tg2 := by
  intro σ p r r' h
  unfold f_s_DrawZeroOfLength_tg2 at h
  split at h
  · rename_i hd
    rw [← dec_enc hd]
    exact rowR (f_s_DrawZeroOfLength_lg2 _ _ _ _) h
  · cases h
theorem f_s_DrawZeroOfLength_p {R : Type} (code0 : List Sc) (kR : List Sc × List Sc × Int → Option R) : f_s_DrawZeroOfLength_k code0 kR = (f_s_DrawZeroOfLength_k code0 some).bind kR := by
  simp only [f_s_DrawZeroOfLength_k, boB, someB]
theorem f_s_DrawZeroOfLength_e (code0 : List Sc) : runFn E0 f_s_DrawZeroOfLength_M H0 f_s_DrawZeroOfLength_F (asL (addL 100002 f_s_DrawZeroOfLength_tg2 (noL))) Try.f73 (f_s_DrawZeroOfLength_a code0) (f_s_DrawZeroOfLength_i code0) = f_s_DrawZeroOfLength_k code0 (fun r => some (f_s_DrawZeroOfLength_en r)) := by kernel_rfl
theorem f_s_DrawZeroOfLength_ok (code0 : List Sc) (r : List Sc × List Sc × Int) (h : f_s_DrawZeroOfLength code0 = some r) : CS Try.prog 73 (f_s_DrawZeroOfLength_a code0) (f_s_DrawZeroOfLength_i code0) (f_s_DrawZeroOfLength_en r).1 (f_s_DrawZeroOfLength_en r).2 :=
  fn_true (Gk := fun k => f_s_DrawZeroOfLength_k code0 k) (en := f_s_DrawZeroOfLength_en) Try.func73 E0ok f_s_DrawZeroOfLength_Mt (addL_true f_s_DrawZeroOfLength_ttg2 (noL_true)) f_s_DrawZeroOfLength_o (f_s_DrawZeroOfLength_e code0) (f_s_DrawZeroOfLength_p code0) h
def f_s_DrawZeroOfLength_c : CRow := fun args inh => match dec2 [.p .sl] [] args inh with
  | some ([.l code0], []) => some ((f_s_DrawZeroOfLength code0).isSome, (f_s_DrawZeroOfLength_en ((f_s_DrawZeroOfLength code0).getD ([], [], 0))).1, (f_s_DrawZeroOfLength_en ((f_s_DrawZeroOfLength code0).getD ([], [], 0))).2)
  | _ => none
theorem f_s_DrawZeroOfLength_cc : CTrue Try.prog 73 f_s_DrawZeroOfLength_c := by
  intro args inh rs out h
  unfold f_s_DrawZeroOfLength_c at h
  split at h
  · rename_i hd
    obtain ⟨h1, h2⟩ := dec2_enc hd
    rw [← h1, ← h2]
    exact rowC (f_s_DrawZeroOfLength_ok _) h
  · cases h

def f_s_l3Bits_F : Fi := { nv := 0, nc := 0, m := 0, vt := [], kl := [(0, ([0, 1, 2, 5, 6, 7, 8, 9, 10, 11, 12, 13, 14], [0, 1, 2, 4, 5, 6, 7, 8, 9, 10, 11, 12, 13, 14], [0, 1, 3, 4, 5, 6, 7, 8, 9, 10, 11, 12, 13, 14]))], sk := [], mvs := [], fz := [] }
def f_s_l3Bits_a (a0 : Int) : List AV := enc [.p (.int .i64)] [.i a0]
def f_s_l3Bits_i (a0 : Int) : List AV := enc [] []
def f_s_l3Bits_en (r : Int) : List AV × List AV := (enc [.p (.int .i64)] [.i r], enc [] [])
def f_s_l3Bits_M : Calling := noC
theorem f_s_l3Bits_Mt : CallOk Try.prog (f_s_l3Bits_M) := noC_true
theorem f_s_l3Bits_o : loopsOnce Try.f131 = true := by kernel_rfl
def f_s_l3Bits_h0 : List Sh := [.u, .u, .u, .p (.int .i64), .p (.int .i64), .u, .u, .u, .u, .u, .u, .u, .u, .u, .u]
def f_s_l3Bits_fr0 (s : Int × Int) : List AV := enc f_s_l3Bits_h0 [.i s.1, .i s.2]
def f_s_l3Bits_g0_1 : List Sh := [.u, .u, .u, .p (.int .i64), .u, .u, .u, .u, .u, .u, .u, .u, .u, .u, .u]
def f_s_l3Bits_x0_1 (e : Int) : X × List AV := (.out 0, enc f_s_l3Bits_g0_1 [.i e])
def f_s_l3Bits_x0_2 (_e : Unit) : X × List AV := (.ret, [])
theorem f_s_l3Bits_p0 {R : Type} (s : Int × Int) (kN : Int × Int → Option R) (kA : Int → Option R) (kB : Unit → Option R) : f_s_l3Bits_k0 s.1 s.2 kN kA = (f_s_l3Bits_r0 s).bind (Ro.el kN kA kB) := by
  simp only [f_s_l3Bits_k0, f_s_l3Bits_r0, brB, someB, Ro.el]
theorem f_s_l3Bits_e0 (s : Int × Int) : EC E0 f_s_l3Bits_M H0 f_s_l3Bits_F (asL (noL)) 0 (bodyOf Try.f131 0) (f_s_l3Bits_fr0 s) (done (klOf f_s_l3Bits_F 0)) = f_s_l3Bits_k0 s.1 s.2 (fun s => some (.norm, f_s_l3Bits_fr0 s)) (fun e => some (f_s_l3Bits_x0_1 e)) := by kernel_rfl
theorem f_s_l3Bits_l0 : ∀ s r, loopL (f_s_l3Bits_r0) s = some r → LS Try.prog f_s_l3Bits_F (bodyOf Try.f131 0) (f_s_l3Bits_fr0 s) (enX (f_s_l3Bits_x0_1) (f_s_l3Bits_x0_2) r) :=
  loop_true E0ok f_s_l3Bits_Mt (noL_true) f_s_l3Bits_o (fun _ h => by cases h) (fun _ h => by cases h) (fun s => (f_s_l3Bits_e0 s).trans (f_s_l3Bits_p0 s _ _ (fun e => some (f_s_l3Bits_x0_2 e))))
def f_s_l3Bits_t0 (σ : List AV) : Option (Bool × Bool × (X × List AV) × (X × List AV)) := match dec f_s_l3Bits_h0 σ with
  | some [.i n3, .i x4] => some (isOne (loopL (f_s_l3Bits_r0) (n3, x4)), true, f_s_l3Bits_x0_1 (getOne 0 (loopL (f_s_l3Bits_r0) (n3, x4))), (.ret, []))
  | _ => none
theorem f_s_l3Bits_tt0 : TTrue Try.prog f_s_l3Bits_F Try.f131 0 (f_s_l3Bits_t0) := by
  intro σ p r r' h
  unfold f_s_l3Bits_t0 at h
  split at h
  · rename_i hd
    rw [← dec_enc hd]
    exact row1 (f_s_l3Bits_l0 _) h
  · cases h
theorem f_s_l3Bits_p {R : Type} (a0 : Int) (kR : Int → Option R) : f_s_l3Bits_k a0 kR = (f_s_l3Bits_k a0 some).bind kR := by
  simp only [f_s_l3Bits_k, bl1B, someB]
theorem f_s_l3Bits_e (a0 : Int) : runFn E0 f_s_l3Bits_M H0 f_s_l3Bits_F (asL (addL 0 (f_s_l3Bits_t0) (noL))) Try.f131 (f_s_l3Bits_a a0) (f_s_l3Bits_i a0) = f_s_l3Bits_k a0 (fun r => some (f_s_l3Bits_en r)) := by kernel_rfl
theorem f_s_l3Bits_ok (a0 : Int) (r : Int) (h : f_s_l3Bits a0 = some r) : CS Try.prog 131 (f_s_l3Bits_a a0) (f_s_l3Bits_i a0) (f_s_l3Bits_en r).1 (f_s_l3Bits_en r).2 :=
  fn_true (Gk := fun k => f_s_l3Bits_k a0 k) (en := f_s_l3Bits_en) Try.func131 E0ok f_s_l3Bits_Mt (addL_true (f_s_l3Bits_tt0) (noL_true)) f_s_l3Bits_o (f_s_l3Bits_e a0) (f_s_l3Bits_p a0) h
def f_s_l3Bits_c : CRow := fun args inh => match dec2 [.p (.int .i64)] [] args inh with
  | some ([.i a0], []) => some ((f_s_l3Bits a0).isSome, (f_s_l3Bits_en ((f_s_l3Bits a0).getD 0)).1, (f_s_l3Bits_en ((f_s_l3Bits a0).getD 0)).2)
  | _ => none
theorem f_s_l3Bits_cc : CTrue Try.prog 131 f_s_l3Bits_c := by
  intro args inh rs out h
  unfold f_s_l3Bits_c at h
  split at h
  · rename_i hd
    obtain ⟨h1, h2⟩ := dec2_enc hd
    rw [← h1, ← h2]
    exact rowC (f_s_l3Bits_ok _) h
  · cases h

def f_s_l16Sum_F : Fi := { nv := 0, nc := 0, m := 0, vt := [], kl := [(0, ([0, 3, 4, 7, 8, 9, 10, 11, 12, 13, 14, 15, 16, 17, 18, 19, 20], [0, 1, 2, 3, 4, 6, 7, 8, 9, 10, 11, 12, 13, 14, 15, 16, 17, 18, 19, 20], [0, 1, 2, 3, 5, 6, 7, 8, 9, 10, 11, 12, 13, 14, 15, 16, 17, 18, 19, 20]))], sk := [], mvs := [], fz := [] }
def f_s_l16Sum_a (g0 : List Sc) (l1 : List Sc) : List AV := enc [.p .gr, .p .sl] [.l g0, .l l1]
def f_s_l16Sum_i (g0 : List Sc) (l1 : List Sc) : List AV := enc [] []
def f_s_l16Sum_en (r : Int) : List AV × List AV := (enc [.p (.int .i64)] [.i r], enc [] [])
def f_s_l16Sum_M : Calling := addC 156 f_s_l2Add_c (noC)
theorem f_s_l16Sum_Mt : CallOk Try.prog (f_s_l16Sum_M) := addC_true f_s_l2Add_cc (noC_true)
theorem f_s_l16Sum_o : loopsOnce Try.f183 = true := by kernel_rfl
def f_s_l16Sum_h0 : List Sh := [.u, .p .sl, .p .el, .u, .u, .p (.int .i64), .p (.int .i64), .u, .u, .u, .u, .u, .u, .u, .u, .u, .u, .u, .u, .u, .u]
def f_s_l16Sum_fr0 (l1 : List Sc) (g2 : List Sc) (s : Int × Int) : List AV := enc f_s_l16Sum_h0 [.l l1, .l g2, .i s.1, .i s.2]
def f_s_l16Sum_g0_1 : List Sh := [.u, .u, .u, .u, .u, .p (.int .i64), .u, .u, .u, .u, .u, .u, .u, .u, .u, .u, .u, .u, .u, .u, .u]
def f_s_l16Sum_x0_1 (l1 : List Sc) (g2 : List Sc) (e : Int) : X × List AV := (.out 0, enc f_s_l16Sum_g0_1 [.i e])
def f_s_l16Sum_x0_2 (l1 : List Sc) (g2 : List Sc) (_e : Unit) : X × List AV := (.ret, [])
theorem f_s_l16Sum_p0 {R : Type} (l1 : List Sc) (g2 : List Sc) (s : Int × Int) (kN : Int × Int → Option R) (kA : Int → Option R) (kB : Unit → Option R) : f_s_l16Sum_k0 l1 g2 s.1 s.2 kN kA = (f_s_l16Sum_r0 l1 g2 s).bind (Ro.el kN kA kB) := by
  simp only [f_s_l16Sum_k0, f_s_l16Sum_r0, brB, boB, someB, noneB, Ro.el]
theorem f_s_l16Sum_e0 (l1 : List Sc) (g2 : List Sc) (s : Int × Int) : EC E0 f_s_l16Sum_M H0 f_s_l16Sum_F (asL (noL)) 0 (bodyOf Try.f183 0) (f_s_l16Sum_fr0 l1 g2 s) (done (klOf f_s_l16Sum_F 0)) = f_s_l16Sum_k0 l1 g2 s.1 s.2 (fun s => some (.norm, f_s_l16Sum_fr0 l1 g2 s)) (fun e => some (f_s_l16Sum_x0_1 l1 g2 e)) := by kernel_rfl
theorem f_s_l16Sum_l0 (l1 : List Sc) (g2 : List Sc) : ∀ s r, loopL (f_s_l16Sum_r0 l1 g2) s = some r → LS Try.prog f_s_l16Sum_F (bodyOf Try.f183 0) (f_s_l16Sum_fr0 l1 g2 s) (enX (f_s_l16Sum_x0_1 l1 g2) (f_s_l16Sum_x0_2 l1 g2) r) :=
  loop_true E0ok f_s_l16Sum_Mt (noL_true) f_s_l16Sum_o (fun _ h => by cases h) (fun _ h => by cases h) (fun s => (f_s_l16Sum_e0 l1 g2 s).trans (f_s_l16Sum_p0 l1 g2 s _ _ (fun e => some (f_s_l16Sum_x0_2 l1 g2 e))))
def f_s_l16Sum_t0 (σ : List AV) : Option (Bool × Bool × (X × List AV) × (X × List AV)) := match dec f_s_l16Sum_h0 σ with
  | some [.l l1, .l g2, .i z5, .i i6] => some (isOne (loopL (f_s_l16Sum_r0 l1 g2) (z5, i6)), true, f_s_l16Sum_x0_1 l1 g2 (getOne 0 (loopL (f_s_l16Sum_r0 l1 g2) (z5, i6))), (.ret, []))
  | _ => none
theorem f_s_l16Sum_tt0 : TTrue Try.prog f_s_l16Sum_F Try.f183 0 (f_s_l16Sum_t0) := by
  intro σ p r r' h
  unfold f_s_l16Sum_t0 at h
  split at h
  · rename_i hd
    rw [← dec_enc hd]
    exact row1 (f_s_l16Sum_l0 _ _ _) h
  · cases h
theorem f_s_l16Sum_p {R : Type} (g0 : List Sc) (l1 : List Sc) (kR : Int → Option R) : f_s_l16Sum_k g0 l1 kR = (f_s_l16Sum_k g0 l1 some).bind kR := by
  simp only [f_s_l16Sum_k, bl1B, someB]
theorem f_s_l16Sum_e (g0 : List Sc) (l1 : List Sc) : runFn E0 f_s_l16Sum_M H0 f_s_l16Sum_F (asL (addL 0 (f_s_l16Sum_t0) (noL))) Try.f183 (f_s_l16Sum_a g0 l1) (f_s_l16Sum_i g0 l1) = f_s_l16Sum_k g0 l1 (fun r => some (f_s_l16Sum_en r)) := by kernel_rfl
theorem f_s_l16Sum_ok (g0 : List Sc) (l1 : List Sc) (r : Int) (h : f_s_l16Sum g0 l1 = some r) : CS Try.prog 183 (f_s_l16Sum_a g0 l1) (f_s_l16Sum_i g0 l1) (f_s_l16Sum_en r).1 (f_s_l16Sum_en r).2 :=
  fn_true (Gk := fun k => f_s_l16Sum_k g0 l1 k) (en := f_s_l16Sum_en) Try.func183 E0ok f_s_l16Sum_Mt (addL_true (f_s_l16Sum_tt0) (noL_true)) f_s_l16Sum_o (f_s_l16Sum_e g0 l1) (f_s_l16Sum_p g0 l1) h
def f_s_l16Sum_c : CRow := fun args inh => match dec2 [.p .gr, .p .sl] [] args inh with
  | some ([.l g0, .l l1], []) => some ((f_s_l16Sum g0 l1).isSome, (f_s_l16Sum_en ((f_s_l16Sum g0 l1).getD 0)).1, (f_s_l16Sum_en ((f_s_l16Sum g0 l1).getD 0)).2)
  | _ => none
theorem f_s_l16Sum_cc : CTrue Try.prog 183 f_s_l16Sum_c := by
  intro args inh rs out h
  unfold f_s_l16Sum_c at h
  split at h
  · rename_i hd
    obtain ⟨h1, h2⟩ := dec2_enc hd
    rw [← h1, ← h2]
    exact rowC (f_s_l16Sum_ok _ _) h
  · cases h

def f_s_ZeroOfLength_F : Fi := { nv := 0, nc := 0, m := 0, vt := [], kl := [(0, ([0, 4, 5, 6, 7, 9, 10, 11, 12, 13, 14, 15, 16, 17, 18, 19, 20, 21, 22, 23, 24, 25, 26, 27, 28, 29, 30, 31, 32, 33, 34, 35, 36, 37, 38, 39, 40, 41, 42, 43], [0, 1, 2, 3, 4, 5, 6, 7, 8, 9, 10, 11, 12, 13, 14, 15, 16, 17, 18, 19, 20, 21, 22, 23, 24, 25, 26, 27, 28, 29, 30, 31, 32, 33, 34, 35, 36, 37, 38, 39, 40, 41, 42, 43], [0, 1, 2, 3, 4, 5, 8, 9, 10, 11, 12, 13, 14, 15, 16, 17, 18, 19, 20, 21, 22, 23, 24, 25, 26, 27, 28, 29, 30, 31, 32, 33, 34, 35, 36, 37, 38, 39, 40, 41, 42, 43]))], sk := [], mvs := [], fz := [] }
def f_s_ZeroOfLength_a (g0 : List Sc) (l1 : List Sc) (k2 : Int) : List AV := enc [.p .gr, .p .sl, .p (.int .i64)] [.l g0, .l l1, .i k2]
def f_s_ZeroOfLength_i (g0 : List Sc) (l1 : List Sc) (k2 : Int) : List AV := enc [] []
def f_s_ZeroOfLength_en (r : List Sc × Bool) : List AV × List AV := (enc [.p (.al 0), .p .boo] [.b r.2], enc [.own 3] [.l r.1])
def f_s_ZeroOfLength_M : Calling := addC 101 f_s_IsSequence_c (addC 150 f_s_l1In_c (addC 131 f_s_l3Bits_c (addC 174 f_s_l16Part_c (addC 183 f_s_l16Sum_c (noC)))))
theorem f_s_ZeroOfLength_Mt : CallOk Try.prog (f_s_ZeroOfLength_M) := addC_true f_s_IsSequence_cc (addC_true f_s_l1In_cc (addC_true f_s_l3Bits_cc (addC_true f_s_l16Part_cc (addC_true f_s_l16Sum_cc (noC_true)))))
theorem f_s_ZeroOfLength_o : loopsOnce Try.f74 = true := by kernel_rfl
def f_s_ZeroOfLength_h0 : List Sh := [.u, .p .sl, .p (.int .i64), .p .el, .u, .u, .u, .u, .p (.int .i64), .u, .u, .u, .u, .u, .u, .u, .u, .u, .u, .u, .u, .u, .u, .u, .u, .u, .u, .u, .u, .u, .u, .u, .u, .u, .u, .u, .u, .u, .u, .u, .u, .u, .u, .u]
def f_s_ZeroOfLength_fr0 (l1 : List Sc) (k2 : Int) (g3 : List Sc) (s : Int) : List AV := enc f_s_ZeroOfLength_h0 [.l l1, .i k2, .l g3, .i s]
def f_s_ZeroOfLength_g0_1 : List Sh := [.u, .u, .u, .u, .u, .u, .u, .u, .u, .u, .u, .u, .u, .u, .u, .u, .u, .u, .u, .u, .u, .u, .u, .u, .u, .u, .u, .u, .u, .u, .u, .u, .u, .u, .u, .u, .u, .u, .u, .u, .u, .u, .u, .u]
def f_s_ZeroOfLength_x0_1 (l1 : List Sc) (k2 : Int) (g3 : List Sc) (e : Unit) : X × List AV := (.out 0, enc f_s_ZeroOfLength_g0_1 [])
def f_s_ZeroOfLength_g0_2 : List Sh := [.u, .u, .u, .u, .u, .u, .own 3, .p .boo, .u, .u, .u, .u, .u, .u, .u, .u, .u, .u, .u, .u, .u, .u, .u, .u, .u, .u, .u, .u, .u, .u, .u, .u, .u, .u, .u, .u, .u, .u, .u, .u, .u, .u, .u, .u]
def f_s_ZeroOfLength_x0_2 (l1 : List Sc) (k2 : Int) (g3 : List Sc) (e : List Sc) : X × List AV := (.ret, enc f_s_ZeroOfLength_g0_2 [.l e, .b true])
theorem f_s_ZeroOfLength_p0 {R : Type} (l1 : List Sc) (k2 : Int) (g3 : List Sc) (s : Int) (kN : Int → Option R) (kA : Unit → Option R) (kB : List Sc → Option R) : f_s_ZeroOfLength_k0 l1 k2 g3 s kN kA kB = (f_s_ZeroOfLength_r0 l1 k2 g3 s).bind (Ro.el kN kA kB) := by
  simp only [f_s_ZeroOfLength_k0, f_s_ZeroOfLength_r0, brB, boB, someB, noneB, Ro.el]
theorem f_s_ZeroOfLength_e0 (l1 : List Sc) (k2 : Int) (g3 : List Sc) (s : Int) : EC E0 f_s_ZeroOfLength_M H0 f_s_ZeroOfLength_F (asL (noL)) 0 (bodyOf Try.f74 0) (f_s_ZeroOfLength_fr0 l1 k2 g3 s) (done (klOf f_s_ZeroOfLength_F 0)) = f_s_ZeroOfLength_k0 l1 k2 g3 s (fun s => some (.norm, f_s_ZeroOfLength_fr0 l1 k2 g3 s)) (fun e => some (f_s_ZeroOfLength_x0_1 l1 k2 g3 e)) (fun e => some (f_s_ZeroOfLength_x0_2 l1 k2 g3 e)) := by kernel_rfl
theorem f_s_ZeroOfLength_l0 (l1 : List Sc) (k2 : Int) (g3 : List Sc) : ∀ s r, loopL (f_s_ZeroOfLength_r0 l1 k2 g3) s = some r → LS Try.prog f_s_ZeroOfLength_F (bodyOf Try.f74 0) (f_s_ZeroOfLength_fr0 l1 k2 g3 s) (enX (f_s_ZeroOfLength_x0_1 l1 k2 g3) (f_s_ZeroOfLength_x0_2 l1 k2 g3) r) :=
  loop_true E0ok f_s_ZeroOfLength_Mt (noL_true) f_s_ZeroOfLength_o (fun _ h => by cases h) (fun _ h => by cases h) (fun s => (f_s_ZeroOfLength_e0 l1 k2 g3 s).trans (f_s_ZeroOfLength_p0 l1 k2 g3 s _ _ (fun e => some (f_s_ZeroOfLength_x0_2 l1 k2 g3 e))))
def f_s_ZeroOfLength_t0 (σ : List AV) : Option (Bool × Bool × (X × List AV) × (X × List AV)) := match dec f_s_ZeroOfLength_h0 σ with
  | some [.l l1, .i k2, .l g3, .i code8] => some ((loopL (f_s_ZeroOfLength_r0 l1 k2 g3) code8).isSome, isOne (loopL (f_s_ZeroOfLength_r0 l1 k2 g3) code8), f_s_ZeroOfLength_x0_1 l1 k2 g3 (getOne () (loopL (f_s_ZeroOfLength_r0 l1 k2 g3) code8)), f_s_ZeroOfLength_x0_2 l1 k2 g3 (getTwo [] (loopL (f_s_ZeroOfLength_r0 l1 k2 g3) code8)))
  | _ => none
theorem f_s_ZeroOfLength_tt0 : TTrue Try.prog f_s_ZeroOfLength_F Try.f74 0 (f_s_ZeroOfLength_t0) := by
  intro σ p r r' h
  unfold f_s_ZeroOfLength_t0 at h
  split at h
  · rename_i hd
    rw [← dec_enc hd]
    exact row2 (f_s_ZeroOfLength_l0 _ _ _ _) h
  · cases h
theorem f_s_ZeroOfLength_p {R : Type} (g0 : List Sc) (l1 : List Sc) (k2 : Int) (kR : List Sc × Bool → Option R) : f_s_ZeroOfLength_k g0 l1 k2 kR = (f_s_ZeroOfLength_k g0 l1 k2 some).bind kR := by
  simp only [f_s_ZeroOfLength_k, brB, boB, blB, someB]
theorem f_s_ZeroOfLength_e (g0 : List Sc) (l1 : List Sc) (k2 : Int) : runFn E0 f_s_ZeroOfLength_M H0 f_s_ZeroOfLength_F (asL (addL 0 (f_s_ZeroOfLength_t0) (noL))) Try.f74 (f_s_ZeroOfLength_a g0 l1 k2) (f_s_ZeroOfLength_i g0 l1 k2) = f_s_ZeroOfLength_k g0 l1 k2 (fun r => some (f_s_ZeroOfLength_en r)) := by kernel_rfl
theorem f_s_ZeroOfLength_ok (g0 : List Sc) (l1 : List Sc) (k2 : Int) (r : List Sc × Bool) (h : f_s_ZeroOfLength g0 l1 k2 = some r) : CS Try.prog 74 (f_s_ZeroOfLength_a g0 l1 k2) (f_s_ZeroOfLength_i g0 l1 k2) (f_s_ZeroOfLength_en r).1 (f_s_ZeroOfLength_en r).2 :=
  fn_true (Gk := fun k => f_s_ZeroOfLength_k g0 l1 k2 k) (en := f_s_ZeroOfLength_en) Try.func74 E0ok f_s_ZeroOfLength_Mt (addL_true (f_s_ZeroOfLength_tt0) (noL_true)) f_s_ZeroOfLength_o (f_s_ZeroOfLength_e g0 l1 k2) (f_s_ZeroOfLength_p g0 l1 k2) h
def f_s_ZeroOfLength_c : CRow := fun args inh => match dec2 [.p .gr, .p .sl, .p (.int .i64)] [] args inh with
  | some ([.l g0, .l l1, .i k2], []) => some ((f_s_ZeroOfLength g0 l1 k2).isSome, (f_s_ZeroOfLength_en ((f_s_ZeroOfLength g0 l1 k2).getD ([], false))).1, (f_s_ZeroOfLength_en ((f_s_ZeroOfLength g0 l1 k2).getD ([], false))).2)
  | _ => none
theorem f_s_ZeroOfLength_cc : CTrue Try.prog 74 f_s_ZeroOfLength_c := by
  intro args inh rs out h
  unfold f_s_ZeroOfLength_c at h
  split at h
  · rename_i hd
    obtain ⟨h1, h2⟩ := dec2_enc hd
    rw [← h1, ← h2]
    exact rowC (f_s_ZeroOfLength_ok _ _ _) h
  · cases h

def f_i_IsZeroSum_F : Fi := { nv := 0, nc := 0, m := 0, vt := [], kl := [], sk := [], mvs := [], fz := [] }
def f_i_IsZeroSum_a (g0 : List Sc) (l1 : List Sc) : List AV := enc [.p .gr, .p .sl] [.l g0, .l l1]
def f_i_IsZeroSum_i (g0 : List Sc) (l1 : List Sc) : List AV := enc [] []
def f_i_IsZeroSum_en (r : Bool) : List AV × List AV := (enc [.p .boo] [.b r], enc [] [])
def f_i_IsZeroSum_M : Calling := addC 104 f_i_IsSequence_c (addC 181 f_i_Group_total_c (noC))
theorem f_i_IsZeroSum_Mt : CallOk Try.prog (f_i_IsZeroSum_M) := addC_true f_i_IsSequence_cc (addC_true f_i_Group_total_cc (noC_true))
theorem f_i_IsZeroSum_o : loopsOnce Try.f75 = true := by kernel_rfl
theorem f_i_IsZeroSum_p {R : Type} (g0 : List Sc) (l1 : List Sc) (kR : Bool → Option R) : f_i_IsZeroSum_k g0 l1 kR = (f_i_IsZeroSum_k g0 l1 some).bind kR := by
  simp only [f_i_IsZeroSum_k, brB, boB, someB]
theorem f_i_IsZeroSum_e (g0 : List Sc) (l1 : List Sc) : runFn E0 f_i_IsZeroSum_M H0 f_i_IsZeroSum_F (asL (noL)) Try.f75 (f_i_IsZeroSum_a g0 l1) (f_i_IsZeroSum_i g0 l1) = f_i_IsZeroSum_k g0 l1 (fun r => some (f_i_IsZeroSum_en r)) := by kernel_rfl
theorem f_i_IsZeroSum_ok (g0 : List Sc) (l1 : List Sc) (r : Bool) (h : f_i_IsZeroSum g0 l1 = some r) : CS Try.prog 75 (f_i_IsZeroSum_a g0 l1) (f_i_IsZeroSum_i g0 l1) (f_i_IsZeroSum_en r).1 (f_i_IsZeroSum_en r).2 :=
  fn_true (Gk := fun k => f_i_IsZeroSum_k g0 l1 k) (en := f_i_IsZeroSum_en) Try.func75 E0ok f_i_IsZeroSum_Mt (noL_true) f_i_IsZeroSum_o (f_i_IsZeroSum_e g0 l1) (f_i_IsZeroSum_p g0 l1) h
def f_i_IsZeroSum_c : CRow := fun args inh => match dec2 [.p .gr, .p .sl] [] args inh with
  | some ([.l g0, .l l1], []) => some ((f_i_IsZeroSum g0 l1).isSome, (f_i_IsZeroSum_en ((f_i_IsZeroSum g0 l1).getD false)).1, (f_i_IsZeroSum_en ((f_i_IsZeroSum g0 l1).getD false)).2)
  | _ => none
theorem f_i_IsZeroSum_cc : CTrue Try.prog 75 f_i_IsZeroSum_c := by
  intro args inh rs out h
  unfold f_i_IsZeroSum_c at h
  split at h
  · rename_i hd
    obtain ⟨h1, h2⟩ := dec2_enc hd
    rw [← h1, ← h2]
    exact rowC (f_i_IsZeroSum_ok _ _) h
  · cases h

def f_s_DrawWeightedZero_F : Fi := { nv := 4, nc := 2, m := 0, vt := [(2, 0), (4, 1), (8, 2)], kl := [], sk := [], mvs := [2, 3], fz := [] }
def f_s_DrawWeightedZero_a (code0 : List Sc) : List AV := enc [.p .sl] [.l code0]
def f_s_DrawWeightedZero_i (code0 : List Sc) : List AV := enc [] []
def f_s_DrawWeightedZero_en (r : List Sc × List Sc) : List AV × List AV := (enc [.p (.go 0), .p (.al 1)] [], enc [.own 3, .own 3] [.l r.1, .l r.2])
def f_s_DrawWeightedZero_M : Calling := addC 182 f_s_l16Both_c (noC)
theorem f_s_DrawWeightedZero_Mt : CallOk Try.prog (f_s_DrawWeightedZero_M) := addC_true f_s_l16Both_cc (noC_true)
theorem f_s_DrawWeightedZero_o : loopsOnce Try.f76 = true := by kernel_rfl
theorem f_s_DrawWeightedZero_p {R : Type} (code0 : List Sc) (kR : List Sc × List Sc → Option R) : f_s_DrawWeightedZero_k code0 kR = (f_s_DrawWeightedZero_k code0 some).bind kR := by
  simp only [f_s_DrawWeightedZero_k, boB, someB]
theorem f_s_DrawWeightedZero_e (code0 : List Sc) : runFn E0 f_s_DrawWeightedZero_M H0 f_s_DrawWeightedZero_F (asL (noL)) Try.f76 (f_s_DrawWeightedZero_a code0) (f_s_DrawWeightedZero_i code0) = f_s_DrawWeightedZero_k code0 (fun r => some (f_s_DrawWeightedZero_en r)) := by kernel_rfl
theorem f_s_DrawWeightedZero_ok (code0 : List Sc) (r : List Sc × List Sc) (h : f_s_DrawWeightedZero code0 = some r) : CS Try.prog 76 (f_s_DrawWeightedZero_a code0) (f_s_DrawWeightedZero_i code0) (f_s_DrawWeightedZero_en r).1 (f_s_DrawWeightedZero_en r).2 :=
  fn_true (Gk := fun k => f_s_DrawWeightedZero_k code0 k) (en := f_s_DrawWeightedZero_en) Try.func76 E0ok f_s_DrawWeightedZero_Mt (noL_true) f_s_DrawWeightedZero_o (f_s_DrawWeightedZero_e code0) (f_s_DrawWeightedZero_p code0) h
def f_s_DrawWeightedZero_c : CRow := fun args inh => match dec2 [.p .sl] [] args inh with
  | some ([.l code0], []) => some ((f_s_DrawWeightedZero code0).isSome, (f_s_DrawWeightedZero_en ((f_s_DrawWeightedZero code0).getD ([], []))).1, (f_s_DrawWeightedZero_en ((f_s_DrawWeightedZero code0).getD ([], []))).2)
  | _ => none
theorem f_s_DrawWeightedZero_cc : CTrue Try.prog 76 f_s_DrawWeightedZero_c := by
  intro args inh rs out h
  unfold f_s_DrawWeightedZero_c at h
  split at h
  · rename_i hd
    obtain ⟨h1, h2⟩ := dec2_enc hd
    rw [← h1, ← h2]
    exact rowC (f_s_DrawWeightedZero_ok _) h
  · cases h

def f_i_Group_negate_F : Fi := { nv := 0, nc := 0, m := 0, vt := [], kl := [(0, ([0, 2, 3, 4, 7, 8, 9, 13, 14, 15, 16, 17, 18, 19, 20, 21, 22, 23, 24, 25, 26, 27, 28, 29, 30, 31, 32, 33, 34], [0, 1, 2, 3, 4, 6, 7, 8, 9, 10, 11, 12, 13, 14, 15, 16, 17, 18, 19, 20, 21, 22, 23, 24, 25, 26, 27, 28, 29, 30, 31, 32, 33, 34], [0, 1, 2, 3, 5, 6, 7, 8, 9, 10, 11, 12, 13, 14, 15, 16, 17, 18, 19, 20, 21, 22, 23, 24, 25, 26, 27, 28, 29, 30, 31, 32, 33, 34]))], sk := [], mvs := [], fz := [] }
def f_i_Group_negate_a (g0 : List Sc) (x1 : Int) : List AV := enc [.p .gr, .p (.int .i64)] [.l g0, .i x1]
def f_i_Group_negate_i (g0 : List Sc) (x1 : Int) : List AV := enc [] []
def f_i_Group_negate_en (r : Int) : List AV × List AV := (enc [.p (.int .i64)] [.i r], enc [] [])
def f_i_Group_negate_M : Calling := noC
theorem f_i_Group_negate_Mt : CallOk Try.prog (f_i_Group_negate_M) := noC_true
theorem f_i_Group_negate_o : loopsOnce Try.f149 = true := by kernel_rfl
def f_i_Group_negate_h0 : List Sh := [.u, .p (.int .i64), .u, .u, .u, .p (.int .i64), .p (.int .i64), .u, .u, .u, .p .sl, .p (.int .i64), .p (.int .i64), .u, .u, .u, .u, .u, .u, .u, .u, .u, .u, .u, .u, .u, .u, .u, .u, .u, .u, .u, .u, .u, .u]
def f_i_Group_negate_fr0 (t10 : List Sc) (t11 : Int) (s : Int × Int × Int × Int) : List AV := enc f_i_Group_negate_h0 [.i s.1, .i s.2.1, .i s.2.2.1, .l t10, .i t11, .i s.2.2.2]
def f_i_Group_negate_g0_1 : List Sh := [.u, .u, .u, .u, .u, .p (.int .i64), .u, .u, .u, .u, .u, .u, .u, .u, .u, .u, .u, .u, .u, .u, .u, .u, .u, .u, .u, .u, .u, .u, .u, .u, .u, .u, .u, .u, .u]
def f_i_Group_negate_x0_1 (t10 : List Sc) (t11 : Int) (e : Int) : X × List AV := (.out 0, enc f_i_Group_negate_g0_1 [.i e])
def f_i_Group_negate_x0_2 (t10 : List Sc) (t11 : Int) (_e : Unit) : X × List AV := (.ret, [])
theorem f_i_Group_negate_p0 {R : Type} (t10 : List Sc) (t11 : Int) (s : Int × Int × Int × Int) (kN : Int × Int × Int × Int → Option R) (kA : Int → Option R) (kB : Unit → Option R) : f_i_Group_negate_k0 t10 t11 s.1 s.2.1 s.2.2.1 s.2.2.2 kN kA = (f_i_Group_negate_r0 t10 t11 s).bind (Ro.el kN kA kB) := by
  simp only [f_i_Group_negate_k0, f_i_Group_negate_r0, brB, someB, noneB, Ro.el]
theorem f_i_Group_negate_e0 (t10 : List Sc) (t11 : Int) (s : Int × Int × Int × Int) : EC E0 f_i_Group_negate_M H0 f_i_Group_negate_F (asL (noL)) 0 (bodyOf Try.f149 0) (f_i_Group_negate_fr0 t10 t11 s) (done (klOf f_i_Group_negate_F 0)) = f_i_Group_negate_k0 t10 t11 s.1 s.2.1 s.2.2.1 s.2.2.2 (fun s => some (.norm, f_i_Group_negate_fr0 t10 t11 s)) (fun e => some (f_i_Group_negate_x0_1 t10 t11 e)) := by kernel_rfl
theorem f_i_Group_negate_l0 (t10 : List Sc) (t11 : Int) : ∀ s r, loopL (f_i_Group_negate_r0 t10 t11) s = some r → LS Try.prog f_i_Group_negate_F (bodyOf Try.f149 0) (f_i_Group_negate_fr0 t10 t11 s) (enX (f_i_Group_negate_x0_1 t10 t11) (f_i_Group_negate_x0_2 t10 t11) r) :=
  loop_true E0ok f_i_Group_negate_Mt (noL_true) f_i_Group_negate_o (fun _ h => by cases h) (fun _ h => by cases h) (fun s => (f_i_Group_negate_e0 t10 t11 s).trans (f_i_Group_negate_p0 t10 t11 s _ _ (fun e => some (f_i_Group_negate_x0_2 t10 t11 e))))
def f_i_Group_negate_t0 (σ : List AV) : Option (Bool × Bool × (X × List AV) × (X × List AV)) := match dec f_i_Group_negate_h0 σ with
  | some [.i x1, .i sum5, .i unit6, .l t10, .i t11, .i t12] => some (isOne (loopL (f_i_Group_negate_r0 t10 t11) (x1, sum5, unit6, t12)), true, f_i_Group_negate_x0_1 t10 t11 (getOne 0 (loopL (f_i_Group_negate_r0 t10 t11) (x1, sum5, unit6, t12))), (.ret, []))
  | _ => none
theorem f_i_Group_negate_tt0 : TTrue Try.prog f_i_Group_negate_F Try.f149 0 (f_i_Group_negate_t0) := by
  intro σ p r r' h
  unfold f_i_Group_negate_t0 at h
  split at h
  · rename_i hd
    rw [← dec_enc hd]
    exact row1 (f_i_Group_negate_l0 _ _ _) h
  · cases h
theorem f_i_Group_negate_p {R : Type} (g0 : List Sc) (x1 : Int) (kR : Int → Option R) : f_i_Group_negate_k g0 x1 kR = (f_i_Group_negate_k g0 x1 some).bind kR := by
  simp only [f_i_Group_negate_k, bl1B, someB]
theorem f_i_Group_negate_e (g0 : List Sc) (x1 : Int) : runFn E0 f_i_Group_negate_M H0 f_i_Group_negate_F (asL (addL 0 (f_i_Group_negate_t0) (noL))) Try.f149 (f_i_Group_negate_a g0 x1) (f_i_Group_negate_i g0 x1) = f_i_Group_negate_k g0 x1 (fun r => some (f_i_Group_negate_en r)) := by kernel_rfl
theorem f_i_Group_negate_ok (g0 : List Sc) (x1 : Int) (r : Int) (h : f_i_Group_negate g0 x1 = some r) : CS Try.prog 149 (f_i_Group_negate_a g0 x1) (f_i_Group_negate_i g0 x1) (f_i_Group_negate_en r).1 (f_i_Group_negate_en r).2 :=
  fn_true (Gk := fun k => f_i_Group_negate_k g0 x1 k) (en := f_i_Group_negate_en) Try.func149 E0ok f_i_Group_negate_Mt (addL_true (f_i_Group_negate_tt0) (noL_true)) f_i_Group_negate_o (f_i_Group_negate_e g0 x1) (f_i_Group_negate_p g0 x1) h
def f_i_Group_negate_c : CRow := fun args inh => match dec2 [.p .gr, .p (.int .i64)] [] args inh with
  | some ([.l g0, .i x1], []) => some ((f_i_Group_negate g0 x1).isSome, (f_i_Group_negate_en ((f_i_Group_negate g0 x1).getD 0)).1, (f_i_Group_negate_en ((f_i_Group_negate g0 x1).getD 0)).2)
  | _ => none
theorem f_i_Group_negate_cc : CTrue Try.prog 149 f_i_Group_negate_c := by
  intro args inh rs out h
  unfold f_i_Group_negate_c at h
  split at h
  · rename_i hd
    obtain ⟨h1, h2⟩ := dec2_enc hd
    rw [← h1, ← h2]
    exact rowC (f_i_Group_negate_ok _ _) h
  · cases h

def f_i_Group_times_F : Fi := { nv := 0, nc := 0, m := 0, vt := [], kl := [(0, ([0, 2, 4, 5, 6, 8, 9, 10, 11, 12, 13, 14, 17, 18, 19, 20, 21, 22, 23], [0, 1, 2, 3, 4, 5, 6, 8, 9, 10, 11, 12, 13, 14, 15, 16, 17, 18, 19, 20, 21, 22, 23], [0, 1, 2, 3, 4, 5, 7, 8, 9, 10, 11, 12, 13, 14, 15, 16, 17, 18, 19, 20, 21, 22, 23]))], sk := [], mvs := [], fz := [] }
def f_i_Group_times_a (g0 : List Sc) (x1 : Int) (n2 : Int) : List AV := enc [.p .gr, .p (.int .i64), .p (.int .i64)] [.l g0, .i x1, .i n2]
def f_i_Group_times_i (g0 : List Sc) (x1 : Int) (n2 : Int) : List AV := enc [] []
def f_i_Group_times_en (r : Int) : List AV × List AV := (enc [.p (.int .i64)] [.i r], enc [] [])
def f_i_Group_times_M : Calling := addC 149 f_i_Group_negate_c (addC 155 f_i_Group_add_c (noC))
theorem f_i_Group_times_Mt : CallOk Try.prog (f_i_Group_times_M) := addC_true f_i_Group_negate_cc (addC_true f_i_Group_add_cc (noC_true))
theorem f_i_Group_times_o : loopsOnce Try.f185 = true := by kernel_rfl
def f_i_Group_times_h0 : List Sh := [.u, .p (.int .i64), .u, .p .el, .u, .u, .u, .p (.int .i64), .u, .u, .u, .u, .u, .u, .u, .p (.int .i64), .p (.int .i64), .u, .u, .u, .u, .u, .u, .u]
def f_i_Group_times_fr0 (x1 : Int) (g3 : List Sc) (t15 : Int) (s : Int × Int) : List AV := enc f_i_Group_times_h0 [.i x1, .l g3, .i s.1, .i t15, .i s.2]
def f_i_Group_times_g0_1 : List Sh := [.u, .u, .u, .u, .u, .u, .u, .p (.int .i64), .u, .u, .u, .u, .u, .u, .u, .u, .u, .u, .u, .u, .u, .u, .u, .u]
def f_i_Group_times_x0_1 (x1 : Int) (g3 : List Sc) (t15 : Int) (e : Int) : X × List AV := (.out 0, enc f_i_Group_times_g0_1 [.i e])
def f_i_Group_times_x0_2 (x1 : Int) (g3 : List Sc) (t15 : Int) (_e : Unit) : X × List AV := (.ret, [])
theorem f_i_Group_times_p0 {R : Type} (x1 : Int) (g3 : List Sc) (t15 : Int) (s : Int × Int) (kN : Int × Int → Option R) (kA : Int → Option R) (kB : Unit → Option R) : f_i_Group_times_k0 x1 g3 t15 s.1 s.2 kN kA = (f_i_Group_times_r0 x1 g3 t15 s).bind (Ro.el kN kA kB) := by
  simp only [f_i_Group_times_k0, f_i_Group_times_r0, brB, boB, someB, Ro.el]
theorem f_i_Group_times_e0 (x1 : Int) (g3 : List Sc) (t15 : Int) (s : Int × Int) : EC E0 f_i_Group_times_M H0 f_i_Group_times_F (asL (noL)) 0 (bodyOf Try.f185 0) (f_i_Group_times_fr0 x1 g3 t15 s) (done (klOf f_i_Group_times_F 0)) = f_i_Group_times_k0 x1 g3 t15 s.1 s.2 (fun s => some (.norm, f_i_Group_times_fr0 x1 g3 t15 s)) (fun e => some (f_i_Group_times_x0_1 x1 g3 t15 e)) := by kernel_rfl
theorem f_i_Group_times_l0 (x1 : Int) (g3 : List Sc) (t15 : Int) : ∀ s r, loopL (f_i_Group_times_r0 x1 g3 t15) s = some r → LS Try.prog f_i_Group_times_F (bodyOf Try.f185 0) (f_i_Group_times_fr0 x1 g3 t15 s) (enX (f_i_Group_times_x0_1 x1 g3 t15) (f_i_Group_times_x0_2 x1 g3 t15) r) :=
  loop_true E0ok f_i_Group_times_Mt (noL_true) f_i_Group_times_o (fun _ h => by cases h) (fun _ h => by cases h) (fun s => (f_i_Group_times_e0 x1 g3 t15 s).trans (f_i_Group_times_p0 x1 g3 t15 s _ _ (fun e => some (f_i_Group_times_x0_2 x1 g3 t15 e))))
def f_i_Group_times_t0 (σ : List AV) : Option (Bool × Bool × (X × List AV) × (X × List AV)) := match dec f_i_Group_times_h0 σ with
  | some [.i x1, .l g3, .i sum7, .i t15, .i t16] => some (isOne (loopL (f_i_Group_times_r0 x1 g3 t15) (sum7, t16)), true, f_i_Group_times_x0_1 x1 g3 t15 (getOne 0 (loopL (f_i_Group_times_r0 x1 g3 t15) (sum7, t16))), (.ret, []))
  | _ => none
theorem f_i_Group_times_tt0 : TTrue Try.prog f_i_Group_times_F Try.f185 0 (f_i_Group_times_t0) := by
  intro σ p r r' h
  unfold f_i_Group_times_t0 at h
  split at h
  · rename_i hd
    rw [← dec_enc hd]
    exact row1 (f_i_Group_times_l0 _ _ _ _) h
  · cases h
theorem f_i_Group_times_p {R : Type} (g0 : List Sc) (x1 : Int) (n2 : Int) (kR : Int → Option R) : f_i_Group_times_k g0 x1 n2 kR = (f_i_Group_times_k g0 x1 n2 some).bind kR := by
  simp only [f_i_Group_times_k, brB, boB, bl1B, someB]
theorem f_i_Group_times_e (g0 : List Sc) (x1 : Int) (n2 : Int) : runFn E0 f_i_Group_times_M H0 f_i_Group_times_F (asL (addL 0 (f_i_Group_times_t0) (noL))) Try.f185 (f_i_Group_times_a g0 x1 n2) (f_i_Group_times_i g0 x1 n2) = f_i_Group_times_k g0 x1 n2 (fun r => some (f_i_Group_times_en r)) := by kernel_rfl
theorem f_i_Group_times_ok (g0 : List Sc) (x1 : Int) (n2 : Int) (r : Int) (h : f_i_Group_times g0 x1 n2 = some r) : CS Try.prog 185 (f_i_Group_times_a g0 x1 n2) (f_i_Group_times_i g0 x1 n2) (f_i_Group_times_en r).1 (f_i_Group_times_en r).2 :=
  fn_true (Gk := fun k => f_i_Group_times_k g0 x1 n2 k) (en := f_i_Group_times_en) Try.func185 E0ok f_i_Group_times_Mt (addL_true (f_i_Group_times_tt0) (noL_true)) f_i_Group_times_o (f_i_Group_times_e g0 x1 n2) (f_i_Group_times_p g0 x1 n2) h
def f_i_Group_times_c : CRow := fun args inh => match dec2 [.p .gr, .p (.int .i64), .p (.int .i64)] [] args inh with
  | some ([.l g0, .i x1, .i n2], []) => some ((f_i_Group_times g0 x1 n2).isSome, (f_i_Group_times_en ((f_i_Group_times g0 x1 n2).getD 0)).1, (f_i_Group_times_en ((f_i_Group_times g0 x1 n2).getD 0)).2)
  | _ => none
theorem f_i_Group_times_cc : CTrue Try.prog 185 f_i_Group_times_c := by
  intro args inh rs out h
  unfold f_i_Group_times_c at h
  split at h
  · rename_i hd
    obtain ⟨h1, h2⟩ := dec2_enc hd
    rw [← h1, ← h2]
    exact rowC (f_i_Group_times_ok _ _ _) h
  · cases h

def f_i_WeightedZero_1_F : Fi := { nv := 2, nc := 2, m := 2, vt := [], kl := [(0, ([9, 10, 11, 12, 13, 14, 15, 16, 17, 18, 19, 20, 21, 22, 23, 27, 28, 29, 30, 31, 32, 33, 34, 35, 36, 37, 38, 39, 40, 41, 42, 43, 44, 45, 46, 47, 48, 49, 50, 51, 52, 53], [2, 3, 4, 5, 6, 7, 8, 9, 10, 11, 12, 13, 14, 15, 16, 17, 18, 19, 20, 21, 22, 23, 24, 25, 26, 27, 28, 29, 30, 31, 32, 33, 34, 35, 36, 37, 38, 39, 40, 41, 42, 43, 44, 45, 46, 47, 48, 49, 50, 51, 52, 53], [2, 3, 4, 5, 6, 7, 8, 9, 10, 11, 13, 14, 15, 16, 17, 18, 19, 20, 21, 22, 23, 24, 25, 26, 27, 28, 29, 30, 31, 32, 33, 34, 35, 36, 37, 38, 39, 40, 41, 42, 43, 44, 45, 46, 47, 48, 49, 50, 51, 52, 53]))], sk := [], mvs := [], fz := [] }
def f_i_WeightedZero_1_a (i0 : Int) (sum1 : Int) (some2 : Bool) (p3 : List Sc) (p6 : List Sc) (h0 : List Sc) (h1_0 : List Sc) (h1_1 : List Sc) : List AV := enc [.p (.int .i64), .p (.int .i64), .p .boo, .p .el, .p (.pt 0 1), .p (.pt 1 1), .p .el] [.i i0, .i sum1, .b some2, .l p3, .l p6]
def f_i_WeightedZero_1_i (i0 : Int) (sum1 : Int) (some2 : Bool) (p3 : List Sc) (p6 : List Sc) (h0 : List Sc) (h1_0 : List Sc) (h1_1 : List Sc) : List AV := enc [.own 3, .fn 184 [.el, .pt 0 1, .pt 1 1, .el]] [.l h0, .l h1_0, .l h1_1]
def f_i_WeightedZero_1_en (r : Bool × List Sc × List Sc × List Sc) : List AV × List AV := (enc [.p .boo] [.b r.1], enc [.own 3, .fn 184 [.el, .pt 0 1, .pt 1 1, .el]] [.l r.2.1, .l r.2.2.1, .l r.2.2.2])
def f_i_WeightedZero_1_cs (self : (Int × Int × Bool × List Sc × List Sc × List Sc × List Sc × List Sc) → Option (Bool × List Sc × List Sc × List Sc)) : CRow := fun args inh => match dec2 [.p (.int .i64), .p (.int .i64), .p .boo, .p .el, .p (.pt 0 1), .p (.pt 1 1), .p .el] [.own 3, .fn 184 [.el, .pt 0 1, .pt 1 1, .el]] args inh with
  | some ([.i i0, .i sum1, .b some2, .l p3, .l p6], [.l h0, .l h1_0, .l h1_1]) => some ((self (i0, sum1, some2, p3, p6, h0, h1_0, h1_1)).isSome, (f_i_WeightedZero_1_en ((self (i0, sum1, some2, p3, p6, h0, h1_0, h1_1)).getD (false, [], [], []))).1, (f_i_WeightedZero_1_en ((self (i0, sum1, some2, p3, p6, h0, h1_0, h1_1)).getD (false, [], [], []))).2)
  | _ => none
theorem f_i_WeightedZero_1_cst (self : (Int × Int × Bool × List Sc × List Sc × List Sc × List Sc × List Sc) → Option (Bool × List Sc × List Sc × List Sc)) (hs : ∀ a r, self a = some r → CS Try.prog 184 (f_i_WeightedZero_1_a a.1 a.2.1 a.2.2.1 a.2.2.2.1 a.2.2.2.2.1 a.2.2.2.2.2.1 a.2.2.2.2.2.2.1 a.2.2.2.2.2.2.2) (f_i_WeightedZero_1_i a.1 a.2.1 a.2.2.1 a.2.2.2.1 a.2.2.2.2.1 a.2.2.2.2.2.1 a.2.2.2.2.2.2.1 a.2.2.2.2.2.2.2) (f_i_WeightedZero_1_en r).1 (f_i_WeightedZero_1_en r).2) : CTrue Try.prog 184 (f_i_WeightedZero_1_cs self) := by
  intro args inh rs out h
  unfold f_i_WeightedZero_1_cs at h
  split at h
  · rename_i hd
    obtain ⟨h1, h2⟩ := dec2_enc hd
    rw [← h1, ← h2]
    exact rowC (hs _) h
  · cases h
def f_i_WeightedZero_1_M (self : (Int × Int × Bool × List Sc × List Sc × List Sc × List Sc × List Sc) → Option (Bool × List Sc × List Sc × List Sc)) : Calling := addC 184 (f_i_WeightedZero_1_cs self) (addC 185 f_i_Group_times_c (addC 155 f_i_Group_add_c (noC)))
theorem f_i_WeightedZero_1_Mt (self : (Int × Int × Bool × List Sc × List Sc × List Sc × List Sc × List Sc) → Option (Bool × List Sc × List Sc × List Sc)) (hs : ∀ a r, self a = some r → CS Try.prog 184 (f_i_WeightedZero_1_a a.1 a.2.1 a.2.2.1 a.2.2.2.1 a.2.2.2.2.1 a.2.2.2.2.2.1 a.2.2.2.2.2.2.1 a.2.2.2.2.2.2.2) (f_i_WeightedZero_1_i a.1 a.2.1 a.2.2.1 a.2.2.2.1 a.2.2.2.2.1 a.2.2.2.2.2.1 a.2.2.2.2.2.2.1 a.2.2.2.2.2.2.2) (f_i_WeightedZero_1_en r).1 (f_i_WeightedZero_1_en r).2) : CallOk Try.prog (f_i_WeightedZero_1_M self) := addC_true (f_i_WeightedZero_1_cst self hs) (addC_true f_i_Group_times_cc (addC_true f_i_Group_add_cc (noC_true)))
theorem f_i_WeightedZero_1_o : loopsOnce Try.f184 = true := by kernel_rfl
def f_i_WeightedZero_1_h0 : List Sh := [.own 3, .fn 184 [.el, .pt 0 1, .pt 1 1, .el], .p (.int .i64), .p (.int .i64), .p .boo, .p .el, .p (.pt 0 1), .p (.pt 1 1), .p .el, .u, .u, .u, .u, .u, .u, .u, .u, .u, .u, .u, .u, .u, .u, .u, .own 3, .p (.int .i64), .p (.int .i64), .u, .u, .u, .u, .u, .u, .u, .u, .u, .u, .u, .u, .u, .u, .u, .u, .u, .u, .u, .u, .u, .u, .u, .u, .u, .u, .u]
def f_i_WeightedZero_1_fr0 (self : (Int × Int × Bool × List Sc × List Sc × List Sc × List Sc × List Sc) → Option (Bool × List Sc × List Sc × List Sc)) (i0 : Int) (sum1 : Int) (some2 : Bool) (t3 : List Sc) (t6 : List Sc) (t23 : Int) (s : List Sc × List Sc × List Sc × List Sc × Int) : List AV := enc f_i_WeightedZero_1_h0 [.l s.1, .l s.2.1, .l s.2.2.1, .i i0, .i sum1, .b some2, .l t3, .l t6, .l s.2.2.2.1, .i t23, .i s.2.2.2.2]
def f_i_WeightedZero_1_g0_1 : List Sh := [.own 3, .fn 184 [.el, .pt 0 1, .pt 1 1, .el], .u, .u, .u, .u, .u, .u, .u, .u, .u, .u, .u, .u, .u, .u, .u, .u, .u, .u, .u, .u, .u, .u, .u, .u, .u, .u, .u, .u, .u, .u, .u, .u, .u, .u, .u, .u, .u, .u, .u, .u, .u, .u, .u, .u, .u, .u, .u, .u, .u, .u, .u, .u]
def f_i_WeightedZero_1_x0_1 (self : (Int × Int × Bool × List Sc × List Sc × List Sc × List Sc × List Sc) → Option (Bool × List Sc × List Sc × List Sc)) (i0 : Int) (sum1 : Int) (some2 : Bool) (t3 : List Sc) (t6 : List Sc) (t23 : Int) (e : List Sc × List Sc × List Sc) : X × List AV := (.out 0, enc f_i_WeightedZero_1_g0_1 [.l e.1, .l e.2.1, .l e.2.2])
def f_i_WeightedZero_1_g0_2 : List Sh := [.own 3, .fn 184 [.el, .pt 0 1, .pt 1 1, .el], .u, .u, .u, .u, .u, .u, .u, .u, .u, .u, .p .boo, .u, .u, .u, .u, .u, .u, .u, .u, .u, .u, .u, .u, .u, .u, .u, .u, .u, .u, .u, .u, .u, .u, .u, .u, .u, .u, .u, .u, .u, .u, .u, .u, .u, .u, .u, .u, .u, .u, .u, .u, .u]
def f_i_WeightedZero_1_x0_2 (self : (Int × Int × Bool × List Sc × List Sc × List Sc × List Sc × List Sc) → Option (Bool × List Sc × List Sc × List Sc)) (i0 : Int) (sum1 : Int) (some2 : Bool) (t3 : List Sc) (t6 : List Sc) (t23 : Int) (e : List Sc × List Sc × List Sc) : X × List AV := (.ret, enc f_i_WeightedZero_1_g0_2 [.l e.1, .l e.2.1, .l e.2.2, .b true])
theorem f_i_WeightedZero_1_p0 {R : Type} (self : (Int × Int × Bool × List Sc × List Sc × List Sc × List Sc × List Sc) → Option (Bool × List Sc × List Sc × List Sc)) (i0 : Int) (sum1 : Int) (some2 : Bool) (t3 : List Sc) (t6 : List Sc) (t23 : Int) (s : List Sc × List Sc × List Sc × List Sc × Int) (kN : List Sc × List Sc × List Sc × List Sc × Int → Option R) (kA : List Sc × List Sc × List Sc → Option R) (kB : List Sc × List Sc × List Sc → Option R) : f_i_WeightedZero_1_k0 self i0 sum1 some2 t3 t6 t23 s.1 s.2.1 s.2.2.1 s.2.2.2.1 s.2.2.2.2 kN kA kB = (f_i_WeightedZero_1_r0 self i0 sum1 some2 t3 t6 t23 s).bind (Ro.el kN kA kB) := by
  simp only [f_i_WeightedZero_1_k0, f_i_WeightedZero_1_r0, brB, boB, someB, noneB, Ro.el]
theorem f_i_WeightedZero_1_e0 (self : (Int × Int × Bool × List Sc × List Sc × List Sc × List Sc × List Sc) → Option (Bool × List Sc × List Sc × List Sc)) (i0 : Int) (sum1 : Int) (some2 : Bool) (t3 : List Sc) (t6 : List Sc) (t23 : Int) (s : List Sc × List Sc × List Sc × List Sc × Int) : EC E0 (f_i_WeightedZero_1_M self) H0 f_i_WeightedZero_1_F (asL (noL)) 0 (bodyOf Try.f184 0) (f_i_WeightedZero_1_fr0 self i0 sum1 some2 t3 t6 t23 s) (done (klOf f_i_WeightedZero_1_F 0)) = f_i_WeightedZero_1_k0 self i0 sum1 some2 t3 t6 t23 s.1 s.2.1 s.2.2.1 s.2.2.2.1 s.2.2.2.2 (fun s => some (.norm, f_i_WeightedZero_1_fr0 self i0 sum1 some2 t3 t6 t23 s)) (fun e => some (f_i_WeightedZero_1_x0_1 self i0 sum1 some2 t3 t6 t23 e)) (fun e => some (f_i_WeightedZero_1_x0_2 self i0 sum1 some2 t3 t6 t23 e)) := by kernel_rfl
theorem f_i_WeightedZero_1_l0 (self : (Int × Int × Bool × List Sc × List Sc × List Sc × List Sc × List Sc) → Option (Bool × List Sc × List Sc × List Sc)) (hs : ∀ a r, self a = some r → CS Try.prog 184 (f_i_WeightedZero_1_a a.1 a.2.1 a.2.2.1 a.2.2.2.1 a.2.2.2.2.1 a.2.2.2.2.2.1 a.2.2.2.2.2.2.1 a.2.2.2.2.2.2.2) (f_i_WeightedZero_1_i a.1 a.2.1 a.2.2.1 a.2.2.2.1 a.2.2.2.2.1 a.2.2.2.2.2.1 a.2.2.2.2.2.2.1 a.2.2.2.2.2.2.2) (f_i_WeightedZero_1_en r).1 (f_i_WeightedZero_1_en r).2) (i0 : Int) (sum1 : Int) (some2 : Bool) (t3 : List Sc) (t6 : List Sc) (t23 : Int) : ∀ s r, loopL (f_i_WeightedZero_1_r0 self i0 sum1 some2 t3 t6 t23) s = some r → LS Try.prog f_i_WeightedZero_1_F (bodyOf Try.f184 0) (f_i_WeightedZero_1_fr0 self i0 sum1 some2 t3 t6 t23 s) (enX (f_i_WeightedZero_1_x0_1 self i0 sum1 some2 t3 t6 t23) (f_i_WeightedZero_1_x0_2 self i0 sum1 some2 t3 t6 t23) r) :=
  loop_true E0ok (f_i_WeightedZero_1_Mt self hs) (noL_true) f_i_WeightedZero_1_o (fun _ h => by cases h) (fun _ h => by cases h) (fun s => (f_i_WeightedZero_1_e0 self i0 sum1 some2 t3 t6 t23 s).trans (f_i_WeightedZero_1_p0 self i0 sum1 some2 t3 t6 t23 s _ _ (fun e => some (f_i_WeightedZero_1_x0_2 self i0 sum1 some2 t3 t6 t23 e))))
def f_i_WeightedZero_1_t0 (self : (Int × Int × Bool × List Sc × List Sc × List Sc × List Sc × List Sc) → Option (Bool × List Sc × List Sc × List Sc)) (σ : List AV) : Option (Bool × Bool × (X × List AV) × (X × List AV)) := match dec f_i_WeightedZero_1_h0 σ with
  | some [.l v0, .l v1_0, .l v1_1, .i i0, .i sum1, .b some2, .l t3, .l t6, .l t22, .i t23, .i t24] => some ((loopL (f_i_WeightedZero_1_r0 self i0 sum1 some2 t3 t6 t23) (v0, v1_0, v1_1, t22, t24)).isSome, isOne (loopL (f_i_WeightedZero_1_r0 self i0 sum1 some2 t3 t6 t23) (v0, v1_0, v1_1, t22, t24)), f_i_WeightedZero_1_x0_1 self i0 sum1 some2 t3 t6 t23 (getOne ([], [], []) (loopL (f_i_WeightedZero_1_r0 self i0 sum1 some2 t3 t6 t23) (v0, v1_0, v1_1, t22, t24))), f_i_WeightedZero_1_x0_2 self i0 sum1 some2 t3 t6 t23 (getTwo ([], [], []) (loopL (f_i_WeightedZero_1_r0 self i0 sum1 some2 t3 t6 t23) (v0, v1_0, v1_1, t22, t24))))
  | _ => none
theorem f_i_WeightedZero_1_tt0 (self : (Int × Int × Bool × List Sc × List Sc × List Sc × List Sc × List Sc) → Option (Bool × List Sc × List Sc × List Sc)) (hs : ∀ a r, self a = some r → CS Try.prog 184 (f_i_WeightedZero_1_a a.1 a.2.1 a.2.2.1 a.2.2.2.1 a.2.2.2.2.1 a.2.2.2.2.2.1 a.2.2.2.2.2.2.1 a.2.2.2.2.2.2.2) (f_i_WeightedZero_1_i a.1 a.2.1 a.2.2.1 a.2.2.2.1 a.2.2.2.2.1 a.2.2.2.2.2.1 a.2.2.2.2.2.2.1 a.2.2.2.2.2.2.2) (f_i_WeightedZero_1_en r).1 (f_i_WeightedZero_1_en r).2) : TTrue Try.prog f_i_WeightedZero_1_F Try.f184 0 (f_i_WeightedZero_1_t0 self) := by
  intro σ p r r' h
  unfold f_i_WeightedZero_1_t0 at h
  split at h
  · rename_i hd
    rw [← dec_enc hd]
    exact row2 (f_i_WeightedZero_1_l0 self hs _ _ _ _ _ _ _) h
  · cases h
theorem f_i_WeightedZero_1_p {R : Type} (self : (Int × Int × Bool × List Sc × List Sc × List Sc × List Sc × List Sc) → Option (Bool × List Sc × List Sc × List Sc)) (i0 : Int) (sum1 : Int) (some2 : Bool) (p3 : List Sc) (p6 : List Sc) (h0 : List Sc) (h1_0 : List Sc) (h1_1 : List Sc) (kR : Bool × List Sc × List Sc × List Sc → Option R) : f_i_WeightedZero_1_k self i0 sum1 some2 p3 p6 h0 h1_0 h1_1 kR = (f_i_WeightedZero_1_k self i0 sum1 some2 p3 p6 h0 h1_0 h1_1 some).bind kR := by
  simp only [f_i_WeightedZero_1_k, brB, blB, someB]
theorem f_i_WeightedZero_1_e (self : (Int × Int × Bool × List Sc × List Sc × List Sc × List Sc × List Sc) → Option (Bool × List Sc × List Sc × List Sc)) (i0 : Int) (sum1 : Int) (some2 : Bool) (p3 : List Sc) (p6 : List Sc) (h0 : List Sc) (h1_0 : List Sc) (h1_1 : List Sc) : runFn E0 (f_i_WeightedZero_1_M self) H0 f_i_WeightedZero_1_F (asL (addL 0 (f_i_WeightedZero_1_t0 self) (noL))) Try.f184 (f_i_WeightedZero_1_a i0 sum1 some2 p3 p6 h0 h1_0 h1_1) (f_i_WeightedZero_1_i i0 sum1 some2 p3 p6 h0 h1_0 h1_1) = f_i_WeightedZero_1_k self i0 sum1 some2 p3 p6 h0 h1_0 h1_1 (fun r => some (f_i_WeightedZero_1_en r)) := by kernel_rfl
theorem f_i_WeightedZero_1_ks (self : (Int × Int × Bool × List Sc × List Sc × List Sc × List Sc × List Sc) → Option (Bool × List Sc × List Sc × List Sc)) (hs : ∀ a r, self a = some r → CS Try.prog 184 (f_i_WeightedZero_1_a a.1 a.2.1 a.2.2.1 a.2.2.2.1 a.2.2.2.2.1 a.2.2.2.2.2.1 a.2.2.2.2.2.2.1 a.2.2.2.2.2.2.2) (f_i_WeightedZero_1_i a.1 a.2.1 a.2.2.1 a.2.2.2.1 a.2.2.2.2.1 a.2.2.2.2.2.1 a.2.2.2.2.2.2.1 a.2.2.2.2.2.2.2) (f_i_WeightedZero_1_en r).1 (f_i_WeightedZero_1_en r).2) (i0 : Int) (sum1 : Int) (some2 : Bool) (p3 : List Sc) (p6 : List Sc) (h0 : List Sc) (h1_0 : List Sc) (h1_1 : List Sc) (r : Bool × List Sc × List Sc × List Sc) (h : f_i_WeightedZero_1_k self i0 sum1 some2 p3 p6 h0 h1_0 h1_1 some = some r) : CS Try.prog 184 (f_i_WeightedZero_1_a i0 sum1 some2 p3 p6 h0 h1_0 h1_1) (f_i_WeightedZero_1_i i0 sum1 some2 p3 p6 h0 h1_0 h1_1) (f_i_WeightedZero_1_en r).1 (f_i_WeightedZero_1_en r).2 :=
  fn_true (Gk := fun k => f_i_WeightedZero_1_k self i0 sum1 some2 p3 p6 h0 h1_0 h1_1 k) (en := f_i_WeightedZero_1_en) Try.func184 E0ok (f_i_WeightedZero_1_Mt self hs) (addL_true (f_i_WeightedZero_1_tt0 self hs) (noL_true)) f_i_WeightedZero_1_o (f_i_WeightedZero_1_e self i0 sum1 some2 p3 p6 h0 h1_0 h1_1) (f_i_WeightedZero_1_p self i0 sum1 some2 p3 p6 h0 h1_0 h1_1) h
theorem f_i_WeightedZero_1_ns : ∀ n a r, f_i_WeightedZero_1_n n a = some r → CS Try.prog 184 (f_i_WeightedZero_1_a a.1 a.2.1 a.2.2.1 a.2.2.2.1 a.2.2.2.2.1 a.2.2.2.2.2.1 a.2.2.2.2.2.2.1 a.2.2.2.2.2.2.2) (f_i_WeightedZero_1_i a.1 a.2.1 a.2.2.1 a.2.2.2.1 a.2.2.2.2.1 a.2.2.2.2.2.1 a.2.2.2.2.2.2.1 a.2.2.2.2.2.2.2) (f_i_WeightedZero_1_en r).1 (f_i_WeightedZero_1_en r).2
  | 0, _, _, h => by cases h
  | n + 1, a, r, h => f_i_WeightedZero_1_ks (f_i_WeightedZero_1_n n) (f_i_WeightedZero_1_ns n) a.1 a.2.1 a.2.2.1 a.2.2.2.1 a.2.2.2.2.1 a.2.2.2.2.2.1 a.2.2.2.2.2.2.1 a.2.2.2.2.2.2.2 r h
theorem f_i_WeightedZero_1_ok (i0 : Int) (sum1 : Int) (some2 : Bool) (p3 : List Sc) (p6 : List Sc) (h0 : List Sc) (h1_0 : List Sc) (h1_1 : List Sc) (r : Bool × List Sc × List Sc × List Sc) (h : f_i_WeightedZero_1 i0 sum1 some2 p3 p6 h0 h1_0 h1_1 = some r) : CS Try.prog 184 (f_i_WeightedZero_1_a i0 sum1 some2 p3 p6 h0 h1_0 h1_1) (f_i_WeightedZero_1_i i0 sum1 some2 p3 p6 h0 h1_0 h1_1) (f_i_WeightedZero_1_en r).1 (f_i_WeightedZero_1_en r).2 := by
  obtain ⟨n, hn⟩ := limF_some h
  exact f_i_WeightedZero_1_ns n _ r hn
def f_i_WeightedZero_1_c : CRow := fun args inh => match dec2 [.p (.int .i64), .p (.int .i64), .p .boo, .p .el, .p (.pt 0 1), .p (.pt 1 1), .p .el] [.own 3, .fn 184 [.el, .pt 0 1, .pt 1 1, .el]] args inh with
  | some ([.i i0, .i sum1, .b some2, .l p3, .l p6], [.l h0, .l h1_0, .l h1_1]) => some ((f_i_WeightedZero_1 i0 sum1 some2 p3 p6 h0 h1_0 h1_1).isSome, (f_i_WeightedZero_1_en ((f_i_WeightedZero_1 i0 sum1 some2 p3 p6 h0 h1_0 h1_1).getD (false, [], [], []))).1, (f_i_WeightedZero_1_en ((f_i_WeightedZero_1 i0 sum1 some2 p3 p6 h0 h1_0 h1_1).getD (false, [], [], []))).2)
  | _ => none
theorem f_i_WeightedZero_1_cc : CTrue Try.prog 184 f_i_WeightedZero_1_c := by
  intro args inh rs out h
  unfold f_i_WeightedZero_1_c at h
  split at h
  · rename_i hd
    obtain ⟨h1, h2⟩ := dec2_enc hd
    rw [← h1, ← h2]
    exact rowC (f_i_WeightedZero_1_ok _ _ _ _ _ _ _ _) h
  · cases h

def f_i_WeightedZero_F : Fi := { nv := 2, nc := 2, m := 0, vt := [(6, 0), (7, 1)], kl := [], sk := [], mvs := [], fz := [] }
def f_i_WeightedZero_a (g0 : List Sc) (l1 : List Sc) : List AV := enc [.p .gr, .p .sl] [.l g0, .l l1]
def f_i_WeightedZero_i (g0 : List Sc) (l1 : List Sc) : List AV := enc [] []
def f_i_WeightedZero_en (r : List Sc × Bool) : List AV × List AV := (enc [.p (.al 0), .p .boo] [.b r.2], enc [.own 3] [.l r.1])
def f_i_WeightedZero_M : Calling := addC 104 f_i_IsSequence_c (addC 184 f_i_WeightedZero_1_c (noC))
theorem f_i_WeightedZero_Mt : CallOk Try.prog (f_i_WeightedZero_M) := addC_true f_i_IsSequence_cc (addC_true f_i_WeightedZero_1_cc (noC_true))
theorem f_i_WeightedZero_o : loopsOnce Try.f77 = true := by kernel_rfl
theorem f_i_WeightedZero_p {R : Type} (g0 : List Sc) (l1 : List Sc) (kR : List Sc × Bool → Option R) : f_i_WeightedZero_k g0 l1 kR = (f_i_WeightedZero_k g0 l1 some).bind kR := by
  simp only [f_i_WeightedZero_k, brB, boB, someB, noneB]
theorem f_i_WeightedZero_e (g0 : List Sc) (l1 : List Sc) : runFn E0 f_i_WeightedZero_M H0 f_i_WeightedZero_F (asL (noL)) Try.f77 (f_i_WeightedZero_a g0 l1) (f_i_WeightedZero_i g0 l1) = f_i_WeightedZero_k g0 l1 (fun r => some (f_i_WeightedZero_en r)) := by kernel_rfl
theorem f_i_WeightedZero_ok (g0 : List Sc) (l1 : List Sc) (r : List Sc × Bool) (h : f_i_WeightedZero g0 l1 = some r) : CS Try.prog 77 (f_i_WeightedZero_a g0 l1) (f_i_WeightedZero_i g0 l1) (f_i_WeightedZero_en r).1 (f_i_WeightedZero_en r).2 :=
  fn_true (Gk := fun k => f_i_WeightedZero_k g0 l1 k) (en := f_i_WeightedZero_en) Try.func77 E0ok f_i_WeightedZero_Mt (noL_true) f_i_WeightedZero_o (f_i_WeightedZero_e g0 l1) (f_i_WeightedZero_p g0 l1) h
def f_i_WeightedZero_c : CRow := fun args inh => match dec2 [.p .gr, .p .sl] [] args inh with
  | some ([.l g0, .l l1], []) => some ((f_i_WeightedZero g0 l1).isSome, (f_i_WeightedZero_en ((f_i_WeightedZero g0 l1).getD ([], false))).1, (f_i_WeightedZero_en ((f_i_WeightedZero g0 l1).getD ([], false))).2)
  | _ => none
theorem f_i_WeightedZero_cc : CTrue Try.prog 77 f_i_WeightedZero_c := by
  intro args inh rs out h
  unfold f_i_WeightedZero_c at h
  split at h
  · rename_i hd
    obtain ⟨h1, h2⟩ := dec2_enc hd
    rw [← h1, ← h2]
    exact rowC (f_i_WeightedZero_ok _ _) h
  · cases h

def f_s_l2Negate_F : Fi := { nv := 0, nc := 0, m := 0, vt := [], kl := [(0, ([0, 3, 4, 8, 9, 10, 11, 12, 13, 14, 15, 16, 17, 18, 19, 20, 21, 22, 23, 24, 25, 26, 27, 28, 29, 30, 31, 32, 33, 34, 35, 36, 37, 38], [0, 1, 2, 3, 4, 6, 7, 8, 9, 10, 11, 12, 13, 14, 15, 16, 17, 18, 19, 20, 21, 22, 23, 24, 25, 26, 27, 28, 29, 30, 31, 32, 33, 34, 35, 36, 37, 38], [0, 1, 2, 3, 5, 6, 7, 8, 9, 10, 11, 12, 13, 14, 15, 16, 17, 18, 19, 20, 21, 22, 23, 24, 25, 26, 27, 28, 29, 30, 31, 32, 33, 34, 35, 36, 37, 38]))], sk := [], mvs := [], fz := [] }
def f_s_l2Negate_a (g0 : List Sc) (x1 : Int) : List AV := enc [.p .gr, .p (.int .i64)] [.l g0, .i x1]
def f_s_l2Negate_i (g0 : List Sc) (x1 : Int) : List AV := enc [] []
def f_s_l2Negate_en (r : Int) : List AV × List AV := (enc [.p (.int .i64)] [.i r], enc [] [])
def f_s_l2Negate_M : Calling := noC
theorem f_s_l2Negate_Mt : CallOk Try.prog (f_s_l2Negate_M) := noC_true
theorem f_s_l2Negate_o : loopsOnce Try.f157 = true := by kernel_rfl
def f_s_l2Negate_h0 : List Sh := [.u, .p (.int .i64), .p .el, .u, .u, .p (.int .i64), .p (.int .i64), .p (.int .i64), .u, .u, .u, .u, .u, .u, .u, .u, .u, .u, .u, .u, .u, .u, .u, .u, .u, .u, .u, .u, .u, .u, .u, .u, .u, .u, .u, .u, .u, .u, .u]
def f_s_l2Negate_fr0 (g2 : List Sc) (s : Int × Int × Int × Int) : List AV := enc f_s_l2Negate_h0 [.i s.1, .l g2, .i s.2.1, .i s.2.2.1, .i s.2.2.2]
def f_s_l2Negate_g0_1 : List Sh := [.u, .u, .u, .u, .u, .p (.int .i64), .u, .u, .u, .u, .u, .u, .u, .u, .u, .u, .u, .u, .u, .u, .u, .u, .u, .u, .u, .u, .u, .u, .u, .u, .u, .u, .u, .u, .u, .u, .u, .u, .u]
def f_s_l2Negate_x0_1 (g2 : List Sc) (e : Int) : X × List AV := (.out 0, enc f_s_l2Negate_g0_1 [.i e])
def f_s_l2Negate_x0_2 (g2 : List Sc) (_e : Unit) : X × List AV := (.ret, [])
theorem f_s_l2Negate_p0 {R : Type} (g2 : List Sc) (s : Int × Int × Int × Int) (kN : Int × Int × Int × Int → Option R) (kA : Int → Option R) (kB : Unit → Option R) : f_s_l2Negate_k0 g2 s.1 s.2.1 s.2.2.1 s.2.2.2 kN kA = (f_s_l2Negate_r0 g2 s).bind (Ro.el kN kA kB) := by
  simp only [f_s_l2Negate_k0, f_s_l2Negate_r0, brB, someB, noneB, Ro.el]
theorem f_s_l2Negate_e0 (g2 : List Sc) (s : Int × Int × Int × Int) : EC E0 f_s_l2Negate_M H0 f_s_l2Negate_F (asL (noL)) 0 (bodyOf Try.f157 0) (f_s_l2Negate_fr0 g2 s) (done (klOf f_s_l2Negate_F 0)) = f_s_l2Negate_k0 g2 s.1 s.2.1 s.2.2.1 s.2.2.2 (fun s => some (.norm, f_s_l2Negate_fr0 g2 s)) (fun e => some (f_s_l2Negate_x0_1 g2 e)) := by kernel_rfl
theorem f_s_l2Negate_l0 (g2 : List Sc) : ∀ s r, loopL (f_s_l2Negate_r0 g2) s = some r → LS Try.prog f_s_l2Negate_F (bodyOf Try.f157 0) (f_s_l2Negate_fr0 g2 s) (enX (f_s_l2Negate_x0_1 g2) (f_s_l2Negate_x0_2 g2) r) :=
  loop_true E0ok f_s_l2Negate_Mt (noL_true) f_s_l2Negate_o (fun _ h => by cases h) (fun _ h => by cases h) (fun s => (f_s_l2Negate_e0 g2 s).trans (f_s_l2Negate_p0 g2 s _ _ (fun e => some (f_s_l2Negate_x0_2 g2 e))))
def f_s_l2Negate_t0 (σ : List AV) : Option (Bool × Bool × (X × List AV) × (X × List AV)) := match dec f_s_l2Negate_h0 σ with
  | some [.i x1, .l g2, .i z5, .i step6, .i i7] => some (isOne (loopL (f_s_l2Negate_r0 g2) (x1, z5, step6, i7)), true, f_s_l2Negate_x0_1 g2 (getOne 0 (loopL (f_s_l2Negate_r0 g2) (x1, z5, step6, i7))), (.ret, []))
  | _ => none
theorem f_s_l2Negate_tt0 : TTrue Try.prog f_s_l2Negate_F Try.f157 0 (f_s_l2Negate_t0) := by
  intro σ p r r' h
  unfold f_s_l2Negate_t0 at h
  split at h
  · rename_i hd
    rw [← dec_enc hd]
    exact row1 (f_s_l2Negate_l0 _ _) h
  · cases h
theorem f_s_l2Negate_p {R : Type} (g0 : List Sc) (x1 : Int) (kR : Int → Option R) : f_s_l2Negate_k g0 x1 kR = (f_s_l2Negate_k g0 x1 some).bind kR := by
  simp only [f_s_l2Negate_k, bl1B, someB]
theorem f_s_l2Negate_e (g0 : List Sc) (x1 : Int) : runFn E0 f_s_l2Negate_M H0 f_s_l2Negate_F (asL (addL 0 (f_s_l2Negate_t0) (noL))) Try.f157 (f_s_l2Negate_a g0 x1) (f_s_l2Negate_i g0 x1) = f_s_l2Negate_k g0 x1 (fun r => some (f_s_l2Negate_en r)) := by kernel_rfl
theorem f_s_l2Negate_ok (g0 : List Sc) (x1 : Int) (r : Int) (h : f_s_l2Negate g0 x1 = some r) : CS Try.prog 157 (f_s_l2Negate_a g0 x1) (f_s_l2Negate_i g0 x1) (f_s_l2Negate_en r).1 (f_s_l2Negate_en r).2 :=
  fn_true (Gk := fun k => f_s_l2Negate_k g0 x1 k) (en := f_s_l2Negate_en) Try.func157 E0ok f_s_l2Negate_Mt (addL_true (f_s_l2Negate_tt0) (noL_true)) f_s_l2Negate_o (f_s_l2Negate_e g0 x1) (f_s_l2Negate_p g0 x1) h
def f_s_l2Negate_c : CRow := fun args inh => match dec2 [.p .gr, .p (.int .i64)] [] args inh with
  | some ([.l g0, .i x1], []) => some ((f_s_l2Negate g0 x1).isSome, (f_s_l2Negate_en ((f_s_l2Negate g0 x1).getD 0)).1, (f_s_l2Negate_en ((f_s_l2Negate g0 x1).getD 0)).2)
  | _ => none
theorem f_s_l2Negate_cc : CTrue Try.prog 157 f_s_l2Negate_c := by
  intro args inh rs out h
  unfold f_s_l2Negate_c at h
  split at h
  · rename_i hd
    obtain ⟨h1, h2⟩ := dec2_enc hd
    rw [← h1, ← h2]
    exact rowC (f_s_l2Negate_ok _ _) h
  · cases h

def f_s_WeightedZero_F : Fi := { nv := 0, nc := 0, m := 0, vt := [], kl := [(4, ([0, 3, 4, 5, 7, 13, 14, 15, 16, 17, 18, 19, 20, 21, 22, 23, 24, 25, 26, 27, 28, 29, 30, 31, 32, 33, 34, 35, 36, 37, 38, 39, 40, 41, 42, 43, 44, 45, 46, 47, 48, 49, 50, 51, 52, 53, 54, 55, 56, 57, 58, 59, 60, 61, 62, 63, 64, 65, 66, 67, 68, 69, 70, 71, 72, 73, 74, 75, 76, 77, 78, 79, 80], [0, 3, 4, 5, 7, 10, 12, 13, 14, 15, 16, 17, 18, 19, 20, 21, 22, 23, 24, 25, 26, 27, 28, 29, 30, 31, 32, 33, 34, 35, 36, 37, 38, 39, 40, 41, 42, 43, 44, 45, 46, 47, 48, 49, 50, 51, 52, 53, 54, 55, 56, 57, 58, 59, 60, 61, 62, 63, 64, 65, 66, 67, 68, 69, 70, 71, 72, 73, 74, 75, 76, 77, 78, 79, 80], [0, 1, 2, 3, 6, 7, 8, 9, 10, 11, 12, 13, 14, 15, 16, 17, 18, 19, 20, 21, 22, 23, 24, 25, 26, 27, 28, 29, 30, 31, 32, 33, 34, 35, 36, 37, 38, 39, 40, 41, 42, 43, 44, 45, 46, 47, 48, 49, 50, 51, 52, 53, 54, 55, 56, 57, 58, 59, 60, 61, 62, 63, 64, 65, 66, 67, 68, 69, 70, 71, 72, 73, 74, 75, 76, 77, 78, 79, 80])), (2, ([0, 3, 4, 5, 7, 9, 10, 11, 12, 13, 14, 15, 16, 17, 18, 19, 20, 21, 22, 23, 24, 25, 26, 27, 28, 29, 30, 31, 32, 33, 34, 35, 36, 37, 38, 39, 40, 41, 42, 43, 44, 45, 46, 47, 48, 49, 50, 51, 52, 53, 54, 55, 56, 57, 58, 59, 60, 61, 62, 63, 64, 65, 66, 67, 68, 69, 70, 71, 72, 73, 74, 75, 76, 77, 78, 79, 80], [0, 3, 4, 5, 7, 10, 12, 13, 14, 15, 16, 17, 18, 19, 20, 21, 22, 23, 24, 25, 26, 27, 28, 29, 30, 31, 32, 33, 34, 35, 36, 37, 38, 39, 40, 41, 42, 43, 44, 45, 46, 47, 48, 49, 50, 51, 52, 53, 54, 55, 56, 57, 58, 59, 60, 61, 62, 63, 64, 65, 66, 67, 68, 69, 70, 71, 72, 73, 74, 75, 76, 77, 78, 79, 80], [0, 1, 2, 3, 6, 7, 8, 9, 10, 11, 12, 13, 14, 15, 16, 17, 18, 19, 20, 21, 22, 23, 24, 25, 26, 27, 28, 29, 30, 31, 32, 33, 34, 35, 36, 37, 38, 39, 40, 41, 42, 43, 44, 45, 46, 47, 48, 49, 50, 51, 52, 53, 54, 55, 56, 57, 58, 59, 60, 61, 62, 63, 64, 65, 66, 67, 68, 69, 70, 71, 72, 73, 74, 75, 76, 77, 78, 79, 80])), (0, ([0, 3, 4, 5, 8, 9, 10, 11, 12, 13, 14, 15, 16, 17, 18, 19, 20, 21, 22, 23, 24, 25, 26, 27, 28, 29, 30, 31, 32, 33, 34, 35, 36, 37, 38, 39, 40, 41, 42, 43, 44, 45, 46, 47, 48, 49, 50, 51, 52, 53, 54, 55, 56, 57, 58, 59, 60, 61, 62, 63, 64, 65, 66, 67, 68, 69, 70, 71, 72, 73, 74, 75, 76, 77, 78, 79, 80], [0, 3, 4, 5, 7, 8, 9, 10, 11, 12, 13, 14, 15, 16, 17, 18, 19, 20, 21, 22, 23, 24, 25, 26, 27, 28, 29, 30, 31, 32, 33, 34, 35, 36, 37, 38, 39, 40, 41, 42, 43, 44, 45, 46, 47, 48, 49, 50, 51, 52, 53, 54, 55, 56, 57, 58, 59, 60, 61, 62, 63, 64, 65, 66, 67, 68, 69, 70, 71, 72, 73, 74, 75, 76, 77, 78, 79, 80], [0, 1, 2, 3, 6, 7, 8, 9, 10, 11, 12, 13, 14, 15, 16, 17, 18, 19, 20, 21, 22, 23, 24, 25, 26, 27, 28, 29, 30, 31, 32, 33, 34, 35, 36, 37, 38, 39, 40, 41, 42, 43, 44, 45, 46, 47, 48, 49, 50, 51, 52, 53, 54, 55, 56, 57, 58, 59, 60, 61, 62, 63, 64, 65, 66, 67, 68, 69, 70, 71, 72, 73, 74, 75, 76, 77, 78, 79, 80]))], sk := [], mvs := [], fz := [] }
def f_s_WeightedZero_a (L0 : List Sc) (p1 : List Sc) : List AV := enc [.p .gr, .p .sl] [.l L0, .l p1]
def f_s_WeightedZero_i (L0 : List Sc) (p1 : List Sc) : List AV := enc [] []
def f_s_WeightedZero_en (r : List Sc × Bool) : List AV × List AV := (enc [.p (.al 0), .p .boo] [.b r.2], enc [.own 3] [.l r.1])
def f_s_WeightedZero_M : Calling := addC 101 f_s_IsSequence_c (addC 156 f_s_l2Add_c (addC 157 f_s_l2Negate_c (noC)))
theorem f_s_WeightedZero_Mt : CallOk Try.prog (f_s_WeightedZero_M) := addC_true f_s_IsSequence_cc (addC_true f_s_l2Add_cc (addC_true f_s_l2Negate_cc (noC_true)))
theorem f_s_WeightedZero_o : loopsOnce Try.f78 = true := by kernel_rfl
def f_s_WeightedZero_h0 : List Sh := [.u, .p .sl, .p .el, .u, .u, .u, .p (.int .i64), .p (.int .i64), .u, .u, .u, .u, .u, .u, .u, .u, .u, .u, .u, .u, .u, .u, .u, .u, .u, .u, .u, .u, .u, .u, .u, .u, .u, .u, .u, .u, .u, .u, .u, .u, .u, .u, .u, .u, .u, .u, .u, .u, .u, .u, .u, .u, .u, .u, .u, .u, .u, .u, .u, .u, .u, .u, .u, .u, .u, .u, .u, .u, .u, .u, .u, .u, .u, .u, .u, .u, .u, .u, .u, .u, .u]
def f_s_WeightedZero_fr0 (t1 : List Sc) (t2 : List Sc) (s : Int × Int) : List AV := enc f_s_WeightedZero_h0 [.l t1, .l t2, .i s.1, .i s.2]
def f_s_WeightedZero_g0_1 : List Sh := [.u, .p .sl, .p .el, .u, .u, .u, .p (.int .i64), .u, .u, .u, .u, .u, .u, .u, .u, .u, .u, .u, .u, .u, .u, .u, .u, .u, .u, .u, .u, .u, .u, .u, .u, .u, .u, .u, .u, .u, .u, .u, .u, .u, .u, .u, .u, .u, .u, .u, .u, .u, .u, .u, .u, .u, .u, .u, .u, .u, .u, .u, .u, .u, .u, .u, .u, .u, .u, .u, .u, .u, .u, .u, .u, .u, .u, .u, .u, .u, .u, .u, .u, .u, .u]
def f_s_WeightedZero_x0_1 (t1 : List Sc) (t2 : List Sc) (e : Int) : X × List AV := (.out 0, enc f_s_WeightedZero_g0_1 [.l t1, .l t2, .i e])
def f_s_WeightedZero_x0_2 (t1 : List Sc) (t2 : List Sc) (_e : Unit) : X × List AV := (.ret, [])
theorem f_s_WeightedZero_p0 {R : Type} (t1 : List Sc) (t2 : List Sc) (s : Int × Int) (kN : Int × Int → Option R) (kA : Int → Option R) (kB : Unit → Option R) : f_s_WeightedZero_k0 t1 t2 s.1 s.2 kN kA = (f_s_WeightedZero_r0 t1 t2 s).bind (Ro.el kN kA kB) := by
  simp only [f_s_WeightedZero_k0, f_s_WeightedZero_r0, brB, someB, Ro.el]
theorem f_s_WeightedZero_e0 (t1 : List Sc) (t2 : List Sc) (s : Int × Int) : EC E0 f_s_WeightedZero_M H0 f_s_WeightedZero_F (asL (noL)) 0 (bodyOf Try.f78 0) (f_s_WeightedZero_fr0 t1 t2 s) (done (klOf f_s_WeightedZero_F 0)) = f_s_WeightedZero_k0 t1 t2 s.1 s.2 (fun s => some (.norm, f_s_WeightedZero_fr0 t1 t2 s)) (fun e => some (f_s_WeightedZero_x0_1 t1 t2 e)) := by kernel_rfl
theorem f_s_WeightedZero_l0 (t1 : List Sc) (t2 : List Sc) : ∀ s r, loopL (f_s_WeightedZero_r0 t1 t2) s = some r → LS Try.prog f_s_WeightedZero_F (bodyOf Try.f78 0) (f_s_WeightedZero_fr0 t1 t2 s) (enX (f_s_WeightedZero_x0_1 t1 t2) (f_s_WeightedZero_x0_2 t1 t2) r) :=
  loop_true E0ok f_s_WeightedZero_Mt (noL_true) f_s_WeightedZero_o (fun _ h => by cases h) (fun _ h => by cases h) (fun s => (f_s_WeightedZero_e0 t1 t2 s).trans (f_s_WeightedZero_p0 t1 t2 s _ _ (fun e => some (f_s_WeightedZero_x0_2 t1 t2 e))))
def f_s_WeightedZero_t0 (σ : List AV) : Option (Bool × Bool × (X × List AV) × (X × List AV)) := match dec f_s_WeightedZero_h0 σ with
  | some [.l t1, .l t2, .i t6, .i t7] => some (isOne (loopL (f_s_WeightedZero_r0 t1 t2) (t6, t7)), true, f_s_WeightedZero_x0_1 t1 t2 (getOne 0 (loopL (f_s_WeightedZero_r0 t1 t2) (t6, t7))), (.ret, []))
  | _ => none
theorem f_s_WeightedZero_tt0 : TTrue Try.prog f_s_WeightedZero_F Try.f78 0 (f_s_WeightedZero_t0) := by
  intro σ p r r' h
  unfold f_s_WeightedZero_t0 at h
  split at h
  · rename_i hd
    rw [← dec_enc hd]
    exact row1 (f_s_WeightedZero_l0 _ _ _) h
  · cases h
def f_s_WeightedZero_h4 : List Sh := [.u, .p .sl, .p .el, .u, .u, .u, .p (.int .i64), .u, .p (.int .i64), .own 3, .p (.int .i64), .p (.int .i64), .p (.int .i64), .u, .u, .u, .u, .u, .u, .u, .u, .u, .u, .u, .u, .u, .u, .u, .u, .u, .u, .u, .u, .u, .u, .u, .u, .u, .u, .u, .u, .u, .u, .u, .u, .u, .u, .u, .u, .u, .u, .u, .u, .u, .u, .u, .u, .u, .u, .u, .u, .u, .u, .u, .u, .u, .u, .u, .u, .u, .u, .u, .u, .u, .u, .u, .u, .u, .u, .u, .u]
def f_s_WeightedZero_fr4 (t1 : List Sc) (t2 : List Sc) (t6 : Int) (t8 : Int) (s : List Sc × Int × Int × Int) : List AV := enc f_s_WeightedZero_h4 [.l t1, .l t2, .i t6, .i t8, .l s.1, .i s.2.1, .i s.2.2.1, .i s.2.2.2]
def f_s_WeightedZero_g4_1 : List Sh := [.u, .p .sl, .p .el, .u, .u, .u, .p (.int .i64), .u, .p (.int .i64), .own 3, .u, .p (.int .i64), .u, .u, .u, .u, .u, .u, .u, .u, .u, .u, .u, .u, .u, .u, .u, .u, .u, .u, .u, .u, .u, .u, .u, .u, .u, .u, .u, .u, .u, .u, .u, .u, .u, .u, .u, .u, .u, .u, .u, .u, .u, .u, .u, .u, .u, .u, .u, .u, .u, .u, .u, .u, .u, .u, .u, .u, .u, .u, .u, .u, .u, .u, .u, .u, .u, .u, .u, .u, .u]
def f_s_WeightedZero_x4_1 (t1 : List Sc) (t2 : List Sc) (t6 : Int) (t8 : Int) (e : List Sc × Int) : X × List AV := (.out 4, enc f_s_WeightedZero_g4_1 [.l t1, .l t2, .i t6, .i t8, .l e.1, .i e.2])
def f_s_WeightedZero_x4_2 (t1 : List Sc) (t2 : List Sc) (t6 : Int) (t8 : Int) (_e : Unit) : X × List AV := (.ret, [])
theorem f_s_WeightedZero_p4 {R : Type} (t1 : List Sc) (t2 : List Sc) (t6 : Int) (t8 : Int) (s : List Sc × Int × Int × Int) (kN : List Sc × Int × Int × Int → Option R) (kA : List Sc × Int → Option R) (kB : Unit → Option R) : f_s_WeightedZero_k4 t1 t2 t6 t8 s.1 s.2.1 s.2.2.1 s.2.2.2 kN kA = (f_s_WeightedZero_r4 t1 t2 t6 t8 s).bind (Ro.el kN kA kB) := by
  simp only [f_s_WeightedZero_k4, f_s_WeightedZero_r4, brB, boB, someB, noneB, Ro.el]
theorem f_s_WeightedZero_e4 (t1 : List Sc) (t2 : List Sc) (t6 : Int) (t8 : Int) (s : List Sc × Int × Int × Int) : EC E0 f_s_WeightedZero_M H0 f_s_WeightedZero_F (asL (addL 0 (f_s_WeightedZero_t0) (noL))) 4 (bodyOf Try.f78 4) (f_s_WeightedZero_fr4 t1 t2 t6 t8 s) (done (klOf f_s_WeightedZero_F 4)) = f_s_WeightedZero_k4 t1 t2 t6 t8 s.1 s.2.1 s.2.2.1 s.2.2.2 (fun s => some (.norm, f_s_WeightedZero_fr4 t1 t2 t6 t8 s)) (fun e => some (f_s_WeightedZero_x4_1 t1 t2 t6 t8 e)) := by kernel_rfl
theorem f_s_WeightedZero_l4 (t1 : List Sc) (t2 : List Sc) (t6 : Int) (t8 : Int) : ∀ s r, loopL (f_s_WeightedZero_r4 t1 t2 t6 t8) s = some r → LS Try.prog f_s_WeightedZero_F (bodyOf Try.f78 4) (f_s_WeightedZero_fr4 t1 t2 t6 t8 s) (enX (f_s_WeightedZero_x4_1 t1 t2 t6 t8) (f_s_WeightedZero_x4_2 t1 t2 t6 t8) r) :=
  loop_true E0ok f_s_WeightedZero_Mt (addL_true (f_s_WeightedZero_tt0) (noL_true)) f_s_WeightedZero_o (fun _ h => by cases h) (fun _ h => by cases h) (fun s => (f_s_WeightedZero_e4 t1 t2 t6 t8 s).trans (f_s_WeightedZero_p4 t1 t2 t6 t8 s _ _ (fun e => some (f_s_WeightedZero_x4_2 t1 t2 t6 t8 e))))
def f_s_WeightedZero_t4 (σ : List AV) : Option (Bool × Bool × (X × List AV) × (X × List AV)) := match dec f_s_WeightedZero_h4 σ with
  | some [.l t1, .l t2, .i t6, .i t8, .l t9, .i t10, .i t11, .i t12] => some (isOne (loopL (f_s_WeightedZero_r4 t1 t2 t6 t8) (t9, t10, t11, t12)), true, f_s_WeightedZero_x4_1 t1 t2 t6 t8 (getOne ([], 0) (loopL (f_s_WeightedZero_r4 t1 t2 t6 t8) (t9, t10, t11, t12))), (.ret, []))
  | _ => none
theorem f_s_WeightedZero_tt4 : TTrue Try.prog f_s_WeightedZero_F Try.f78 4 (f_s_WeightedZero_t4) := by
  intro σ p r r' h
  unfold f_s_WeightedZero_t4 at h
  split at h
  · rename_i hd
    rw [← dec_enc hd]
    exact row1 (f_s_WeightedZero_l4 _ _ _ _ _) h
  · cases h
def f_s_WeightedZero_h2 : List Sh := [.u, .p .sl, .p .el, .u, .u, .u, .p (.int .i64), .u, .p (.int .i64), .u, .u, .u, .u, .u, .u, .u, .u, .u, .u, .u, .u, .u, .u, .u, .u, .u, .u, .u, .u, .u, .u, .u, .u, .u, .u, .u, .u, .u, .u, .u, .u, .u, .u, .u, .u, .u, .u, .u, .u, .u, .u, .u, .u, .u, .u, .u, .u, .u, .u, .u, .u, .u, .u, .u, .u, .u, .u, .u, .u, .u, .u, .u, .u, .u, .u, .u, .u, .u, .u, .u, .u]
def f_s_WeightedZero_fr2 (t1 : List Sc) (t2 : List Sc) (t6 : Int) (s : Int) : List AV := enc f_s_WeightedZero_h2 [.l t1, .l t2, .i t6, .i s]
def f_s_WeightedZero_g2_1 : List Sh := [.u, .p .sl, .p .el, .u, .u, .u, .p (.int .i64), .u, .p (.int .i64), .u, .u, .u, .u, .u, .u, .u, .u, .u, .u, .u, .u, .u, .u, .u, .u, .u, .u, .u, .u, .u, .u, .u, .u, .u, .u, .u, .u, .u, .u, .u, .u, .u, .u, .u, .u, .u, .u, .u, .u, .u, .u, .u, .u, .u, .u, .u, .u, .u, .u, .u, .u, .u, .u, .u, .u, .u, .u, .u, .u, .u, .u, .u, .u, .u, .u, .u, .u, .u, .u, .u, .u]
def f_s_WeightedZero_x2_1 (t1 : List Sc) (t2 : List Sc) (t6 : Int) (e : Int) : X × List AV := (.out 2, enc f_s_WeightedZero_g2_1 [.l t1, .l t2, .i t6, .i e])
def f_s_WeightedZero_g2_2 : List Sh := [.u, .u, .u, .u, .own 3, .p .boo, .u, .u, .u, .u, .u, .u, .u, .u, .u, .u, .u, .u, .u, .u, .u, .u, .u, .u, .u, .u, .u, .u, .u, .u, .u, .u, .u, .u, .u, .u, .u, .u, .u, .u, .u, .u, .u, .u, .u, .u, .u, .u, .u, .u, .u, .u, .u, .u, .u, .u, .u, .u, .u, .u, .u, .u, .u, .u, .u, .u, .u, .u, .u, .u, .u, .u, .u, .u, .u, .u, .u, .u, .u, .u, .u]
def f_s_WeightedZero_x2_2 (t1 : List Sc) (t2 : List Sc) (t6 : Int) (e : List Sc) : X × List AV := (.ret, enc f_s_WeightedZero_g2_2 [.l e, .b true])
theorem f_s_WeightedZero_p2 {R : Type} (t1 : List Sc) (t2 : List Sc) (t6 : Int) (s : Int) (kN : Int → Option R) (kA : Int → Option R) (kB : List Sc → Option R) : f_s_WeightedZero_k2 t1 t2 t6 s kN kA kB = (f_s_WeightedZero_r2 t1 t2 t6 s).bind (Ro.el kN kA kB) := by
  simp only [f_s_WeightedZero_k2, f_s_WeightedZero_r2, brB, bl1B, someB, noneB, Ro.el]
theorem f_s_WeightedZero_e2 (t1 : List Sc) (t2 : List Sc) (t6 : Int) (s : Int) : EC E0 f_s_WeightedZero_M H0 f_s_WeightedZero_F (asL (addL 4 (f_s_WeightedZero_t4) (addL 0 (f_s_WeightedZero_t0) (noL)))) 2 (bodyOf Try.f78 2) (f_s_WeightedZero_fr2 t1 t2 t6 s) (done (klOf f_s_WeightedZero_F 2)) = f_s_WeightedZero_k2 t1 t2 t6 s (fun s => some (.norm, f_s_WeightedZero_fr2 t1 t2 t6 s)) (fun e => some (f_s_WeightedZero_x2_1 t1 t2 t6 e)) (fun e => some (f_s_WeightedZero_x2_2 t1 t2 t6 e)) := by kernel_rfl
theorem f_s_WeightedZero_l2 (t1 : List Sc) (t2 : List Sc) (t6 : Int) : ∀ s r, loopL (f_s_WeightedZero_r2 t1 t2 t6) s = some r → LS Try.prog f_s_WeightedZero_F (bodyOf Try.f78 2) (f_s_WeightedZero_fr2 t1 t2 t6 s) (enX (f_s_WeightedZero_x2_1 t1 t2 t6) (f_s_WeightedZero_x2_2 t1 t2 t6) r) :=
  loop_true E0ok f_s_WeightedZero_Mt (addL_true (f_s_WeightedZero_tt4) (addL_true (f_s_WeightedZero_tt0) (noL_true))) f_s_WeightedZero_o (fun _ h => by cases h) (fun _ h => by cases h) (fun s => (f_s_WeightedZero_e2 t1 t2 t6 s).trans (f_s_WeightedZero_p2 t1 t2 t6 s _ _ (fun e => some (f_s_WeightedZero_x2_2 t1 t2 t6 e))))
def f_s_WeightedZero_t2 (σ : List AV) : Option (Bool × Bool × (X × List AV) × (X × List AV)) := match dec f_s_WeightedZero_h2 σ with
  | some [.l t1, .l t2, .i t6, .i t8] => some ((loopL (f_s_WeightedZero_r2 t1 t2 t6) t8).isSome, isOne (loopL (f_s_WeightedZero_r2 t1 t2 t6) t8), f_s_WeightedZero_x2_1 t1 t2 t6 (getOne 0 (loopL (f_s_WeightedZero_r2 t1 t2 t6) t8)), f_s_WeightedZero_x2_2 t1 t2 t6 (getTwo [] (loopL (f_s_WeightedZero_r2 t1 t2 t6) t8)))
  | _ => none
theorem f_s_WeightedZero_tt2 : TTrue Try.prog f_s_WeightedZero_F Try.f78 2 (f_s_WeightedZero_t2) := by
  intro σ p r r' h
  unfold f_s_WeightedZero_t2 at h
  split at h
  · rename_i hd
    rw [← dec_enc hd]
    exact row2 (f_s_WeightedZero_l2 _ _ _ _) h
  · cases h
theorem f_s_WeightedZero_p {R : Type} (L0 : List Sc) (p1 : List Sc) (kR : List Sc × Bool → Option R) : f_s_WeightedZero_k L0 p1 kR = (f_s_WeightedZero_k L0 p1 some).bind kR := by
  simp only [f_s_WeightedZero_k, brB, boB, bl1B, blB, someB]
theorem f_s_WeightedZero_e (L0 : List Sc) (p1 : List Sc) : runFn E0 f_s_WeightedZero_M H0 f_s_WeightedZero_F (asL (addL 2 (f_s_WeightedZero_t2) (addL 4 (f_s_WeightedZero_t4) (addL 0 (f_s_WeightedZero_t0) (noL))))) Try.f78 (f_s_WeightedZero_a L0 p1) (f_s_WeightedZero_i L0 p1) = f_s_WeightedZero_k L0 p1 (fun r => some (f_s_WeightedZero_en r)) := by kernel_rfl
theorem f_s_WeightedZero_ok (L0 : List Sc) (p1 : List Sc) (r : List Sc × Bool) (h : f_s_WeightedZero L0 p1 = some r) : CS Try.prog 78 (f_s_WeightedZero_a L0 p1) (f_s_WeightedZero_i L0 p1) (f_s_WeightedZero_en r).1 (f_s_WeightedZero_en r).2 :=
  fn_true (Gk := fun k => f_s_WeightedZero_k L0 p1 k) (en := f_s_WeightedZero_en) Try.func78 E0ok f_s_WeightedZero_Mt (addL_true (f_s_WeightedZero_tt2) (addL_true (f_s_WeightedZero_tt4) (addL_true (f_s_WeightedZero_tt0) (noL_true)))) f_s_WeightedZero_o (f_s_WeightedZero_e L0 p1) (f_s_WeightedZero_p L0 p1) h
def f_s_WeightedZero_c : CRow := fun args inh => match dec2 [.p .gr, .p .sl] [] args inh with
  | some ([.l L0, .l p1], []) => some ((f_s_WeightedZero L0 p1).isSome, (f_s_WeightedZero_en ((f_s_WeightedZero L0 p1).getD ([], false))).1, (f_s_WeightedZero_en ((f_s_WeightedZero L0 p1).getD ([], false))).2)
  | _ => none
theorem f_s_WeightedZero_cc : CTrue Try.prog 78 f_s_WeightedZero_c := by
  intro args inh rs out h
  unfold f_s_WeightedZero_c at h
  split at h
  · rename_i hd
    obtain ⟨h1, h2⟩ := dec2_enc hd
    rw [← h1, ← h2]
    exact rowC (f_s_WeightedZero_ok _ _) h
  · cases h

def f_s_MultipleOf_F : Fi := { nv := 0, nc := 0, m := 0, vt := [], kl := [(0, ([0, 4, 5, 6, 9, 10, 11, 12, 13, 14, 15, 16, 17, 18, 19, 20, 21, 22, 23, 24, 25, 26, 27, 28, 29, 30, 31, 32, 33, 34], [0, 1, 2, 3, 4, 5, 6, 8, 9, 10, 11, 12, 13, 14, 15, 16, 17, 18, 19, 20, 21, 22, 23, 24, 25, 26, 27, 28, 29, 30, 31, 32, 33, 34], [0, 1, 2, 3, 4, 5, 7, 8, 9, 10, 11, 12, 13, 14, 15, 16, 17, 18, 19, 20, 21, 22, 23, 24, 25, 26, 27, 28, 29, 30, 31, 32, 33, 34]))], sk := [], mvs := [], fz := [] }
def f_s_MultipleOf_a (g0 : List Sc) (x1 : Int) (n2 : Int) : List AV := enc [.p .gr, .p (.int .i64), .p (.int .i64)] [.l g0, .i x1, .i n2]
def f_s_MultipleOf_i (g0 : List Sc) (x1 : Int) (n2 : Int) : List AV := enc [] []
def f_s_MultipleOf_en (r : Int) : List AV × List AV := (enc [.p (.int .i64)] [.i r], enc [] [])
def f_s_MultipleOf_M : Calling := addC 148 f_s_l2Is_c (addC 150 f_s_l1In_c (addC 157 f_s_l2Negate_c (addC 156 f_s_l2Add_c (noC))))
theorem f_s_MultipleOf_Mt : CallOk Try.prog (f_s_MultipleOf_M) := addC_true f_s_l2Is_cc (addC_true f_s_l1In_cc (addC_true f_s_l2Negate_cc (addC_true f_s_l2Add_cc (noC_true))))
theorem f_s_MultipleOf_o : loopsOnce Try.f80 = true := by kernel_rfl
def f_s_MultipleOf_h0 : List Sh := [.u, .p (.int .i64), .p (.int .i64), .p .el, .u, .u, .u, .p (.int .i64), .p (.int .i64), .u, .u, .u, .u, .u, .u, .u, .u, .u, .u, .u, .u, .u, .u, .u, .u, .u, .u, .u, .u, .u, .u, .u, .u, .u, .u]
def f_s_MultipleOf_fr0 (x1 : Int) (n2 : Int) (g3 : List Sc) (s : Int × Int) : List AV := enc f_s_MultipleOf_h0 [.i x1, .i n2, .l g3, .i s.1, .i s.2]
def f_s_MultipleOf_g0_1 : List Sh := [.u, .u, .u, .u, .u, .u, .u, .p (.int .i64), .u, .u, .u, .u, .u, .u, .u, .u, .u, .u, .u, .u, .u, .u, .u, .u, .u, .u, .u, .u, .u, .u, .u, .u, .u, .u, .u]
def f_s_MultipleOf_x0_1 (x1 : Int) (n2 : Int) (g3 : List Sc) (e : Int) : X × List AV := (.out 0, enc f_s_MultipleOf_g0_1 [.i e])
def f_s_MultipleOf_x0_2 (x1 : Int) (n2 : Int) (g3 : List Sc) (_e : Unit) : X × List AV := (.ret, [])
theorem f_s_MultipleOf_p0 {R : Type} (x1 : Int) (n2 : Int) (g3 : List Sc) (s : Int × Int) (kN : Int × Int → Option R) (kA : Int → Option R) (kB : Unit → Option R) : f_s_MultipleOf_k0 x1 n2 g3 s.1 s.2 kN kA = (f_s_MultipleOf_r0 x1 n2 g3 s).bind (Ro.el kN kA kB) := by
  simp only [f_s_MultipleOf_k0, f_s_MultipleOf_r0, brB, boB, someB, Ro.el]
theorem f_s_MultipleOf_e0 (x1 : Int) (n2 : Int) (g3 : List Sc) (s : Int × Int) : EC E0 f_s_MultipleOf_M H0 f_s_MultipleOf_F (asL (noL)) 0 (bodyOf Try.f80 0) (f_s_MultipleOf_fr0 x1 n2 g3 s) (done (klOf f_s_MultipleOf_F 0)) = f_s_MultipleOf_k0 x1 n2 g3 s.1 s.2 (fun s => some (.norm, f_s_MultipleOf_fr0 x1 n2 g3 s)) (fun e => some (f_s_MultipleOf_x0_1 x1 n2 g3 e)) := by kernel_rfl
theorem f_s_MultipleOf_l0 (x1 : Int) (n2 : Int) (g3 : List Sc) : ∀ s r, loopL (f_s_MultipleOf_r0 x1 n2 g3) s = some r → LS Try.prog f_s_MultipleOf_F (bodyOf Try.f80 0) (f_s_MultipleOf_fr0 x1 n2 g3 s) (enX (f_s_MultipleOf_x0_1 x1 n2 g3) (f_s_MultipleOf_x0_2 x1 n2 g3) r) :=
  loop_true E0ok f_s_MultipleOf_Mt (noL_true) f_s_MultipleOf_o (fun _ h => by cases h) (fun _ h => by cases h) (fun s => (f_s_MultipleOf_e0 x1 n2 g3 s).trans (f_s_MultipleOf_p0 x1 n2 g3 s _ _ (fun e => some (f_s_MultipleOf_x0_2 x1 n2 g3 e))))
def f_s_MultipleOf_t0 (σ : List AV) : Option (Bool × Bool × (X × List AV) × (X × List AV)) := match dec f_s_MultipleOf_h0 σ with
  | some [.i x1, .i n2, .l g3, .i z7, .i i8] => some (isOne (loopL (f_s_MultipleOf_r0 x1 n2 g3) (z7, i8)), true, f_s_MultipleOf_x0_1 x1 n2 g3 (getOne 0 (loopL (f_s_MultipleOf_r0 x1 n2 g3) (z7, i8))), (.ret, []))
  | _ => none
theorem f_s_MultipleOf_tt0 : TTrue Try.prog f_s_MultipleOf_F Try.f80 0 (f_s_MultipleOf_t0) := by
  intro σ p r r' h
  unfold f_s_MultipleOf_t0 at h
  split at h
  · rename_i hd
    rw [← dec_enc hd]
    exact row1 (f_s_MultipleOf_l0 _ _ _ _) h
  · cases h
theorem f_s_MultipleOf_p {R : Type} (g0 : List Sc) (x1 : Int) (n2 : Int) (kR : Int → Option R) : f_s_MultipleOf_k g0 x1 n2 kR = (f_s_MultipleOf_k g0 x1 n2 some).bind kR := by
  simp only [f_s_MultipleOf_k, brB, boB, bl1B, someB]
theorem f_s_MultipleOf_e (g0 : List Sc) (x1 : Int) (n2 : Int) : runFn E0 f_s_MultipleOf_M H0 f_s_MultipleOf_F (asL (addL 0 (f_s_MultipleOf_t0) (noL))) Try.f80 (f_s_MultipleOf_a g0 x1 n2) (f_s_MultipleOf_i g0 x1 n2) = f_s_MultipleOf_k g0 x1 n2 (fun r => some (f_s_MultipleOf_en r)) := by kernel_rfl
theorem f_s_MultipleOf_ok (g0 : List Sc) (x1 : Int) (n2 : Int) (r : Int) (h : f_s_MultipleOf g0 x1 n2 = some r) : CS Try.prog 80 (f_s_MultipleOf_a g0 x1 n2) (f_s_MultipleOf_i g0 x1 n2) (f_s_MultipleOf_en r).1 (f_s_MultipleOf_en r).2 :=
  fn_true (Gk := fun k => f_s_MultipleOf_k g0 x1 n2 k) (en := f_s_MultipleOf_en) Try.func80 E0ok f_s_MultipleOf_Mt (addL_true (f_s_MultipleOf_tt0) (noL_true)) f_s_MultipleOf_o (f_s_MultipleOf_e g0 x1 n2) (f_s_MultipleOf_p g0 x1 n2) h
def f_s_MultipleOf_c : CRow := fun args inh => match dec2 [.p .gr, .p (.int .i64), .p (.int .i64)] [] args inh with
  | some ([.l g0, .i x1, .i n2], []) => some ((f_s_MultipleOf g0 x1 n2).isSome, (f_s_MultipleOf_en ((f_s_MultipleOf g0 x1 n2).getD 0)).1, (f_s_MultipleOf_en ((f_s_MultipleOf g0 x1 n2).getD 0)).2)
  | _ => none
theorem f_s_MultipleOf_cc : CTrue Try.prog 80 f_s_MultipleOf_c := by
  intro args inh rs out h
  unfold f_s_MultipleOf_c at h
  split at h
  · rename_i hd
    obtain ⟨h1, h2⟩ := dec2_enc hd
    rw [← h1, ← h2]
    exact rowC (f_s_MultipleOf_ok _ _ _) h
  · cases h

def f_s_AddElements_F : Fi := { nv := 0, nc := 0, m := 0, vt := [], kl := [], sk := [], mvs := [], fz := [] }
def f_s_AddElements_a (g0 : List Sc) (x1 : Int) (y2 : Int) : List AV := enc [.p .gr, .p (.int .i64), .p (.int .i64)] [.l g0, .i x1, .i y2]
def f_s_AddElements_i (g0 : List Sc) (x1 : Int) (y2 : Int) : List AV := enc [] []
def f_s_AddElements_en (r : Int) : List AV × List AV := (enc [.p (.int .i64)] [.i r], enc [] [])
def f_s_AddElements_M : Calling := addC 148 f_s_l2Is_c (addC 156 f_s_l2Add_c (noC))
theorem f_s_AddElements_Mt : CallOk Try.prog (f_s_AddElements_M) := addC_true f_s_l2Is_cc (addC_true f_s_l2Add_cc (noC_true))
theorem f_s_AddElements_o : loopsOnce Try.f79 = true := by kernel_rfl
theorem f_s_AddElements_p {R : Type} (g0 : List Sc) (x1 : Int) (y2 : Int) (kR : Int → Option R) : f_s_AddElements_k g0 x1 y2 kR = (f_s_AddElements_k g0 x1 y2 some).bind kR := by
  simp only [f_s_AddElements_k, brB, boB, someB]
theorem f_s_AddElements_e (g0 : List Sc) (x1 : Int) (y2 : Int) : runFn E0 f_s_AddElements_M H0 f_s_AddElements_F (asL (noL)) Try.f79 (f_s_AddElements_a g0 x1 y2) (f_s_AddElements_i g0 x1 y2) = f_s_AddElements_k g0 x1 y2 (fun r => some (f_s_AddElements_en r)) := by kernel_rfl
theorem f_s_AddElements_ok (g0 : List Sc) (x1 : Int) (y2 : Int) (r : Int) (h : f_s_AddElements g0 x1 y2 = some r) : CS Try.prog 79 (f_s_AddElements_a g0 x1 y2) (f_s_AddElements_i g0 x1 y2) (f_s_AddElements_en r).1 (f_s_AddElements_en r).2 :=
  fn_true (Gk := fun k => f_s_AddElements_k g0 x1 y2 k) (en := f_s_AddElements_en) Try.func79 E0ok f_s_AddElements_Mt (noL_true) f_s_AddElements_o (f_s_AddElements_e g0 x1 y2) (f_s_AddElements_p g0 x1 y2) h
def f_s_AddElements_c : CRow := fun args inh => match dec2 [.p .gr, .p (.int .i64), .p (.int .i64)] [] args inh with
  | some ([.l g0, .i x1, .i y2], []) => some ((f_s_AddElements g0 x1 y2).isSome, (f_s_AddElements_en ((f_s_AddElements g0 x1 y2).getD 0)).1, (f_s_AddElements_en ((f_s_AddElements g0 x1 y2).getD 0)).2)
  | _ => none
theorem f_s_AddElements_cc : CTrue Try.prog 79 f_s_AddElements_c := by
  intro args inh rs out h
  unfold f_s_AddElements_c at h
  split at h
  · rename_i hd
    obtain ⟨h1, h2⟩ := dec2_enc hd
    rw [← h1, ← h2]
    exact rowC (f_s_AddElements_ok _ _ _) h
  · cases h
end
end Go.Proofs.Ytphbclogflflmaa
