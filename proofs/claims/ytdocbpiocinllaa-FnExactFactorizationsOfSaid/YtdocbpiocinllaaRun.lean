/-
  That the program computes just that (printed by gen2.py).
-/
import Derived.Test.YtdocbpiocinllaaRuna
set_option linter.unusedVariables false
set_option linter.unusedSimpArgs false
namespace Go.Proofs.Ytdocbpiocinllaa
open Go Ev
noncomputable section
def f_i_AtomsOf_F : Fi := { nv := 1, nc := 1, m := 0, vt := [(4, 0)], kl := [], sk := [], mvs := [], fz := [] }
def f_i_AtomsOf_a (g0 : List Sc) : List AV := enc [.p .gr] [.l g0]
def f_i_AtomsOf_i (g0 : List Sc) : List AV := enc [] []
def f_i_AtomsOf_en (r : List Sc × Bool) : List AV × List AV := (enc [.p (.al 0), .p .boo] [.b r.2], enc [.own 1000022] [.l r.1])
def f_i_AtomsOf_M : Calling := addC 37 f_i_IsGroup_c (addC 38 f_i_OrderOf_c (addC 39 f_i_zeroFree_AtomsOf_1_c (addC 45 f_slices_SortFunc_c (noC))))
theorem f_i_AtomsOf_Mt : CallOk Try.prog (f_i_AtomsOf_M) := addC_true f_i_IsGroup_cc (addC_true f_i_OrderOf_cc (addC_true f_i_zeroFree_AtomsOf_1_cc (addC_true f_slices_SortFunc_cc (noC_true))))
theorem f_i_AtomsOf_o : loopsOnce Try.f14 = true := by kernel_rfl
theorem f_i_AtomsOf_p {R : Type} (g0 : List Sc) (kR : List Sc × Bool → Option R) : f_i_AtomsOf_k g0 kR = (f_i_AtomsOf_k g0 some).bind kR := by
  simp only [f_i_AtomsOf_k, brB, boB, someB]
theorem f_i_AtomsOf_e (g0 : List Sc) : runFn E0 f_i_AtomsOf_M H0 f_i_AtomsOf_F (asL (noL)) Try.f14 (f_i_AtomsOf_a g0) (f_i_AtomsOf_i g0) = f_i_AtomsOf_k g0 (fun r => some (f_i_AtomsOf_en r)) := by kernel_rfl
theorem f_i_AtomsOf_ok (g0 : List Sc) (r : List Sc × Bool) (h : f_i_AtomsOf g0 = some r) : CS Try.prog 14 (f_i_AtomsOf_a g0) (f_i_AtomsOf_i g0) (f_i_AtomsOf_en r).1 (f_i_AtomsOf_en r).2 :=
  fn_true (Gk := fun k => f_i_AtomsOf_k g0 k) (en := f_i_AtomsOf_en) Try.func14 E0ok f_i_AtomsOf_Mt (noL_true) f_i_AtomsOf_o (f_i_AtomsOf_e g0) (f_i_AtomsOf_p g0) h
def f_i_AtomsOf_c : CRow := fun args inh => match dec2 [.p .gr] [] args inh with
  | some ([.l g0], []) => some ((f_i_AtomsOf g0).isSome, (f_i_AtomsOf_en ((f_i_AtomsOf g0).getD ([], false))).1, (f_i_AtomsOf_en ((f_i_AtomsOf g0).getD ([], false))).2)
  | _ => none
theorem f_i_AtomsOf_cc : CTrue Try.prog 14 f_i_AtomsOf_c := by
  intro args inh rs out h
  unfold f_i_AtomsOf_c at h
  split at h
  · rename_i hd
    obtain ⟨h1, h2⟩ := dec2_enc hd
    rw [← h1, ← h2]
    exact rowC (f_i_AtomsOf_ok _) h
  · cases h

def f_i_FactorizationsOf_1_F : Fi := { nv := 1, nc := 1, m := 1, vt := [], kl := [(0, ([1, 4, 5, 6, 8, 9, 13, 14, 15, 16, 17, 18, 19, 20, 21, 22, 23, 24, 25, 26, 27, 28, 29, 30, 31, 32, 33, 34], [1, 2, 3, 4, 5, 6, 8, 9, 10, 11, 12, 13, 14, 15, 16, 17, 18, 19, 20, 21, 22, 23, 24, 25, 26, 27, 28, 29, 30, 31, 32, 33, 34], [1, 2, 3, 4, 5, 7, 8, 9, 10, 11, 12, 13, 14, 15, 16, 17, 18, 19, 20, 21, 22, 23, 24, 25, 26, 27, 28, 29, 30, 31, 32, 33, 34]))], sk := [], mvs := [], fz := [] }
def f_i_FactorizationsOf_1_a (a0 : List Sc) (k1 : Int) (h0 : List Sc) : List AV := enc [.p .sl, .p (.int .i64), .p (.pt 0 1)] [.l a0, .i k1]
def f_i_FactorizationsOf_1_i (a0 : List Sc) (k1 : Int) (h0 : List Sc) : List AV := enc [.own 3] [.l h0]
def f_i_FactorizationsOf_1_en (r : Bool × List Sc) : List AV × List AV := (enc [.p .boo] [.b r.1], enc [.own 3] [.l r.2])
def f_i_FactorizationsOf_1_M : Calling := noC
theorem f_i_FactorizationsOf_1_Mt : CallOk Try.prog (f_i_FactorizationsOf_1_M) := noC_true
theorem f_i_FactorizationsOf_1_o : loopsOnce Try.f51 = true := by kernel_rfl
def f_i_FactorizationsOf_1_h0 : List Sh := [.own 3, .u, .p (.int .i64), .p (.pt 0 1), .u, .u, .u, .p .boo, .u, .u, .p .sl, .p (.int .i64), .p (.int .i64), .u, .u, .u, .u, .u, .u, .u, .u, .u, .u, .u, .u, .u, .u, .u, .u, .u, .u, .u, .u, .u, .u]
def f_i_FactorizationsOf_1_fr0 (k1 : Int) (t9 : List Sc) (t10 : Int) (s : List Sc × Bool × Int) : List AV := enc f_i_FactorizationsOf_1_h0 [.l s.1, .i k1, .b s.2.1, .l t9, .i t10, .i s.2.2]
def f_i_FactorizationsOf_1_g0_1 : List Sh := [.own 3, .u, .u, .u, .u, .u, .u, .p .boo, .u, .u, .u, .u, .u, .u, .u, .u, .u, .u, .u, .u, .u, .u, .u, .u, .u, .u, .u, .u, .u, .u, .u, .u, .u, .u, .u]
def f_i_FactorizationsOf_1_x0_1 (k1 : Int) (t9 : List Sc) (t10 : Int) (e : List Sc × Bool) : X × List AV := (.out 0, enc f_i_FactorizationsOf_1_g0_1 [.l e.1, .b e.2])
def f_i_FactorizationsOf_1_x0_2 (k1 : Int) (t9 : List Sc) (t10 : Int) (_e : Unit) : X × List AV := (.ret, [])
theorem f_i_FactorizationsOf_1_p0 {R : Type} (k1 : Int) (t9 : List Sc) (t10 : Int) (s : List Sc × Bool × Int) (kN : List Sc × Bool × Int → Option R) (kA : List Sc × Bool → Option R) (kB : Unit → Option R) : f_i_FactorizationsOf_1_k0 k1 t9 t10 s.1 s.2.1 s.2.2 kN kA = (f_i_FactorizationsOf_1_r0 k1 t9 t10 s).bind (Ro.el kN kA kB) := by
  simp only [f_i_FactorizationsOf_1_k0, f_i_FactorizationsOf_1_r0, brB, someB, noneB, Ro.el]
theorem f_i_FactorizationsOf_1_e0 (k1 : Int) (t9 : List Sc) (t10 : Int) (s : List Sc × Bool × Int) : EC E0 f_i_FactorizationsOf_1_M H0 f_i_FactorizationsOf_1_F (asL (noL)) 0 (bodyOf Try.f51 0) (f_i_FactorizationsOf_1_fr0 k1 t9 t10 s) (done (klOf f_i_FactorizationsOf_1_F 0)) = f_i_FactorizationsOf_1_k0 k1 t9 t10 s.1 s.2.1 s.2.2 (fun s => some (.norm, f_i_FactorizationsOf_1_fr0 k1 t9 t10 s)) (fun e => some (f_i_FactorizationsOf_1_x0_1 k1 t9 t10 e)) := by kernel_rfl
theorem f_i_FactorizationsOf_1_l0 (k1 : Int) (t9 : List Sc) (t10 : Int) : ∀ s r, loopL (f_i_FactorizationsOf_1_r0 k1 t9 t10) s = some r → LS Try.prog f_i_FactorizationsOf_1_F (bodyOf Try.f51 0) (f_i_FactorizationsOf_1_fr0 k1 t9 t10 s) (enX (f_i_FactorizationsOf_1_x0_1 k1 t9 t10) (f_i_FactorizationsOf_1_x0_2 k1 t9 t10) r) :=
  loop_true E0ok f_i_FactorizationsOf_1_Mt (noL_true) f_i_FactorizationsOf_1_o (fun _ h => by cases h) (fun _ h => by cases h) (fun _ h => by cases h) (fun _ h => by cases h) (fun s => (f_i_FactorizationsOf_1_e0 k1 t9 t10 s).trans (f_i_FactorizationsOf_1_p0 k1 t9 t10 s _ _ (fun e => some (f_i_FactorizationsOf_1_x0_2 k1 t9 t10 e))))
def f_i_FactorizationsOf_1_t0 (σ : List AV) : Option (Bool × Bool × (X × List AV) × (X × List AV)) := match dec f_i_FactorizationsOf_1_h0 σ with
  | some [.l v0, .i k1, .b fits6, .l t9, .i t10, .i t11] => some (isOne (loopL (f_i_FactorizationsOf_1_r0 k1 t9 t10) (v0, fits6, t11)), true, f_i_FactorizationsOf_1_x0_1 k1 t9 t10 (getOne ([], false) (loopL (f_i_FactorizationsOf_1_r0 k1 t9 t10) (v0, fits6, t11))), (.ret, []))
  | _ => none
theorem f_i_FactorizationsOf_1_tt0 : TTrue Try.prog f_i_FactorizationsOf_1_F Try.f51 0 (f_i_FactorizationsOf_1_t0) := by
  intro σ p r r' h
  unfold f_i_FactorizationsOf_1_t0 at h
  split at h
  · rename_i hd
    rw [← dec_enc hd]
    exact row1 (f_i_FactorizationsOf_1_l0 _ _ _ _) h
  · cases h
theorem f_i_FactorizationsOf_1_p {R : Type} (a0 : List Sc) (k1 : Int) (h0 : List Sc) (kR : Bool × List Sc → Option R) : f_i_FactorizationsOf_1_k a0 k1 h0 kR = (f_i_FactorizationsOf_1_k a0 k1 h0 some).bind kR := by
  simp only [f_i_FactorizationsOf_1_k, bl1B, someB]
theorem f_i_FactorizationsOf_1_e (a0 : List Sc) (k1 : Int) (h0 : List Sc) : runFn E0 f_i_FactorizationsOf_1_M H0 f_i_FactorizationsOf_1_F (asL (addL 0 (f_i_FactorizationsOf_1_t0) (noL))) Try.f51 (f_i_FactorizationsOf_1_a a0 k1 h0) (f_i_FactorizationsOf_1_i a0 k1 h0) = f_i_FactorizationsOf_1_k a0 k1 h0 (fun r => some (f_i_FactorizationsOf_1_en r)) := by kernel_rfl
theorem f_i_FactorizationsOf_1_ok (a0 : List Sc) (k1 : Int) (h0 : List Sc) (r : Bool × List Sc) (h : f_i_FactorizationsOf_1 a0 k1 h0 = some r) : CS Try.prog 51 (f_i_FactorizationsOf_1_a a0 k1 h0) (f_i_FactorizationsOf_1_i a0 k1 h0) (f_i_FactorizationsOf_1_en r).1 (f_i_FactorizationsOf_1_en r).2 :=
  fn_true (Gk := fun k => f_i_FactorizationsOf_1_k a0 k1 h0 k) (en := f_i_FactorizationsOf_1_en) Try.func51 E0ok f_i_FactorizationsOf_1_Mt (addL_true (f_i_FactorizationsOf_1_tt0) (noL_true)) f_i_FactorizationsOf_1_o (f_i_FactorizationsOf_1_e a0 k1 h0) (f_i_FactorizationsOf_1_p a0 k1 h0) h
def f_i_FactorizationsOf_1_c : CRow := fun args inh => match dec2 [.p .sl, .p (.int .i64), .p (.pt 0 1)] [.own 3] args inh with
  | some ([.l a0, .i k1], [.l h0]) => some ((f_i_FactorizationsOf_1 a0 k1 h0).isSome, (f_i_FactorizationsOf_1_en ((f_i_FactorizationsOf_1 a0 k1 h0).getD (false, []))).1, (f_i_FactorizationsOf_1_en ((f_i_FactorizationsOf_1 a0 k1 h0).getD (false, []))).2)
  | _ => none
theorem f_i_FactorizationsOf_1_cc : CTrue Try.prog 51 f_i_FactorizationsOf_1_c := by
  intro args inh rs out h
  unfold f_i_FactorizationsOf_1_c at h
  split at h
  · rename_i hd
    obtain ⟨h1, h2⟩ := dec2_enc hd
    rw [← h1, ← h2]
    exact rowC (f_i_FactorizationsOf_1_ok _ _ _) h
  · cases h

def f_i_FactorizationsOf_2_F : Fi := { nv := 5, nc := 5, m := 5, vt := [], kl := [(2, ([5, 9, 12, 13, 14, 15, 16, 17, 19, 20, 21, 22, 23, 24, 25, 26, 27, 28, 29, 30, 31, 32, 33, 34, 35, 36, 37, 38, 39, 40, 41, 42, 43, 44, 45, 46, 47, 48, 49, 50, 51, 52, 53, 54, 55, 56, 57, 58, 59, 60, 61, 62, 63, 64, 65, 66, 67, 68, 69, 70, 71, 72, 73, 74], [5, 6, 7, 8, 9, 10, 11, 12, 13, 14, 15, 16, 17, 18, 19, 20, 21, 22, 23, 24, 25, 26, 27, 28, 29, 30, 31, 32, 33, 34, 35, 36, 37, 38, 39, 40, 41, 42, 43, 44, 45, 46, 47, 48, 49, 50, 51, 52, 53, 54, 55, 56, 57, 58, 59, 60, 61, 62, 63, 64, 65, 66, 67, 68, 69, 70, 71, 72, 73, 74], [5, 6, 7, 8, 9, 10, 11, 12, 13, 14, 15, 16, 17, 18, 19, 20, 21, 22, 23, 24, 25, 26, 27, 28, 29, 30, 31, 32, 33, 34, 35, 36, 37, 38, 39, 40, 41, 42, 43, 44, 45, 46, 47, 48, 49, 50, 51, 52, 53, 54, 55, 56, 57, 58, 59, 60, 61, 62, 63, 64, 65, 66, 67, 68, 69, 70, 71, 72, 73, 74])), (0, ([5, 6, 7, 10, 11, 12, 13, 14, 16, 17, 18, 19, 20, 21, 25, 26, 27, 28, 29, 30, 31, 32, 33, 34, 35, 36, 37, 38, 39, 40, 41, 42, 43, 44, 45, 46, 47, 48, 49, 50, 51, 52, 53, 54, 55, 56, 57, 58, 59, 60, 61, 62, 63, 64, 65, 66, 67, 68, 69, 70, 71, 72, 73, 74], [5, 6, 7, 8, 10, 11, 12, 13, 14, 16, 17, 18, 19, 20, 21, 22, 23, 24, 25, 26, 27, 28, 29, 30, 31, 32, 33, 34, 35, 36, 37, 38, 39, 40, 41, 42, 43, 44, 45, 46, 47, 48, 49, 50, 51, 52, 53, 54, 55, 56, 57, 58, 59, 60, 61, 62, 63, 64, 65, 66, 67, 68, 69, 70, 71, 72, 73, 74], [5, 6, 7, 8, 9, 10, 11, 12, 13, 14, 15, 16, 17, 18, 19, 20, 21, 22, 23, 24, 25, 26, 27, 28, 29, 30, 31, 32, 33, 34, 35, 36, 37, 38, 39, 40, 41, 42, 43, 44, 45, 46, 47, 48, 49, 50, 51, 52, 53, 54, 55, 56, 57, 58, 59, 60, 61, 62, 63, 64, 65, 66, 67, 68, 69, 70, 71, 72, 73, 74]))], sk := [], mvs := [], fz := [], dpl := [16, 29, 34] }
def f_i_FactorizationsOf_2_a (L0 : Int) (p1 : Int) (p2 : List Sc) (h0 : List Sc) (h1 : List Sc) (h4 : List Sc) : List AV := enc [.p (.int .i64), .p (.int .i64), .p .sl, .p (.pt 0 1), .p (.pt 1 1), .p (.pt 2 1), .p (.pt 3 1)] [.i L0, .i p1, .l p2]
def f_i_FactorizationsOf_2_i (L0 : Int) (p1 : Int) (p2 : List Sc) (h0 : List Sc) (h1 : List Sc) (h4 : List Sc) : List AV := enc [.own 1000022, .own 4001000023002000031, .fn 51 [.pt 4 1], .fn 52 [.pt 0 1, .pt 1 1, .pt 2 1, .pt 3 1], .own 3] [.l h0, .l h1, .l h4]
def f_i_FactorizationsOf_2_en (r : List Sc × List Sc × List Sc) : List AV × List AV := (enc [] [], enc [.own 1000022, .own 4001000023002000031, .fn 51 [.pt 4 1], .fn 52 [.pt 0 1, .pt 1 1, .pt 2 1, .pt 3 1], .own 3] [.l r.1, .l r.2.1, .l r.2.2])
def f_i_FactorizationsOf_2_cs (self : (Int × Int × List Sc × List Sc × List Sc × List Sc) → Option (List Sc × List Sc × List Sc)) : CRow := fun args inh => match dec2 [.p (.int .i64), .p (.int .i64), .p .sl, .p (.pt 0 1), .p (.pt 1 1), .p (.pt 2 1), .p (.pt 3 1)] [.own 1000022, .own 4001000023002000031, .fn 51 [.pt 4 1], .fn 52 [.pt 0 1, .pt 1 1, .pt 2 1, .pt 3 1], .own 3] args inh with
  | some ([.i L0, .i p1, .l p2], [.l h0, .l h1, .l h4]) => some ((self (L0, p1, p2, h0, h1, h4)).isSome, (f_i_FactorizationsOf_2_en ((self (L0, p1, p2, h0, h1, h4)).getD ([], [], []))).1, (f_i_FactorizationsOf_2_en ((self (L0, p1, p2, h0, h1, h4)).getD ([], [], []))).2)
  | _ => none
theorem f_i_FactorizationsOf_2_cst (self : (Int × Int × List Sc × List Sc × List Sc × List Sc) → Option (List Sc × List Sc × List Sc)) (hs : ∀ a r, self a = some r → CS Try.prog 52 (f_i_FactorizationsOf_2_a a.1 a.2.1 a.2.2.1 a.2.2.2.1 a.2.2.2.2.1 a.2.2.2.2.2) (f_i_FactorizationsOf_2_i a.1 a.2.1 a.2.2.1 a.2.2.2.1 a.2.2.2.2.1 a.2.2.2.2.2) (f_i_FactorizationsOf_2_en r).1 (f_i_FactorizationsOf_2_en r).2) : CTrue Try.prog 52 (f_i_FactorizationsOf_2_cs self) := by
  intro args inh rs out h
  unfold f_i_FactorizationsOf_2_cs at h
  split at h
  · rename_i hd
    obtain ⟨h1, h2⟩ := dec2_enc hd
    rw [← h1, ← h2]
    exact rowC (hs _) h
  · cases h
def f_i_FactorizationsOf_2_M (self : (Int × Int × List Sc × List Sc × List Sc × List Sc) → Option (List Sc × List Sc × List Sc)) : Calling := addC 52 (f_i_FactorizationsOf_2_cs self) (addC 43 f_i_copyInts_c (addC 51 f_i_FactorizationsOf_1_c (noC)))
theorem f_i_FactorizationsOf_2_Mt (self : (Int × Int × List Sc × List Sc × List Sc × List Sc) → Option (List Sc × List Sc × List Sc)) (hs : ∀ a r, self a = some r → CS Try.prog 52 (f_i_FactorizationsOf_2_a a.1 a.2.1 a.2.2.1 a.2.2.2.1 a.2.2.2.2.1 a.2.2.2.2.2) (f_i_FactorizationsOf_2_i a.1 a.2.1 a.2.2.1 a.2.2.2.1 a.2.2.2.2.1 a.2.2.2.2.2) (f_i_FactorizationsOf_2_en r).1 (f_i_FactorizationsOf_2_en r).2) : CallOk Try.prog (f_i_FactorizationsOf_2_M self) := addC_true (f_i_FactorizationsOf_2_cst self hs) (addC_true f_i_copyInts_cc (addC_true f_i_FactorizationsOf_1_cc (noC_true)))
theorem f_i_FactorizationsOf_2_o : loopsOnce Try.f52 = true := by kernel_rfl
def f_i_FactorizationsOf_2_h0 : List Sh := [.own 1000022, .own 4001000023002000031, .fn 51 [.pt 4 1], .fn 52 [.pt 0 1, .pt 1 1, .pt 2 1, .pt 3 1], .own 3, .u, .u, .u, .p (.pt 0 1), .p (.pt 1 1), .u, .u, .u, .u, .u, .own 4001000022, .u, .u, .u, .u, .u, .u, .p .sl, .p (.int .i64), .p (.int .i64), .u, .u, .u, .u, .u, .u, .u, .u, .u, .u, .u, .u, .u, .u, .u, .u, .u, .u, .u, .u, .u, .u, .u, .u, .u, .u, .u, .u, .u, .u, .u, .u, .u, .u, .u, .u, .u, .u, .u, .u, .u, .u, .u, .u, .u, .u, .u, .u, .u, .u]
def f_i_FactorizationsOf_2_fr0 (self : (Int × Int × List Sc × List Sc × List Sc × List Sc) → Option (List Sc × List Sc × List Sc)) (t17 : List Sc) (t18 : Int) (s : List Sc × List Sc × List Sc × List Sc × Int) : List AV := enc f_i_FactorizationsOf_2_h0 [.l s.1, .l s.2.1, .l s.2.2.1, .l s.2.2.2.1, .l t17, .i t18, .i s.2.2.2.2]
def f_i_FactorizationsOf_2_g0_1 : List Sh := [.own 1000022, .own 4001000023002000031, .fn 51 [.pt 4 1], .fn 52 [.pt 0 1, .pt 1 1, .pt 2 1, .pt 3 1], .own 3, .u, .u, .u, .u, .p (.pt 1 1), .u, .u, .u, .u, .u, .own 4001000022, .u, .u, .u, .u, .u, .u, .u, .u, .u, .u, .u, .u, .u, .u, .u, .u, .u, .u, .u, .u, .u, .u, .u, .u, .u, .u, .u, .u, .u, .u, .u, .u, .u, .u, .u, .u, .u, .u, .u, .u, .u, .u, .u, .u, .u, .u, .u, .u, .u, .u, .u, .u, .u, .u, .u, .u, .u, .u, .u]
def f_i_FactorizationsOf_2_x0_1 (self : (Int × Int × List Sc × List Sc × List Sc × List Sc) → Option (List Sc × List Sc × List Sc)) (t17 : List Sc) (t18 : Int) (e : List Sc × List Sc × List Sc × List Sc) : X × List AV := (.out 0, enc f_i_FactorizationsOf_2_g0_1 [.l e.1, .l e.2.1, .l e.2.2.1, .l e.2.2.2])
def f_i_FactorizationsOf_2_x0_2 (self : (Int × Int × List Sc × List Sc × List Sc × List Sc) → Option (List Sc × List Sc × List Sc)) (t17 : List Sc) (t18 : Int) (_e : Unit) : X × List AV := (.ret, [])
theorem f_i_FactorizationsOf_2_p0 {R : Type} (self : (Int × Int × List Sc × List Sc × List Sc × List Sc) → Option (List Sc × List Sc × List Sc)) (t17 : List Sc) (t18 : Int) (s : List Sc × List Sc × List Sc × List Sc × Int) (kN : List Sc × List Sc × List Sc × List Sc × Int → Option R) (kA : List Sc × List Sc × List Sc × List Sc → Option R) (kB : Unit → Option R) : f_i_FactorizationsOf_2_k0 self t17 t18 s.1 s.2.1 s.2.2.1 s.2.2.2.1 s.2.2.2.2 kN kA = (f_i_FactorizationsOf_2_r0 self t17 t18 s).bind (Ro.el kN kA kB) := by
  simp only [f_i_FactorizationsOf_2_k0, f_i_FactorizationsOf_2_r0, brB, boB, someB, noneB, Ro.el]
theorem f_i_FactorizationsOf_2_e0 (self : (Int × Int × List Sc × List Sc × List Sc × List Sc) → Option (List Sc × List Sc × List Sc)) (t17 : List Sc) (t18 : Int) (s : List Sc × List Sc × List Sc × List Sc × Int) : EC E0 (f_i_FactorizationsOf_2_M self) H0 f_i_FactorizationsOf_2_F (asL (noL)) 0 (bodyOf Try.f52 0) (f_i_FactorizationsOf_2_fr0 self t17 t18 s) (done (klOf f_i_FactorizationsOf_2_F 0)) = f_i_FactorizationsOf_2_k0 self t17 t18 s.1 s.2.1 s.2.2.1 s.2.2.2.1 s.2.2.2.2 (fun s => some (.norm, f_i_FactorizationsOf_2_fr0 self t17 t18 s)) (fun e => some (f_i_FactorizationsOf_2_x0_1 self t17 t18 e)) := by kernel_rfl
theorem f_i_FactorizationsOf_2_l0 (self : (Int × Int × List Sc × List Sc × List Sc × List Sc) → Option (List Sc × List Sc × List Sc)) (hs : ∀ a r, self a = some r → CS Try.prog 52 (f_i_FactorizationsOf_2_a a.1 a.2.1 a.2.2.1 a.2.2.2.1 a.2.2.2.2.1 a.2.2.2.2.2) (f_i_FactorizationsOf_2_i a.1 a.2.1 a.2.2.1 a.2.2.2.1 a.2.2.2.2.1 a.2.2.2.2.2) (f_i_FactorizationsOf_2_en r).1 (f_i_FactorizationsOf_2_en r).2) (t17 : List Sc) (t18 : Int) : ∀ s r, loopL (f_i_FactorizationsOf_2_r0 self t17 t18) s = some r → LS Try.prog f_i_FactorizationsOf_2_F (bodyOf Try.f52 0) (f_i_FactorizationsOf_2_fr0 self t17 t18 s) (enX (f_i_FactorizationsOf_2_x0_1 self t17 t18) (f_i_FactorizationsOf_2_x0_2 self t17 t18) r) :=
  loop_true E0ok (f_i_FactorizationsOf_2_Mt self hs) (noL_true) f_i_FactorizationsOf_2_o (fun _ h => by cases h) (fun _ h => by cases h) (fun _ h => by cases h) (fun _ h => by cases h) (fun s => (f_i_FactorizationsOf_2_e0 self t17 t18 s).trans (f_i_FactorizationsOf_2_p0 self t17 t18 s _ _ (fun e => some (f_i_FactorizationsOf_2_x0_2 self t17 t18 e))))
def f_i_FactorizationsOf_2_t0 (self : (Int × Int × List Sc × List Sc × List Sc × List Sc) → Option (List Sc × List Sc × List Sc)) (σ : List AV) : Option (Bool × Bool × (X × List AV) × (X × List AV)) := match dec f_i_FactorizationsOf_2_h0 σ with
  | some [.l v0, .l v1, .l v4, .l t10, .l t17, .i t18, .i t19] => some (isOne (loopL (f_i_FactorizationsOf_2_r0 self t17 t18) (v0, v1, v4, t10, t19)), true, f_i_FactorizationsOf_2_x0_1 self t17 t18 (getOne ([], [], [], []) (loopL (f_i_FactorizationsOf_2_r0 self t17 t18) (v0, v1, v4, t10, t19))), (.ret, []))
  | _ => none
theorem f_i_FactorizationsOf_2_tt0 (self : (Int × Int × List Sc × List Sc × List Sc × List Sc) → Option (List Sc × List Sc × List Sc)) (hs : ∀ a r, self a = some r → CS Try.prog 52 (f_i_FactorizationsOf_2_a a.1 a.2.1 a.2.2.1 a.2.2.2.1 a.2.2.2.2.1 a.2.2.2.2.2) (f_i_FactorizationsOf_2_i a.1 a.2.1 a.2.2.1 a.2.2.2.1 a.2.2.2.2.1 a.2.2.2.2.2) (f_i_FactorizationsOf_2_en r).1 (f_i_FactorizationsOf_2_en r).2) : TTrue Try.prog f_i_FactorizationsOf_2_F Try.f52 0 (f_i_FactorizationsOf_2_t0 self) := by
  intro σ p r r' h
  unfold f_i_FactorizationsOf_2_t0 at h
  split at h
  · rename_i hd
    rw [← dec_enc hd]
    exact row1 (f_i_FactorizationsOf_2_l0 self hs _ _ _) h
  · cases h
def f_i_FactorizationsOf_2_h2 : List Sh := [.own 1000022, .own 4001000023002000031, .fn 51 [.pt 4 1], .fn 52 [.pt 0 1, .pt 1 1, .pt 2 1, .pt 3 1], .own 3, .u, .p (.int .i64), .p .sl, .p (.pt 0 1), .u, .p (.pt 2 1), .p (.pt 3 1), .u, .u, .u, .u, .u, .u, .p (.int .i64), .u, .u, .u, .u, .u, .u, .u, .u, .u, .u, .u, .u, .u, .u, .u, .u, .u, .u, .u, .u, .u, .u, .u, .u, .u, .u, .u, .u, .u, .u, .u, .u, .u, .u, .u, .u, .u, .u, .u, .u, .u, .u, .u, .u, .u, .u, .u, .u, .u, .u, .u, .u, .u, .u, .u, .u]
def f_i_FactorizationsOf_2_fr2 (self : (Int × Int × List Sc × List Sc × List Sc × List Sc) → Option (List Sc × List Sc × List Sc)) (t1 : Int) (t2 : List Sc) (s : List Sc × List Sc × List Sc × Int) : List AV := enc f_i_FactorizationsOf_2_h2 [.l s.1, .l s.2.1, .l s.2.2.1, .i t1, .l t2, .i s.2.2.2]
def f_i_FactorizationsOf_2_g2_1 : List Sh := [.own 1000022, .own 4001000023002000031, .fn 51 [.pt 4 1], .fn 52 [.pt 0 1, .pt 1 1, .pt 2 1, .pt 3 1], .own 3, .u, .u, .u, .u, .u, .u, .u, .u, .u, .u, .u, .u, .u, .u, .u, .u, .u, .u, .u, .u, .u, .u, .u, .u, .u, .u, .u, .u, .u, .u, .u, .u, .u, .u, .u, .u, .u, .u, .u, .u, .u, .u, .u, .u, .u, .u, .u, .u, .u, .u, .u, .u, .u, .u, .u, .u, .u, .u, .u, .u, .u, .u, .u, .u, .u, .u, .u, .u, .u, .u]
def f_i_FactorizationsOf_2_x2_1 (self : (Int × Int × List Sc × List Sc × List Sc × List Sc) → Option (List Sc × List Sc × List Sc)) (t1 : Int) (t2 : List Sc) (e : List Sc × List Sc × List Sc) : X × List AV := (.out 2, enc f_i_FactorizationsOf_2_g2_1 [.l e.1, .l e.2.1, .l e.2.2])
def f_i_FactorizationsOf_2_x2_2 (self : (Int × Int × List Sc × List Sc × List Sc × List Sc) → Option (List Sc × List Sc × List Sc)) (t1 : Int) (t2 : List Sc) (_e : Unit) : X × List AV := (.ret, [])
theorem f_i_FactorizationsOf_2_p2 {R : Type} (self : (Int × Int × List Sc × List Sc × List Sc × List Sc) → Option (List Sc × List Sc × List Sc)) (t1 : Int) (t2 : List Sc) (s : List Sc × List Sc × List Sc × Int) (kN : List Sc × List Sc × List Sc × Int → Option R) (kA : List Sc × List Sc × List Sc → Option R) (kB : Unit → Option R) : f_i_FactorizationsOf_2_k2 self t1 t2 s.1 s.2.1 s.2.2.1 s.2.2.2 kN kA = (f_i_FactorizationsOf_2_r2 self t1 t2 s).bind (Ro.el kN kA kB) := by
  simp only [f_i_FactorizationsOf_2_k2, f_i_FactorizationsOf_2_r2, brB, boB, someB, noneB, Ro.el]
theorem f_i_FactorizationsOf_2_e2 (self : (Int × Int × List Sc × List Sc × List Sc × List Sc) → Option (List Sc × List Sc × List Sc)) (t1 : Int) (t2 : List Sc) (s : List Sc × List Sc × List Sc × Int) : EC E0 (f_i_FactorizationsOf_2_M self) H0 f_i_FactorizationsOf_2_F (asL (addL 0 (f_i_FactorizationsOf_2_t0 self) (noL))) 2 (bodyOf Try.f52 2) (f_i_FactorizationsOf_2_fr2 self t1 t2 s) (done (klOf f_i_FactorizationsOf_2_F 2)) = f_i_FactorizationsOf_2_k2 self t1 t2 s.1 s.2.1 s.2.2.1 s.2.2.2 (fun s => some (.norm, f_i_FactorizationsOf_2_fr2 self t1 t2 s)) (fun e => some (f_i_FactorizationsOf_2_x2_1 self t1 t2 e)) := by kernel_rfl
theorem f_i_FactorizationsOf_2_l2 (self : (Int × Int × List Sc × List Sc × List Sc × List Sc) → Option (List Sc × List Sc × List Sc)) (hs : ∀ a r, self a = some r → CS Try.prog 52 (f_i_FactorizationsOf_2_a a.1 a.2.1 a.2.2.1 a.2.2.2.1 a.2.2.2.2.1 a.2.2.2.2.2) (f_i_FactorizationsOf_2_i a.1 a.2.1 a.2.2.1 a.2.2.2.1 a.2.2.2.2.1 a.2.2.2.2.2) (f_i_FactorizationsOf_2_en r).1 (f_i_FactorizationsOf_2_en r).2) (t1 : Int) (t2 : List Sc) : ∀ s r, loopL (f_i_FactorizationsOf_2_r2 self t1 t2) s = some r → LS Try.prog f_i_FactorizationsOf_2_F (bodyOf Try.f52 2) (f_i_FactorizationsOf_2_fr2 self t1 t2 s) (enX (f_i_FactorizationsOf_2_x2_1 self t1 t2) (f_i_FactorizationsOf_2_x2_2 self t1 t2) r) :=
  loop_true E0ok (f_i_FactorizationsOf_2_Mt self hs) (addL_true (f_i_FactorizationsOf_2_tt0 self hs) (noL_true)) f_i_FactorizationsOf_2_o (fun _ h => by cases h) (fun _ h => by cases h) (fun _ h => by cases h) (fun _ h => by cases h) (fun s => (f_i_FactorizationsOf_2_e2 self t1 t2 s).trans (f_i_FactorizationsOf_2_p2 self t1 t2 s _ _ (fun e => some (f_i_FactorizationsOf_2_x2_2 self t1 t2 e))))
def f_i_FactorizationsOf_2_t2 (self : (Int × Int × List Sc × List Sc × List Sc × List Sc) → Option (List Sc × List Sc × List Sc)) (σ : List AV) : Option (Bool × Bool × (X × List AV) × (X × List AV)) := match dec f_i_FactorizationsOf_2_h2 σ with
  | some [.l v0, .l v1, .l v4, .i t1, .l t2, .i t13] => some (isOne (loopL (f_i_FactorizationsOf_2_r2 self t1 t2) (v0, v1, v4, t13)), true, f_i_FactorizationsOf_2_x2_1 self t1 t2 (getOne ([], [], []) (loopL (f_i_FactorizationsOf_2_r2 self t1 t2) (v0, v1, v4, t13))), (.ret, []))
  | _ => none
theorem f_i_FactorizationsOf_2_tt2 (self : (Int × Int × List Sc × List Sc × List Sc × List Sc) → Option (List Sc × List Sc × List Sc)) (hs : ∀ a r, self a = some r → CS Try.prog 52 (f_i_FactorizationsOf_2_a a.1 a.2.1 a.2.2.1 a.2.2.2.1 a.2.2.2.2.1 a.2.2.2.2.2) (f_i_FactorizationsOf_2_i a.1 a.2.1 a.2.2.1 a.2.2.2.1 a.2.2.2.2.1 a.2.2.2.2.2) (f_i_FactorizationsOf_2_en r).1 (f_i_FactorizationsOf_2_en r).2) : TTrue Try.prog f_i_FactorizationsOf_2_F Try.f52 2 (f_i_FactorizationsOf_2_t2 self) := by
  intro σ p r r' h
  unfold f_i_FactorizationsOf_2_t2 at h
  split at h
  · rename_i hd
    rw [← dec_enc hd]
    exact row1 (f_i_FactorizationsOf_2_l2 self hs _ _ _) h
  · cases h
theorem f_i_FactorizationsOf_2_p {R : Type} (self : (Int × Int × List Sc × List Sc × List Sc × List Sc) → Option (List Sc × List Sc × List Sc)) (L0 : Int) (p1 : Int) (p2 : List Sc) (h0 : List Sc) (h1 : List Sc) (h4 : List Sc) (kR : List Sc × List Sc × List Sc → Option R) : f_i_FactorizationsOf_2_k self L0 p1 p2 h0 h1 h4 kR = (f_i_FactorizationsOf_2_k self L0 p1 p2 h0 h1 h4 some).bind kR := by
  simp only [f_i_FactorizationsOf_2_k, brB, bl1B, someB, noneB]
theorem f_i_FactorizationsOf_2_e (self : (Int × Int × List Sc × List Sc × List Sc × List Sc) → Option (List Sc × List Sc × List Sc)) (L0 : Int) (p1 : Int) (p2 : List Sc) (h0 : List Sc) (h1 : List Sc) (h4 : List Sc) : runFn E0 (f_i_FactorizationsOf_2_M self) H0 f_i_FactorizationsOf_2_F (asL (addL 2 (f_i_FactorizationsOf_2_t2 self) (addL 0 (f_i_FactorizationsOf_2_t0 self) (noL)))) Try.f52 (f_i_FactorizationsOf_2_a L0 p1 p2 h0 h1 h4) (f_i_FactorizationsOf_2_i L0 p1 p2 h0 h1 h4) = f_i_FactorizationsOf_2_k self L0 p1 p2 h0 h1 h4 (fun r => some (f_i_FactorizationsOf_2_en r)) := by kernel_rfl
theorem f_i_FactorizationsOf_2_ks (self : (Int × Int × List Sc × List Sc × List Sc × List Sc) → Option (List Sc × List Sc × List Sc)) (hs : ∀ a r, self a = some r → CS Try.prog 52 (f_i_FactorizationsOf_2_a a.1 a.2.1 a.2.2.1 a.2.2.2.1 a.2.2.2.2.1 a.2.2.2.2.2) (f_i_FactorizationsOf_2_i a.1 a.2.1 a.2.2.1 a.2.2.2.1 a.2.2.2.2.1 a.2.2.2.2.2) (f_i_FactorizationsOf_2_en r).1 (f_i_FactorizationsOf_2_en r).2) (L0 : Int) (p1 : Int) (p2 : List Sc) (h0 : List Sc) (h1 : List Sc) (h4 : List Sc) (r : List Sc × List Sc × List Sc) (h : f_i_FactorizationsOf_2_k self L0 p1 p2 h0 h1 h4 some = some r) : CS Try.prog 52 (f_i_FactorizationsOf_2_a L0 p1 p2 h0 h1 h4) (f_i_FactorizationsOf_2_i L0 p1 p2 h0 h1 h4) (f_i_FactorizationsOf_2_en r).1 (f_i_FactorizationsOf_2_en r).2 :=
  fn_true (Gk := fun k => f_i_FactorizationsOf_2_k self L0 p1 p2 h0 h1 h4 k) (en := f_i_FactorizationsOf_2_en) Try.func52 E0ok (f_i_FactorizationsOf_2_Mt self hs) (addL_true (f_i_FactorizationsOf_2_tt2 self hs) (addL_true (f_i_FactorizationsOf_2_tt0 self hs) (noL_true))) f_i_FactorizationsOf_2_o (f_i_FactorizationsOf_2_e self L0 p1 p2 h0 h1 h4) (f_i_FactorizationsOf_2_p self L0 p1 p2 h0 h1 h4) h
theorem f_i_FactorizationsOf_2_ns : ∀ n a r, f_i_FactorizationsOf_2_n n a = some r → CS Try.prog 52 (f_i_FactorizationsOf_2_a a.1 a.2.1 a.2.2.1 a.2.2.2.1 a.2.2.2.2.1 a.2.2.2.2.2) (f_i_FactorizationsOf_2_i a.1 a.2.1 a.2.2.1 a.2.2.2.1 a.2.2.2.2.1 a.2.2.2.2.2) (f_i_FactorizationsOf_2_en r).1 (f_i_FactorizationsOf_2_en r).2
  | 0, _, _, h => by cases h
  | n + 1, a, r, h => f_i_FactorizationsOf_2_ks (f_i_FactorizationsOf_2_n n) (f_i_FactorizationsOf_2_ns n) a.1 a.2.1 a.2.2.1 a.2.2.2.1 a.2.2.2.2.1 a.2.2.2.2.2 r h
theorem f_i_FactorizationsOf_2_ok (L0 : Int) (p1 : Int) (p2 : List Sc) (h0 : List Sc) (h1 : List Sc) (h4 : List Sc) (r : List Sc × List Sc × List Sc) (h : f_i_FactorizationsOf_2 L0 p1 p2 h0 h1 h4 = some r) : CS Try.prog 52 (f_i_FactorizationsOf_2_a L0 p1 p2 h0 h1 h4) (f_i_FactorizationsOf_2_i L0 p1 p2 h0 h1 h4) (f_i_FactorizationsOf_2_en r).1 (f_i_FactorizationsOf_2_en r).2 := by
  obtain ⟨n, hn⟩ := limF_some h
  exact f_i_FactorizationsOf_2_ns n _ r hn
def f_i_FactorizationsOf_2_c : CRow := fun args inh => match dec2 [.p (.int .i64), .p (.int .i64), .p .sl, .p (.pt 0 1), .p (.pt 1 1), .p (.pt 2 1), .p (.pt 3 1)] [.own 1000022, .own 4001000023002000031, .fn 51 [.pt 4 1], .fn 52 [.pt 0 1, .pt 1 1, .pt 2 1, .pt 3 1], .own 3] args inh with
  | some ([.i L0, .i p1, .l p2], [.l h0, .l h1, .l h4]) => some ((f_i_FactorizationsOf_2 L0 p1 p2 h0 h1 h4).isSome, (f_i_FactorizationsOf_2_en ((f_i_FactorizationsOf_2 L0 p1 p2 h0 h1 h4).getD ([], [], []))).1, (f_i_FactorizationsOf_2_en ((f_i_FactorizationsOf_2 L0 p1 p2 h0 h1 h4).getD ([], [], []))).2)
  | _ => none
theorem f_i_FactorizationsOf_2_cc : CTrue Try.prog 52 f_i_FactorizationsOf_2_c := by
  intro args inh rs out h
  unfold f_i_FactorizationsOf_2_c at h
  split at h
  · rename_i hd
    obtain ⟨h1, h2⟩ := dec2_enc hd
    rw [← h1, ← h2]
    exact rowC (f_i_FactorizationsOf_2_ok _ _ _ _ _ _) h
  · cases h

def f_i_FactorizationsOf_F : Fi := { nv := 6, nc := 5, m := 0, vt := [(6, 0), (7, 1), (9, 2), (12, 3), (13, 4), (17, 5)], kl := [(0, ([5, 6, 8, 9, 10, 11, 14, 16, 17, 18, 19, 20, 21, 22, 23, 24, 25, 26, 27, 28, 29, 30, 31, 32, 33, 34, 35, 36, 37, 38, 39, 40, 41, 42, 46, 47, 48, 49, 50, 51, 52, 53, 54, 55, 56, 57, 58, 59, 60, 61, 62, 63], [5, 6, 8, 9, 10, 11, 14, 16, 17, 18, 19, 20, 21, 22, 23, 24, 25, 26, 27, 28, 29, 30, 31, 32, 33, 34, 35, 36, 37, 38, 39, 40, 41, 42, 43, 44, 45, 46, 47, 48, 49, 50, 51, 52, 53, 54, 55, 56, 57, 58, 59, 60, 61, 62, 63], [0, 1, 2, 3, 4, 5, 6, 7, 8, 9, 12, 13, 14, 15, 16, 17, 18, 19, 20, 21, 22, 23, 24, 25, 26, 27, 28, 29, 30, 31, 32, 33, 34, 35, 36, 37, 38, 39, 40, 41, 42, 43, 44, 45, 46, 47, 48, 49, 50, 51, 52, 53, 54, 55, 56, 57, 58, 59, 60, 61, 62, 63]))], sk := [], mvs := [5], fz := [], dpl := [14] }
def f_i_FactorizationsOf_a (g0 : List Sc) (l1 : List Sc) : List AV := enc [.p .gr, .p .sl] [.l g0, .l l1]
def f_i_FactorizationsOf_i (g0 : List Sc) (l1 : List Sc) : List AV := enc [] []
def f_i_FactorizationsOf_en (r : List Sc × Bool) : List AV × List AV := (enc [.p (.al 0), .p .boo] [.b r.2], enc [.own 4001000023002000031] [.l r.1])
def f_i_FactorizationsOf_M : Calling := addC 14 f_i_AtomsOf_c (addC 50 f_i_IsZeroSum_c (addC 38 f_i_OrderOf_c (addC 52 f_i_FactorizationsOf_2_c (noC))))
theorem f_i_FactorizationsOf_Mt : CallOk Try.prog (f_i_FactorizationsOf_M) := addC_true f_i_AtomsOf_cc (addC_true f_i_IsZeroSum_cc (addC_true f_i_OrderOf_cc (addC_true f_i_FactorizationsOf_2_cc (noC_true))))
theorem f_i_FactorizationsOf_o : loopsOnce Try.f21 = true := by kernel_rfl
def f_i_FactorizationsOf_h0 : List Sh := [.own 4001000023002000031, .own 1000022, .own 3, .u, .u, .u, .u, .p .sl, .u, .u, .u, .u, .p (.pt 0 1), .p (.pt 1 1), .u, .p (.pt 2 1), .u, .u, .u, .u, .u, .u, .u, .u, .u, .u, .u, .u, .u, .u, .u, .u, .u, .u, .u, .u, .u, .u, .u, .u, .u, .u, .u, .p .sl, .p (.int .i64), .p (.int .i64), .u, .u, .u, .u, .u, .u, .u, .u, .u, .u, .u, .u, .u, .u, .u, .u, .u, .u]
def f_i_FactorizationsOf_fr0 (l1 : List Sc) (t37 : List Sc) (t38 : Int) (s : List Sc × List Sc × List Sc × Int) : List AV := enc f_i_FactorizationsOf_h0 [.l s.1, .l s.2.1, .l s.2.2.1, .l l1, .l t37, .i t38, .i s.2.2.2]
def f_i_FactorizationsOf_g0_1 : List Sh := [.own 4001000023002000031, .own 1000022, .own 3, .u, .u, .u, .u, .p .sl, .u, .u, .u, .u, .p (.pt 0 1), .p (.pt 1 1), .u, .p (.pt 2 1), .u, .u, .u, .u, .u, .u, .u, .u, .u, .u, .u, .u, .u, .u, .u, .u, .u, .u, .u, .u, .u, .u, .u, .u, .u, .u, .u, .u, .u, .u, .u, .u, .u, .u, .u, .u, .u, .u, .u, .u, .u, .u, .u, .u, .u, .u, .u, .u]
def f_i_FactorizationsOf_x0_1 (l1 : List Sc) (t37 : List Sc) (t38 : Int) (e : List Sc × List Sc × List Sc) : X × List AV := (.out 0, enc f_i_FactorizationsOf_g0_1 [.l e.1, .l e.2.1, .l e.2.2, .l l1])
def f_i_FactorizationsOf_x0_2 (l1 : List Sc) (t37 : List Sc) (t38 : Int) (_e : Unit) : X × List AV := (.ret, [])
theorem f_i_FactorizationsOf_p0 {R : Type} (l1 : List Sc) (t37 : List Sc) (t38 : Int) (s : List Sc × List Sc × List Sc × Int) (kN : List Sc × List Sc × List Sc × Int → Option R) (kA : List Sc × List Sc × List Sc → Option R) (kB : Unit → Option R) : f_i_FactorizationsOf_k0 l1 t37 t38 s.1 s.2.1 s.2.2.1 s.2.2.2 kN kA = (f_i_FactorizationsOf_r0 l1 t37 t38 s).bind (Ro.el kN kA kB) := by
  simp only [f_i_FactorizationsOf_k0, f_i_FactorizationsOf_r0, brB, someB, noneB, Ro.el]
theorem f_i_FactorizationsOf_e0 (l1 : List Sc) (t37 : List Sc) (t38 : Int) (s : List Sc × List Sc × List Sc × Int) : EC E0 f_i_FactorizationsOf_M H0 f_i_FactorizationsOf_F (asL (noL)) 0 (bodyOf Try.f21 0) (f_i_FactorizationsOf_fr0 l1 t37 t38 s) (done (klOf f_i_FactorizationsOf_F 0)) = f_i_FactorizationsOf_k0 l1 t37 t38 s.1 s.2.1 s.2.2.1 s.2.2.2 (fun s => some (.norm, f_i_FactorizationsOf_fr0 l1 t37 t38 s)) (fun e => some (f_i_FactorizationsOf_x0_1 l1 t37 t38 e)) := by kernel_rfl
theorem f_i_FactorizationsOf_l0 (l1 : List Sc) (t37 : List Sc) (t38 : Int) : ∀ s r, loopL (f_i_FactorizationsOf_r0 l1 t37 t38) s = some r → LS Try.prog f_i_FactorizationsOf_F (bodyOf Try.f21 0) (f_i_FactorizationsOf_fr0 l1 t37 t38 s) (enX (f_i_FactorizationsOf_x0_1 l1 t37 t38) (f_i_FactorizationsOf_x0_2 l1 t37 t38) r) :=
  loop_true E0ok f_i_FactorizationsOf_Mt (noL_true) f_i_FactorizationsOf_o (fun _ h => by cases h) (fun _ h => by cases h) (fun _ h => by cases h) (fun _ h => by cases h) (fun s => (f_i_FactorizationsOf_e0 l1 t37 t38 s).trans (f_i_FactorizationsOf_p0 l1 t37 t38 s _ _ (fun e => some (f_i_FactorizationsOf_x0_2 l1 t37 t38 e))))
def f_i_FactorizationsOf_t0 (σ : List AV) : Option (Bool × Bool × (X × List AV) × (X × List AV)) := match dec f_i_FactorizationsOf_h0 σ with
  | some [.l v0, .l v1, .l v2, .l l1, .l t37, .i t38, .i t39] => some (isOne (loopL (f_i_FactorizationsOf_r0 l1 t37 t38) (v0, v1, v2, t39)), true, f_i_FactorizationsOf_x0_1 l1 t37 t38 (getOne ([], [], []) (loopL (f_i_FactorizationsOf_r0 l1 t37 t38) (v0, v1, v2, t39))), (.ret, []))
  | _ => none
theorem f_i_FactorizationsOf_tt0 : TTrue Try.prog f_i_FactorizationsOf_F Try.f21 0 (f_i_FactorizationsOf_t0) := by
  intro σ p r r' h
  unfold f_i_FactorizationsOf_t0 at h
  split at h
  · rename_i hd
    rw [← dec_enc hd]
    exact row1 (f_i_FactorizationsOf_l0 _ _ _ _) h
  · cases h
theorem f_i_FactorizationsOf_p {R : Type} (g0 : List Sc) (l1 : List Sc) (kR : List Sc × Bool → Option R) : f_i_FactorizationsOf_k g0 l1 kR = (f_i_FactorizationsOf_k g0 l1 some).bind kR := by
  simp only [f_i_FactorizationsOf_k, brB, boB, bl1B, someB, noneB]
theorem f_i_FactorizationsOf_e (g0 : List Sc) (l1 : List Sc) : runFn E0 f_i_FactorizationsOf_M H0 f_i_FactorizationsOf_F (asL (addL 0 (f_i_FactorizationsOf_t0) (noL))) Try.f21 (f_i_FactorizationsOf_a g0 l1) (f_i_FactorizationsOf_i g0 l1) = f_i_FactorizationsOf_k g0 l1 (fun r => some (f_i_FactorizationsOf_en r)) := by kernel_rfl
theorem f_i_FactorizationsOf_ok (g0 : List Sc) (l1 : List Sc) (r : List Sc × Bool) (h : f_i_FactorizationsOf g0 l1 = some r) : CS Try.prog 21 (f_i_FactorizationsOf_a g0 l1) (f_i_FactorizationsOf_i g0 l1) (f_i_FactorizationsOf_en r).1 (f_i_FactorizationsOf_en r).2 :=
  fn_true (Gk := fun k => f_i_FactorizationsOf_k g0 l1 k) (en := f_i_FactorizationsOf_en) Try.func21 E0ok f_i_FactorizationsOf_Mt (addL_true (f_i_FactorizationsOf_tt0) (noL_true)) f_i_FactorizationsOf_o (f_i_FactorizationsOf_e g0 l1) (f_i_FactorizationsOf_p g0 l1) h
def f_i_FactorizationsOf_c : CRow := fun args inh => match dec2 [.p .gr, .p .sl] [] args inh with
  | some ([.l g0, .l l1], []) => some ((f_i_FactorizationsOf g0 l1).isSome, (f_i_FactorizationsOf_en ((f_i_FactorizationsOf g0 l1).getD ([], false))).1, (f_i_FactorizationsOf_en ((f_i_FactorizationsOf g0 l1).getD ([], false))).2)
  | _ => none
theorem f_i_FactorizationsOf_cc : CTrue Try.prog 21 f_i_FactorizationsOf_c := by
  intro args inh rs out h
  unfold f_i_FactorizationsOf_c at h
  split at h
  · rename_i hd
    obtain ⟨h1, h2⟩ := dec2_enc hd
    rw [← h1, ← h2]
    exact rowC (f_i_FactorizationsOf_ok _ _) h
  · cases h

def f_l_eqIntS_F : Fi := { nv := 0, nc := 0, m := 0, vt := [], kl := [(0, ([2, 3, 4, 6, 7, 8, 9, 10, 11, 12, 13, 14, 15, 16, 17, 18, 19, 20, 21, 22, 23, 24, 25], [0, 1, 2, 3, 4, 5, 6, 7, 8, 9, 10, 11, 12, 13, 14, 15, 16, 17, 18, 19, 20, 21, 22, 23, 24, 25], [0, 1, 2, 3, 5, 6, 7, 8, 9, 10, 11, 12, 13, 14, 15, 16, 17, 18, 19, 20, 21, 22, 23, 24, 25]))], sk := [], mvs := [], fz := [] }
def f_l_eqIntS_a (a0 : List Sc) (b1 : List Sc) : List AV := enc [.p .sl, .p .sl] [.l a0, .l b1]
def f_l_eqIntS_i (a0 : List Sc) (b1 : List Sc) : List AV := enc [] []
def f_l_eqIntS_en (r : Bool) : List AV × List AV := (enc [.p .boo] [.b r], enc [] [])
def f_l_eqIntS_M : Calling := noC
theorem f_l_eqIntS_Mt : CallOk Try.prog (f_l_eqIntS_M) := noC_true
theorem f_l_eqIntS_o : loopsOnce Try.f23 = true := by kernel_rfl
def f_l_eqIntS_h0 : List Sh := [.p .sl, .p .sl, .u, .u, .u, .p (.int .i64), .u, .u, .u, .u, .u, .u, .u, .u, .u, .u, .u, .u, .u, .u, .u, .u, .u, .u, .u, .u]
def f_l_eqIntS_fr0 (a0 : List Sc) (b1 : List Sc) (s : Int) : List AV := enc f_l_eqIntS_h0 [.l a0, .l b1, .i s]
def f_l_eqIntS_g0_1 : List Sh := [.u, .u, .u, .u, .u, .u, .u, .u, .u, .u, .u, .u, .u, .u, .u, .u, .u, .u, .u, .u, .u, .u, .u, .u, .u, .u]
def f_l_eqIntS_x0_1 (a0 : List Sc) (b1 : List Sc) (e : Unit) : X × List AV := (.out 0, enc f_l_eqIntS_g0_1 [])
def f_l_eqIntS_g0_2 : List Sh := [.u, .u, .u, .u, .p .boo, .u, .u, .u, .u, .u, .u, .u, .u, .u, .u, .u, .u, .u, .u, .u, .u, .u, .u, .u, .u, .u]
def f_l_eqIntS_x0_2 (a0 : List Sc) (b1 : List Sc) (e : Unit) : X × List AV := (.ret, enc f_l_eqIntS_g0_2 [.b false])
theorem f_l_eqIntS_p0 {R : Type} (a0 : List Sc) (b1 : List Sc) (s : Int) (kN : Int → Option R) (kA : Unit → Option R) (kB : Unit → Option R) : f_l_eqIntS_k0 a0 b1 s kN kA kB = (f_l_eqIntS_r0 a0 b1 s).bind (Ro.el kN kA kB) := by
  simp only [f_l_eqIntS_k0, f_l_eqIntS_r0, brB, someB, noneB, Ro.el]
theorem f_l_eqIntS_e0 (a0 : List Sc) (b1 : List Sc) (s : Int) : EC E0 f_l_eqIntS_M H0 f_l_eqIntS_F (asL (noL)) 0 (bodyOf Try.f23 0) (f_l_eqIntS_fr0 a0 b1 s) (done (klOf f_l_eqIntS_F 0)) = f_l_eqIntS_k0 a0 b1 s (fun s => some (.norm, f_l_eqIntS_fr0 a0 b1 s)) (fun e => some (f_l_eqIntS_x0_1 a0 b1 e)) (fun e => some (f_l_eqIntS_x0_2 a0 b1 e)) := by kernel_rfl
theorem f_l_eqIntS_l0 (a0 : List Sc) (b1 : List Sc) : ∀ s r, loopL (f_l_eqIntS_r0 a0 b1) s = some r → LS Try.prog f_l_eqIntS_F (bodyOf Try.f23 0) (f_l_eqIntS_fr0 a0 b1 s) (enX (f_l_eqIntS_x0_1 a0 b1) (f_l_eqIntS_x0_2 a0 b1) r) :=
  loop_true E0ok f_l_eqIntS_Mt (noL_true) f_l_eqIntS_o (fun _ h => by cases h) (fun _ h => by cases h) (fun _ h => by cases h) (fun _ h => by cases h) (fun s => (f_l_eqIntS_e0 a0 b1 s).trans (f_l_eqIntS_p0 a0 b1 s _ _ (fun e => some (f_l_eqIntS_x0_2 a0 b1 e))))
def f_l_eqIntS_t0 (σ : List AV) : Option (Bool × Bool × (X × List AV) × (X × List AV)) := match dec f_l_eqIntS_h0 σ with
  | some [.l a0, .l b1, .i i5] => some ((loopL (f_l_eqIntS_r0 a0 b1) i5).isSome, isOne (loopL (f_l_eqIntS_r0 a0 b1) i5), f_l_eqIntS_x0_1 a0 b1 (getOne () (loopL (f_l_eqIntS_r0 a0 b1) i5)), f_l_eqIntS_x0_2 a0 b1 (getTwo () (loopL (f_l_eqIntS_r0 a0 b1) i5)))
  | _ => none
theorem f_l_eqIntS_tt0 : TTrue Try.prog f_l_eqIntS_F Try.f23 0 (f_l_eqIntS_t0) := by
  intro σ p r r' h
  unfold f_l_eqIntS_t0 at h
  split at h
  · rename_i hd
    rw [← dec_enc hd]
    exact row2 (f_l_eqIntS_l0 _ _ _) h
  · cases h
theorem f_l_eqIntS_p {R : Type} (a0 : List Sc) (b1 : List Sc) (kR : Bool → Option R) : f_l_eqIntS_k a0 b1 kR = (f_l_eqIntS_k a0 b1 some).bind kR := by
  simp only [f_l_eqIntS_k, brB, blB, someB]
theorem f_l_eqIntS_e (a0 : List Sc) (b1 : List Sc) : runFn E0 f_l_eqIntS_M H0 f_l_eqIntS_F (asL (addL 0 (f_l_eqIntS_t0) (noL))) Try.f23 (f_l_eqIntS_a a0 b1) (f_l_eqIntS_i a0 b1) = f_l_eqIntS_k a0 b1 (fun r => some (f_l_eqIntS_en r)) := by kernel_rfl
theorem f_l_eqIntS_ok (a0 : List Sc) (b1 : List Sc) (r : Bool) (h : f_l_eqIntS a0 b1 = some r) : CS Try.prog 23 (f_l_eqIntS_a a0 b1) (f_l_eqIntS_i a0 b1) (f_l_eqIntS_en r).1 (f_l_eqIntS_en r).2 :=
  fn_true (Gk := fun k => f_l_eqIntS_k a0 b1 k) (en := f_l_eqIntS_en) Try.func23 E0ok f_l_eqIntS_Mt (addL_true (f_l_eqIntS_tt0) (noL_true)) f_l_eqIntS_o (f_l_eqIntS_e a0 b1) (f_l_eqIntS_p a0 b1) h
def f_l_eqIntS_c : CRow := fun args inh => match dec2 [.p .sl, .p .sl] [] args inh with
  | some ([.l a0, .l b1], []) => some ((f_l_eqIntS a0 b1).isSome, (f_l_eqIntS_en ((f_l_eqIntS a0 b1).getD false)).1, (f_l_eqIntS_en ((f_l_eqIntS a0 b1).getD false)).2)
  | _ => none
theorem f_l_eqIntS_cc : CTrue Try.prog 23 f_l_eqIntS_c := by
  intro args inh rs out h
  unfold f_l_eqIntS_c at h
  split at h
  · rename_i hd
    obtain ⟨h1, h2⟩ := dec2_enc hd
    rw [← h1, ← h2]
    exact rowC (f_l_eqIntS_ok _ _) h
  · cases h

def f_l_eqIntSS_F : Fi := { nv := 0, nc := 0, m := 0, vt := [], kl := [(0, ([2, 3, 4, 6, 7, 8, 9, 10, 11, 12, 13, 14, 15, 16, 17, 18, 19, 20, 21, 22, 23, 24, 25, 26], [0, 1, 2, 3, 4, 5, 6, 7, 8, 9, 10, 11, 12, 13, 14, 15, 16, 17, 18, 19, 20, 21, 22, 23, 24, 25, 26], [0, 1, 2, 3, 5, 6, 7, 8, 9, 10, 11, 12, 13, 14, 15, 16, 17, 18, 19, 20, 21, 22, 23, 24, 25, 26]))], sk := [], mvs := [], fz := [] }
def f_l_eqIntSS_a (a0 : List Sc) (b1 : List Sc) : List AV := enc [.p (.nl 1), .p (.nl 1)] [.l a0, .l b1]
def f_l_eqIntSS_i (a0 : List Sc) (b1 : List Sc) : List AV := enc [] []
def f_l_eqIntSS_en (r : Bool) : List AV × List AV := (enc [.p .boo] [.b r], enc [] [])
def f_l_eqIntSS_M : Calling := addC 23 f_l_eqIntS_c (noC)
theorem f_l_eqIntSS_Mt : CallOk Try.prog (f_l_eqIntSS_M) := addC_true f_l_eqIntS_cc (noC_true)
theorem f_l_eqIntSS_o : loopsOnce Try.f15 = true := by kernel_rfl
def f_l_eqIntSS_h0 : List Sh := [.p (.nl 1), .p (.nl 1), .u, .u, .u, .p (.int .i64), .u, .u, .u, .u, .u, .u, .u, .u, .u, .u, .u, .u, .u, .u, .u, .u, .u, .u, .u, .u, .u]
def f_l_eqIntSS_fr0 (a0 : List Sc) (b1 : List Sc) (s : Int) : List AV := enc f_l_eqIntSS_h0 [.l a0, .l b1, .i s]
def f_l_eqIntSS_g0_1 : List Sh := [.u, .u, .u, .u, .u, .u, .u, .u, .u, .u, .u, .u, .u, .u, .u, .u, .u, .u, .u, .u, .u, .u, .u, .u, .u, .u, .u]
def f_l_eqIntSS_x0_1 (a0 : List Sc) (b1 : List Sc) (e : Unit) : X × List AV := (.out 0, enc f_l_eqIntSS_g0_1 [])
def f_l_eqIntSS_g0_2 : List Sh := [.u, .u, .u, .u, .p .boo, .u, .u, .u, .u, .u, .u, .u, .u, .u, .u, .u, .u, .u, .u, .u, .u, .u, .u, .u, .u, .u, .u]
def f_l_eqIntSS_x0_2 (a0 : List Sc) (b1 : List Sc) (e : Unit) : X × List AV := (.ret, enc f_l_eqIntSS_g0_2 [.b false])
theorem f_l_eqIntSS_p0 {R : Type} (a0 : List Sc) (b1 : List Sc) (s : Int) (kN : Int → Option R) (kA : Unit → Option R) (kB : Unit → Option R) : f_l_eqIntSS_k0 a0 b1 s kN kA kB = (f_l_eqIntSS_r0 a0 b1 s).bind (Ro.el kN kA kB) := by
  simp only [f_l_eqIntSS_k0, f_l_eqIntSS_r0, brB, boB, someB, noneB, Ro.el]
theorem f_l_eqIntSS_e0 (a0 : List Sc) (b1 : List Sc) (s : Int) : EC E0 f_l_eqIntSS_M H0 f_l_eqIntSS_F (asL (noL)) 0 (bodyOf Try.f15 0) (f_l_eqIntSS_fr0 a0 b1 s) (done (klOf f_l_eqIntSS_F 0)) = f_l_eqIntSS_k0 a0 b1 s (fun s => some (.norm, f_l_eqIntSS_fr0 a0 b1 s)) (fun e => some (f_l_eqIntSS_x0_1 a0 b1 e)) (fun e => some (f_l_eqIntSS_x0_2 a0 b1 e)) := by kernel_rfl
theorem f_l_eqIntSS_l0 (a0 : List Sc) (b1 : List Sc) : ∀ s r, loopL (f_l_eqIntSS_r0 a0 b1) s = some r → LS Try.prog f_l_eqIntSS_F (bodyOf Try.f15 0) (f_l_eqIntSS_fr0 a0 b1 s) (enX (f_l_eqIntSS_x0_1 a0 b1) (f_l_eqIntSS_x0_2 a0 b1) r) :=
  loop_true E0ok f_l_eqIntSS_Mt (noL_true) f_l_eqIntSS_o (fun _ h => by cases h) (fun _ h => by cases h) (fun _ h => by cases h) (fun _ h => by cases h) (fun s => (f_l_eqIntSS_e0 a0 b1 s).trans (f_l_eqIntSS_p0 a0 b1 s _ _ (fun e => some (f_l_eqIntSS_x0_2 a0 b1 e))))
def f_l_eqIntSS_t0 (σ : List AV) : Option (Bool × Bool × (X × List AV) × (X × List AV)) := match dec f_l_eqIntSS_h0 σ with
  | some [.l a0, .l b1, .i i5] => some ((loopL (f_l_eqIntSS_r0 a0 b1) i5).isSome, isOne (loopL (f_l_eqIntSS_r0 a0 b1) i5), f_l_eqIntSS_x0_1 a0 b1 (getOne () (loopL (f_l_eqIntSS_r0 a0 b1) i5)), f_l_eqIntSS_x0_2 a0 b1 (getTwo () (loopL (f_l_eqIntSS_r0 a0 b1) i5)))
  | _ => none
theorem f_l_eqIntSS_tt0 : TTrue Try.prog f_l_eqIntSS_F Try.f15 0 (f_l_eqIntSS_t0) := by
  intro σ p r r' h
  unfold f_l_eqIntSS_t0 at h
  split at h
  · rename_i hd
    rw [← dec_enc hd]
    exact row2 (f_l_eqIntSS_l0 _ _ _) h
  · cases h
theorem f_l_eqIntSS_p {R : Type} (a0 : List Sc) (b1 : List Sc) (kR : Bool → Option R) : f_l_eqIntSS_k a0 b1 kR = (f_l_eqIntSS_k a0 b1 some).bind kR := by
  simp only [f_l_eqIntSS_k, brB, blB, someB]
theorem f_l_eqIntSS_e (a0 : List Sc) (b1 : List Sc) : runFn E0 f_l_eqIntSS_M H0 f_l_eqIntSS_F (asL (addL 0 (f_l_eqIntSS_t0) (noL))) Try.f15 (f_l_eqIntSS_a a0 b1) (f_l_eqIntSS_i a0 b1) = f_l_eqIntSS_k a0 b1 (fun r => some (f_l_eqIntSS_en r)) := by kernel_rfl
theorem f_l_eqIntSS_ok (a0 : List Sc) (b1 : List Sc) (r : Bool) (h : f_l_eqIntSS a0 b1 = some r) : CS Try.prog 15 (f_l_eqIntSS_a a0 b1) (f_l_eqIntSS_i a0 b1) (f_l_eqIntSS_en r).1 (f_l_eqIntSS_en r).2 :=
  fn_true (Gk := fun k => f_l_eqIntSS_k a0 b1 k) (en := f_l_eqIntSS_en) Try.func15 E0ok f_l_eqIntSS_Mt (addL_true (f_l_eqIntSS_tt0) (noL_true)) f_l_eqIntSS_o (f_l_eqIntSS_e a0 b1) (f_l_eqIntSS_p a0 b1) h
def f_l_eqIntSS_c : CRow := fun args inh => match dec2 [.p (.nl 1), .p (.nl 1)] [] args inh with
  | some ([.l a0, .l b1], []) => some ((f_l_eqIntSS a0 b1).isSome, (f_l_eqIntSS_en ((f_l_eqIntSS a0 b1).getD false)).1, (f_l_eqIntSS_en ((f_l_eqIntSS a0 b1).getD false)).2)
  | _ => none
theorem f_l_eqIntSS_cc : CTrue Try.prog 15 f_l_eqIntSS_c := by
  intro args inh rs out h
  unfold f_l_eqIntSS_c at h
  split at h
  · rename_i hd
    obtain ⟨h1, h2⟩ := dec2_enc hd
    rw [← h1, ← h2]
    exact rowC (f_l_eqIntSS_ok _ _) h
  · cases h

def f_l_eqIntSSS_F : Fi := { nv := 0, nc := 0, m := 0, vt := [], kl := [(0, ([2, 3, 4, 6, 7, 8, 9, 10, 11, 12, 13, 14, 15, 16, 17, 18, 19, 20, 21, 22, 23, 24, 25, 26], [0, 1, 2, 3, 4, 5, 6, 7, 8, 9, 10, 11, 12, 13, 14, 15, 16, 17, 18, 19, 20, 21, 22, 23, 24, 25, 26], [0, 1, 2, 3, 5, 6, 7, 8, 9, 10, 11, 12, 13, 14, 15, 16, 17, 18, 19, 20, 21, 22, 23, 24, 25, 26]))], sk := [], mvs := [], fz := [] }
def f_l_eqIntSSS_a (a0 : List Sc) (b1 : List Sc) : List AV := enc [.p (.nl 2), .p (.nl 2)] [.l a0, .l b1]
def f_l_eqIntSSS_i (a0 : List Sc) (b1 : List Sc) : List AV := enc [] []
def f_l_eqIntSSS_en (r : Bool) : List AV × List AV := (enc [.p .boo] [.b r], enc [] [])
def f_l_eqIntSSS_M : Calling := addC 15 f_l_eqIntSS_c (noC)
theorem f_l_eqIntSSS_Mt : CallOk Try.prog (f_l_eqIntSSS_M) := addC_true f_l_eqIntSS_cc (noC_true)
theorem f_l_eqIntSSS_o : loopsOnce Try.f22 = true := by kernel_rfl
def f_l_eqIntSSS_h0 : List Sh := [.p (.nl 2), .p (.nl 2), .u, .u, .u, .p (.int .i64), .u, .u, .u, .u, .u, .u, .u, .u, .u, .u, .u, .u, .u, .u, .u, .u, .u, .u, .u, .u, .u]
def f_l_eqIntSSS_fr0 (a0 : List Sc) (b1 : List Sc) (s : Int) : List AV := enc f_l_eqIntSSS_h0 [.l a0, .l b1, .i s]
def f_l_eqIntSSS_g0_1 : List Sh := [.u, .u, .u, .u, .u, .u, .u, .u, .u, .u, .u, .u, .u, .u, .u, .u, .u, .u, .u, .u, .u, .u, .u, .u, .u, .u, .u]
def f_l_eqIntSSS_x0_1 (a0 : List Sc) (b1 : List Sc) (e : Unit) : X × List AV := (.out 0, enc f_l_eqIntSSS_g0_1 [])
def f_l_eqIntSSS_g0_2 : List Sh := [.u, .u, .u, .u, .p .boo, .u, .u, .u, .u, .u, .u, .u, .u, .u, .u, .u, .u, .u, .u, .u, .u, .u, .u, .u, .u, .u, .u]
def f_l_eqIntSSS_x0_2 (a0 : List Sc) (b1 : List Sc) (e : Unit) : X × List AV := (.ret, enc f_l_eqIntSSS_g0_2 [.b false])
theorem f_l_eqIntSSS_p0 {R : Type} (a0 : List Sc) (b1 : List Sc) (s : Int) (kN : Int → Option R) (kA : Unit → Option R) (kB : Unit → Option R) : f_l_eqIntSSS_k0 a0 b1 s kN kA kB = (f_l_eqIntSSS_r0 a0 b1 s).bind (Ro.el kN kA kB) := by
  simp only [f_l_eqIntSSS_k0, f_l_eqIntSSS_r0, brB, boB, someB, noneB, Ro.el]
theorem f_l_eqIntSSS_e0 (a0 : List Sc) (b1 : List Sc) (s : Int) : EC E0 f_l_eqIntSSS_M H0 f_l_eqIntSSS_F (asL (noL)) 0 (bodyOf Try.f22 0) (f_l_eqIntSSS_fr0 a0 b1 s) (done (klOf f_l_eqIntSSS_F 0)) = f_l_eqIntSSS_k0 a0 b1 s (fun s => some (.norm, f_l_eqIntSSS_fr0 a0 b1 s)) (fun e => some (f_l_eqIntSSS_x0_1 a0 b1 e)) (fun e => some (f_l_eqIntSSS_x0_2 a0 b1 e)) := by kernel_rfl
theorem f_l_eqIntSSS_l0 (a0 : List Sc) (b1 : List Sc) : ∀ s r, loopL (f_l_eqIntSSS_r0 a0 b1) s = some r → LS Try.prog f_l_eqIntSSS_F (bodyOf Try.f22 0) (f_l_eqIntSSS_fr0 a0 b1 s) (enX (f_l_eqIntSSS_x0_1 a0 b1) (f_l_eqIntSSS_x0_2 a0 b1) r) :=
  loop_true E0ok f_l_eqIntSSS_Mt (noL_true) f_l_eqIntSSS_o (fun _ h => by cases h) (fun _ h => by cases h) (fun _ h => by cases h) (fun _ h => by cases h) (fun s => (f_l_eqIntSSS_e0 a0 b1 s).trans (f_l_eqIntSSS_p0 a0 b1 s _ _ (fun e => some (f_l_eqIntSSS_x0_2 a0 b1 e))))
def f_l_eqIntSSS_t0 (σ : List AV) : Option (Bool × Bool × (X × List AV) × (X × List AV)) := match dec f_l_eqIntSSS_h0 σ with
  | some [.l a0, .l b1, .i i5] => some ((loopL (f_l_eqIntSSS_r0 a0 b1) i5).isSome, isOne (loopL (f_l_eqIntSSS_r0 a0 b1) i5), f_l_eqIntSSS_x0_1 a0 b1 (getOne () (loopL (f_l_eqIntSSS_r0 a0 b1) i5)), f_l_eqIntSSS_x0_2 a0 b1 (getTwo () (loopL (f_l_eqIntSSS_r0 a0 b1) i5)))
  | _ => none
theorem f_l_eqIntSSS_tt0 : TTrue Try.prog f_l_eqIntSSS_F Try.f22 0 (f_l_eqIntSSS_t0) := by
  intro σ p r r' h
  unfold f_l_eqIntSSS_t0 at h
  split at h
  · rename_i hd
    rw [← dec_enc hd]
    exact row2 (f_l_eqIntSSS_l0 _ _ _) h
  · cases h
theorem f_l_eqIntSSS_p {R : Type} (a0 : List Sc) (b1 : List Sc) (kR : Bool → Option R) : f_l_eqIntSSS_k a0 b1 kR = (f_l_eqIntSSS_k a0 b1 some).bind kR := by
  simp only [f_l_eqIntSSS_k, brB, blB, someB]
theorem f_l_eqIntSSS_e (a0 : List Sc) (b1 : List Sc) : runFn E0 f_l_eqIntSSS_M H0 f_l_eqIntSSS_F (asL (addL 0 (f_l_eqIntSSS_t0) (noL))) Try.f22 (f_l_eqIntSSS_a a0 b1) (f_l_eqIntSSS_i a0 b1) = f_l_eqIntSSS_k a0 b1 (fun r => some (f_l_eqIntSSS_en r)) := by kernel_rfl
theorem f_l_eqIntSSS_ok (a0 : List Sc) (b1 : List Sc) (r : Bool) (h : f_l_eqIntSSS a0 b1 = some r) : CS Try.prog 22 (f_l_eqIntSSS_a a0 b1) (f_l_eqIntSSS_i a0 b1) (f_l_eqIntSSS_en r).1 (f_l_eqIntSSS_en r).2 :=
  fn_true (Gk := fun k => f_l_eqIntSSS_k a0 b1 k) (en := f_l_eqIntSSS_en) Try.func22 E0ok f_l_eqIntSSS_Mt (addL_true (f_l_eqIntSSS_tt0) (noL_true)) f_l_eqIntSSS_o (f_l_eqIntSSS_e a0 b1) (f_l_eqIntSSS_p a0 b1) h
def f_l_eqIntSSS_c : CRow := fun args inh => match dec2 [.p (.nl 2), .p (.nl 2)] [] args inh with
  | some ([.l a0, .l b1], []) => some ((f_l_eqIntSSS a0 b1).isSome, (f_l_eqIntSSS_en ((f_l_eqIntSSS a0 b1).getD false)).1, (f_l_eqIntSSS_en ((f_l_eqIntSSS a0 b1).getD false)).2)
  | _ => none
theorem f_l_eqIntSSS_cc : CTrue Try.prog 22 f_l_eqIntSSS_c := by
  intro args inh rs out h
  unfold f_l_eqIntSSS_c at h
  split at h
  · rename_i hd
    obtain ⟨h1, h2⟩ := dec2_enc hd
    rw [← h1, ← h2]
    exact rowC (f_l_eqIntSSS_ok _ _) h
  · cases h

def f_l_eqGroup_F : Fi := { nv := 0, nc := 0, m := 0, vt := [], kl := [], sk := [], mvs := [], fz := [] }
def f_l_eqGroup_a (a0 : List Sc) (b1 : List Sc) : List AV := enc [.p .gr, .p .gr] [.l a0, .l b1]
def f_l_eqGroup_i (a0 : List Sc) (b1 : List Sc) : List AV := enc [] []
def f_l_eqGroup_en (r : Bool) : List AV × List AV := (enc [.p .boo] [.b r], enc [] [])
def f_l_eqGroup_M : Calling := addC 23 f_l_eqIntS_c (noC)
theorem f_l_eqGroup_Mt : CallOk Try.prog (f_l_eqGroup_M) := addC_true f_l_eqIntS_cc (noC_true)
theorem f_l_eqGroup_o : loopsOnce Try.f12 = true := by kernel_rfl
theorem f_l_eqGroup_p {R : Type} (a0 : List Sc) (b1 : List Sc) (kR : Bool → Option R) : f_l_eqGroup_k a0 b1 kR = (f_l_eqGroup_k a0 b1 some).bind kR := by
  simp only [f_l_eqGroup_k, brB, boB, someB]
theorem f_l_eqGroup_e (a0 : List Sc) (b1 : List Sc) : runFn E0 f_l_eqGroup_M H0 f_l_eqGroup_F (asL (noL)) Try.f12 (f_l_eqGroup_a a0 b1) (f_l_eqGroup_i a0 b1) = f_l_eqGroup_k a0 b1 (fun r => some (f_l_eqGroup_en r)) := by kernel_rfl
theorem f_l_eqGroup_ok (a0 : List Sc) (b1 : List Sc) (r : Bool) (h : f_l_eqGroup a0 b1 = some r) : CS Try.prog 12 (f_l_eqGroup_a a0 b1) (f_l_eqGroup_i a0 b1) (f_l_eqGroup_en r).1 (f_l_eqGroup_en r).2 :=
  fn_true (Gk := fun k => f_l_eqGroup_k a0 b1 k) (en := f_l_eqGroup_en) Try.func12 E0ok f_l_eqGroup_Mt (noL_true) f_l_eqGroup_o (f_l_eqGroup_e a0 b1) (f_l_eqGroup_p a0 b1) h
def f_l_eqGroup_c : CRow := fun args inh => match dec2 [.p .gr, .p .gr] [] args inh with
  | some ([.l a0, .l b1], []) => some ((f_l_eqGroup a0 b1).isSome, (f_l_eqGroup_en ((f_l_eqGroup a0 b1).getD false)).1, (f_l_eqGroup_en ((f_l_eqGroup a0 b1).getD false)).2)
  | _ => none
theorem f_l_eqGroup_cc : CTrue Try.prog 12 f_l_eqGroup_c := by
  intro args inh rs out h
  unfold f_l_eqGroup_c at h
  split at h
  · rename_i hd
    obtain ⟨h1, h2⟩ := dec2_enc hd
    rw [← h1, ← h2]
    exact rowC (f_l_eqGroup_ok _ _) h
  · cases h

def f_l_markIntS_io_F : Fi := { nv := 1, nc := 1, m := 1, vt := [], kl := [(0, ([3, 4, 5, 7, 8, 9, 10, 11, 12, 13, 14, 15, 16, 17, 18, 19], [1, 3, 4, 5, 6, 7, 8, 9, 10, 11, 12, 13, 14, 15, 16, 17, 18, 19], [1, 2, 3, 4, 6, 7, 8, 9, 10, 11, 12, 13, 14, 15, 16, 17, 18, 19]))], sk := [], mvs := [], fz := [] }
def f_l_markIntS_io_a (k1 : Int) (h0 : List Sc) : List AV := enc [.p (.al 0), .p (.int .i64)] [.i k1]
def f_l_markIntS_io_i (k1 : Int) (h0 : List Sc) : List AV := enc [.own 3] [.l h0]
def f_l_markIntS_io_en (r : Int × List Sc) : List AV × List AV := (enc [.p (.int .i64)] [.i r.1], enc [.own 3] [.l r.2])
def f_l_markIntS_io_M : Calling := noC
theorem f_l_markIntS_io_Mt : CallOk Try.prog (f_l_markIntS_io_M) := noC_true
theorem f_l_markIntS_io_o : loopsOnce Try.f24 = true := by kernel_rfl
def f_l_markIntS_io_h0 : List Sh := [.own 3, .p (.al 0), .p (.int .i64), .u, .u, .u, .p (.int .i64), .u, .u, .u, .u, .u, .u, .u, .u, .u, .u, .u, .u, .u]
def f_l_markIntS_io_fr0 (s : List Sc × Int × Int) : List AV := enc f_l_markIntS_io_h0 [.l s.1, .i s.2.1, .i s.2.2]
def f_l_markIntS_io_g0_1 : List Sh := [.own 3, .u, .p (.int .i64), .u, .u, .u, .u, .u, .u, .u, .u, .u, .u, .u, .u, .u, .u, .u, .u, .u]
def f_l_markIntS_io_x0_1 (e : List Sc × Int) : X × List AV := (.out 0, enc f_l_markIntS_io_g0_1 [.l e.1, .i e.2])
def f_l_markIntS_io_x0_2 (_e : Unit) : X × List AV := (.ret, [])
theorem f_l_markIntS_io_p0 {R : Type} (s : List Sc × Int × Int) (kN : List Sc × Int × Int → Option R) (kA : List Sc × Int → Option R) (kB : Unit → Option R) : f_l_markIntS_io_k0 s.1 s.2.1 s.2.2 kN kA = (f_l_markIntS_io_r0 s).bind (Ro.el kN kA kB) := by
  simp only [f_l_markIntS_io_k0, f_l_markIntS_io_r0, brB, someB, noneB, Ro.el]
theorem f_l_markIntS_io_e0 (s : List Sc × Int × Int) : EC E0 f_l_markIntS_io_M H0 f_l_markIntS_io_F (asL (noL)) 0 (bodyOf Try.f24 0) (f_l_markIntS_io_fr0 s) (done (klOf f_l_markIntS_io_F 0)) = f_l_markIntS_io_k0 s.1 s.2.1 s.2.2 (fun s => some (.norm, f_l_markIntS_io_fr0 s)) (fun e => some (f_l_markIntS_io_x0_1 e)) := by kernel_rfl
theorem f_l_markIntS_io_l0 : ∀ s r, loopL (f_l_markIntS_io_r0) s = some r → LS Try.prog f_l_markIntS_io_F (bodyOf Try.f24 0) (f_l_markIntS_io_fr0 s) (enX (f_l_markIntS_io_x0_1) (f_l_markIntS_io_x0_2) r) :=
  loop_true E0ok f_l_markIntS_io_Mt (noL_true) f_l_markIntS_io_o (fun _ h => by cases h) (fun _ h => by cases h) (fun _ h => by cases h) (fun _ h => by cases h) (fun s => (f_l_markIntS_io_e0 s).trans (f_l_markIntS_io_p0 s _ _ (fun e => some (f_l_markIntS_io_x0_2 e))))
def f_l_markIntS_io_t0 (σ : List AV) : Option (Bool × Bool × (X × List AV) × (X × List AV)) := match dec f_l_markIntS_io_h0 σ with
  | some [.l v0, .i k1, .i i5] => some (isOne (loopL (f_l_markIntS_io_r0) (v0, k1, i5)), true, f_l_markIntS_io_x0_1 (getOne ([], 0) (loopL (f_l_markIntS_io_r0) (v0, k1, i5))), (.ret, []))
  | _ => none
theorem f_l_markIntS_io_tt0 : TTrue Try.prog f_l_markIntS_io_F Try.f24 0 (f_l_markIntS_io_t0) := by
  intro σ p r r' h
  unfold f_l_markIntS_io_t0 at h
  split at h
  · rename_i hd
    rw [← dec_enc hd]
    exact row1 (f_l_markIntS_io_l0 _) h
  · cases h
theorem f_l_markIntS_io_p {R : Type} (k1 : Int) (h0 : List Sc) (kR : Int × List Sc → Option R) : f_l_markIntS_io_k k1 h0 kR = (f_l_markIntS_io_k k1 h0 some).bind kR := by
  simp only [f_l_markIntS_io_k, bl1B, someB]
theorem f_l_markIntS_io_e (k1 : Int) (h0 : List Sc) : runFn E0 f_l_markIntS_io_M H0 f_l_markIntS_io_F (asL (addL 0 (f_l_markIntS_io_t0) (noL))) Try.f24 (f_l_markIntS_io_a k1 h0) (f_l_markIntS_io_i k1 h0) = f_l_markIntS_io_k k1 h0 (fun r => some (f_l_markIntS_io_en r)) := by kernel_rfl
theorem f_l_markIntS_io_ok (k1 : Int) (h0 : List Sc) (r : Int × List Sc) (h : f_l_markIntS_io k1 h0 = some r) : CS Try.prog 24 (f_l_markIntS_io_a k1 h0) (f_l_markIntS_io_i k1 h0) (f_l_markIntS_io_en r).1 (f_l_markIntS_io_en r).2 :=
  fn_true (Gk := fun k => f_l_markIntS_io_k k1 h0 k) (en := f_l_markIntS_io_en) Try.func24 E0ok f_l_markIntS_io_Mt (addL_true (f_l_markIntS_io_tt0) (noL_true)) f_l_markIntS_io_o (f_l_markIntS_io_e k1 h0) (f_l_markIntS_io_p k1 h0) h
def f_l_markIntS_io_c : CRow := fun args inh => match dec2 [.p (.al 0), .p (.int .i64)] [.own 3] args inh with
  | some ([.i k1], [.l h0]) => some ((f_l_markIntS_io k1 h0).isSome, (f_l_markIntS_io_en ((f_l_markIntS_io k1 h0).getD (0, []))).1, (f_l_markIntS_io_en ((f_l_markIntS_io k1 h0).getD (0, []))).2)
  | _ => none
theorem f_l_markIntS_io_cc : CTrue Try.prog 24 f_l_markIntS_io_c := by
  intro args inh rs out h
  unfold f_l_markIntS_io_c at h
  split at h
  · rename_i hd
    obtain ⟨h1, h2⟩ := dec2_enc hd
    rw [← h1, ← h2]
    exact rowC (f_l_markIntS_io_ok _ _) h
  · cases h

def f_l_markGroup_io_F : Fi := { nv := 2, nc := 2, m := 1, vt := [(2, 1)], kl := [], sk := [], mvs := [], fz := [] }
def f_l_markGroup_io_a (k1 : Int) (h0 : List Sc) : List AV := enc [.p (.go 0), .p (.int .i64)] [.i k1]
def f_l_markGroup_io_i (k1 : Int) (h0 : List Sc) : List AV := enc [.own 3] [.l h0]
def f_l_markGroup_io_en (r : Int × List Sc) : List AV × List AV := (enc [.p (.int .i64)] [.i r.1], enc [.own 3] [.l r.2])
def f_l_markGroup_io_M : Calling := addC 24 f_l_markIntS_io_c (noC)
theorem f_l_markGroup_io_Mt : CallOk Try.prog (f_l_markGroup_io_M) := addC_true f_l_markIntS_io_cc (noC_true)
theorem f_l_markGroup_io_o : loopsOnce Try.f16 = true := by kernel_rfl
theorem f_l_markGroup_io_p {R : Type} (k1 : Int) (h0 : List Sc) (kR : Int × List Sc → Option R) : f_l_markGroup_io_k k1 h0 kR = (f_l_markGroup_io_k k1 h0 some).bind kR := by
  simp only [f_l_markGroup_io_k, boB, someB]
theorem f_l_markGroup_io_e (k1 : Int) (h0 : List Sc) : runFn E0 f_l_markGroup_io_M H0 f_l_markGroup_io_F (asL (noL)) Try.f16 (f_l_markGroup_io_a k1 h0) (f_l_markGroup_io_i k1 h0) = f_l_markGroup_io_k k1 h0 (fun r => some (f_l_markGroup_io_en r)) := by kernel_rfl
theorem f_l_markGroup_io_ok (k1 : Int) (h0 : List Sc) (r : Int × List Sc) (h : f_l_markGroup_io k1 h0 = some r) : CS Try.prog 16 (f_l_markGroup_io_a k1 h0) (f_l_markGroup_io_i k1 h0) (f_l_markGroup_io_en r).1 (f_l_markGroup_io_en r).2 :=
  fn_true (Gk := fun k => f_l_markGroup_io_k k1 h0 k) (en := f_l_markGroup_io_en) Try.func16 E0ok f_l_markGroup_io_Mt (noL_true) f_l_markGroup_io_o (f_l_markGroup_io_e k1 h0) (f_l_markGroup_io_p k1 h0) h
def f_l_markGroup_io_c : CRow := fun args inh => match dec2 [.p (.go 0), .p (.int .i64)] [.own 3] args inh with
  | some ([.i k1], [.l h0]) => some ((f_l_markGroup_io k1 h0).isSome, (f_l_markGroup_io_en ((f_l_markGroup_io k1 h0).getD (0, []))).1, (f_l_markGroup_io_en ((f_l_markGroup_io k1 h0).getD (0, []))).2)
  | _ => none
theorem f_l_markGroup_io_cc : CTrue Try.prog 16 f_l_markGroup_io_c := by
  intro args inh rs out h
  unfold f_l_markGroup_io_c at h
  split at h
  · rename_i hd
    obtain ⟨h1, h2⟩ := dec2_enc hd
    rw [← h1, ← h2]
    exact rowC (f_l_markGroup_io_ok _ _) h
  · cases h

def f_l_markIntSS_io_F : Fi := { nv := 1, nc := 1, m := 1, vt := [], kl := [(0, ([3, 4, 5, 7, 8, 9, 10, 11, 12, 13, 14, 15, 16, 17, 18, 19], [1, 3, 4, 5, 6, 7, 8, 9, 10, 11, 12, 13, 14, 15, 16, 17, 18, 19], [1, 2, 3, 4, 6, 7, 8, 9, 10, 11, 12, 13, 14, 15, 16, 17, 18, 19]))], sk := [], mvs := [], fz := [], dt := [(4, 3)] }
def f_l_markIntSS_io_a (k1 : Int) (h0 : List Sc) : List AV := enc [.p (.al 0), .p (.int .i64)] [.i k1]
def f_l_markIntSS_io_i (k1 : Int) (h0 : List Sc) : List AV := enc [.own 4001000022] [.l h0]
def f_l_markIntSS_io_en (r : Int × List Sc) : List AV × List AV := (enc [.p (.int .i64)] [.i r.1], enc [.own 4001000022] [.l r.2])
def f_l_markIntSS_io_M : Calling := addC 24 f_l_markIntS_io_c (noC)
theorem f_l_markIntSS_io_Mt : CallOk Try.prog (f_l_markIntSS_io_M) := addC_true f_l_markIntS_io_cc (noC_true)
theorem f_l_markIntSS_io_o : loopsOnce Try.f17 = true := by kernel_rfl
def f_l_markIntSS_io_h0 : List Sh := [.own 4001000022, .p (.al 0), .p (.int .i64), .u, .u, .u, .p (.int .i64), .u, .u, .u, .u, .u, .u, .u, .u, .u, .u, .u, .u, .u]
def f_l_markIntSS_io_fr0 (s : List Sc × Int × Int) : List AV := enc f_l_markIntSS_io_h0 [.l s.1, .i s.2.1, .i s.2.2]
def f_l_markIntSS_io_g0_1 : List Sh := [.own 4001000022, .u, .p (.int .i64), .u, .u, .u, .u, .u, .u, .u, .u, .u, .u, .u, .u, .u, .u, .u, .u, .u]
def f_l_markIntSS_io_x0_1 (e : List Sc × Int) : X × List AV := (.out 0, enc f_l_markIntSS_io_g0_1 [.l e.1, .i e.2])
def f_l_markIntSS_io_x0_2 (_e : Unit) : X × List AV := (.ret, [])
theorem f_l_markIntSS_io_p0 {R : Type} (s : List Sc × Int × Int) (kN : List Sc × Int × Int → Option R) (kA : List Sc × Int → Option R) (kB : Unit → Option R) : f_l_markIntSS_io_k0 s.1 s.2.1 s.2.2 kN kA = (f_l_markIntSS_io_r0 s).bind (Ro.el kN kA kB) := by
  simp only [f_l_markIntSS_io_k0, f_l_markIntSS_io_r0, brB, boB, someB, noneB, Ro.el]
theorem f_l_markIntSS_io_e0 (s : List Sc × Int × Int) : EC E0 f_l_markIntSS_io_M H0 f_l_markIntSS_io_F (asL (noL)) 0 (bodyOf Try.f17 0) (f_l_markIntSS_io_fr0 s) (done (klOf f_l_markIntSS_io_F 0)) = f_l_markIntSS_io_k0 s.1 s.2.1 s.2.2 (fun s => some (.norm, f_l_markIntSS_io_fr0 s)) (fun e => some (f_l_markIntSS_io_x0_1 e)) := by kernel_rfl
theorem f_l_markIntSS_io_l0 : ∀ s r, loopL (f_l_markIntSS_io_r0) s = some r → LS Try.prog f_l_markIntSS_io_F (bodyOf Try.f17 0) (f_l_markIntSS_io_fr0 s) (enX (f_l_markIntSS_io_x0_1) (f_l_markIntSS_io_x0_2) r) :=
  loop_true E0ok f_l_markIntSS_io_Mt (noL_true) f_l_markIntSS_io_o (fun _ h => by cases h) (fun _ h => by cases h) (fun _ h => by cases h) (fun _ h => by cases h) (fun s => (f_l_markIntSS_io_e0 s).trans (f_l_markIntSS_io_p0 s _ _ (fun e => some (f_l_markIntSS_io_x0_2 e))))
def f_l_markIntSS_io_t0 (σ : List AV) : Option (Bool × Bool × (X × List AV) × (X × List AV)) := match dec f_l_markIntSS_io_h0 σ with
  | some [.l v0, .i k1, .i i5] => some (isOne (loopL (f_l_markIntSS_io_r0) (v0, k1, i5)), true, f_l_markIntSS_io_x0_1 (getOne ([], 0) (loopL (f_l_markIntSS_io_r0) (v0, k1, i5))), (.ret, []))
  | _ => none
theorem f_l_markIntSS_io_tt0 : TTrue Try.prog f_l_markIntSS_io_F Try.f17 0 (f_l_markIntSS_io_t0) := by
  intro σ p r r' h
  unfold f_l_markIntSS_io_t0 at h
  split at h
  · rename_i hd
    rw [← dec_enc hd]
    exact row1 (f_l_markIntSS_io_l0 _) h
  · cases h
theorem f_l_markIntSS_io_p {R : Type} (k1 : Int) (h0 : List Sc) (kR : Int × List Sc → Option R) : f_l_markIntSS_io_k k1 h0 kR = (f_l_markIntSS_io_k k1 h0 some).bind kR := by
  simp only [f_l_markIntSS_io_k, bl1B, someB]
theorem f_l_markIntSS_io_e (k1 : Int) (h0 : List Sc) : runFn E0 f_l_markIntSS_io_M H0 f_l_markIntSS_io_F (asL (addL 0 (f_l_markIntSS_io_t0) (noL))) Try.f17 (f_l_markIntSS_io_a k1 h0) (f_l_markIntSS_io_i k1 h0) = f_l_markIntSS_io_k k1 h0 (fun r => some (f_l_markIntSS_io_en r)) := by kernel_rfl
theorem f_l_markIntSS_io_ok (k1 : Int) (h0 : List Sc) (r : Int × List Sc) (h : f_l_markIntSS_io k1 h0 = some r) : CS Try.prog 17 (f_l_markIntSS_io_a k1 h0) (f_l_markIntSS_io_i k1 h0) (f_l_markIntSS_io_en r).1 (f_l_markIntSS_io_en r).2 :=
  fn_true (Gk := fun k => f_l_markIntSS_io_k k1 h0 k) (en := f_l_markIntSS_io_en) Try.func17 E0ok f_l_markIntSS_io_Mt (addL_true (f_l_markIntSS_io_tt0) (noL_true)) f_l_markIntSS_io_o (f_l_markIntSS_io_e k1 h0) (f_l_markIntSS_io_p k1 h0) h
def f_l_markIntSS_io_c : CRow := fun args inh => match dec2 [.p (.al 0), .p (.int .i64)] [.own 4001000022] args inh with
  | some ([.i k1], [.l h0]) => some ((f_l_markIntSS_io k1 h0).isSome, (f_l_markIntSS_io_en ((f_l_markIntSS_io k1 h0).getD (0, []))).1, (f_l_markIntSS_io_en ((f_l_markIntSS_io k1 h0).getD (0, []))).2)
  | _ => none
theorem f_l_markIntSS_io_cc : CTrue Try.prog 17 f_l_markIntSS_io_c := by
  intro args inh rs out h
  unfold f_l_markIntSS_io_c at h
  split at h
  · rename_i hd
    obtain ⟨h1, h2⟩ := dec2_enc hd
    rw [← h1, ← h2]
    exact rowC (f_l_markIntSS_io_ok _ _) h
  · cases h

def f_l_markIntSSS_io_F : Fi := { nv := 1, nc := 1, m := 1, vt := [], kl := [(0, ([3, 4, 5, 7, 8, 9, 10, 11, 12, 13, 14, 15, 16, 17, 18, 19], [1, 3, 4, 5, 6, 7, 8, 9, 10, 11, 12, 13, 14, 15, 16, 17, 18, 19], [1, 2, 3, 4, 6, 7, 8, 9, 10, 11, 12, 13, 14, 15, 16, 17, 18, 19]))], sk := [], mvs := [], fz := [], dt := [(4, 3)] }
def f_l_markIntSSS_io_a (k1 : Int) (h0 : List Sc) : List AV := enc [.p (.al 0), .p (.int .i64)] [.i k1]
def f_l_markIntSSS_io_i (k1 : Int) (h0 : List Sc) : List AV := enc [.own 4001000023002000031] [.l h0]
def f_l_markIntSSS_io_en (r : Int × List Sc) : List AV × List AV := (enc [.p (.int .i64)] [.i r.1], enc [.own 4001000023002000031] [.l r.2])
def f_l_markIntSSS_io_M : Calling := addC 17 f_l_markIntSS_io_c (noC)
theorem f_l_markIntSSS_io_Mt : CallOk Try.prog (f_l_markIntSSS_io_M) := addC_true f_l_markIntSS_io_cc (noC_true)
theorem f_l_markIntSSS_io_o : loopsOnce Try.f25 = true := by kernel_rfl
def f_l_markIntSSS_io_h0 : List Sh := [.own 4001000023002000031, .p (.al 0), .p (.int .i64), .u, .u, .u, .p (.int .i64), .u, .u, .u, .u, .u, .u, .u, .u, .u, .u, .u, .u, .u]
def f_l_markIntSSS_io_fr0 (s : List Sc × Int × Int) : List AV := enc f_l_markIntSSS_io_h0 [.l s.1, .i s.2.1, .i s.2.2]
def f_l_markIntSSS_io_g0_1 : List Sh := [.own 4001000023002000031, .u, .p (.int .i64), .u, .u, .u, .u, .u, .u, .u, .u, .u, .u, .u, .u, .u, .u, .u, .u, .u]
def f_l_markIntSSS_io_x0_1 (e : List Sc × Int) : X × List AV := (.out 0, enc f_l_markIntSSS_io_g0_1 [.l e.1, .i e.2])
def f_l_markIntSSS_io_x0_2 (_e : Unit) : X × List AV := (.ret, [])
theorem f_l_markIntSSS_io_p0 {R : Type} (s : List Sc × Int × Int) (kN : List Sc × Int × Int → Option R) (kA : List Sc × Int → Option R) (kB : Unit → Option R) : f_l_markIntSSS_io_k0 s.1 s.2.1 s.2.2 kN kA = (f_l_markIntSSS_io_r0 s).bind (Ro.el kN kA kB) := by
  simp only [f_l_markIntSSS_io_k0, f_l_markIntSSS_io_r0, brB, boB, someB, noneB, Ro.el]
theorem f_l_markIntSSS_io_e0 (s : List Sc × Int × Int) : EC E0 f_l_markIntSSS_io_M H0 f_l_markIntSSS_io_F (asL (noL)) 0 (bodyOf Try.f25 0) (f_l_markIntSSS_io_fr0 s) (done (klOf f_l_markIntSSS_io_F 0)) = f_l_markIntSSS_io_k0 s.1 s.2.1 s.2.2 (fun s => some (.norm, f_l_markIntSSS_io_fr0 s)) (fun e => some (f_l_markIntSSS_io_x0_1 e)) := by kernel_rfl
theorem f_l_markIntSSS_io_l0 : ∀ s r, loopL (f_l_markIntSSS_io_r0) s = some r → LS Try.prog f_l_markIntSSS_io_F (bodyOf Try.f25 0) (f_l_markIntSSS_io_fr0 s) (enX (f_l_markIntSSS_io_x0_1) (f_l_markIntSSS_io_x0_2) r) :=
  loop_true E0ok f_l_markIntSSS_io_Mt (noL_true) f_l_markIntSSS_io_o (fun _ h => by cases h) (fun _ h => by cases h) (fun _ h => by cases h) (fun _ h => by cases h) (fun s => (f_l_markIntSSS_io_e0 s).trans (f_l_markIntSSS_io_p0 s _ _ (fun e => some (f_l_markIntSSS_io_x0_2 e))))
def f_l_markIntSSS_io_t0 (σ : List AV) : Option (Bool × Bool × (X × List AV) × (X × List AV)) := match dec f_l_markIntSSS_io_h0 σ with
  | some [.l v0, .i k1, .i i5] => some (isOne (loopL (f_l_markIntSSS_io_r0) (v0, k1, i5)), true, f_l_markIntSSS_io_x0_1 (getOne ([], 0) (loopL (f_l_markIntSSS_io_r0) (v0, k1, i5))), (.ret, []))
  | _ => none
theorem f_l_markIntSSS_io_tt0 : TTrue Try.prog f_l_markIntSSS_io_F Try.f25 0 (f_l_markIntSSS_io_t0) := by
  intro σ p r r' h
  unfold f_l_markIntSSS_io_t0 at h
  split at h
  · rename_i hd
    rw [← dec_enc hd]
    exact row1 (f_l_markIntSSS_io_l0 _) h
  · cases h
theorem f_l_markIntSSS_io_p {R : Type} (k1 : Int) (h0 : List Sc) (kR : Int × List Sc → Option R) : f_l_markIntSSS_io_k k1 h0 kR = (f_l_markIntSSS_io_k k1 h0 some).bind kR := by
  simp only [f_l_markIntSSS_io_k, bl1B, someB]
theorem f_l_markIntSSS_io_e (k1 : Int) (h0 : List Sc) : runFn E0 f_l_markIntSSS_io_M H0 f_l_markIntSSS_io_F (asL (addL 0 (f_l_markIntSSS_io_t0) (noL))) Try.f25 (f_l_markIntSSS_io_a k1 h0) (f_l_markIntSSS_io_i k1 h0) = f_l_markIntSSS_io_k k1 h0 (fun r => some (f_l_markIntSSS_io_en r)) := by kernel_rfl
theorem f_l_markIntSSS_io_ok (k1 : Int) (h0 : List Sc) (r : Int × List Sc) (h : f_l_markIntSSS_io k1 h0 = some r) : CS Try.prog 25 (f_l_markIntSSS_io_a k1 h0) (f_l_markIntSSS_io_i k1 h0) (f_l_markIntSSS_io_en r).1 (f_l_markIntSSS_io_en r).2 :=
  fn_true (Gk := fun k => f_l_markIntSSS_io_k k1 h0 k) (en := f_l_markIntSSS_io_en) Try.func25 E0ok f_l_markIntSSS_io_Mt (addL_true (f_l_markIntSSS_io_tt0) (noL_true)) f_l_markIntSSS_io_o (f_l_markIntSSS_io_e k1 h0) (f_l_markIntSSS_io_p k1 h0) h
def f_l_markIntSSS_io_c : CRow := fun args inh => match dec2 [.p (.al 0), .p (.int .i64)] [.own 4001000023002000031] args inh with
  | some ([.i k1], [.l h0]) => some ((f_l_markIntSSS_io k1 h0).isSome, (f_l_markIntSSS_io_en ((f_l_markIntSSS_io k1 h0).getD (0, []))).1, (f_l_markIntSSS_io_en ((f_l_markIntSSS_io k1 h0).getD (0, []))).2)
  | _ => none
theorem f_l_markIntSSS_io_cc : CTrue Try.prog 25 f_l_markIntSSS_io_c := by
  intro args inh rs out h
  unfold f_l_markIntSSS_io_c at h
  split at h
  · rename_i hd
    obtain ⟨h1, h2⟩ := dec2_enc hd
    rw [← h1, ← h2]
    exact rowC (f_l_markIntSSS_io_ok _ _) h
  · cases h

def f_l_heldIntS_F : Fi := { nv := 0, nc := 0, m := 0, vt := [], kl := [(0, ([2, 3, 4, 6, 7, 8, 9, 10, 11, 12, 13, 14, 15, 16, 17, 18, 19, 20], [0, 2, 3, 4, 5, 6, 7, 8, 9, 10, 11, 12, 13, 14, 15, 16, 17, 18, 19, 20], [0, 1, 2, 3, 5, 6, 7, 8, 9, 10, 11, 12, 13, 14, 15, 16, 17, 18, 19, 20]))], sk := [], mvs := [], fz := [] }
def f_l_heldIntS_a (a0 : List Sc) (k1 : Int) : List AV := enc [.p .sl, .p (.int .i64)] [.l a0, .i k1]
def f_l_heldIntS_i (a0 : List Sc) (k1 : Int) : List AV := enc [] []
def f_l_heldIntS_en (r : Int) : List AV × List AV := (enc [.p (.int .i64)] [.i r], enc [] [])
def f_l_heldIntS_M : Calling := noC
theorem f_l_heldIntS_Mt : CallOk Try.prog (f_l_heldIntS_M) := noC_true
theorem f_l_heldIntS_o : loopsOnce Try.f29 = true := by kernel_rfl
def f_l_heldIntS_h0 : List Sh := [.p .sl, .p (.int .i64), .u, .u, .u, .p (.int .i64), .u, .u, .u, .u, .u, .u, .u, .u, .u, .u, .u, .u, .u, .u, .u]
def f_l_heldIntS_fr0 (a0 : List Sc) (s : Int × Int) : List AV := enc f_l_heldIntS_h0 [.l a0, .i s.1, .i s.2]
def f_l_heldIntS_g0_1 : List Sh := [.u, .p (.int .i64), .u, .u, .u, .u, .u, .u, .u, .u, .u, .u, .u, .u, .u, .u, .u, .u, .u, .u, .u]
def f_l_heldIntS_x0_1 (a0 : List Sc) (e : Int) : X × List AV := (.out 0, enc f_l_heldIntS_g0_1 [.i e])
def f_l_heldIntS_g0_2 : List Sh := [.u, .u, .u, .u, .p (.int .i64), .u, .u, .u, .u, .u, .u, .u, .u, .u, .u, .u, .u, .u, .u, .u, .u]
def f_l_heldIntS_x0_2 (a0 : List Sc) (e : Unit) : X × List AV := (.ret, enc f_l_heldIntS_g0_2 [.i (-1)])
theorem f_l_heldIntS_p0 {R : Type} (a0 : List Sc) (s : Int × Int) (kN : Int × Int → Option R) (kA : Int → Option R) (kB : Unit → Option R) : f_l_heldIntS_k0 a0 s.1 s.2 kN kA kB = (f_l_heldIntS_r0 a0 s).bind (Ro.el kN kA kB) := by
  simp only [f_l_heldIntS_k0, f_l_heldIntS_r0, brB, someB, noneB, Ro.el]
theorem f_l_heldIntS_e0 (a0 : List Sc) (s : Int × Int) : EC E0 f_l_heldIntS_M H0 f_l_heldIntS_F (asL (noL)) 0 (bodyOf Try.f29 0) (f_l_heldIntS_fr0 a0 s) (done (klOf f_l_heldIntS_F 0)) = f_l_heldIntS_k0 a0 s.1 s.2 (fun s => some (.norm, f_l_heldIntS_fr0 a0 s)) (fun e => some (f_l_heldIntS_x0_1 a0 e)) (fun e => some (f_l_heldIntS_x0_2 a0 e)) := by kernel_rfl
theorem f_l_heldIntS_l0 (a0 : List Sc) : ∀ s r, loopL (f_l_heldIntS_r0 a0) s = some r → LS Try.prog f_l_heldIntS_F (bodyOf Try.f29 0) (f_l_heldIntS_fr0 a0 s) (enX (f_l_heldIntS_x0_1 a0) (f_l_heldIntS_x0_2 a0) r) :=
  loop_true E0ok f_l_heldIntS_Mt (noL_true) f_l_heldIntS_o (fun _ h => by cases h) (fun _ h => by cases h) (fun _ h => by cases h) (fun _ h => by cases h) (fun s => (f_l_heldIntS_e0 a0 s).trans (f_l_heldIntS_p0 a0 s _ _ (fun e => some (f_l_heldIntS_x0_2 a0 e))))
def f_l_heldIntS_t0 (σ : List AV) : Option (Bool × Bool × (X × List AV) × (X × List AV)) := match dec f_l_heldIntS_h0 σ with
  | some [.l a0, .i k1, .i i5] => some ((loopL (f_l_heldIntS_r0 a0) (k1, i5)).isSome, isOne (loopL (f_l_heldIntS_r0 a0) (k1, i5)), f_l_heldIntS_x0_1 a0 (getOne 0 (loopL (f_l_heldIntS_r0 a0) (k1, i5))), f_l_heldIntS_x0_2 a0 (getTwo () (loopL (f_l_heldIntS_r0 a0) (k1, i5))))
  | _ => none
theorem f_l_heldIntS_tt0 : TTrue Try.prog f_l_heldIntS_F Try.f29 0 (f_l_heldIntS_t0) := by
  intro σ p r r' h
  unfold f_l_heldIntS_t0 at h
  split at h
  · rename_i hd
    rw [← dec_enc hd]
    exact row2 (f_l_heldIntS_l0 _ _) h
  · cases h
theorem f_l_heldIntS_p {R : Type} (a0 : List Sc) (k1 : Int) (kR : Int → Option R) : f_l_heldIntS_k a0 k1 kR = (f_l_heldIntS_k a0 k1 some).bind kR := by
  simp only [f_l_heldIntS_k, blB, someB]
theorem f_l_heldIntS_e (a0 : List Sc) (k1 : Int) : runFn E0 f_l_heldIntS_M H0 f_l_heldIntS_F (asL (addL 0 (f_l_heldIntS_t0) (noL))) Try.f29 (f_l_heldIntS_a a0 k1) (f_l_heldIntS_i a0 k1) = f_l_heldIntS_k a0 k1 (fun r => some (f_l_heldIntS_en r)) := by kernel_rfl
theorem f_l_heldIntS_ok (a0 : List Sc) (k1 : Int) (r : Int) (h : f_l_heldIntS a0 k1 = some r) : CS Try.prog 29 (f_l_heldIntS_a a0 k1) (f_l_heldIntS_i a0 k1) (f_l_heldIntS_en r).1 (f_l_heldIntS_en r).2 :=
  fn_true (Gk := fun k => f_l_heldIntS_k a0 k1 k) (en := f_l_heldIntS_en) Try.func29 E0ok f_l_heldIntS_Mt (addL_true (f_l_heldIntS_tt0) (noL_true)) f_l_heldIntS_o (f_l_heldIntS_e a0 k1) (f_l_heldIntS_p a0 k1) h
def f_l_heldIntS_c : CRow := fun args inh => match dec2 [.p .sl, .p (.int .i64)] [] args inh with
  | some ([.l a0, .i k1], []) => some ((f_l_heldIntS a0 k1).isSome, (f_l_heldIntS_en ((f_l_heldIntS a0 k1).getD 0)).1, (f_l_heldIntS_en ((f_l_heldIntS a0 k1).getD 0)).2)
  | _ => none
theorem f_l_heldIntS_cc : CTrue Try.prog 29 f_l_heldIntS_c := by
  intro args inh rs out h
  unfold f_l_heldIntS_c at h
  split at h
  · rename_i hd
    obtain ⟨h1, h2⟩ := dec2_enc hd
    rw [← h1, ← h2]
    exact rowC (f_l_heldIntS_ok _ _) h
  · cases h

def f_l_heldIntSS_F : Fi := { nv := 0, nc := 0, m := 0, vt := [], kl := [(0, ([2, 3, 4, 6, 7, 8, 9, 10, 11, 12, 13, 14, 15, 16, 17, 18, 19, 20], [0, 2, 3, 4, 5, 6, 7, 8, 9, 10, 11, 12, 13, 14, 15, 16, 17, 18, 19, 20], [0, 1, 2, 3, 5, 6, 7, 8, 9, 10, 11, 12, 13, 14, 15, 16, 17, 18, 19, 20]))], sk := [], mvs := [], fz := [] }
def f_l_heldIntSS_a (a0 : List Sc) (k1 : Int) : List AV := enc [.p (.nl 1), .p (.int .i64)] [.l a0, .i k1]
def f_l_heldIntSS_i (a0 : List Sc) (k1 : Int) : List AV := enc [] []
def f_l_heldIntSS_en (r : Int) : List AV × List AV := (enc [.p (.int .i64)] [.i r], enc [] [])
def f_l_heldIntSS_M : Calling := addC 29 f_l_heldIntS_c (noC)
theorem f_l_heldIntSS_Mt : CallOk Try.prog (f_l_heldIntSS_M) := addC_true f_l_heldIntS_cc (noC_true)
theorem f_l_heldIntSS_o : loopsOnce Try.f18 = true := by kernel_rfl
def f_l_heldIntSS_h0 : List Sh := [.p (.nl 1), .p (.int .i64), .u, .u, .u, .p (.int .i64), .u, .u, .u, .u, .u, .u, .u, .u, .u, .u, .u, .u, .u, .u, .u]
def f_l_heldIntSS_fr0 (a0 : List Sc) (s : Int × Int) : List AV := enc f_l_heldIntSS_h0 [.l a0, .i s.1, .i s.2]
def f_l_heldIntSS_g0_1 : List Sh := [.u, .p (.int .i64), .u, .u, .u, .u, .u, .u, .u, .u, .u, .u, .u, .u, .u, .u, .u, .u, .u, .u, .u]
def f_l_heldIntSS_x0_1 (a0 : List Sc) (e : Int) : X × List AV := (.out 0, enc f_l_heldIntSS_g0_1 [.i e])
def f_l_heldIntSS_g0_2 : List Sh := [.u, .u, .u, .u, .p (.int .i64), .u, .u, .u, .u, .u, .u, .u, .u, .u, .u, .u, .u, .u, .u, .u, .u]
def f_l_heldIntSS_x0_2 (a0 : List Sc) (e : Unit) : X × List AV := (.ret, enc f_l_heldIntSS_g0_2 [.i (-1)])
theorem f_l_heldIntSS_p0 {R : Type} (a0 : List Sc) (s : Int × Int) (kN : Int × Int → Option R) (kA : Int → Option R) (kB : Unit → Option R) : f_l_heldIntSS_k0 a0 s.1 s.2 kN kA kB = (f_l_heldIntSS_r0 a0 s).bind (Ro.el kN kA kB) := by
  simp only [f_l_heldIntSS_k0, f_l_heldIntSS_r0, brB, boB, someB, noneB, Ro.el]
theorem f_l_heldIntSS_e0 (a0 : List Sc) (s : Int × Int) : EC E0 f_l_heldIntSS_M H0 f_l_heldIntSS_F (asL (noL)) 0 (bodyOf Try.f18 0) (f_l_heldIntSS_fr0 a0 s) (done (klOf f_l_heldIntSS_F 0)) = f_l_heldIntSS_k0 a0 s.1 s.2 (fun s => some (.norm, f_l_heldIntSS_fr0 a0 s)) (fun e => some (f_l_heldIntSS_x0_1 a0 e)) (fun e => some (f_l_heldIntSS_x0_2 a0 e)) := by kernel_rfl
theorem f_l_heldIntSS_l0 (a0 : List Sc) : ∀ s r, loopL (f_l_heldIntSS_r0 a0) s = some r → LS Try.prog f_l_heldIntSS_F (bodyOf Try.f18 0) (f_l_heldIntSS_fr0 a0 s) (enX (f_l_heldIntSS_x0_1 a0) (f_l_heldIntSS_x0_2 a0) r) :=
  loop_true E0ok f_l_heldIntSS_Mt (noL_true) f_l_heldIntSS_o (fun _ h => by cases h) (fun _ h => by cases h) (fun _ h => by cases h) (fun _ h => by cases h) (fun s => (f_l_heldIntSS_e0 a0 s).trans (f_l_heldIntSS_p0 a0 s _ _ (fun e => some (f_l_heldIntSS_x0_2 a0 e))))
def f_l_heldIntSS_t0 (σ : List AV) : Option (Bool × Bool × (X × List AV) × (X × List AV)) := match dec f_l_heldIntSS_h0 σ with
  | some [.l a0, .i k1, .i i5] => some ((loopL (f_l_heldIntSS_r0 a0) (k1, i5)).isSome, isOne (loopL (f_l_heldIntSS_r0 a0) (k1, i5)), f_l_heldIntSS_x0_1 a0 (getOne 0 (loopL (f_l_heldIntSS_r0 a0) (k1, i5))), f_l_heldIntSS_x0_2 a0 (getTwo () (loopL (f_l_heldIntSS_r0 a0) (k1, i5))))
  | _ => none
theorem f_l_heldIntSS_tt0 : TTrue Try.prog f_l_heldIntSS_F Try.f18 0 (f_l_heldIntSS_t0) := by
  intro σ p r r' h
  unfold f_l_heldIntSS_t0 at h
  split at h
  · rename_i hd
    rw [← dec_enc hd]
    exact row2 (f_l_heldIntSS_l0 _ _) h
  · cases h
theorem f_l_heldIntSS_p {R : Type} (a0 : List Sc) (k1 : Int) (kR : Int → Option R) : f_l_heldIntSS_k a0 k1 kR = (f_l_heldIntSS_k a0 k1 some).bind kR := by
  simp only [f_l_heldIntSS_k, blB, someB]
theorem f_l_heldIntSS_e (a0 : List Sc) (k1 : Int) : runFn E0 f_l_heldIntSS_M H0 f_l_heldIntSS_F (asL (addL 0 (f_l_heldIntSS_t0) (noL))) Try.f18 (f_l_heldIntSS_a a0 k1) (f_l_heldIntSS_i a0 k1) = f_l_heldIntSS_k a0 k1 (fun r => some (f_l_heldIntSS_en r)) := by kernel_rfl
theorem f_l_heldIntSS_ok (a0 : List Sc) (k1 : Int) (r : Int) (h : f_l_heldIntSS a0 k1 = some r) : CS Try.prog 18 (f_l_heldIntSS_a a0 k1) (f_l_heldIntSS_i a0 k1) (f_l_heldIntSS_en r).1 (f_l_heldIntSS_en r).2 :=
  fn_true (Gk := fun k => f_l_heldIntSS_k a0 k1 k) (en := f_l_heldIntSS_en) Try.func18 E0ok f_l_heldIntSS_Mt (addL_true (f_l_heldIntSS_tt0) (noL_true)) f_l_heldIntSS_o (f_l_heldIntSS_e a0 k1) (f_l_heldIntSS_p a0 k1) h
def f_l_heldIntSS_c : CRow := fun args inh => match dec2 [.p (.nl 1), .p (.int .i64)] [] args inh with
  | some ([.l a0, .i k1], []) => some ((f_l_heldIntSS a0 k1).isSome, (f_l_heldIntSS_en ((f_l_heldIntSS a0 k1).getD 0)).1, (f_l_heldIntSS_en ((f_l_heldIntSS a0 k1).getD 0)).2)
  | _ => none
theorem f_l_heldIntSS_cc : CTrue Try.prog 18 f_l_heldIntSS_c := by
  intro args inh rs out h
  unfold f_l_heldIntSS_c at h
  split at h
  · rename_i hd
    obtain ⟨h1, h2⟩ := dec2_enc hd
    rw [← h1, ← h2]
    exact rowC (f_l_heldIntSS_ok _ _) h
  · cases h

def f_l_heldIntSSS_F : Fi := { nv := 0, nc := 0, m := 0, vt := [], kl := [(0, ([2, 3, 4, 6, 7, 8, 9, 10, 11, 12, 13, 14, 15, 16, 17, 18, 19, 20], [0, 2, 3, 4, 5, 6, 7, 8, 9, 10, 11, 12, 13, 14, 15, 16, 17, 18, 19, 20], [0, 1, 2, 3, 5, 6, 7, 8, 9, 10, 11, 12, 13, 14, 15, 16, 17, 18, 19, 20]))], sk := [], mvs := [], fz := [] }
def f_l_heldIntSSS_a (a0 : List Sc) (k1 : Int) : List AV := enc [.p (.nl 2), .p (.int .i64)] [.l a0, .i k1]
def f_l_heldIntSSS_i (a0 : List Sc) (k1 : Int) : List AV := enc [] []
def f_l_heldIntSSS_en (r : Int) : List AV × List AV := (enc [.p (.int .i64)] [.i r], enc [] [])
def f_l_heldIntSSS_M : Calling := addC 18 f_l_heldIntSS_c (noC)
theorem f_l_heldIntSSS_Mt : CallOk Try.prog (f_l_heldIntSSS_M) := addC_true f_l_heldIntSS_cc (noC_true)
theorem f_l_heldIntSSS_o : loopsOnce Try.f26 = true := by kernel_rfl
def f_l_heldIntSSS_h0 : List Sh := [.p (.nl 2), .p (.int .i64), .u, .u, .u, .p (.int .i64), .u, .u, .u, .u, .u, .u, .u, .u, .u, .u, .u, .u, .u, .u, .u]
def f_l_heldIntSSS_fr0 (a0 : List Sc) (s : Int × Int) : List AV := enc f_l_heldIntSSS_h0 [.l a0, .i s.1, .i s.2]
def f_l_heldIntSSS_g0_1 : List Sh := [.u, .p (.int .i64), .u, .u, .u, .u, .u, .u, .u, .u, .u, .u, .u, .u, .u, .u, .u, .u, .u, .u, .u]
def f_l_heldIntSSS_x0_1 (a0 : List Sc) (e : Int) : X × List AV := (.out 0, enc f_l_heldIntSSS_g0_1 [.i e])
def f_l_heldIntSSS_g0_2 : List Sh := [.u, .u, .u, .u, .p (.int .i64), .u, .u, .u, .u, .u, .u, .u, .u, .u, .u, .u, .u, .u, .u, .u, .u]
def f_l_heldIntSSS_x0_2 (a0 : List Sc) (e : Unit) : X × List AV := (.ret, enc f_l_heldIntSSS_g0_2 [.i (-1)])
theorem f_l_heldIntSSS_p0 {R : Type} (a0 : List Sc) (s : Int × Int) (kN : Int × Int → Option R) (kA : Int → Option R) (kB : Unit → Option R) : f_l_heldIntSSS_k0 a0 s.1 s.2 kN kA kB = (f_l_heldIntSSS_r0 a0 s).bind (Ro.el kN kA kB) := by
  simp only [f_l_heldIntSSS_k0, f_l_heldIntSSS_r0, brB, boB, someB, noneB, Ro.el]
theorem f_l_heldIntSSS_e0 (a0 : List Sc) (s : Int × Int) : EC E0 f_l_heldIntSSS_M H0 f_l_heldIntSSS_F (asL (noL)) 0 (bodyOf Try.f26 0) (f_l_heldIntSSS_fr0 a0 s) (done (klOf f_l_heldIntSSS_F 0)) = f_l_heldIntSSS_k0 a0 s.1 s.2 (fun s => some (.norm, f_l_heldIntSSS_fr0 a0 s)) (fun e => some (f_l_heldIntSSS_x0_1 a0 e)) (fun e => some (f_l_heldIntSSS_x0_2 a0 e)) := by kernel_rfl
theorem f_l_heldIntSSS_l0 (a0 : List Sc) : ∀ s r, loopL (f_l_heldIntSSS_r0 a0) s = some r → LS Try.prog f_l_heldIntSSS_F (bodyOf Try.f26 0) (f_l_heldIntSSS_fr0 a0 s) (enX (f_l_heldIntSSS_x0_1 a0) (f_l_heldIntSSS_x0_2 a0) r) :=
  loop_true E0ok f_l_heldIntSSS_Mt (noL_true) f_l_heldIntSSS_o (fun _ h => by cases h) (fun _ h => by cases h) (fun _ h => by cases h) (fun _ h => by cases h) (fun s => (f_l_heldIntSSS_e0 a0 s).trans (f_l_heldIntSSS_p0 a0 s _ _ (fun e => some (f_l_heldIntSSS_x0_2 a0 e))))
def f_l_heldIntSSS_t0 (σ : List AV) : Option (Bool × Bool × (X × List AV) × (X × List AV)) := match dec f_l_heldIntSSS_h0 σ with
  | some [.l a0, .i k1, .i i5] => some ((loopL (f_l_heldIntSSS_r0 a0) (k1, i5)).isSome, isOne (loopL (f_l_heldIntSSS_r0 a0) (k1, i5)), f_l_heldIntSSS_x0_1 a0 (getOne 0 (loopL (f_l_heldIntSSS_r0 a0) (k1, i5))), f_l_heldIntSSS_x0_2 a0 (getTwo () (loopL (f_l_heldIntSSS_r0 a0) (k1, i5))))
  | _ => none
theorem f_l_heldIntSSS_tt0 : TTrue Try.prog f_l_heldIntSSS_F Try.f26 0 (f_l_heldIntSSS_t0) := by
  intro σ p r r' h
  unfold f_l_heldIntSSS_t0 at h
  split at h
  · rename_i hd
    rw [← dec_enc hd]
    exact row2 (f_l_heldIntSSS_l0 _ _) h
  · cases h
theorem f_l_heldIntSSS_p {R : Type} (a0 : List Sc) (k1 : Int) (kR : Int → Option R) : f_l_heldIntSSS_k a0 k1 kR = (f_l_heldIntSSS_k a0 k1 some).bind kR := by
  simp only [f_l_heldIntSSS_k, blB, someB]
theorem f_l_heldIntSSS_e (a0 : List Sc) (k1 : Int) : runFn E0 f_l_heldIntSSS_M H0 f_l_heldIntSSS_F (asL (addL 0 (f_l_heldIntSSS_t0) (noL))) Try.f26 (f_l_heldIntSSS_a a0 k1) (f_l_heldIntSSS_i a0 k1) = f_l_heldIntSSS_k a0 k1 (fun r => some (f_l_heldIntSSS_en r)) := by kernel_rfl
theorem f_l_heldIntSSS_ok (a0 : List Sc) (k1 : Int) (r : Int) (h : f_l_heldIntSSS a0 k1 = some r) : CS Try.prog 26 (f_l_heldIntSSS_a a0 k1) (f_l_heldIntSSS_i a0 k1) (f_l_heldIntSSS_en r).1 (f_l_heldIntSSS_en r).2 :=
  fn_true (Gk := fun k => f_l_heldIntSSS_k a0 k1 k) (en := f_l_heldIntSSS_en) Try.func26 E0ok f_l_heldIntSSS_Mt (addL_true (f_l_heldIntSSS_tt0) (noL_true)) f_l_heldIntSSS_o (f_l_heldIntSSS_e a0 k1) (f_l_heldIntSSS_p a0 k1) h
def f_l_heldIntSSS_c : CRow := fun args inh => match dec2 [.p (.nl 2), .p (.int .i64)] [] args inh with
  | some ([.l a0, .i k1], []) => some ((f_l_heldIntSSS a0 k1).isSome, (f_l_heldIntSSS_en ((f_l_heldIntSSS a0 k1).getD 0)).1, (f_l_heldIntSSS_en ((f_l_heldIntSSS a0 k1).getD 0)).2)
  | _ => none
theorem f_l_heldIntSSS_cc : CTrue Try.prog 26 f_l_heldIntSSS_c := by
  intro args inh rs out h
  unfold f_l_heldIntSSS_c at h
  split at h
  · rename_i hd
    obtain ⟨h1, h2⟩ := dec2_enc hd
    rw [← h1, ← h2]
    exact rowC (f_l_heldIntSSS_ok _ _) h
  · cases h

def f_l_FnExactFactorizationsOf_F : Fi := { nv := 7, nc := 1, m := 0, vt := [(8, 0), (27, 1), (30, 2), (34, 3), (40, 4), (94, 5), (97, 6)], kl := [], sk := [], mvs := [1, 2, 3, 4, 5, 6], fz := [] }
def f_l_FnExactFactorizationsOf_a (L0 : List Sc) (p1 : List Sc) : List AV := enc [.p .gr, .p .sl] [.l L0, .l p1]
def f_l_FnExactFactorizationsOf_i (L0 : List Sc) (p1 : List Sc) : List AV := enc [] []
def f_l_FnExactFactorizationsOf_en (r : Bool) : List AV × List AV := (enc [.p .boo] [.b r], enc [] [])
def f_l_FnExactFactorizationsOf_M : Calling := addC 8 f_l_szGroup_c (addC 10 f_l_toGroup_c (addC 20 f_l_toIntS_c (addC 19 f_s_FactorizationsOf_c (addC 21 f_i_FactorizationsOf_c (addC 22 f_l_eqIntSSS_c (addC 12 f_l_eqGroup_c (addC 23 f_l_eqIntS_c (addC 16 f_l_markGroup_io_c (addC 24 f_l_markIntS_io_c (addC 25 f_l_markIntSSS_io_c (addC 26 f_l_heldIntSSS_c (noC))))))))))))
theorem f_l_FnExactFactorizationsOf_Mt : CallOk Try.prog (f_l_FnExactFactorizationsOf_M) := addC_true f_l_szGroup_cc (addC_true f_l_toGroup_cc (addC_true f_l_toIntS_cc (addC_true f_s_FactorizationsOf_cc (addC_true f_i_FactorizationsOf_cc (addC_true f_l_eqIntSSS_cc (addC_true f_l_eqGroup_cc (addC_true f_l_eqIntS_cc (addC_true f_l_markGroup_io_cc (addC_true f_l_markIntS_io_cc (addC_true f_l_markIntSSS_io_cc (addC_true f_l_heldIntSSS_cc (noC_true))))))))))))
theorem f_l_FnExactFactorizationsOf_o : loopsOnce Try.f5 = true := by kernel_rfl
theorem f_l_FnExactFactorizationsOf_p {R : Type} (L0 : List Sc) (p1 : List Sc) (kR : Bool → Option R) : f_l_FnExactFactorizationsOf_k L0 p1 kR = (f_l_FnExactFactorizationsOf_k L0 p1 some).bind kR := by
  simp only [f_l_FnExactFactorizationsOf_k, brB, boB, someB]
theorem f_l_FnExactFactorizationsOf_e (L0 : List Sc) (p1 : List Sc) : runFn E0 f_l_FnExactFactorizationsOf_M H0 f_l_FnExactFactorizationsOf_F (asL (noL)) Try.f5 (f_l_FnExactFactorizationsOf_a L0 p1) (f_l_FnExactFactorizationsOf_i L0 p1) = f_l_FnExactFactorizationsOf_k L0 p1 (fun r => some (f_l_FnExactFactorizationsOf_en r)) := by kernel_rfl
theorem f_l_FnExactFactorizationsOf_ok (L0 : List Sc) (p1 : List Sc) (r : Bool) (h : f_l_FnExactFactorizationsOf L0 p1 = some r) : CS Try.prog 5 (f_l_FnExactFactorizationsOf_a L0 p1) (f_l_FnExactFactorizationsOf_i L0 p1) (f_l_FnExactFactorizationsOf_en r).1 (f_l_FnExactFactorizationsOf_en r).2 :=
  fn_true (Gk := fun k => f_l_FnExactFactorizationsOf_k L0 p1 k) (en := f_l_FnExactFactorizationsOf_en) Try.func5 E0ok f_l_FnExactFactorizationsOf_Mt (noL_true) f_l_FnExactFactorizationsOf_o (f_l_FnExactFactorizationsOf_e L0 p1) (f_l_FnExactFactorizationsOf_p L0 p1) h
def f_l_FnExactFactorizationsOf_c : CRow := fun args inh => match dec2 [.p .gr, .p .sl] [] args inh with
  | some ([.l L0, .l p1], []) => some ((f_l_FnExactFactorizationsOf L0 p1).isSome, (f_l_FnExactFactorizationsOf_en ((f_l_FnExactFactorizationsOf L0 p1).getD false)).1, (f_l_FnExactFactorizationsOf_en ((f_l_FnExactFactorizationsOf L0 p1).getD false)).2)
  | _ => none
theorem f_l_FnExactFactorizationsOf_cc : CTrue Try.prog 5 f_l_FnExactFactorizationsOf_c := by
  intro args inh rs out h
  unfold f_l_FnExactFactorizationsOf_c at h
  split at h
  · rename_i hd
    obtain ⟨h1, h2⟩ := dec2_enc hd
    rw [← h1, ← h2]
    exact rowC (f_l_FnExactFactorizationsOf_ok _ _) h
  · cases h
end
end Go.Proofs.Ytdocbpiocinllaa
