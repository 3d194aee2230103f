/-
  That the program computes just that (printed by gen2.py).
-/
import Derived.Test.YtdlofeehgkijhaaRunb
set_option linter.unusedVariables false
namespace Go.Proofs.Ytdlofeehgkijhaa
open Go Ev
noncomputable section
def f_s_l18Longest_F : Fi := { nv := 0, nc := 0, m := 0, vt := [], kl := [(0, ([0, 3, 5, 6, 7, 8, 11, 12, 13, 14, 15, 16, 17, 18, 19, 20, 21, 22, 23, 24, 25, 26, 27, 28, 29, 30, 31, 32, 33, 34, 35, 36, 37, 38, 39, 40, 41, 42, 43, 44, 45, 46, 47], [0, 3, 5, 6, 7, 8, 11, 12, 13, 14, 15, 16, 17, 18, 19, 20, 21, 22, 23, 24, 25, 26, 27, 28, 29, 30, 31, 32, 33, 34, 35, 36, 37, 38, 39, 40, 41, 42, 43, 44, 45, 46, 47], [0, 1, 2, 3, 4, 5, 6, 7, 9, 10, 11, 12, 13, 14, 15, 16, 17, 18, 19, 20, 21, 22, 23, 24, 25, 26, 27, 28, 29, 30, 31, 32, 33, 34, 35, 36, 37, 38, 39, 40, 41, 42, 43, 44, 45, 46, 47]))], sk := [], mvs := [], fz := [] }
def f_s_l18Longest_a (g0 : List Sc) (l1 : List Sc) (e2 : Int) (least3 : Int) : List AV := enc [.p .gr, .p .sl, .p (.int .i64), .p (.int .i64)] [.l g0, .l l1, .i e2, .i least3]
def f_s_l18Longest_i (g0 : List Sc) (l1 : List Sc) (e2 : Int) (least3 : Int) : List AV := enc [] []
def f_s_l18Longest_en (r : List Sc) : List AV × List AV := (enc [.p .sl] [.l r], enc [] [])
def f_s_l18Longest_cs (self : (List Sc × List Sc × Int × Int) → Option (List Sc)) : CRow := fun args inh => match dec2 [.p .gr, .p .sl, .p (.int .i64), .p (.int .i64)] [] args inh with
  | some ([.l g0, .l l1, .i e2, .i least3], []) => some ((self (g0, l1, e2, least3)).isSome, (f_s_l18Longest_en ((self (g0, l1, e2, least3)).getD [])).1, (f_s_l18Longest_en ((self (g0, l1, e2, least3)).getD [])).2)
  | _ => none
theorem f_s_l18Longest_cst (self : (List Sc × List Sc × Int × Int) → Option (List Sc)) (hs : ∀ a r, self a = some r → CS Try.prog 79 (f_s_l18Longest_a a.1 a.2.1 a.2.2.1 a.2.2.2) (f_s_l18Longest_i a.1 a.2.1 a.2.2.1 a.2.2.2) (f_s_l18Longest_en r).1 (f_s_l18Longest_en r).2) : CTrue Try.prog 79 (f_s_l18Longest_cs self) := by
  intro args inh rs out h
  unfold f_s_l18Longest_cs at h
  split at h
  · rename_i hd
    obtain ⟨h1, h2⟩ := dec2_enc hd
    rw [← h1, ← h2]
    exact rowC (hs _) h
  · cases h
def f_s_l18Longest_M (self : (List Sc × List Sc × Int × Int) → Option (List Sc)) : Calling := addC 79 (f_s_l18Longest_cs self) (addC 49 f_s_l2Order_c (addC 100 f_s_l18Has_c (noC)))
theorem f_s_l18Longest_Mt (self : (List Sc × List Sc × Int × Int) → Option (List Sc)) (hs : ∀ a r, self a = some r → CS Try.prog 79 (f_s_l18Longest_a a.1 a.2.1 a.2.2.1 a.2.2.2) (f_s_l18Longest_i a.1 a.2.1 a.2.2.1 a.2.2.2) (f_s_l18Longest_en r).1 (f_s_l18Longest_en r).2) : CallOk Try.prog (f_s_l18Longest_M self) := addC_true (f_s_l18Longest_cst self hs) (addC_true f_s_l2Order_cc (addC_true f_s_l18Has_cc (noC_true)))
theorem f_s_l18Longest_o : loopsOnce Try.f79 = true := by kernel_rfl
def f_s_l18Longest_h0 : List Sh := [.u, .p .sl, .p (.int .i64), .u, .p .el, .u, .u, .u, .u, .p .sl, .p (.int .i64), .u, .u, .u, .u, .u, .u, .u, .u, .u, .u, .u, .u, .u, .u, .u, .u, .u, .u, .u, .u, .u, .u, .u, .u, .u, .u, .u, .u, .u, .u, .u, .u, .u, .u, .u, .u, .u]
def f_s_l18Longest_fr0 (self : (List Sc × List Sc × Int × Int) → Option (List Sc)) (l1 : List Sc) (e2 : Int) (g4 : List Sc) (s : List Sc × Int) : List AV := enc f_s_l18Longest_h0 [.l l1, .i e2, .l g4, .l s.1, .i s.2]
def f_s_l18Longest_g0_1 : List Sh := [.u, .p .sl, .p (.int .i64), .u, .p .el, .u, .u, .u, .u, .p .sl, .p (.int .i64), .u, .u, .u, .u, .u, .u, .u, .u, .u, .u, .u, .u, .u, .u, .u, .u, .u, .u, .u, .u, .u, .u, .u, .u, .u, .u, .u, .u, .u, .u, .u, .u, .u, .u, .u, .u, .u]
def f_s_l18Longest_x0_1 (self : (List Sc × List Sc × Int × Int) → Option (List Sc)) (l1 : List Sc) (e2 : Int) (g4 : List Sc) (e : List Sc × Int) : X × List AV := (.out 0, enc f_s_l18Longest_g0_1 [.l l1, .i e2, .l g4, .l e.1, .i e.2])
def f_s_l18Longest_x0_2 (self : (List Sc × List Sc × Int × Int) → Option (List Sc)) (l1 : List Sc) (e2 : Int) (g4 : List Sc) (_e : Unit) : X × List AV := (.ret, [])
theorem f_s_l18Longest_p0 {R : Type} (self : (List Sc × List Sc × Int × Int) → Option (List Sc)) (l1 : List Sc) (e2 : Int) (g4 : List Sc) (s : List Sc × Int) (kN : List Sc × Int → Option R) (kA : List Sc × Int → Option R) (kB : Unit → Option R) : f_s_l18Longest_k0 self l1 e2 g4 s.1 s.2 kN kA = (f_s_l18Longest_r0 self l1 e2 g4 s).bind (Ro.el kN kA kB) := by
  simp only [f_s_l18Longest_k0, f_s_l18Longest_r0, brB, boB, someB, noneB, Ro.el]
theorem f_s_l18Longest_e0 (self : (List Sc × List Sc × Int × Int) → Option (List Sc)) (l1 : List Sc) (e2 : Int) (g4 : List Sc) (s : List Sc × Int) : EC E0 (f_s_l18Longest_M self) H0 f_s_l18Longest_F (asL (noL)) 0 (bodyOf Try.f79 0) (f_s_l18Longest_fr0 self l1 e2 g4 s) (done (klOf f_s_l18Longest_F 0)) = f_s_l18Longest_k0 self l1 e2 g4 s.1 s.2 (fun s => some (.norm, f_s_l18Longest_fr0 self l1 e2 g4 s)) (fun e => some (f_s_l18Longest_x0_1 self l1 e2 g4 e)) := by kernel_rfl
theorem f_s_l18Longest_l0 (self : (List Sc × List Sc × Int × Int) → Option (List Sc)) (hs : ∀ a r, self a = some r → CS Try.prog 79 (f_s_l18Longest_a a.1 a.2.1 a.2.2.1 a.2.2.2) (f_s_l18Longest_i a.1 a.2.1 a.2.2.1 a.2.2.2) (f_s_l18Longest_en r).1 (f_s_l18Longest_en r).2) (l1 : List Sc) (e2 : Int) (g4 : List Sc) : ∀ s r, loopL (f_s_l18Longest_r0 self l1 e2 g4) s = some r → LS Try.prog f_s_l18Longest_F (bodyOf Try.f79 0) (f_s_l18Longest_fr0 self l1 e2 g4 s) (enX (f_s_l18Longest_x0_1 self l1 e2 g4) (f_s_l18Longest_x0_2 self l1 e2 g4) r) :=
  loop_true E0ok (f_s_l18Longest_Mt self hs) (noL_true) f_s_l18Longest_o (fun _ h => by cases h) (fun _ h => by cases h) (fun s => (f_s_l18Longest_e0 self l1 e2 g4 s).trans (f_s_l18Longest_p0 self l1 e2 g4 s _ _ (fun e => some (f_s_l18Longest_x0_2 self l1 e2 g4 e))))
def f_s_l18Longest_t0 (self : (List Sc × List Sc × Int × Int) → Option (List Sc)) (σ : List AV) : Option (Bool × Bool × (X × List AV) × (X × List AV)) := match dec f_s_l18Longest_h0 σ with
  | some [.l l1, .i e2, .l g4, .l best9, .i x10] => some (isOne (loopL (f_s_l18Longest_r0 self l1 e2 g4) (best9, x10)), true, f_s_l18Longest_x0_1 self l1 e2 g4 (getOne ([], 0) (loopL (f_s_l18Longest_r0 self l1 e2 g4) (best9, x10))), (.ret, []))
  | _ => none
theorem f_s_l18Longest_tt0 (self : (List Sc × List Sc × Int × Int) → Option (List Sc)) (hs : ∀ a r, self a = some r → CS Try.prog 79 (f_s_l18Longest_a a.1 a.2.1 a.2.2.1 a.2.2.2) (f_s_l18Longest_i a.1 a.2.1 a.2.2.1 a.2.2.2) (f_s_l18Longest_en r).1 (f_s_l18Longest_en r).2) : TTrue Try.prog f_s_l18Longest_F Try.f79 0 (f_s_l18Longest_t0 self) := by
  intro σ p r r' h
  unfold f_s_l18Longest_t0 at h
  split at h
  · rename_i hd
    rw [← dec_enc hd]
    exact row1 (f_s_l18Longest_l0 self hs _ _ _ _) h
  · cases h
theorem f_s_l18Longest_p {R : Type} (self : (List Sc × List Sc × Int × Int) → Option (List Sc)) (g0 : List Sc) (l1 : List Sc) (e2 : Int) (least3 : Int) (kR : List Sc → Option R) : f_s_l18Longest_k self g0 l1 e2 least3 kR = (f_s_l18Longest_k self g0 l1 e2 least3 some).bind kR := by
  simp only [f_s_l18Longest_k, bl1B, someB]
theorem f_s_l18Longest_e (self : (List Sc × List Sc × Int × Int) → Option (List Sc)) (g0 : List Sc) (l1 : List Sc) (e2 : Int) (least3 : Int) : runFn E0 (f_s_l18Longest_M self) H0 f_s_l18Longest_F (asL (addL 0 (f_s_l18Longest_t0 self) (noL))) Try.f79 (f_s_l18Longest_a g0 l1 e2 least3) (f_s_l18Longest_i g0 l1 e2 least3) = f_s_l18Longest_k self g0 l1 e2 least3 (fun r => some (f_s_l18Longest_en r)) := by kernel_rfl
theorem f_s_l18Longest_ks (self : (List Sc × List Sc × Int × Int) → Option (List Sc)) (hs : ∀ a r, self a = some r → CS Try.prog 79 (f_s_l18Longest_a a.1 a.2.1 a.2.2.1 a.2.2.2) (f_s_l18Longest_i a.1 a.2.1 a.2.2.1 a.2.2.2) (f_s_l18Longest_en r).1 (f_s_l18Longest_en r).2) (g0 : List Sc) (l1 : List Sc) (e2 : Int) (least3 : Int) (r : List Sc) (h : f_s_l18Longest_k self g0 l1 e2 least3 some = some r) : CS Try.prog 79 (f_s_l18Longest_a g0 l1 e2 least3) (f_s_l18Longest_i g0 l1 e2 least3) (f_s_l18Longest_en r).1 (f_s_l18Longest_en r).2 :=
  fn_true (Gk := fun k => f_s_l18Longest_k self g0 l1 e2 least3 k) (en := f_s_l18Longest_en) Try.func79 E0ok (f_s_l18Longest_Mt self hs) (addL_true (f_s_l18Longest_tt0 self hs) (noL_true)) f_s_l18Longest_o (f_s_l18Longest_e self g0 l1 e2 least3) (f_s_l18Longest_p self g0 l1 e2 least3) h
theorem f_s_l18Longest_ns : ∀ n a r, f_s_l18Longest_n n a = some r → CS Try.prog 79 (f_s_l18Longest_a a.1 a.2.1 a.2.2.1 a.2.2.2) (f_s_l18Longest_i a.1 a.2.1 a.2.2.1 a.2.2.2) (f_s_l18Longest_en r).1 (f_s_l18Longest_en r).2
  | 0, _, _, h => by cases h
  | n + 1, a, r, h => f_s_l18Longest_ks (f_s_l18Longest_n n) (f_s_l18Longest_ns n) a.1 a.2.1 a.2.2.1 a.2.2.2 r h
theorem f_s_l18Longest_ok (g0 : List Sc) (l1 : List Sc) (e2 : Int) (least3 : Int) (r : List Sc) (h : f_s_l18Longest g0 l1 e2 least3 = some r) : CS Try.prog 79 (f_s_l18Longest_a g0 l1 e2 least3) (f_s_l18Longest_i g0 l1 e2 least3) (f_s_l18Longest_en r).1 (f_s_l18Longest_en r).2 := by
  obtain ⟨n, hn⟩ := limF_some h
  exact f_s_l18Longest_ns n _ r hn
def f_s_l18Longest_c : CRow := fun args inh => match dec2 [.p .gr, .p .sl, .p (.int .i64), .p (.int .i64)] [] args inh with
  | some ([.l g0, .l l1, .i e2, .i least3], []) => some ((f_s_l18Longest g0 l1 e2 least3).isSome, (f_s_l18Longest_en ((f_s_l18Longest g0 l1 e2 least3).getD [])).1, (f_s_l18Longest_en ((f_s_l18Longest g0 l1 e2 least3).getD [])).2)
  | _ => none
theorem f_s_l18Longest_cc : CTrue Try.prog 79 f_s_l18Longest_c := by
  intro args inh rs out h
  unfold f_s_l18Longest_c at h
  split at h
  · rename_i hd
    obtain ⟨h1, h2⟩ := dec2_enc hd
    rw [← h1, ← h2]
    exact rowC (f_s_l18Longest_ok _ _ _ _) h
  · cases h

def f_s_EgzExample_F : Fi := { nv := 0, nc := 0, m := 0, vt := [], kl := [], sk := [], mvs := [], fz := [], so := true }
def f_s_EgzExample_a (g0 : List Sc) : List AV := enc [.p .gr] [.l g0]
def f_s_EgzExample_i (g0 : List Sc) : List AV := enc [] []
def f_s_EgzExample_en (r : List Sc × Bool) : List AV × List AV := (enc [.p .sl, .p .boo] [.l r.1, .b r.2], enc [] [])
def f_s_EgzExample_M : Calling := addC 48 f_s_IsGroup_c (addC 49 f_s_l2Order_c (addC 80 f_s_ExponentOf_c (addC 79 f_s_l18Longest_c (noC))))
theorem f_s_EgzExample_Mt : CallOk Try.prog (f_s_EgzExample_M) := addC_true f_s_IsGroup_cc (addC_true f_s_l2Order_cc (addC_true f_s_ExponentOf_cc (addC_true f_s_l18Longest_cc (noC_true))))
theorem f_s_EgzExample_o : loopsOnce Try.f39 = true := by kernel_rfl
theorem f_s_EgzExample_p {R : Type} (g0 : List Sc) (kR : List Sc × Bool → Option R) : f_s_EgzExample_k g0 kR = (f_s_EgzExample_k g0 some).bind kR := by
  simp only [f_s_EgzExample_k, brB, boB, someB]
theorem f_s_EgzExample_e (g0 : List Sc) : runFn E0 f_s_EgzExample_M H0 f_s_EgzExample_F (asL (noL)) Try.f39 (f_s_EgzExample_a g0) (f_s_EgzExample_i g0) = f_s_EgzExample_k g0 (fun r => some (f_s_EgzExample_en r)) := by kernel_rfl
theorem f_s_EgzExample_ok (g0 : List Sc) (r : List Sc × Bool) (h : f_s_EgzExample g0 = some r) : CS Try.prog 39 (f_s_EgzExample_a g0) (f_s_EgzExample_i g0) (f_s_EgzExample_en r).1 (f_s_EgzExample_en r).2 :=
  fn_true (Gk := fun k => f_s_EgzExample_k g0 k) (en := f_s_EgzExample_en) Try.func39 E0ok f_s_EgzExample_Mt (noL_true) f_s_EgzExample_o (f_s_EgzExample_e g0) (f_s_EgzExample_p g0) h
def f_s_EgzExample_c : CRow := fun args inh => match dec2 [.p .gr] [] args inh with
  | some ([.l g0], []) => some ((f_s_EgzExample g0).isSome, (f_s_EgzExample_en ((f_s_EgzExample g0).getD ([], false))).1, (f_s_EgzExample_en ((f_s_EgzExample g0).getD ([], false))).2)
  | _ => none
theorem f_s_EgzExample_cc : CTrue Try.prog 39 f_s_EgzExample_c := by
  intro args inh rs out h
  unfold f_s_EgzExample_c at h
  split at h
  · rename_i hd
    obtain ⟨h1, h2⟩ := dec2_enc hd
    rw [← h1, ← h2]
    exact rowC (f_s_EgzExample_ok _) h
  · cases h

def f_s_EgzConstant_F : Fi := { nv := 0, nc := 0, m := 0, vt := [], kl := [], sk := [], mvs := [], fz := [] }
def f_s_EgzConstant_a (g0 : List Sc) : List AV := enc [.p .gr] [.l g0]
def f_s_EgzConstant_i (g0 : List Sc) : List AV := enc [] []
def f_s_EgzConstant_en (r : Int) : List AV × List AV := (enc [.p (.int .i64)] [.i r], enc [] [])
def f_s_EgzConstant_M : Calling := addC 39 f_s_EgzExample_c (noC)
theorem f_s_EgzConstant_Mt : CallOk Try.prog (f_s_EgzConstant_M) := addC_true f_s_EgzExample_cc (noC_true)
theorem f_s_EgzConstant_o : loopsOnce Try.f35 = true := by kernel_rfl
theorem f_s_EgzConstant_p {R : Type} (g0 : List Sc) (kR : Int → Option R) : f_s_EgzConstant_k g0 kR = (f_s_EgzConstant_k g0 some).bind kR := by
  simp only [f_s_EgzConstant_k, brB, boB, someB]
theorem f_s_EgzConstant_e (g0 : List Sc) : runFn E0 f_s_EgzConstant_M H0 f_s_EgzConstant_F (asL (noL)) Try.f35 (f_s_EgzConstant_a g0) (f_s_EgzConstant_i g0) = f_s_EgzConstant_k g0 (fun r => some (f_s_EgzConstant_en r)) := by kernel_rfl
theorem f_s_EgzConstant_ok (g0 : List Sc) (r : Int) (h : f_s_EgzConstant g0 = some r) : CS Try.prog 35 (f_s_EgzConstant_a g0) (f_s_EgzConstant_i g0) (f_s_EgzConstant_en r).1 (f_s_EgzConstant_en r).2 :=
  fn_true (Gk := fun k => f_s_EgzConstant_k g0 k) (en := f_s_EgzConstant_en) Try.func35 E0ok f_s_EgzConstant_Mt (noL_true) f_s_EgzConstant_o (f_s_EgzConstant_e g0) (f_s_EgzConstant_p g0) h
def f_s_EgzConstant_c : CRow := fun args inh => match dec2 [.p .gr] [] args inh with
  | some ([.l g0], []) => some ((f_s_EgzConstant g0).isSome, (f_s_EgzConstant_en ((f_s_EgzConstant g0).getD 0)).1, (f_s_EgzConstant_en ((f_s_EgzConstant g0).getD 0)).2)
  | _ => none
theorem f_s_EgzConstant_cc : CTrue Try.prog 35 f_s_EgzConstant_c := by
  intro args inh rs out h
  unfold f_s_EgzConstant_c at h
  split at h
  · rename_i hd
    obtain ⟨h1, h2⟩ := dec2_enc hd
    rw [← h1, ← h2]
    exact rowC (f_s_EgzConstant_ok _) h
  · cases h

def f_i_gcd_F : Fi := { nv := 0, nc := 0, m := 0, vt := [], kl := [(0, ([2, 3, 4, 5, 6, 7, 8, 9, 10, 11], [1, 2, 3, 4, 5, 6, 7, 8, 9, 10, 11], [0, 1, 2, 3, 5, 6, 7, 8, 9, 10, 11]))], sk := [], mvs := [], fz := [] }
def f_i_gcd_a (a0 : Int) (b1 : Int) : List AV := enc [.p (.int .i64), .p (.int .i64)] [.i a0, .i b1]
def f_i_gcd_i (a0 : Int) (b1 : Int) : List AV := enc [] []
def f_i_gcd_en (r : Int) : List AV × List AV := (enc [.p (.int .i64)] [.i r], enc [] [])
def f_i_gcd_M : Calling := noC
theorem f_i_gcd_Mt : CallOk Try.prog (f_i_gcd_M) := noC_true
theorem f_i_gcd_o : loopsOnce Try.f101 = true := by kernel_rfl
def f_i_gcd_h0 : List Sh := [.p (.int .i64), .p (.int .i64), .u, .u, .u, .u, .u, .u, .u, .u, .u, .u]
def f_i_gcd_fr0 (s : Int × Int) : List AV := enc f_i_gcd_h0 [.i s.1, .i s.2]
def f_i_gcd_g0_1 : List Sh := [.p (.int .i64), .u, .u, .u, .u, .u, .u, .u, .u, .u, .u, .u]
def f_i_gcd_x0_1 (e : Int) : X × List AV := (.out 0, enc f_i_gcd_g0_1 [.i e])
def f_i_gcd_x0_2 (_e : Unit) : X × List AV := (.ret, [])
theorem f_i_gcd_p0 {R : Type} (s : Int × Int) (kN : Int × Int → Option R) (kA : Int → Option R) (kB : Unit → Option R) : f_i_gcd_k0 s.1 s.2 kN kA = (f_i_gcd_r0 s).bind (Ro.el kN kA kB) := by
  simp only [f_i_gcd_k0, f_i_gcd_r0, brB, someB, noneB, Ro.el]
theorem f_i_gcd_e0 (s : Int × Int) : EC E0 f_i_gcd_M H0 f_i_gcd_F (asL (noL)) 0 (bodyOf Try.f101 0) (f_i_gcd_fr0 s) (done (klOf f_i_gcd_F 0)) = f_i_gcd_k0 s.1 s.2 (fun s => some (.norm, f_i_gcd_fr0 s)) (fun e => some (f_i_gcd_x0_1 e)) := by kernel_rfl
theorem f_i_gcd_l0 : ∀ s r, loopL (f_i_gcd_r0) s = some r → LS Try.prog f_i_gcd_F (bodyOf Try.f101 0) (f_i_gcd_fr0 s) (enX (f_i_gcd_x0_1) (f_i_gcd_x0_2) r) :=
  loop_true E0ok f_i_gcd_Mt (noL_true) f_i_gcd_o (fun _ h => by cases h) (fun _ h => by cases h) (fun s => (f_i_gcd_e0 s).trans (f_i_gcd_p0 s _ _ (fun e => some (f_i_gcd_x0_2 e))))
def f_i_gcd_t0 (σ : List AV) : Option (Bool × Bool × (X × List AV) × (X × List AV)) := match dec f_i_gcd_h0 σ with
  | some [.i a0, .i b1] => some (isOne (loopL (f_i_gcd_r0) (a0, b1)), true, f_i_gcd_x0_1 (getOne 0 (loopL (f_i_gcd_r0) (a0, b1))), (.ret, []))
  | _ => none
theorem f_i_gcd_tt0 : TTrue Try.prog f_i_gcd_F Try.f101 0 (f_i_gcd_t0) := by
  intro σ p r r' h
  unfold f_i_gcd_t0 at h
  split at h
  · rename_i hd
    rw [← dec_enc hd]
    exact row1 (f_i_gcd_l0 _) h
  · cases h
theorem f_i_gcd_p {R : Type} (a0 : Int) (b1 : Int) (kR : Int → Option R) : f_i_gcd_k a0 b1 kR = (f_i_gcd_k a0 b1 some).bind kR := by
  simp only [f_i_gcd_k, bl1B, someB]
theorem f_i_gcd_e (a0 : Int) (b1 : Int) : runFn E0 f_i_gcd_M H0 f_i_gcd_F (asL (addL 0 (f_i_gcd_t0) (noL))) Try.f101 (f_i_gcd_a a0 b1) (f_i_gcd_i a0 b1) = f_i_gcd_k a0 b1 (fun r => some (f_i_gcd_en r)) := by kernel_rfl
theorem f_i_gcd_ok (a0 : Int) (b1 : Int) (r : Int) (h : f_i_gcd a0 b1 = some r) : CS Try.prog 101 (f_i_gcd_a a0 b1) (f_i_gcd_i a0 b1) (f_i_gcd_en r).1 (f_i_gcd_en r).2 :=
  fn_true (Gk := fun k => f_i_gcd_k a0 b1 k) (en := f_i_gcd_en) Try.func101 E0ok f_i_gcd_Mt (addL_true (f_i_gcd_tt0) (noL_true)) f_i_gcd_o (f_i_gcd_e a0 b1) (f_i_gcd_p a0 b1) h
def f_i_gcd_c : CRow := fun args inh => match dec2 [.p (.int .i64), .p (.int .i64)] [] args inh with
  | some ([.i a0, .i b1], []) => some ((f_i_gcd a0 b1).isSome, (f_i_gcd_en ((f_i_gcd a0 b1).getD 0)).1, (f_i_gcd_en ((f_i_gcd a0 b1).getD 0)).2)
  | _ => none
theorem f_i_gcd_cc : CTrue Try.prog 101 f_i_gcd_c := by
  intro args inh rs out h
  unfold f_i_gcd_c at h
  split at h
  · rename_i hd
    obtain ⟨h1, h2⟩ := dec2_enc hd
    rw [← h1, ← h2]
    exact rowC (f_i_gcd_ok _ _) h
  · cases h

def f_i_ExponentOf_F : Fi := { nv := 0, nc := 0, m := 0, vt := [], kl := [(0, ([0, 1, 2, 4, 5, 6, 7, 8, 9, 13, 14, 15, 16, 17, 18, 19, 20, 21, 22, 23, 24], [0, 1, 2, 4, 5, 6, 7, 8, 9, 10, 11, 12, 13, 14, 15, 16, 17, 18, 19, 20, 21, 22, 23, 24], [0, 1, 3, 4, 5, 6, 7, 8, 9, 10, 11, 12, 13, 14, 15, 16, 17, 18, 19, 20, 21, 22, 23, 24]))], sk := [], mvs := [], fz := [] }
def f_i_ExponentOf_a (g0 : List Sc) : List AV := enc [.p .gr] [.l g0]
def f_i_ExponentOf_i (g0 : List Sc) : List AV := enc [] []
def f_i_ExponentOf_en (r : Int) : List AV × List AV := (enc [.p (.int .i64)] [.i r], enc [] [])
def f_i_ExponentOf_M : Calling := addC 52 f_i_IsGroup_c (addC 101 f_i_gcd_c (noC))
theorem f_i_ExponentOf_Mt : CallOk Try.prog (f_i_ExponentOf_M) := addC_true f_i_IsGroup_cc (addC_true f_i_gcd_cc (noC_true))
theorem f_i_ExponentOf_o : loopsOnce Try.f81 = true := by kernel_rfl
def f_i_ExponentOf_h0 : List Sh := [.u, .u, .u, .p (.int .i64), .u, .u, .u, .u, .u, .u, .p .sl, .p (.int .i64), .p (.int .i64), .u, .u, .u, .u, .u, .u, .u, .u, .u, .u, .u, .u]
def f_i_ExponentOf_fr0 (t10 : List Sc) (t11 : Int) (s : Int × Int) : List AV := enc f_i_ExponentOf_h0 [.i s.1, .l t10, .i t11, .i s.2]
def f_i_ExponentOf_g0_1 : List Sh := [.u, .u, .u, .p (.int .i64), .u, .u, .u, .u, .u, .u, .u, .u, .u, .u, .u, .u, .u, .u, .u, .u, .u, .u, .u, .u, .u]
def f_i_ExponentOf_x0_1 (t10 : List Sc) (t11 : Int) (e : Int) : X × List AV := (.out 0, enc f_i_ExponentOf_g0_1 [.i e])
def f_i_ExponentOf_x0_2 (t10 : List Sc) (t11 : Int) (_e : Unit) : X × List AV := (.ret, [])
theorem f_i_ExponentOf_p0 {R : Type} (t10 : List Sc) (t11 : Int) (s : Int × Int) (kN : Int × Int → Option R) (kA : Int → Option R) (kB : Unit → Option R) : f_i_ExponentOf_k0 t10 t11 s.1 s.2 kN kA = (f_i_ExponentOf_r0 t10 t11 s).bind (Ro.el kN kA kB) := by
  simp only [f_i_ExponentOf_k0, f_i_ExponentOf_r0, brB, boB, someB, noneB, Ro.el]
theorem f_i_ExponentOf_e0 (t10 : List Sc) (t11 : Int) (s : Int × Int) : EC E0 f_i_ExponentOf_M H0 f_i_ExponentOf_F (asL (noL)) 0 (bodyOf Try.f81 0) (f_i_ExponentOf_fr0 t10 t11 s) (done (klOf f_i_ExponentOf_F 0)) = f_i_ExponentOf_k0 t10 t11 s.1 s.2 (fun s => some (.norm, f_i_ExponentOf_fr0 t10 t11 s)) (fun e => some (f_i_ExponentOf_x0_1 t10 t11 e)) := by kernel_rfl
theorem f_i_ExponentOf_l0 (t10 : List Sc) (t11 : Int) : ∀ s r, loopL (f_i_ExponentOf_r0 t10 t11) s = some r → LS Try.prog f_i_ExponentOf_F (bodyOf Try.f81 0) (f_i_ExponentOf_fr0 t10 t11 s) (enX (f_i_ExponentOf_x0_1 t10 t11) (f_i_ExponentOf_x0_2 t10 t11) r) :=
  loop_true E0ok f_i_ExponentOf_Mt (noL_true) f_i_ExponentOf_o (fun _ h => by cases h) (fun _ h => by cases h) (fun s => (f_i_ExponentOf_e0 t10 t11 s).trans (f_i_ExponentOf_p0 t10 t11 s _ _ (fun e => some (f_i_ExponentOf_x0_2 t10 t11 e))))
def f_i_ExponentOf_t0 (σ : List AV) : Option (Bool × Bool × (X × List AV) × (X × List AV)) := match dec f_i_ExponentOf_h0 σ with
  | some [.i n3, .l t10, .i t11, .i t12] => some (isOne (loopL (f_i_ExponentOf_r0 t10 t11) (n3, t12)), true, f_i_ExponentOf_x0_1 t10 t11 (getOne 0 (loopL (f_i_ExponentOf_r0 t10 t11) (n3, t12))), (.ret, []))
  | _ => none
theorem f_i_ExponentOf_tt0 : TTrue Try.prog f_i_ExponentOf_F Try.f81 0 (f_i_ExponentOf_t0) := by
  intro σ p r r' h
  unfold f_i_ExponentOf_t0 at h
  split at h
  · rename_i hd
    rw [← dec_enc hd]
    exact row1 (f_i_ExponentOf_l0 _ _ _) h
  · cases h
theorem f_i_ExponentOf_p {R : Type} (g0 : List Sc) (kR : Int → Option R) : f_i_ExponentOf_k g0 kR = (f_i_ExponentOf_k g0 some).bind kR := by
  simp only [f_i_ExponentOf_k, brB, boB, bl1B, someB]
theorem f_i_ExponentOf_e (g0 : List Sc) : runFn E0 f_i_ExponentOf_M H0 f_i_ExponentOf_F (asL (addL 0 (f_i_ExponentOf_t0) (noL))) Try.f81 (f_i_ExponentOf_a g0) (f_i_ExponentOf_i g0) = f_i_ExponentOf_k g0 (fun r => some (f_i_ExponentOf_en r)) := by kernel_rfl
theorem f_i_ExponentOf_ok (g0 : List Sc) (r : Int) (h : f_i_ExponentOf g0 = some r) : CS Try.prog 81 (f_i_ExponentOf_a g0) (f_i_ExponentOf_i g0) (f_i_ExponentOf_en r).1 (f_i_ExponentOf_en r).2 :=
  fn_true (Gk := fun k => f_i_ExponentOf_k g0 k) (en := f_i_ExponentOf_en) Try.func81 E0ok f_i_ExponentOf_Mt (addL_true (f_i_ExponentOf_tt0) (noL_true)) f_i_ExponentOf_o (f_i_ExponentOf_e g0) (f_i_ExponentOf_p g0) h
def f_i_ExponentOf_c : CRow := fun args inh => match dec2 [.p .gr] [] args inh with
  | some ([.l g0], []) => some ((f_i_ExponentOf g0).isSome, (f_i_ExponentOf_en ((f_i_ExponentOf g0).getD 0)).1, (f_i_ExponentOf_en ((f_i_ExponentOf g0).getD 0)).2)
  | _ => none
theorem f_i_ExponentOf_cc : CTrue Try.prog 81 f_i_ExponentOf_c := by
  intro args inh rs out h
  unfold f_i_ExponentOf_c at h
  split at h
  · rename_i hd
    obtain ⟨h1, h2⟩ := dec2_enc hd
    rw [← h1, ← h2]
    exact rowC (f_i_ExponentOf_ok _) h
  · cases h

def f_i_Group_byLength_F : Fi := { nv := 0, nc := 0, m := 0, vt := [], kl := [(2, ([0, 1, 3, 4, 6, 9, 10, 11, 12, 13, 14, 18, 19, 20, 21, 22, 23, 24, 25, 26, 27, 28, 29, 30, 31, 32, 33, 34, 35, 36, 37, 38, 39, 40, 41, 42, 43, 44, 45], [0, 1, 3, 4, 6, 7, 8, 9, 10, 11, 12, 13, 14, 18, 19, 20, 21, 22, 23, 24, 25, 26, 27, 28, 29, 30, 31, 32, 33, 34, 35, 36, 37, 38, 39, 40, 41, 42, 43, 44, 45], [0, 1, 2, 3, 5, 6, 7, 8, 9, 10, 11, 12, 13, 14, 15, 16, 17, 18, 19, 20, 21, 22, 23, 24, 25, 26, 27, 28, 29, 30, 31, 32, 33, 34, 35, 36, 37, 38, 39, 40, 41, 42, 43, 44, 45])), (0, ([0, 1, 3, 4, 6, 7, 8, 9, 10, 11, 12, 13, 14, 18, 19, 20, 21, 22, 23, 24, 25, 26, 27, 28, 29, 30, 31, 32, 33, 34, 35, 36, 37, 38, 39, 40, 41, 42, 43, 44, 45], [0, 1, 3, 4, 6, 7, 8, 9, 10, 11, 12, 13, 14, 18, 19, 20, 21, 22, 23, 24, 25, 26, 27, 28, 29, 30, 31, 32, 33, 34, 35, 36, 37, 38, 39, 40, 41, 42, 43, 44, 45], [0, 1, 2, 3, 5, 6, 7, 8, 9, 10, 11, 12, 13, 14, 15, 16, 17, 18, 19, 20, 21, 22, 23, 24, 25, 26, 27, 28, 29, 30, 31, 32, 33, 34, 35, 36, 37, 38, 39, 40, 41, 42, 43, 44, 45]))], sk := [], mvs := [], fz := [] }
def f_i_Group_byLength_a (g0 : List Sc) (l1 : List Sc) : List AV := enc [.p .gr, .p .sl] [.l g0, .l l1]
def f_i_Group_byLength_i (g0 : List Sc) (l1 : List Sc) : List AV := enc [] []
def f_i_Group_byLength_en (r : List Sc) : List AV × List AV := (enc [.p (.al 0)] [], enc [.own 3] [.l r])
def f_i_Group_byLength_M : Calling := addC 91 f_i_Group_shift_c (noC)
theorem f_i_Group_byLength_Mt : CallOk Try.prog (f_i_Group_byLength_M) := addC_true f_i_Group_shift_cc (noC_true)
theorem f_i_Group_byLength_o : loopsOnce Try.f84 = true := by kernel_rfl
def f_i_Group_byLength_h2 : List Sh := [.u, .u, .p .el, .u, .u, .own 3, .u, .p (.int .i64), .p (.int .i64), .u, .u, .u, .u, .u, .u, .p .sl, .p (.int .i64), .p (.int .i64), .u, .u, .u, .u, .u, .u, .u, .u, .u, .u, .u, .u, .u, .u, .u, .u, .u, .u, .u, .u, .u, .u, .u, .u, .u, .u, .u, .u]
def f_i_Group_byLength_fr2 (g2 : List Sc) (x7 : Int) (t15 : List Sc) (t16 : Int) (t17 : Int) (s : List Sc × Int) : List AV := enc f_i_Group_byLength_h2 [.l g2, .l s.1, .i x7, .i s.2, .l t15, .i t16, .i t17]
def f_i_Group_byLength_g2_1 : List Sh := [.u, .u, .p .el, .u, .u, .own 3, .u, .u, .u, .u, .u, .u, .u, .u, .u, .p .sl, .p (.int .i64), .p (.int .i64), .u, .u, .u, .u, .u, .u, .u, .u, .u, .u, .u, .u, .u, .u, .u, .u, .u, .u, .u, .u, .u, .u, .u, .u, .u, .u, .u, .u]
def f_i_Group_byLength_x2_1 (g2 : List Sc) (x7 : Int) (t15 : List Sc) (t16 : Int) (t17 : Int) (e : List Sc) : X × List AV := (.out 2, enc f_i_Group_byLength_g2_1 [.l g2, .l e, .l t15, .i t16, .i t17])
def f_i_Group_byLength_x2_2 (g2 : List Sc) (x7 : Int) (t15 : List Sc) (t16 : Int) (t17 : Int) (_e : Unit) : X × List AV := (.ret, [])
theorem f_i_Group_byLength_p2 {R : Type} (g2 : List Sc) (x7 : Int) (t15 : List Sc) (t16 : Int) (t17 : Int) (s : List Sc × Int) (kN : List Sc × Int → Option R) (kA : List Sc → Option R) (kB : Unit → Option R) : f_i_Group_byLength_k2 g2 x7 t15 t16 t17 s.1 s.2 kN kA = (f_i_Group_byLength_r2 g2 x7 t15 t16 t17 s).bind (Ro.el kN kA kB) := by
  simp only [f_i_Group_byLength_k2, f_i_Group_byLength_r2, brB, boB, someB, noneB, Ro.el]
theorem f_i_Group_byLength_e2 (g2 : List Sc) (x7 : Int) (t15 : List Sc) (t16 : Int) (t17 : Int) (s : List Sc × Int) : EC E0 f_i_Group_byLength_M H0 f_i_Group_byLength_F (asL (noL)) 2 (bodyOf Try.f84 2) (f_i_Group_byLength_fr2 g2 x7 t15 t16 t17 s) (done (klOf f_i_Group_byLength_F 2)) = f_i_Group_byLength_k2 g2 x7 t15 t16 t17 s.1 s.2 (fun s => some (.norm, f_i_Group_byLength_fr2 g2 x7 t15 t16 t17 s)) (fun e => some (f_i_Group_byLength_x2_1 g2 x7 t15 t16 t17 e)) := by kernel_rfl
theorem f_i_Group_byLength_l2 (g2 : List Sc) (x7 : Int) (t15 : List Sc) (t16 : Int) (t17 : Int) : ∀ s r, loopL (f_i_Group_byLength_r2 g2 x7 t15 t16 t17) s = some r → LS Try.prog f_i_Group_byLength_F (bodyOf Try.f84 2) (f_i_Group_byLength_fr2 g2 x7 t15 t16 t17 s) (enX (f_i_Group_byLength_x2_1 g2 x7 t15 t16 t17) (f_i_Group_byLength_x2_2 g2 x7 t15 t16 t17) r) :=
  loop_true E0ok f_i_Group_byLength_Mt (noL_true) f_i_Group_byLength_o (fun _ h => by cases h) (fun _ h => by cases h) (fun s => (f_i_Group_byLength_e2 g2 x7 t15 t16 t17 s).trans (f_i_Group_byLength_p2 g2 x7 t15 t16 t17 s _ _ (fun e => some (f_i_Group_byLength_x2_2 g2 x7 t15 t16 t17 e))))
def f_i_Group_byLength_t2 (σ : List AV) : Option (Bool × Bool × (X × List AV) × (X × List AV)) := match dec f_i_Group_byLength_h2 σ with
  | some [.l g2, .l out5, .i x7, .i k8, .l t15, .i t16, .i t17] => some (isOne (loopL (f_i_Group_byLength_r2 g2 x7 t15 t16 t17) (out5, k8)), true, f_i_Group_byLength_x2_1 g2 x7 t15 t16 t17 (getOne [] (loopL (f_i_Group_byLength_r2 g2 x7 t15 t16 t17) (out5, k8))), (.ret, []))
  | _ => none
theorem f_i_Group_byLength_tt2 : TTrue Try.prog f_i_Group_byLength_F Try.f84 2 (f_i_Group_byLength_t2) := by
  intro σ p r r' h
  unfold f_i_Group_byLength_t2 at h
  split at h
  · rename_i hd
    rw [← dec_enc hd]
    exact row1 (f_i_Group_byLength_l2 _ _ _ _ _ _) h
  · cases h
def f_i_Group_byLength_h0 : List Sh := [.u, .u, .p .el, .u, .u, .own 3, .u, .u, .u, .u, .u, .u, .u, .u, .u, .p .sl, .p (.int .i64), .p (.int .i64), .u, .u, .u, .u, .u, .u, .u, .u, .u, .u, .u, .u, .u, .u, .u, .u, .u, .u, .u, .u, .u, .u, .u, .u, .u, .u, .u, .u]
def f_i_Group_byLength_fr0 (g2 : List Sc) (t15 : List Sc) (t16 : Int) (s : List Sc × Int) : List AV := enc f_i_Group_byLength_h0 [.l g2, .l s.1, .l t15, .i t16, .i s.2]
def f_i_Group_byLength_g0_1 : List Sh := [.u, .u, .p .el, .u, .u, .own 3, .u, .u, .u, .u, .u, .u, .u, .u, .u, .p .sl, .p (.int .i64), .p (.int .i64), .u, .u, .u, .u, .u, .u, .u, .u, .u, .u, .u, .u, .u, .u, .u, .u, .u, .u, .u, .u, .u, .u, .u, .u, .u, .u, .u, .u]
def f_i_Group_byLength_x0_1 (g2 : List Sc) (t15 : List Sc) (t16 : Int) (e : List Sc × Int) : X × List AV := (.out 0, enc f_i_Group_byLength_g0_1 [.l g2, .l e.1, .l t15, .i t16, .i e.2])
def f_i_Group_byLength_x0_2 (g2 : List Sc) (t15 : List Sc) (t16 : Int) (_e : Unit) : X × List AV := (.ret, [])
theorem f_i_Group_byLength_p0 {R : Type} (g2 : List Sc) (t15 : List Sc) (t16 : Int) (s : List Sc × Int) (kN : List Sc × Int → Option R) (kA : List Sc × Int → Option R) (kB : Unit → Option R) : f_i_Group_byLength_k0 g2 t15 t16 s.1 s.2 kN kA = (f_i_Group_byLength_r0 g2 t15 t16 s).bind (Ro.el kN kA kB) := by
  simp only [f_i_Group_byLength_k0, f_i_Group_byLength_r0, brB, bl1B, someB, noneB, Ro.el]
theorem f_i_Group_byLength_e0 (g2 : List Sc) (t15 : List Sc) (t16 : Int) (s : List Sc × Int) : EC E0 f_i_Group_byLength_M H0 f_i_Group_byLength_F (asL (addL 2 (f_i_Group_byLength_t2) (noL))) 0 (bodyOf Try.f84 0) (f_i_Group_byLength_fr0 g2 t15 t16 s) (done (klOf f_i_Group_byLength_F 0)) = f_i_Group_byLength_k0 g2 t15 t16 s.1 s.2 (fun s => some (.norm, f_i_Group_byLength_fr0 g2 t15 t16 s)) (fun e => some (f_i_Group_byLength_x0_1 g2 t15 t16 e)) := by kernel_rfl
theorem f_i_Group_byLength_l0 (g2 : List Sc) (t15 : List Sc) (t16 : Int) : ∀ s r, loopL (f_i_Group_byLength_r0 g2 t15 t16) s = some r → LS Try.prog f_i_Group_byLength_F (bodyOf Try.f84 0) (f_i_Group_byLength_fr0 g2 t15 t16 s) (enX (f_i_Group_byLength_x0_1 g2 t15 t16) (f_i_Group_byLength_x0_2 g2 t15 t16) r) :=
  loop_true E0ok f_i_Group_byLength_Mt (addL_true (f_i_Group_byLength_tt2) (noL_true)) f_i_Group_byLength_o (fun _ h => by cases h) (fun _ h => by cases h) (fun s => (f_i_Group_byLength_e0 g2 t15 t16 s).trans (f_i_Group_byLength_p0 g2 t15 t16 s _ _ (fun e => some (f_i_Group_byLength_x0_2 g2 t15 t16 e))))
def f_i_Group_byLength_t0 (σ : List AV) : Option (Bool × Bool × (X × List AV) × (X × List AV)) := match dec f_i_Group_byLength_h0 σ with
  | some [.l g2, .l out5, .l t15, .i t16, .i t17] => some (isOne (loopL (f_i_Group_byLength_r0 g2 t15 t16) (out5, t17)), true, f_i_Group_byLength_x0_1 g2 t15 t16 (getOne ([], 0) (loopL (f_i_Group_byLength_r0 g2 t15 t16) (out5, t17))), (.ret, []))
  | _ => none
theorem f_i_Group_byLength_tt0 : TTrue Try.prog f_i_Group_byLength_F Try.f84 0 (f_i_Group_byLength_t0) := by
  intro σ p r r' h
  unfold f_i_Group_byLength_t0 at h
  split at h
  · rename_i hd
    rw [← dec_enc hd]
    exact row1 (f_i_Group_byLength_l0 _ _ _ _) h
  · cases h
theorem f_i_Group_byLength_p {R : Type} (g0 : List Sc) (l1 : List Sc) (kR : List Sc → Option R) : f_i_Group_byLength_k g0 l1 kR = (f_i_Group_byLength_k g0 l1 some).bind kR := by
  simp only [f_i_Group_byLength_k, brB, bl1B, someB, noneB]
theorem f_i_Group_byLength_e (g0 : List Sc) (l1 : List Sc) : runFn E0 f_i_Group_byLength_M H0 f_i_Group_byLength_F (asL (addL 0 (f_i_Group_byLength_t0) (addL 2 (f_i_Group_byLength_t2) (noL)))) Try.f84 (f_i_Group_byLength_a g0 l1) (f_i_Group_byLength_i g0 l1) = f_i_Group_byLength_k g0 l1 (fun r => some (f_i_Group_byLength_en r)) := by kernel_rfl
theorem f_i_Group_byLength_ok (g0 : List Sc) (l1 : List Sc) (r : List Sc) (h : f_i_Group_byLength g0 l1 = some r) : CS Try.prog 84 (f_i_Group_byLength_a g0 l1) (f_i_Group_byLength_i g0 l1) (f_i_Group_byLength_en r).1 (f_i_Group_byLength_en r).2 :=
  fn_true (Gk := fun k => f_i_Group_byLength_k g0 l1 k) (en := f_i_Group_byLength_en) Try.func84 E0ok f_i_Group_byLength_Mt (addL_true (f_i_Group_byLength_tt0) (addL_true (f_i_Group_byLength_tt2) (noL_true))) f_i_Group_byLength_o (f_i_Group_byLength_e g0 l1) (f_i_Group_byLength_p g0 l1) h
def f_i_Group_byLength_c : CRow := fun args inh => match dec2 [.p .gr, .p .sl] [] args inh with
  | some ([.l g0, .l l1], []) => some ((f_i_Group_byLength g0 l1).isSome, (f_i_Group_byLength_en ((f_i_Group_byLength g0 l1).getD [])).1, (f_i_Group_byLength_en ((f_i_Group_byLength g0 l1).getD [])).2)
  | _ => none
theorem f_i_Group_byLength_cc : CTrue Try.prog 84 f_i_Group_byLength_c := by
  intro args inh rs out h
  unfold f_i_Group_byLength_c at h
  split at h
  · rename_i hd
    obtain ⟨h1, h2⟩ := dec2_enc hd
    rw [← h1, ← h2]
    exact rowC (f_i_Group_byLength_ok _ _) h
  · cases h

def f_i_EgzExample_1_F : Fi := { nv := 3, nc := 3, m := 3, vt := [], kl := [(0, ([4, 6, 8, 9, 11, 12, 13, 14, 15, 16, 17, 18, 19, 20, 21, 22, 23, 24, 25, 26, 27, 28, 29, 30, 31, 32, 33, 34, 35, 36, 37, 38, 39, 40, 41, 42, 43, 44, 45, 46, 47, 48, 49, 50, 51, 52], [3, 4, 5, 6, 7, 8, 9, 10, 11, 12, 13, 14, 15, 16, 17, 18, 19, 20, 21, 22, 23, 24, 25, 26, 27, 28, 29, 30, 31, 32, 33, 34, 35, 36, 37, 38, 39, 40, 41, 42, 43, 44, 45, 46, 47, 48, 49, 50, 51, 52], [3, 4, 5, 6, 7, 8, 9, 10, 11, 12, 13, 14, 15, 16, 17, 18, 19, 20, 21, 22, 23, 24, 25, 26, 27, 28, 29, 30, 31, 32, 33, 34, 35, 36, 37, 38, 39, 40, 41, 42, 43, 44, 45, 46, 47, 48, 49, 50, 51, 52]))], sk := [], mvs := [], fz := [] }
def f_i_EgzExample_1_a (l0 : List Sc) (p2 : List Sc) (h0 : Int) (h1 : List Sc) (h2 : List Sc) : List AV := enc [.fr 3, .p (.pt 0 1), .p .el, .p (.pt 1 1), .p (.pt 2 1)] [.l l0, .l p2]
def f_i_EgzExample_1_i (l0 : List Sc) (p2 : List Sc) (h0 : Int) (h1 : List Sc) (h2 : List Sc) : List AV := enc [.p (.int .i64), .fr 3, .fn 82 [.pt 0 1, .el, .pt 1 1, .pt 2 1]] [.i h0, .l h1, .l h2]
def f_i_EgzExample_1_en (r : Int × List Sc × List Sc) : List AV × List AV := (enc [] [], enc [.p (.int .i64), .fr 3, .fn 82 [.pt 0 1, .el, .pt 1 1, .pt 2 1]] [.i r.1, .l r.2.1, .l r.2.2])
def f_i_EgzExample_1_cs (self : (List Sc × List Sc × Int × List Sc × List Sc) → Option (Int × List Sc × List Sc)) : CRow := fun args inh => match dec2 [.fr 3, .p (.pt 0 1), .p .el, .p (.pt 1 1), .p (.pt 2 1)] [.p (.int .i64), .fr 3, .fn 82 [.pt 0 1, .el, .pt 1 1, .pt 2 1]] args inh with
  | some ([.l l0, .l p2], [.i h0, .l h1, .l h2]) => some ((self (l0, p2, h0, h1, h2)).isSome, (f_i_EgzExample_1_en ((self (l0, p2, h0, h1, h2)).getD (0, [], []))).1, (f_i_EgzExample_1_en ((self (l0, p2, h0, h1, h2)).getD (0, [], []))).2)
  | _ => none
theorem f_i_EgzExample_1_cst (self : (List Sc × List Sc × Int × List Sc × List Sc) → Option (Int × List Sc × List Sc)) (hs : ∀ a r, self a = some r → CS Try.prog 82 (f_i_EgzExample_1_a a.1 a.2.1 a.2.2.1 a.2.2.2.1 a.2.2.2.2) (f_i_EgzExample_1_i a.1 a.2.1 a.2.2.1 a.2.2.2.1 a.2.2.2.2) (f_i_EgzExample_1_en r).1 (f_i_EgzExample_1_en r).2) : CTrue Try.prog 82 (f_i_EgzExample_1_cs self) := by
  intro args inh rs out h
  unfold f_i_EgzExample_1_cs at h
  split at h
  · rename_i hd
    obtain ⟨h1, h2⟩ := dec2_enc hd
    rw [← h1, ← h2]
    exact rowC (hs _) h
  · cases h
def f_i_EgzExample_1_M (self : (List Sc × List Sc × Int × List Sc × List Sc) → Option (Int × List Sc × List Sc)) : Calling := addC 82 (f_i_EgzExample_1_cs self) (addC 84 f_i_Group_byLength_c (addC 83 f_i_in_c (addC 53 f_i_OrderOf_c (addC 85 f_i_copyInts_c (noC)))))
theorem f_i_EgzExample_1_Mt (self : (List Sc × List Sc × Int × List Sc × List Sc) → Option (Int × List Sc × List Sc)) (hs : ∀ a r, self a = some r → CS Try.prog 82 (f_i_EgzExample_1_a a.1 a.2.1 a.2.2.1 a.2.2.2.1 a.2.2.2.2) (f_i_EgzExample_1_i a.1 a.2.1 a.2.2.1 a.2.2.2.1 a.2.2.2.2) (f_i_EgzExample_1_en r).1 (f_i_EgzExample_1_en r).2) : CallOk Try.prog (f_i_EgzExample_1_M self) := addC_true (f_i_EgzExample_1_cst self hs) (addC_true f_i_Group_byLength_cc (addC_true f_i_in_cc (addC_true f_i_OrderOf_cc (addC_true f_i_copyInts_cc (noC_true)))))
theorem f_i_EgzExample_1_o : loopsOnce Try.f82 = true := by kernel_rfl
def f_i_EgzExample_1_h0 : List Sh := [.p (.int .i64), .fr 3, .fn 82 [.pt 0 1, .el, .pt 1 1, .pt 2 1], .fr 3, .u, .p .el, .u, .p (.pt 2 1), .u, .u, .p (.int .i64), .u, .u, .u, .u, .u, .u, .u, .u, .u, .u, .u, .u, .u, .u, .u, .u, .u, .u, .u, .u, .u, .u, .u, .u, .u, .u, .u, .u, .u, .u, .u, .u, .u, .u, .u, .u, .u, .u, .u, .u, .u, .u]
def f_i_EgzExample_1_fr0 (self : (List Sc × List Sc × Int × List Sc × List Sc) → Option (Int × List Sc × List Sc)) (l0 : List Sc) (t2 : List Sc) (s : Int × List Sc × List Sc × Int) : List AV := enc f_i_EgzExample_1_h0 [.i s.1, .l s.2.1, .l s.2.2.1, .l l0, .l t2, .i s.2.2.2]
def f_i_EgzExample_1_g0_1 : List Sh := [.p (.int .i64), .fr 3, .fn 82 [.pt 0 1, .el, .pt 1 1, .pt 2 1], .u, .u, .u, .u, .u, .u, .u, .u, .u, .u, .u, .u, .u, .u, .u, .u, .u, .u, .u, .u, .u, .u, .u, .u, .u, .u, .u, .u, .u, .u, .u, .u, .u, .u, .u, .u, .u, .u, .u, .u, .u, .u, .u, .u, .u, .u, .u, .u, .u, .u]
def f_i_EgzExample_1_x0_1 (self : (List Sc × List Sc × Int × List Sc × List Sc) → Option (Int × List Sc × List Sc)) (l0 : List Sc) (t2 : List Sc) (e : Int × List Sc × List Sc) : X × List AV := (.out 0, enc f_i_EgzExample_1_g0_1 [.i e.1, .l e.2.1, .l e.2.2])
def f_i_EgzExample_1_x0_2 (self : (List Sc × List Sc × Int × List Sc × List Sc) → Option (Int × List Sc × List Sc)) (l0 : List Sc) (t2 : List Sc) (_e : Unit) : X × List AV := (.ret, [])
theorem f_i_EgzExample_1_p0 {R : Type} (self : (List Sc × List Sc × Int × List Sc × List Sc) → Option (Int × List Sc × List Sc)) (l0 : List Sc) (t2 : List Sc) (s : Int × List Sc × List Sc × Int) (kN : Int × List Sc × List Sc × Int → Option R) (kA : Int × List Sc × List Sc → Option R) (kB : Unit → Option R) : f_i_EgzExample_1_k0 self l0 t2 s.1 s.2.1 s.2.2.1 s.2.2.2 kN kA = (f_i_EgzExample_1_r0 self l0 t2 s).bind (Ro.el kN kA kB) := by
  simp only [f_i_EgzExample_1_k0, f_i_EgzExample_1_r0, brB, boB, someB, noneB, Ro.el]
theorem f_i_EgzExample_1_e0 (self : (List Sc × List Sc × Int × List Sc × List Sc) → Option (Int × List Sc × List Sc)) (l0 : List Sc) (t2 : List Sc) (s : Int × List Sc × List Sc × Int) : EC E0 (f_i_EgzExample_1_M self) H0 f_i_EgzExample_1_F (asL (noL)) 0 (bodyOf Try.f82 0) (f_i_EgzExample_1_fr0 self l0 t2 s) (done (klOf f_i_EgzExample_1_F 0)) = f_i_EgzExample_1_k0 self l0 t2 s.1 s.2.1 s.2.2.1 s.2.2.2 (fun s => some (.norm, f_i_EgzExample_1_fr0 self l0 t2 s)) (fun e => some (f_i_EgzExample_1_x0_1 self l0 t2 e)) := by kernel_rfl
theorem f_i_EgzExample_1_l0 (self : (List Sc × List Sc × Int × List Sc × List Sc) → Option (Int × List Sc × List Sc)) (hs : ∀ a r, self a = some r → CS Try.prog 82 (f_i_EgzExample_1_a a.1 a.2.1 a.2.2.1 a.2.2.2.1 a.2.2.2.2) (f_i_EgzExample_1_i a.1 a.2.1 a.2.2.1 a.2.2.2.1 a.2.2.2.2) (f_i_EgzExample_1_en r).1 (f_i_EgzExample_1_en r).2) (l0 : List Sc) (t2 : List Sc) : ∀ s r, loopL (f_i_EgzExample_1_r0 self l0 t2) s = some r → LS Try.prog f_i_EgzExample_1_F (bodyOf Try.f82 0) (f_i_EgzExample_1_fr0 self l0 t2 s) (enX (f_i_EgzExample_1_x0_1 self l0 t2) (f_i_EgzExample_1_x0_2 self l0 t2) r) :=
  loop_true E0ok (f_i_EgzExample_1_Mt self hs) (noL_true) f_i_EgzExample_1_o (fun _ h => by cases h) (fun _ h => by cases h) (fun s => (f_i_EgzExample_1_e0 self l0 t2 s).trans (f_i_EgzExample_1_p0 self l0 t2 s _ _ (fun e => some (f_i_EgzExample_1_x0_2 self l0 t2 e))))
def f_i_EgzExample_1_t0 (self : (List Sc × List Sc × Int × List Sc × List Sc) → Option (Int × List Sc × List Sc)) (σ : List AV) : Option (Bool × Bool × (X × List AV) × (X × List AV)) := match dec f_i_EgzExample_1_h0 σ with
  | some [.i v0, .l v1, .l v2, .l l0, .l t2, .i x7] => some (isOne (loopL (f_i_EgzExample_1_r0 self l0 t2) (v0, v1, v2, x7)), true, f_i_EgzExample_1_x0_1 self l0 t2 (getOne (0, [], []) (loopL (f_i_EgzExample_1_r0 self l0 t2) (v0, v1, v2, x7))), (.ret, []))
  | _ => none
theorem f_i_EgzExample_1_tt0 (self : (List Sc × List Sc × Int × List Sc × List Sc) → Option (Int × List Sc × List Sc)) (hs : ∀ a r, self a = some r → CS Try.prog 82 (f_i_EgzExample_1_a a.1 a.2.1 a.2.2.1 a.2.2.2.1 a.2.2.2.2) (f_i_EgzExample_1_i a.1 a.2.1 a.2.2.1 a.2.2.2.1 a.2.2.2.2) (f_i_EgzExample_1_en r).1 (f_i_EgzExample_1_en r).2) : TTrue Try.prog f_i_EgzExample_1_F Try.f82 0 (f_i_EgzExample_1_t0 self) := by
  intro σ p r r' h
  unfold f_i_EgzExample_1_t0 at h
  split at h
  · rename_i hd
    rw [← dec_enc hd]
    exact row1 (f_i_EgzExample_1_l0 self hs _ _ _) h
  · cases h
theorem f_i_EgzExample_1_p {R : Type} (self : (List Sc × List Sc × Int × List Sc × List Sc) → Option (Int × List Sc × List Sc)) (l0 : List Sc) (p2 : List Sc) (h0 : Int) (h1 : List Sc) (h2 : List Sc) (kR : Int × List Sc × List Sc → Option R) : f_i_EgzExample_1_k self l0 p2 h0 h1 h2 kR = (f_i_EgzExample_1_k self l0 p2 h0 h1 h2 some).bind kR := by
  simp only [f_i_EgzExample_1_k, brB, boB, bl1B, someB, noneB]
theorem f_i_EgzExample_1_e (self : (List Sc × List Sc × Int × List Sc × List Sc) → Option (Int × List Sc × List Sc)) (l0 : List Sc) (p2 : List Sc) (h0 : Int) (h1 : List Sc) (h2 : List Sc) : runFn E0 (f_i_EgzExample_1_M self) H0 f_i_EgzExample_1_F (asL (addL 0 (f_i_EgzExample_1_t0 self) (noL))) Try.f82 (f_i_EgzExample_1_a l0 p2 h0 h1 h2) (f_i_EgzExample_1_i l0 p2 h0 h1 h2) = f_i_EgzExample_1_k self l0 p2 h0 h1 h2 (fun r => some (f_i_EgzExample_1_en r)) := by kernel_rfl
theorem f_i_EgzExample_1_ks (self : (List Sc × List Sc × Int × List Sc × List Sc) → Option (Int × List Sc × List Sc)) (hs : ∀ a r, self a = some r → CS Try.prog 82 (f_i_EgzExample_1_a a.1 a.2.1 a.2.2.1 a.2.2.2.1 a.2.2.2.2) (f_i_EgzExample_1_i a.1 a.2.1 a.2.2.1 a.2.2.2.1 a.2.2.2.2) (f_i_EgzExample_1_en r).1 (f_i_EgzExample_1_en r).2) (l0 : List Sc) (p2 : List Sc) (h0 : Int) (h1 : List Sc) (h2 : List Sc) (r : Int × List Sc × List Sc) (h : f_i_EgzExample_1_k self l0 p2 h0 h1 h2 some = some r) : CS Try.prog 82 (f_i_EgzExample_1_a l0 p2 h0 h1 h2) (f_i_EgzExample_1_i l0 p2 h0 h1 h2) (f_i_EgzExample_1_en r).1 (f_i_EgzExample_1_en r).2 :=
  fn_true (Gk := fun k => f_i_EgzExample_1_k self l0 p2 h0 h1 h2 k) (en := f_i_EgzExample_1_en) Try.func82 E0ok (f_i_EgzExample_1_Mt self hs) (addL_true (f_i_EgzExample_1_tt0 self hs) (noL_true)) f_i_EgzExample_1_o (f_i_EgzExample_1_e self l0 p2 h0 h1 h2) (f_i_EgzExample_1_p self l0 p2 h0 h1 h2) h
theorem f_i_EgzExample_1_ns : ∀ n a r, f_i_EgzExample_1_n n a = some r → CS Try.prog 82 (f_i_EgzExample_1_a a.1 a.2.1 a.2.2.1 a.2.2.2.1 a.2.2.2.2) (f_i_EgzExample_1_i a.1 a.2.1 a.2.2.1 a.2.2.2.1 a.2.2.2.2) (f_i_EgzExample_1_en r).1 (f_i_EgzExample_1_en r).2
  | 0, _, _, h => by cases h
  | n + 1, a, r, h => f_i_EgzExample_1_ks (f_i_EgzExample_1_n n) (f_i_EgzExample_1_ns n) a.1 a.2.1 a.2.2.1 a.2.2.2.1 a.2.2.2.2 r h
theorem f_i_EgzExample_1_ok (l0 : List Sc) (p2 : List Sc) (h0 : Int) (h1 : List Sc) (h2 : List Sc) (r : Int × List Sc × List Sc) (h : f_i_EgzExample_1 l0 p2 h0 h1 h2 = some r) : CS Try.prog 82 (f_i_EgzExample_1_a l0 p2 h0 h1 h2) (f_i_EgzExample_1_i l0 p2 h0 h1 h2) (f_i_EgzExample_1_en r).1 (f_i_EgzExample_1_en r).2 := by
  obtain ⟨n, hn⟩ := limF_some h
  exact f_i_EgzExample_1_ns n _ r hn
def f_i_EgzExample_1_c : CRow := fun args inh => match dec2 [.fr 3, .p (.pt 0 1), .p .el, .p (.pt 1 1), .p (.pt 2 1)] [.p (.int .i64), .fr 3, .fn 82 [.pt 0 1, .el, .pt 1 1, .pt 2 1]] args inh with
  | some ([.l l0, .l p2], [.i h0, .l h1, .l h2]) => some ((f_i_EgzExample_1 l0 p2 h0 h1 h2).isSome, (f_i_EgzExample_1_en ((f_i_EgzExample_1 l0 p2 h0 h1 h2).getD (0, [], []))).1, (f_i_EgzExample_1_en ((f_i_EgzExample_1 l0 p2 h0 h1 h2).getD (0, [], []))).2)
  | _ => none
theorem f_i_EgzExample_1_cc : CTrue Try.prog 82 f_i_EgzExample_1_c := by
  intro args inh rs out h
  unfold f_i_EgzExample_1_c at h
  split at h
  · rename_i hd
    obtain ⟨h1, h2⟩ := dec2_enc hd
    rw [← h1, ← h2]
    exact rowC (f_i_EgzExample_1_ok _ _ _ _ _) h
  · cases h

def f_i_EgzExample_F : Fi := { nv := 3, nc := 3, m := 0, vt := [(4, 0), (5, 1), (6, 2)], kl := [], sk := [], mvs := [], fz := [18] }
def f_i_EgzExample_a (g0 : List Sc) : List AV := enc [.p .gr] [.l g0]
def f_i_EgzExample_i (g0 : List Sc) : List AV := enc [] []
def f_i_EgzExample_en (r : List Sc × Bool) : List AV × List AV := (enc [.p (.al 0), .p .boo] [.b r.2], enc [.own 3] [.l r.1])
def f_i_EgzExample_M : Calling := addC 52 f_i_IsGroup_c (addC 53 f_i_OrderOf_c (addC 81 f_i_ExponentOf_c (addC 82 f_i_EgzExample_1_c (noC))))
theorem f_i_EgzExample_Mt : CallOk Try.prog (f_i_EgzExample_M) := addC_true f_i_IsGroup_cc (addC_true f_i_OrderOf_cc (addC_true f_i_ExponentOf_cc (addC_true f_i_EgzExample_1_cc (noC_true))))
theorem f_i_EgzExample_o : loopsOnce Try.f40 = true := by kernel_rfl
theorem f_i_EgzExample_p {R : Type} (g0 : List Sc) (kR : List Sc × Bool → Option R) : f_i_EgzExample_k g0 kR = (f_i_EgzExample_k g0 some).bind kR := by
  simp only [f_i_EgzExample_k, brB, boB, someB]
theorem f_i_EgzExample_e (g0 : List Sc) : runFn E0 f_i_EgzExample_M H0 f_i_EgzExample_F (asL (noL)) Try.f40 (f_i_EgzExample_a g0) (f_i_EgzExample_i g0) = f_i_EgzExample_k g0 (fun r => some (f_i_EgzExample_en r)) := by kernel_rfl
theorem f_i_EgzExample_ok (g0 : List Sc) (r : List Sc × Bool) (h : f_i_EgzExample g0 = some r) : CS Try.prog 40 (f_i_EgzExample_a g0) (f_i_EgzExample_i g0) (f_i_EgzExample_en r).1 (f_i_EgzExample_en r).2 :=
  fn_true (Gk := fun k => f_i_EgzExample_k g0 k) (en := f_i_EgzExample_en) Try.func40 E0ok f_i_EgzExample_Mt (noL_true) f_i_EgzExample_o (f_i_EgzExample_e g0) (f_i_EgzExample_p g0) h
def f_i_EgzExample_c : CRow := fun args inh => match dec2 [.p .gr] [] args inh with
  | some ([.l g0], []) => some ((f_i_EgzExample g0).isSome, (f_i_EgzExample_en ((f_i_EgzExample g0).getD ([], false))).1, (f_i_EgzExample_en ((f_i_EgzExample g0).getD ([], false))).2)
  | _ => none
theorem f_i_EgzExample_cc : CTrue Try.prog 40 f_i_EgzExample_c := by
  intro args inh rs out h
  unfold f_i_EgzExample_c at h
  split at h
  · rename_i hd
    obtain ⟨h1, h2⟩ := dec2_enc hd
    rw [← h1, ← h2]
    exact rowC (f_i_EgzExample_ok _) h
  · cases h

def f_i_EgzConstant_F : Fi := { nv := 1, nc := 0, m := 0, vt := [(7, 0)], kl := [], sk := [], mvs := [0], fz := [] }
def f_i_EgzConstant_a (g0 : List Sc) : List AV := enc [.p .gr] [.l g0]
def f_i_EgzConstant_i (g0 : List Sc) : List AV := enc [] []
def f_i_EgzConstant_en (r : Int) : List AV × List AV := (enc [.p (.int .i64)] [.i r], enc [] [])
def f_i_EgzConstant_M : Calling := addC 40 f_i_EgzExample_c (noC)
theorem f_i_EgzConstant_Mt : CallOk Try.prog (f_i_EgzConstant_M) := addC_true f_i_EgzExample_cc (noC_true)
theorem f_i_EgzConstant_o : loopsOnce Try.f36 = true := by kernel_rfl
theorem f_i_EgzConstant_p {R : Type} (g0 : List Sc) (kR : Int → Option R) : f_i_EgzConstant_k g0 kR = (f_i_EgzConstant_k g0 some).bind kR := by
  simp only [f_i_EgzConstant_k, brB, boB, someB]
theorem f_i_EgzConstant_e (g0 : List Sc) : runFn E0 f_i_EgzConstant_M H0 f_i_EgzConstant_F (asL (noL)) Try.f36 (f_i_EgzConstant_a g0) (f_i_EgzConstant_i g0) = f_i_EgzConstant_k g0 (fun r => some (f_i_EgzConstant_en r)) := by kernel_rfl
theorem f_i_EgzConstant_ok (g0 : List Sc) (r : Int) (h : f_i_EgzConstant g0 = some r) : CS Try.prog 36 (f_i_EgzConstant_a g0) (f_i_EgzConstant_i g0) (f_i_EgzConstant_en r).1 (f_i_EgzConstant_en r).2 :=
  fn_true (Gk := fun k => f_i_EgzConstant_k g0 k) (en := f_i_EgzConstant_en) Try.func36 E0ok f_i_EgzConstant_Mt (noL_true) f_i_EgzConstant_o (f_i_EgzConstant_e g0) (f_i_EgzConstant_p g0) h
def f_i_EgzConstant_c : CRow := fun args inh => match dec2 [.p .gr] [] args inh with
  | some ([.l g0], []) => some ((f_i_EgzConstant g0).isSome, (f_i_EgzConstant_en ((f_i_EgzConstant g0).getD 0)).1, (f_i_EgzConstant_en ((f_i_EgzConstant g0).getD 0)).2)
  | _ => none
theorem f_i_EgzConstant_cc : CTrue Try.prog 36 f_i_EgzConstant_c := by
  intro args inh rs out h
  unfold f_i_EgzConstant_c at h
  split at h
  · rename_i hd
    obtain ⟨h1, h2⟩ := dec2_enc hd
    rw [← h1, ← h2]
    exact rowC (f_i_EgzConstant_ok _) h
  · cases h

def f_l_FnExactEgzConstant_F : Fi := { nv := 3, nc := 1, m := 0, vt := [(5, 0), (13, 1), (16, 2)], kl := [], sk := [], mvs := [1, 2], fz := [] }
def f_l_FnExactEgzConstant_a (aG0 : List Sc) : List AV := enc [.p .gr] [.l aG0]
def f_l_FnExactEgzConstant_i (aG0 : List Sc) : List AV := enc [] []
def f_l_FnExactEgzConstant_en (r : Bool) : List AV × List AV := (enc [.p .boo] [.b r], enc [] [])
def f_l_FnExactEgzConstant_M : Calling := addC 15 f_l_szGroup_c (addC 17 f_l_toGroup_c (addC 35 f_s_EgzConstant_c (addC 36 f_i_EgzConstant_c (addC 19 f_l_eqGroup_c (noC)))))
theorem f_l_FnExactEgzConstant_Mt : CallOk Try.prog (f_l_FnExactEgzConstant_M) := addC_true f_l_szGroup_cc (addC_true f_l_toGroup_cc (addC_true f_s_EgzConstant_cc (addC_true f_i_EgzConstant_cc (addC_true f_l_eqGroup_cc (noC_true)))))
theorem f_l_FnExactEgzConstant_o : loopsOnce Try.f9 = true := by kernel_rfl
theorem f_l_FnExactEgzConstant_p {R : Type} (aG0 : List Sc) (kR : Bool → Option R) : f_l_FnExactEgzConstant_k aG0 kR = (f_l_FnExactEgzConstant_k aG0 some).bind kR := by
  simp only [f_l_FnExactEgzConstant_k, brB, boB, someB]
theorem f_l_FnExactEgzConstant_e (aG0 : List Sc) : runFn E0 f_l_FnExactEgzConstant_M H0 f_l_FnExactEgzConstant_F (asL (noL)) Try.f9 (f_l_FnExactEgzConstant_a aG0) (f_l_FnExactEgzConstant_i aG0) = f_l_FnExactEgzConstant_k aG0 (fun r => some (f_l_FnExactEgzConstant_en r)) := by kernel_rfl
theorem f_l_FnExactEgzConstant_ok (aG0 : List Sc) (r : Bool) (h : f_l_FnExactEgzConstant aG0 = some r) : CS Try.prog 9 (f_l_FnExactEgzConstant_a aG0) (f_l_FnExactEgzConstant_i aG0) (f_l_FnExactEgzConstant_en r).1 (f_l_FnExactEgzConstant_en r).2 :=
  fn_true (Gk := fun k => f_l_FnExactEgzConstant_k aG0 k) (en := f_l_FnExactEgzConstant_en) Try.func9 E0ok f_l_FnExactEgzConstant_Mt (noL_true) f_l_FnExactEgzConstant_o (f_l_FnExactEgzConstant_e aG0) (f_l_FnExactEgzConstant_p aG0) h
def f_l_FnExactEgzConstant_c : CRow := fun args inh => match dec2 [.p .gr] [] args inh with
  | some ([.l aG0], []) => some ((f_l_FnExactEgzConstant aG0).isSome, (f_l_FnExactEgzConstant_en ((f_l_FnExactEgzConstant aG0).getD false)).1, (f_l_FnExactEgzConstant_en ((f_l_FnExactEgzConstant aG0).getD false)).2)
  | _ => none
theorem f_l_FnExactEgzConstant_cc : CTrue Try.prog 9 f_l_FnExactEgzConstant_c := by
  intro args inh rs out h
  unfold f_l_FnExactEgzConstant_c at h
  split at h
  · rename_i hd
    obtain ⟨h1, h2⟩ := dec2_enc hd
    rw [← h1, ← h2]
    exact rowC (f_l_FnExactEgzConstant_ok _) h
  · cases h

def f_s_SetOf_F : Fi := { nv := 0, nc := 0, m := 0, vt := [], kl := [(0, ([0, 3, 4, 5, 8, 9, 10, 11, 12, 13, 14, 15, 16, 17, 18, 19, 20, 21, 22, 23, 24, 25, 26, 27, 28, 29, 30, 31, 32, 33, 34, 35, 36, 37, 38, 39, 40], [0, 1, 3, 4, 5, 7, 8, 9, 10, 11, 12, 13, 14, 15, 16, 17, 18, 19, 20, 21, 22, 23, 24, 25, 26, 27, 28, 29, 30, 31, 32, 33, 34, 35, 36, 37, 38, 39, 40], [0, 1, 2, 3, 6, 7, 8, 9, 10, 11, 12, 13, 14, 15, 16, 17, 18, 19, 20, 21, 22, 23, 24, 25, 26, 27, 28, 29, 30, 31, 32, 33, 34, 35, 36, 37, 38, 39, 40]))], sk := [], mvs := [], fz := [] }
def f_s_SetOf_a (g0 : List Sc) (l1 : List Sc) : List AV := enc [.p .gr, .p .sl] [.l g0, .l l1]
def f_s_SetOf_i (g0 : List Sc) (l1 : List Sc) : List AV := enc [] []
def f_s_SetOf_en (r : Int × Bool) : List AV × List AV := (enc [.p (.int .i64), .p .boo] [.i r.1, .b r.2], enc [] [])
def f_s_SetOf_M : Calling := addC 96 f_s_l2Is_c (addC 48 f_s_IsGroup_c (noC))
theorem f_s_SetOf_Mt : CallOk Try.prog (f_s_SetOf_M) := addC_true f_s_l2Is_cc (addC_true f_s_IsGroup_cc (noC_true))
theorem f_s_SetOf_o : loopsOnce Try.f77 = true := by kernel_rfl
def f_s_SetOf_h0 : List Sh := [.u, .p .sl, .p .el, .u, .u, .u, .p (.int .i64), .p (.int .i64), .u, .u, .u, .u, .u, .u, .u, .u, .u, .u, .u, .u, .u, .u, .u, .u, .u, .u, .u, .u, .u, .u, .u, .u, .u, .u, .u, .u, .u, .u, .u, .u, .u]
def f_s_SetOf_fr0 (l1 : List Sc) (g2 : List Sc) (s : Int × Int) : List AV := enc f_s_SetOf_h0 [.l l1, .l g2, .i s.1, .i s.2]
def f_s_SetOf_g0_1 : List Sh := [.u, .u, .p .el, .u, .u, .u, .p (.int .i64), .u, .u, .u, .u, .u, .u, .u, .u, .u, .u, .u, .u, .u, .u, .u, .u, .u, .u, .u, .u, .u, .u, .u, .u, .u, .u, .u, .u, .u, .u, .u, .u, .u, .u]
def f_s_SetOf_x0_1 (l1 : List Sc) (g2 : List Sc) (e : Int) : X × List AV := (.out 0, enc f_s_SetOf_g0_1 [.l g2, .i e])
def f_s_SetOf_g0_2 : List Sh := [.u, .u, .u, .u, .p (.int .i64), .p .boo, .u, .u, .u, .u, .u, .u, .u, .u, .u, .u, .u, .u, .u, .u, .u, .u, .u, .u, .u, .u, .u, .u, .u, .u, .u, .u, .u, .u, .u, .u, .u, .u, .u, .u, .u]
def f_s_SetOf_x0_2 (l1 : List Sc) (g2 : List Sc) (e : Unit) : X × List AV := (.ret, enc f_s_SetOf_g0_2 [.i 0, .b false])
theorem f_s_SetOf_p0 {R : Type} (l1 : List Sc) (g2 : List Sc) (s : Int × Int) (kN : Int × Int → Option R) (kA : Int → Option R) (kB : Unit → Option R) : f_s_SetOf_k0 l1 g2 s.1 s.2 kN kA kB = (f_s_SetOf_r0 l1 g2 s).bind (Ro.el kN kA kB) := by
  simp only [f_s_SetOf_k0, f_s_SetOf_r0, brB, boB, someB, noneB, Ro.el]
theorem f_s_SetOf_e0 (l1 : List Sc) (g2 : List Sc) (s : Int × Int) : EC E0 f_s_SetOf_M H0 f_s_SetOf_F (asL (noL)) 0 (bodyOf Try.f77 0) (f_s_SetOf_fr0 l1 g2 s) (done (klOf f_s_SetOf_F 0)) = f_s_SetOf_k0 l1 g2 s.1 s.2 (fun s => some (.norm, f_s_SetOf_fr0 l1 g2 s)) (fun e => some (f_s_SetOf_x0_1 l1 g2 e)) (fun e => some (f_s_SetOf_x0_2 l1 g2 e)) := by kernel_rfl
theorem f_s_SetOf_l0 (l1 : List Sc) (g2 : List Sc) : ∀ s r, loopL (f_s_SetOf_r0 l1 g2) s = some r → LS Try.prog f_s_SetOf_F (bodyOf Try.f77 0) (f_s_SetOf_fr0 l1 g2 s) (enX (f_s_SetOf_x0_1 l1 g2) (f_s_SetOf_x0_2 l1 g2) r) :=
  loop_true E0ok f_s_SetOf_Mt (noL_true) f_s_SetOf_o (fun _ h => by cases h) (fun _ h => by cases h) (fun s => (f_s_SetOf_e0 l1 g2 s).trans (f_s_SetOf_p0 l1 g2 s _ _ (fun e => some (f_s_SetOf_x0_2 l1 g2 e))))
def f_s_SetOf_t0 (σ : List AV) : Option (Bool × Bool × (X × List AV) × (X × List AV)) := match dec f_s_SetOf_h0 σ with
  | some [.l l1, .l g2, .i a6, .i i7] => some ((loopL (f_s_SetOf_r0 l1 g2) (a6, i7)).isSome, isOne (loopL (f_s_SetOf_r0 l1 g2) (a6, i7)), f_s_SetOf_x0_1 l1 g2 (getOne 0 (loopL (f_s_SetOf_r0 l1 g2) (a6, i7))), f_s_SetOf_x0_2 l1 g2 (getTwo () (loopL (f_s_SetOf_r0 l1 g2) (a6, i7))))
  | _ => none
theorem f_s_SetOf_tt0 : TTrue Try.prog f_s_SetOf_F Try.f77 0 (f_s_SetOf_t0) := by
  intro σ p r r' h
  unfold f_s_SetOf_t0 at h
  split at h
  · rename_i hd
    rw [← dec_enc hd]
    exact row2 (f_s_SetOf_l0 _ _ _) h
  · cases h
theorem f_s_SetOf_p {R : Type} (g0 : List Sc) (l1 : List Sc) (kR : Int × Bool → Option R) : f_s_SetOf_k g0 l1 kR = (f_s_SetOf_k g0 l1 some).bind kR := by
  simp only [f_s_SetOf_k, boB, blB, someB]
theorem f_s_SetOf_e (g0 : List Sc) (l1 : List Sc) : runFn E0 f_s_SetOf_M H0 f_s_SetOf_F (asL (addL 0 (f_s_SetOf_t0) (noL))) Try.f77 (f_s_SetOf_a g0 l1) (f_s_SetOf_i g0 l1) = f_s_SetOf_k g0 l1 (fun r => some (f_s_SetOf_en r)) := by kernel_rfl
theorem f_s_SetOf_ok (g0 : List Sc) (l1 : List Sc) (r : Int × Bool) (h : f_s_SetOf g0 l1 = some r) : CS Try.prog 77 (f_s_SetOf_a g0 l1) (f_s_SetOf_i g0 l1) (f_s_SetOf_en r).1 (f_s_SetOf_en r).2 :=
  fn_true (Gk := fun k => f_s_SetOf_k g0 l1 k) (en := f_s_SetOf_en) Try.func77 E0ok f_s_SetOf_Mt (addL_true (f_s_SetOf_tt0) (noL_true)) f_s_SetOf_o (f_s_SetOf_e g0 l1) (f_s_SetOf_p g0 l1) h
def f_s_SetOf_c : CRow := fun args inh => match dec2 [.p .gr, .p .sl] [] args inh with
  | some ([.l g0, .l l1], []) => some ((f_s_SetOf g0 l1).isSome, (f_s_SetOf_en ((f_s_SetOf g0 l1).getD (0, false))).1, (f_s_SetOf_en ((f_s_SetOf g0 l1).getD (0, false))).2)
  | _ => none
theorem f_s_SetOf_cc : CTrue Try.prog 77 f_s_SetOf_c := by
  intro args inh rs out h
  unfold f_s_SetOf_c at h
  split at h
  · rename_i hd
    obtain ⟨h1, h2⟩ := dec2_enc hd
    rw [← h1, ← h2]
    exact rowC (f_s_SetOf_ok _ _) h
  · cases h

def f_s_FreimanRank_F : Fi := { nv := 0, nc := 0, m := 0, vt := [], kl := [(0, ([0, 1, 2, 3, 4, 5, 6, 7, 10, 11, 12, 13, 14, 15, 16, 17, 18, 19, 20, 21, 22, 23, 24, 25, 26, 27, 28, 29, 30], [0, 1, 2, 3, 4, 5, 6, 7, 9, 10, 11, 12, 13, 14, 15, 16, 17, 18, 19, 20, 21, 22, 23, 24, 25, 26, 27, 28, 29, 30], [0, 1, 2, 3, 5, 6, 7, 8, 9, 10, 11, 12, 13, 14, 15, 16, 17, 18, 19, 20, 21, 22, 23, 24, 25, 26, 27, 28, 29, 30]))], sk := [], mvs := [], fz := [] }
def f_s_FreimanRank_a (g0 : List Sc) (l1 : List Sc) : List AV := enc [.p .gr, .p .sl] [.l g0, .l l1]
def f_s_FreimanRank_i (g0 : List Sc) (l1 : List Sc) : List AV := enc [] []
def f_s_FreimanRank_en (r : Int) : List AV × List AV := (enc [.p (.int .i64)] [.i r], enc [] [])
def f_s_FreimanRank_M : Calling := addC 77 f_s_SetOf_c (addC 28 f_s_CountFreimanMaps_c (noC))
theorem f_s_FreimanRank_Mt : CallOk Try.prog (f_s_FreimanRank_M) := addC_true f_s_SetOf_cc (addC_true f_s_CountFreimanMaps_cc (noC_true))
theorem f_s_FreimanRank_o : loopsOnce Try.f37 = true := by kernel_rfl
def f_s_FreimanRank_h0 : List Sh := [.u, .u, .u, .u, .u, .u, .u, .u, .p (.int .i64), .p (.int .i64), .u, .u, .u, .u, .u, .u, .u, .u, .u, .u, .u, .u, .u, .u, .u, .u, .u, .u, .u, .u, .u]
def f_s_FreimanRank_fr0 (s : Int × Int) : List AV := enc f_s_FreimanRank_h0 [.i s.1, .i s.2]
def f_s_FreimanRank_g0_1 : List Sh := [.u, .u, .u, .u, .u, .u, .u, .u, .p (.int .i64), .u, .u, .u, .u, .u, .u, .u, .u, .u, .u, .u, .u, .u, .u, .u, .u, .u, .u, .u, .u, .u, .u]
def f_s_FreimanRank_x0_1 (e : Int) : X × List AV := (.out 0, enc f_s_FreimanRank_g0_1 [.i e])
def f_s_FreimanRank_x0_2 (_e : Unit) : X × List AV := (.ret, [])
theorem f_s_FreimanRank_p0 {R : Type} (s : Int × Int) (kN : Int × Int → Option R) (kA : Int → Option R) (kB : Unit → Option R) : f_s_FreimanRank_k0 s.1 s.2 kN kA = (f_s_FreimanRank_r0 s).bind (Ro.el kN kA kB) := by
  simp only [f_s_FreimanRank_k0, f_s_FreimanRank_r0, brB, someB, Ro.el]
theorem f_s_FreimanRank_e0 (s : Int × Int) : EC E0 f_s_FreimanRank_M H0 f_s_FreimanRank_F (asL (noL)) 0 (bodyOf Try.f37 0) (f_s_FreimanRank_fr0 s) (done (klOf f_s_FreimanRank_F 0)) = f_s_FreimanRank_k0 s.1 s.2 (fun s => some (.norm, f_s_FreimanRank_fr0 s)) (fun e => some (f_s_FreimanRank_x0_1 e)) := by kernel_rfl
theorem f_s_FreimanRank_l0 : ∀ s r, loopL (f_s_FreimanRank_r0) s = some r → LS Try.prog f_s_FreimanRank_F (bodyOf Try.f37 0) (f_s_FreimanRank_fr0 s) (enX (f_s_FreimanRank_x0_1) (f_s_FreimanRank_x0_2) r) :=
  loop_true E0ok f_s_FreimanRank_Mt (noL_true) f_s_FreimanRank_o (fun _ h => by cases h) (fun _ h => by cases h) (fun s => (f_s_FreimanRank_e0 s).trans (f_s_FreimanRank_p0 s _ _ (fun e => some (f_s_FreimanRank_x0_2 e))))
def f_s_FreimanRank_t0 (σ : List AV) : Option (Bool × Bool × (X × List AV) × (X × List AV)) := match dec f_s_FreimanRank_h0 σ with
  | some [.i k8, .i x9] => some (isOne (loopL (f_s_FreimanRank_r0) (k8, x9)), true, f_s_FreimanRank_x0_1 (getOne 0 (loopL (f_s_FreimanRank_r0) (k8, x9))), (.ret, []))
  | _ => none
theorem f_s_FreimanRank_tt0 : TTrue Try.prog f_s_FreimanRank_F Try.f37 0 (f_s_FreimanRank_t0) := by
  intro σ p r r' h
  unfold f_s_FreimanRank_t0 at h
  split at h
  · rename_i hd
    rw [← dec_enc hd]
    exact row1 (f_s_FreimanRank_l0 _) h
  · cases h
theorem f_s_FreimanRank_p {R : Type} (g0 : List Sc) (l1 : List Sc) (kR : Int → Option R) : f_s_FreimanRank_k g0 l1 kR = (f_s_FreimanRank_k g0 l1 some).bind kR := by
  simp only [f_s_FreimanRank_k, brB, boB, bl1B, someB]
theorem f_s_FreimanRank_e (g0 : List Sc) (l1 : List Sc) : runFn E0 f_s_FreimanRank_M H0 f_s_FreimanRank_F (asL (addL 0 (f_s_FreimanRank_t0) (noL))) Try.f37 (f_s_FreimanRank_a g0 l1) (f_s_FreimanRank_i g0 l1) = f_s_FreimanRank_k g0 l1 (fun r => some (f_s_FreimanRank_en r)) := by kernel_rfl
theorem f_s_FreimanRank_ok (g0 : List Sc) (l1 : List Sc) (r : Int) (h : f_s_FreimanRank g0 l1 = some r) : CS Try.prog 37 (f_s_FreimanRank_a g0 l1) (f_s_FreimanRank_i g0 l1) (f_s_FreimanRank_en r).1 (f_s_FreimanRank_en r).2 :=
  fn_true (Gk := fun k => f_s_FreimanRank_k g0 l1 k) (en := f_s_FreimanRank_en) Try.func37 E0ok f_s_FreimanRank_Mt (addL_true (f_s_FreimanRank_tt0) (noL_true)) f_s_FreimanRank_o (f_s_FreimanRank_e g0 l1) (f_s_FreimanRank_p g0 l1) h
def f_s_FreimanRank_c : CRow := fun args inh => match dec2 [.p .gr, .p .sl] [] args inh with
  | some ([.l g0, .l l1], []) => some ((f_s_FreimanRank g0 l1).isSome, (f_s_FreimanRank_en ((f_s_FreimanRank g0 l1).getD 0)).1, (f_s_FreimanRank_en ((f_s_FreimanRank g0 l1).getD 0)).2)
  | _ => none
theorem f_s_FreimanRank_cc : CTrue Try.prog 37 f_s_FreimanRank_c := by
  intro args inh rs out h
  unfold f_s_FreimanRank_c at h
  split at h
  · rename_i hd
    obtain ⟨h1, h2⟩ := dec2_enc hd
    rw [← h1, ← h2]
    exact rowC (f_s_FreimanRank_ok _ _) h
  · cases h

def f_i_SetOf_F : Fi := { nv := 0, nc := 0, m := 0, vt := [], kl := [(0, ([0, 1, 3, 4, 5, 7, 8, 12, 13, 14, 15, 16, 17, 18, 19, 20, 21, 22, 23, 24, 25, 26, 27, 28, 29, 30, 31], [0, 1, 3, 4, 5, 7, 8, 9, 10, 11, 12, 13, 14, 15, 16, 17, 18, 19, 20, 21, 22, 23, 24, 25, 26, 27, 28, 29, 30, 31], [0, 1, 2, 3, 6, 7, 8, 9, 10, 11, 12, 13, 14, 15, 16, 17, 18, 19, 20, 21, 22, 23, 24, 25, 26, 27, 28, 29, 30, 31]))], sk := [], mvs := [], fz := [] }
def f_i_SetOf_a (g0 : List Sc) (l1 : List Sc) : List AV := enc [.p .gr, .p .sl] [.l g0, .l l1]
def f_i_SetOf_i (g0 : List Sc) (l1 : List Sc) : List AV := enc [] []
def f_i_SetOf_en (r : Int × Bool) : List AV × List AV := (enc [.p (.int .i64), .p .boo] [.i r.1, .b r.2], enc [] [])
def f_i_SetOf_M : Calling := addC 97 f_i_Group_has_c (addC 83 f_i_in_c (addC 52 f_i_IsGroup_c (noC)))
theorem f_i_SetOf_Mt : CallOk Try.prog (f_i_SetOf_M) := addC_true f_i_Group_has_cc (addC_true f_i_in_cc (addC_true f_i_IsGroup_cc (noC_true)))
theorem f_i_SetOf_o : loopsOnce Try.f78 = true := by kernel_rfl
def f_i_SetOf_h0 : List Sh := [.u, .u, .p .el, .u, .u, .u, .p (.int .i64), .u, .u, .p .sl, .p (.int .i64), .p (.int .i64), .u, .u, .u, .u, .u, .u, .u, .u, .u, .u, .u, .u, .u, .u, .u, .u, .u, .u, .u, .u]
def f_i_SetOf_fr0 (g2 : List Sc) (t9 : List Sc) (t10 : Int) (s : Int × Int) : List AV := enc f_i_SetOf_h0 [.l g2, .i s.1, .l t9, .i t10, .i s.2]
def f_i_SetOf_g0_1 : List Sh := [.u, .u, .p .el, .u, .u, .u, .p (.int .i64), .u, .u, .u, .u, .u, .u, .u, .u, .u, .u, .u, .u, .u, .u, .u, .u, .u, .u, .u, .u, .u, .u, .u, .u, .u]
def f_i_SetOf_x0_1 (g2 : List Sc) (t9 : List Sc) (t10 : Int) (e : Int) : X × List AV := (.out 0, enc f_i_SetOf_g0_1 [.l g2, .i e])
def f_i_SetOf_g0_2 : List Sh := [.u, .u, .u, .u, .p (.int .i64), .p .boo, .u, .u, .u, .u, .u, .u, .u, .u, .u, .u, .u, .u, .u, .u, .u, .u, .u, .u, .u, .u, .u, .u, .u, .u, .u, .u]
def f_i_SetOf_x0_2 (g2 : List Sc) (t9 : List Sc) (t10 : Int) (e : Unit) : X × List AV := (.ret, enc f_i_SetOf_g0_2 [.i 0, .b false])
theorem f_i_SetOf_p0 {R : Type} (g2 : List Sc) (t9 : List Sc) (t10 : Int) (s : Int × Int) (kN : Int × Int → Option R) (kA : Int → Option R) (kB : Unit → Option R) : f_i_SetOf_k0 g2 t9 t10 s.1 s.2 kN kA kB = (f_i_SetOf_r0 g2 t9 t10 s).bind (Ro.el kN kA kB) := by
  simp only [f_i_SetOf_k0, f_i_SetOf_r0, brB, boB, someB, noneB, Ro.el]
theorem f_i_SetOf_e0 (g2 : List Sc) (t9 : List Sc) (t10 : Int) (s : Int × Int) : EC E0 f_i_SetOf_M H0 f_i_SetOf_F (asL (noL)) 0 (bodyOf Try.f78 0) (f_i_SetOf_fr0 g2 t9 t10 s) (done (klOf f_i_SetOf_F 0)) = f_i_SetOf_k0 g2 t9 t10 s.1 s.2 (fun s => some (.norm, f_i_SetOf_fr0 g2 t9 t10 s)) (fun e => some (f_i_SetOf_x0_1 g2 t9 t10 e)) (fun e => some (f_i_SetOf_x0_2 g2 t9 t10 e)) := by kernel_rfl
theorem f_i_SetOf_l0 (g2 : List Sc) (t9 : List Sc) (t10 : Int) : ∀ s r, loopL (f_i_SetOf_r0 g2 t9 t10) s = some r → LS Try.prog f_i_SetOf_F (bodyOf Try.f78 0) (f_i_SetOf_fr0 g2 t9 t10 s) (enX (f_i_SetOf_x0_1 g2 t9 t10) (f_i_SetOf_x0_2 g2 t9 t10) r) :=
  loop_true E0ok f_i_SetOf_Mt (noL_true) f_i_SetOf_o (fun _ h => by cases h) (fun _ h => by cases h) (fun s => (f_i_SetOf_e0 g2 t9 t10 s).trans (f_i_SetOf_p0 g2 t9 t10 s _ _ (fun e => some (f_i_SetOf_x0_2 g2 t9 t10 e))))
def f_i_SetOf_t0 (σ : List AV) : Option (Bool × Bool × (X × List AV) × (X × List AV)) := match dec f_i_SetOf_h0 σ with
  | some [.l g2, .i a6, .l t9, .i t10, .i t11] => some ((loopL (f_i_SetOf_r0 g2 t9 t10) (a6, t11)).isSome, isOne (loopL (f_i_SetOf_r0 g2 t9 t10) (a6, t11)), f_i_SetOf_x0_1 g2 t9 t10 (getOne 0 (loopL (f_i_SetOf_r0 g2 t9 t10) (a6, t11))), f_i_SetOf_x0_2 g2 t9 t10 (getTwo () (loopL (f_i_SetOf_r0 g2 t9 t10) (a6, t11))))
  | _ => none
theorem f_i_SetOf_tt0 : TTrue Try.prog f_i_SetOf_F Try.f78 0 (f_i_SetOf_t0) := by
  intro σ p r r' h
  unfold f_i_SetOf_t0 at h
  split at h
  · rename_i hd
    rw [← dec_enc hd]
    exact row2 (f_i_SetOf_l0 _ _ _ _) h
  · cases h
theorem f_i_SetOf_p {R : Type} (g0 : List Sc) (l1 : List Sc) (kR : Int × Bool → Option R) : f_i_SetOf_k g0 l1 kR = (f_i_SetOf_k g0 l1 some).bind kR := by
  simp only [f_i_SetOf_k, boB, blB, someB]
theorem f_i_SetOf_e (g0 : List Sc) (l1 : List Sc) : runFn E0 f_i_SetOf_M H0 f_i_SetOf_F (asL (addL 0 (f_i_SetOf_t0) (noL))) Try.f78 (f_i_SetOf_a g0 l1) (f_i_SetOf_i g0 l1) = f_i_SetOf_k g0 l1 (fun r => some (f_i_SetOf_en r)) := by kernel_rfl
theorem f_i_SetOf_ok (g0 : List Sc) (l1 : List Sc) (r : Int × Bool) (h : f_i_SetOf g0 l1 = some r) : CS Try.prog 78 (f_i_SetOf_a g0 l1) (f_i_SetOf_i g0 l1) (f_i_SetOf_en r).1 (f_i_SetOf_en r).2 :=
  fn_true (Gk := fun k => f_i_SetOf_k g0 l1 k) (en := f_i_SetOf_en) Try.func78 E0ok f_i_SetOf_Mt (addL_true (f_i_SetOf_tt0) (noL_true)) f_i_SetOf_o (f_i_SetOf_e g0 l1) (f_i_SetOf_p g0 l1) h
def f_i_SetOf_c : CRow := fun args inh => match dec2 [.p .gr, .p .sl] [] args inh with
  | some ([.l g0, .l l1], []) => some ((f_i_SetOf g0 l1).isSome, (f_i_SetOf_en ((f_i_SetOf g0 l1).getD (0, false))).1, (f_i_SetOf_en ((f_i_SetOf g0 l1).getD (0, false))).2)
  | _ => none
theorem f_i_SetOf_cc : CTrue Try.prog 78 f_i_SetOf_c := by
  intro args inh rs out h
  unfold f_i_SetOf_c at h
  split at h
  · rename_i hd
    obtain ⟨h1, h2⟩ := dec2_enc hd
    rw [← h1, ← h2]
    exact rowC (f_i_SetOf_ok _ _) h
  · cases h

def f_i_FreimanRank_F : Fi := { nv := 0, nc := 0, m := 0, vt := [], kl := [(0, ([0, 1, 2, 3, 4, 5, 6, 9, 10, 11, 12, 13, 14, 15, 16, 17, 18, 19, 20, 21, 22, 23, 24, 25, 26, 27, 28, 29, 30, 31, 32], [0, 1, 2, 3, 4, 5, 6, 7, 9, 10, 11, 12, 13, 14, 15, 16, 17, 18, 19, 20, 21, 22, 23, 24, 25, 26, 27, 28, 29, 30, 31, 32], [0, 1, 2, 3, 5, 6, 7, 8, 9, 10, 11, 12, 13, 14, 15, 16, 17, 18, 19, 20, 21, 22, 23, 24, 25, 26, 27, 28, 29, 30, 31, 32]))], sk := [], mvs := [], fz := [] }
def f_i_FreimanRank_a (g0 : List Sc) (l1 : List Sc) : List AV := enc [.p .gr, .p .sl] [.l g0, .l l1]
def f_i_FreimanRank_i (g0 : List Sc) (l1 : List Sc) : List AV := enc [] []
def f_i_FreimanRank_en (r : Int) : List AV × List AV := (enc [.p (.int .i64)] [.i r], enc [] [])
def f_i_FreimanRank_M : Calling := addC 78 f_i_SetOf_c (addC 29 f_i_CountFreimanMaps_c (noC))
theorem f_i_FreimanRank_Mt : CallOk Try.prog (f_i_FreimanRank_M) := addC_true f_i_SetOf_cc (addC_true f_i_CountFreimanMaps_cc (noC_true))
theorem f_i_FreimanRank_o : loopsOnce Try.f38 = true := by kernel_rfl
def f_i_FreimanRank_h0 : List Sh := [.u, .u, .u, .u, .u, .u, .u, .p (.int .i64), .p (.int .i64), .u, .u, .u, .u, .u, .u, .u, .u, .u, .u, .u, .u, .u, .u, .u, .u, .u, .u, .u, .u, .u, .u, .u, .u]
def f_i_FreimanRank_fr0 (s : Int × Int) : List AV := enc f_i_FreimanRank_h0 [.i s.1, .i s.2]
def f_i_FreimanRank_g0_1 : List Sh := [.u, .u, .u, .u, .u, .u, .u, .u, .p (.int .i64), .u, .u, .u, .u, .u, .u, .u, .u, .u, .u, .u, .u, .u, .u, .u, .u, .u, .u, .u, .u, .u, .u, .u, .u]
def f_i_FreimanRank_x0_1 (e : Int) : X × List AV := (.out 0, enc f_i_FreimanRank_g0_1 [.i e])
def f_i_FreimanRank_x0_2 (_e : Unit) : X × List AV := (.ret, [])
theorem f_i_FreimanRank_p0 {R : Type} (s : Int × Int) (kN : Int × Int → Option R) (kA : Int → Option R) (kB : Unit → Option R) : f_i_FreimanRank_k0 s.1 s.2 kN kA = (f_i_FreimanRank_r0 s).bind (Ro.el kN kA kB) := by
  simp only [f_i_FreimanRank_k0, f_i_FreimanRank_r0, brB, someB, Ro.el]
theorem f_i_FreimanRank_e0 (s : Int × Int) : EC E0 f_i_FreimanRank_M H0 f_i_FreimanRank_F (asL (noL)) 0 (bodyOf Try.f38 0) (f_i_FreimanRank_fr0 s) (done (klOf f_i_FreimanRank_F 0)) = f_i_FreimanRank_k0 s.1 s.2 (fun s => some (.norm, f_i_FreimanRank_fr0 s)) (fun e => some (f_i_FreimanRank_x0_1 e)) := by kernel_rfl
theorem f_i_FreimanRank_l0 : ∀ s r, loopL (f_i_FreimanRank_r0) s = some r → LS Try.prog f_i_FreimanRank_F (bodyOf Try.f38 0) (f_i_FreimanRank_fr0 s) (enX (f_i_FreimanRank_x0_1) (f_i_FreimanRank_x0_2) r) :=
  loop_true E0ok f_i_FreimanRank_Mt (noL_true) f_i_FreimanRank_o (fun _ h => by cases h) (fun _ h => by cases h) (fun s => (f_i_FreimanRank_e0 s).trans (f_i_FreimanRank_p0 s _ _ (fun e => some (f_i_FreimanRank_x0_2 e))))
def f_i_FreimanRank_t0 (σ : List AV) : Option (Bool × Bool × (X × List AV) × (X × List AV)) := match dec f_i_FreimanRank_h0 σ with
  | some [.i n7, .i e8] => some (isOne (loopL (f_i_FreimanRank_r0) (n7, e8)), true, f_i_FreimanRank_x0_1 (getOne 0 (loopL (f_i_FreimanRank_r0) (n7, e8))), (.ret, []))
  | _ => none
theorem f_i_FreimanRank_tt0 : TTrue Try.prog f_i_FreimanRank_F Try.f38 0 (f_i_FreimanRank_t0) := by
  intro σ p r r' h
  unfold f_i_FreimanRank_t0 at h
  split at h
  · rename_i hd
    rw [← dec_enc hd]
    exact row1 (f_i_FreimanRank_l0 _) h
  · cases h
theorem f_i_FreimanRank_p {R : Type} (g0 : List Sc) (l1 : List Sc) (kR : Int → Option R) : f_i_FreimanRank_k g0 l1 kR = (f_i_FreimanRank_k g0 l1 some).bind kR := by
  simp only [f_i_FreimanRank_k, brB, boB, bl1B, someB]
theorem f_i_FreimanRank_e (g0 : List Sc) (l1 : List Sc) : runFn E0 f_i_FreimanRank_M H0 f_i_FreimanRank_F (asL (addL 0 (f_i_FreimanRank_t0) (noL))) Try.f38 (f_i_FreimanRank_a g0 l1) (f_i_FreimanRank_i g0 l1) = f_i_FreimanRank_k g0 l1 (fun r => some (f_i_FreimanRank_en r)) := by kernel_rfl
theorem f_i_FreimanRank_ok (g0 : List Sc) (l1 : List Sc) (r : Int) (h : f_i_FreimanRank g0 l1 = some r) : CS Try.prog 38 (f_i_FreimanRank_a g0 l1) (f_i_FreimanRank_i g0 l1) (f_i_FreimanRank_en r).1 (f_i_FreimanRank_en r).2 :=
  fn_true (Gk := fun k => f_i_FreimanRank_k g0 l1 k) (en := f_i_FreimanRank_en) Try.func38 E0ok f_i_FreimanRank_Mt (addL_true (f_i_FreimanRank_tt0) (noL_true)) f_i_FreimanRank_o (f_i_FreimanRank_e g0 l1) (f_i_FreimanRank_p g0 l1) h
def f_i_FreimanRank_c : CRow := fun args inh => match dec2 [.p .gr, .p .sl] [] args inh with
  | some ([.l g0, .l l1], []) => some ((f_i_FreimanRank g0 l1).isSome, (f_i_FreimanRank_en ((f_i_FreimanRank g0 l1).getD 0)).1, (f_i_FreimanRank_en ((f_i_FreimanRank g0 l1).getD 0)).2)
  | _ => none
theorem f_i_FreimanRank_cc : CTrue Try.prog 38 f_i_FreimanRank_c := by
  intro args inh rs out h
  unfold f_i_FreimanRank_c at h
  split at h
  · rename_i hd
    obtain ⟨h1, h2⟩ := dec2_enc hd
    rw [← h1, ← h2]
    exact rowC (f_i_FreimanRank_ok _ _) h
  · cases h

def f_l_FnExactFreimanRank_F : Fi := { nv := 3, nc := 1, m := 0, vt := [(7, 0), (19, 1), (24, 2)], kl := [], sk := [], mvs := [1, 2], fz := [] }
def f_l_FnExactFreimanRank_a (aG0 : List Sc) (aL1 : List Sc) : List AV := enc [.p .gr, .p .sl] [.l aG0, .l aL1]
def f_l_FnExactFreimanRank_i (aG0 : List Sc) (aL1 : List Sc) : List AV := enc [] []
def f_l_FnExactFreimanRank_en (r : Bool) : List AV × List AV := (enc [.p .boo] [.b r], enc [] [])
def f_l_FnExactFreimanRank_M : Calling := addC 15 f_l_szGroup_c (addC 17 f_l_toGroup_c (addC 33 f_l_toIntS_c (addC 37 f_s_FreimanRank_c (addC 38 f_i_FreimanRank_c (addC 19 f_l_eqGroup_c (addC 24 f_l_eqIntS_c (noC)))))))
theorem f_l_FnExactFreimanRank_Mt : CallOk Try.prog (f_l_FnExactFreimanRank_M) := addC_true f_l_szGroup_cc (addC_true f_l_toGroup_cc (addC_true f_l_toIntS_cc (addC_true f_s_FreimanRank_cc (addC_true f_i_FreimanRank_cc (addC_true f_l_eqGroup_cc (addC_true f_l_eqIntS_cc (noC_true)))))))
theorem f_l_FnExactFreimanRank_o : loopsOnce Try.f10 = true := by kernel_rfl
theorem f_l_FnExactFreimanRank_p {R : Type} (aG0 : List Sc) (aL1 : List Sc) (kR : Bool → Option R) : f_l_FnExactFreimanRank_k aG0 aL1 kR = (f_l_FnExactFreimanRank_k aG0 aL1 some).bind kR := by
  simp only [f_l_FnExactFreimanRank_k, brB, boB, someB]
theorem f_l_FnExactFreimanRank_e (aG0 : List Sc) (aL1 : List Sc) : runFn E0 f_l_FnExactFreimanRank_M H0 f_l_FnExactFreimanRank_F (asL (noL)) Try.f10 (f_l_FnExactFreimanRank_a aG0 aL1) (f_l_FnExactFreimanRank_i aG0 aL1) = f_l_FnExactFreimanRank_k aG0 aL1 (fun r => some (f_l_FnExactFreimanRank_en r)) := by kernel_rfl
theorem f_l_FnExactFreimanRank_ok (aG0 : List Sc) (aL1 : List Sc) (r : Bool) (h : f_l_FnExactFreimanRank aG0 aL1 = some r) : CS Try.prog 10 (f_l_FnExactFreimanRank_a aG0 aL1) (f_l_FnExactFreimanRank_i aG0 aL1) (f_l_FnExactFreimanRank_en r).1 (f_l_FnExactFreimanRank_en r).2 :=
  fn_true (Gk := fun k => f_l_FnExactFreimanRank_k aG0 aL1 k) (en := f_l_FnExactFreimanRank_en) Try.func10 E0ok f_l_FnExactFreimanRank_Mt (noL_true) f_l_FnExactFreimanRank_o (f_l_FnExactFreimanRank_e aG0 aL1) (f_l_FnExactFreimanRank_p aG0 aL1) h
def f_l_FnExactFreimanRank_c : CRow := fun args inh => match dec2 [.p .gr, .p .sl] [] args inh with
  | some ([.l aG0, .l aL1], []) => some ((f_l_FnExactFreimanRank aG0 aL1).isSome, (f_l_FnExactFreimanRank_en ((f_l_FnExactFreimanRank aG0 aL1).getD false)).1, (f_l_FnExactFreimanRank_en ((f_l_FnExactFreimanRank aG0 aL1).getD false)).2)
  | _ => none
theorem f_l_FnExactFreimanRank_cc : CTrue Try.prog 10 f_l_FnExactFreimanRank_c := by
  intro args inh rs out h
  unfold f_l_FnExactFreimanRank_c at h
  split at h
  · rename_i hd
    obtain ⟨h1, h2⟩ := dec2_enc hd
    rw [← h1, ← h2]
    exact rowC (f_l_FnExactFreimanRank_ok _ _) h
  · cases h

def f_l_FnExactEgzExample_F : Fi := { nv := 6, nc := 1, m := 0, vt := [(6, 0), (21, 1), (26, 2), (29, 3), (75, 4), (76, 5)], kl := [], sk := [], mvs := [1, 2, 3, 4, 5], fz := [] }
def f_l_FnExactEgzExample_a (L0 : List Sc) : List AV := enc [.p .gr] [.l L0]
def f_l_FnExactEgzExample_i (L0 : List Sc) : List AV := enc [] []
def f_l_FnExactEgzExample_en (r : Bool) : List AV × List AV := (enc [.p .boo] [.b r], enc [] [])
def f_l_FnExactEgzExample_M : Calling := addC 15 f_l_szGroup_c (addC 17 f_l_toGroup_c (addC 39 f_s_EgzExample_c (addC 40 f_i_EgzExample_c (addC 24 f_l_eqIntS_c (addC 19 f_l_eqGroup_c (addC 25 f_l_markGroup_io_c (addC 26 f_l_markIntS_io_c (addC 27 f_l_heldIntS_c (noC)))))))))
theorem f_l_FnExactEgzExample_Mt : CallOk Try.prog (f_l_FnExactEgzExample_M) := addC_true f_l_szGroup_cc (addC_true f_l_toGroup_cc (addC_true f_s_EgzExample_cc (addC_true f_i_EgzExample_cc (addC_true f_l_eqIntS_cc (addC_true f_l_eqGroup_cc (addC_true f_l_markGroup_io_cc (addC_true f_l_markIntS_io_cc (addC_true f_l_heldIntS_cc (noC_true)))))))))
theorem f_l_FnExactEgzExample_o : loopsOnce Try.f11 = true := by kernel_rfl
theorem f_l_FnExactEgzExample_p {R : Type} (L0 : List Sc) (kR : Bool → Option R) : f_l_FnExactEgzExample_k L0 kR = (f_l_FnExactEgzExample_k L0 some).bind kR := by
  simp only [f_l_FnExactEgzExample_k, brB, boB, someB]
theorem f_l_FnExactEgzExample_e (L0 : List Sc) : runFn E0 f_l_FnExactEgzExample_M H0 f_l_FnExactEgzExample_F (asL (noL)) Try.f11 (f_l_FnExactEgzExample_a L0) (f_l_FnExactEgzExample_i L0) = f_l_FnExactEgzExample_k L0 (fun r => some (f_l_FnExactEgzExample_en r)) := by kernel_rfl
theorem f_l_FnExactEgzExample_ok (L0 : List Sc) (r : Bool) (h : f_l_FnExactEgzExample L0 = some r) : CS Try.prog 11 (f_l_FnExactEgzExample_a L0) (f_l_FnExactEgzExample_i L0) (f_l_FnExactEgzExample_en r).1 (f_l_FnExactEgzExample_en r).2 :=
  fn_true (Gk := fun k => f_l_FnExactEgzExample_k L0 k) (en := f_l_FnExactEgzExample_en) Try.func11 E0ok f_l_FnExactEgzExample_Mt (noL_true) f_l_FnExactEgzExample_o (f_l_FnExactEgzExample_e L0) (f_l_FnExactEgzExample_p L0) h
def f_l_FnExactEgzExample_c : CRow := fun args inh => match dec2 [.p .gr] [] args inh with
  | some ([.l L0], []) => some ((f_l_FnExactEgzExample L0).isSome, (f_l_FnExactEgzExample_en ((f_l_FnExactEgzExample L0).getD false)).1, (f_l_FnExactEgzExample_en ((f_l_FnExactEgzExample L0).getD false)).2)
  | _ => none
theorem f_l_FnExactEgzExample_cc : CTrue Try.prog 11 f_l_FnExactEgzExample_c := by
  intro args inh rs out h
  unfold f_l_FnExactEgzExample_c at h
  split at h
  · rename_i hd
    obtain ⟨h1, h2⟩ := dec2_enc hd
    rw [← h1, ← h2]
    exact rowC (f_l_FnExactEgzExample_ok _) h
  · cases h

def f_s_l15Fine_F : Fi := { nv := 0, nc := 0, m := 0, vt := [], kl := [(0, ([0, 1, 4, 6, 7, 8, 9, 12, 13, 14, 15, 16, 17, 18, 19, 20, 21, 22, 23, 24, 25, 26, 27, 28, 29, 30, 31, 32, 33, 34, 35, 36, 37, 38, 39, 40, 41, 42, 43, 44, 45, 46, 47], [0, 1, 4, 6, 7, 8, 9, 11, 12, 13, 14, 15, 16, 17, 18, 19, 20, 21, 22, 23, 24, 25, 26, 27, 28, 29, 30, 31, 32, 33, 34, 35, 36, 37, 38, 39, 40, 41, 42, 43, 44, 45, 46, 47], [0, 1, 2, 3, 4, 5, 6, 7, 9, 10, 11, 12, 13, 14, 15, 16, 17, 18, 19, 20, 21, 22, 23, 24, 25, 26, 27, 28, 29, 30, 31, 32, 33, 34, 35, 36, 37, 38, 39, 40, 41, 42, 43, 44, 45, 46, 47]))], sk := [], mvs := [], fz := [] }
def f_s_l15Fine_a (g0 : List Sc) (h1 : List Sc) (l2 : List Sc) (m3 : List Sc) : List AV := enc [.p .gr, .p .gr, .p .sl, .p .sl] [.l g0, .l h1, .l l2, .l m3]
def f_s_l15Fine_i (g0 : List Sc) (h1 : List Sc) (l2 : List Sc) (m3 : List Sc) : List AV := enc [] []
def f_s_l15Fine_en (r : Bool) : List AV × List AV := (enc [.p .boo] [.b r], enc [] [])
def f_s_l15Fine_M : Calling := addC 77 f_s_SetOf_c (addC 96 f_s_l2Is_c (addC 48 f_s_IsGroup_c (addC 50 f_s_l1In_c (noC))))
theorem f_s_l15Fine_Mt : CallOk Try.prog (f_s_l15Fine_M) := addC_true f_s_SetOf_cc (addC_true f_s_l2Is_cc (addC_true f_s_IsGroup_cc (addC_true f_s_l1In_cc (noC_true))))
theorem f_s_l15Fine_o : loopsOnce Try.f120 = true := by kernel_rfl
def f_s_l15Fine_h0 : List Sh := [.u, .u, .p .sl, .p .sl, .u, .p .el, .u, .u, .u, .u, .p .boo, .p (.int .i64), .u, .u, .u, .u, .u, .u, .u, .u, .u, .u, .u, .u, .u, .u, .u, .u, .u, .u, .u, .u, .u, .u, .u, .u, .u, .u, .u, .u, .u, .u, .u, .u, .u, .u, .u, .u]
def f_s_l15Fine_fr0 (l2 : List Sc) (m3 : List Sc) (h5 : List Sc) (is10 : Bool) (s : Int) : List AV := enc f_s_l15Fine_h0 [.l l2, .l m3, .l h5, .b is10, .i s]
def f_s_l15Fine_g0_1 : List Sh := [.u, .u, .p .sl, .p .sl, .u, .p .el, .u, .u, .u, .u, .p .boo, .u, .u, .u, .u, .u, .u, .u, .u, .u, .u, .u, .u, .u, .u, .u, .u, .u, .u, .u, .u, .u, .u, .u, .u, .u, .u, .u, .u, .u, .u, .u, .u, .u, .u, .u, .u, .u]
def f_s_l15Fine_x0_1 (l2 : List Sc) (m3 : List Sc) (h5 : List Sc) (is10 : Bool) (e : Unit) : X × List AV := (.out 0, enc f_s_l15Fine_g0_1 [.l l2, .l m3, .l h5, .b is10])
def f_s_l15Fine_g0_2 : List Sh := [.u, .u, .u, .u, .u, .u, .u, .u, .p .boo, .u, .u, .u, .u, .u, .u, .u, .u, .u, .u, .u, .u, .u, .u, .u, .u, .u, .u, .u, .u, .u, .u, .u, .u, .u, .u, .u, .u, .u, .u, .u, .u, .u, .u, .u, .u, .u, .u, .u]
def f_s_l15Fine_x0_2 (l2 : List Sc) (m3 : List Sc) (h5 : List Sc) (is10 : Bool) (e : Unit) : X × List AV := (.ret, enc f_s_l15Fine_g0_2 [.b false])
theorem f_s_l15Fine_p0 {R : Type} (l2 : List Sc) (m3 : List Sc) (h5 : List Sc) (is10 : Bool) (s : Int) (kN : Int → Option R) (kA : Unit → Option R) (kB : Unit → Option R) : f_s_l15Fine_k0 l2 m3 h5 is10 s kN kA kB = (f_s_l15Fine_r0 l2 m3 h5 is10 s).bind (Ro.el kN kA kB) := by
  simp only [f_s_l15Fine_k0, f_s_l15Fine_r0, brB, boB, someB, noneB, Ro.el]
theorem f_s_l15Fine_e0 (l2 : List Sc) (m3 : List Sc) (h5 : List Sc) (is10 : Bool) (s : Int) : EC E0 f_s_l15Fine_M H0 f_s_l15Fine_F (asL (noL)) 0 (bodyOf Try.f120 0) (f_s_l15Fine_fr0 l2 m3 h5 is10 s) (done (klOf f_s_l15Fine_F 0)) = f_s_l15Fine_k0 l2 m3 h5 is10 s (fun s => some (.norm, f_s_l15Fine_fr0 l2 m3 h5 is10 s)) (fun e => some (f_s_l15Fine_x0_1 l2 m3 h5 is10 e)) (fun e => some (f_s_l15Fine_x0_2 l2 m3 h5 is10 e)) := by kernel_rfl
theorem f_s_l15Fine_l0 (l2 : List Sc) (m3 : List Sc) (h5 : List Sc) (is10 : Bool) : ∀ s r, loopL (f_s_l15Fine_r0 l2 m3 h5 is10) s = some r → LS Try.prog f_s_l15Fine_F (bodyOf Try.f120 0) (f_s_l15Fine_fr0 l2 m3 h5 is10 s) (enX (f_s_l15Fine_x0_1 l2 m3 h5 is10) (f_s_l15Fine_x0_2 l2 m3 h5 is10) r) :=
  loop_true E0ok f_s_l15Fine_Mt (noL_true) f_s_l15Fine_o (fun _ h => by cases h) (fun _ h => by cases h) (fun s => (f_s_l15Fine_e0 l2 m3 h5 is10 s).trans (f_s_l15Fine_p0 l2 m3 h5 is10 s _ _ (fun e => some (f_s_l15Fine_x0_2 l2 m3 h5 is10 e))))
def f_s_l15Fine_t0 (σ : List AV) : Option (Bool × Bool × (X × List AV) × (X × List AV)) := match dec f_s_l15Fine_h0 σ with
  | some [.l l2, .l m3, .l h5, .b is10, .i i11] => some ((loopL (f_s_l15Fine_r0 l2 m3 h5 is10) i11).isSome, isOne (loopL (f_s_l15Fine_r0 l2 m3 h5 is10) i11), f_s_l15Fine_x0_1 l2 m3 h5 is10 (getOne () (loopL (f_s_l15Fine_r0 l2 m3 h5 is10) i11)), f_s_l15Fine_x0_2 l2 m3 h5 is10 (getTwo () (loopL (f_s_l15Fine_r0 l2 m3 h5 is10) i11)))
  | _ => none
theorem f_s_l15Fine_tt0 : TTrue Try.prog f_s_l15Fine_F Try.f120 0 (f_s_l15Fine_t0) := by
  intro σ p r r' h
  unfold f_s_l15Fine_t0 at h
  split at h
  · rename_i hd
    rw [← dec_enc hd]
    exact row2 (f_s_l15Fine_l0 _ _ _ _ _) h
  · cases h
theorem f_s_l15Fine_p {R : Type} (g0 : List Sc) (h1 : List Sc) (l2 : List Sc) (m3 : List Sc) (kR : Bool → Option R) : f_s_l15Fine_k g0 h1 l2 m3 kR = (f_s_l15Fine_k g0 h1 l2 m3 some).bind kR := by
  simp only [f_s_l15Fine_k, brB, boB, blB, someB]
theorem f_s_l15Fine_e (g0 : List Sc) (h1 : List Sc) (l2 : List Sc) (m3 : List Sc) : runFn E0 f_s_l15Fine_M H0 f_s_l15Fine_F (asL (addL 0 (f_s_l15Fine_t0) (noL))) Try.f120 (f_s_l15Fine_a g0 h1 l2 m3) (f_s_l15Fine_i g0 h1 l2 m3) = f_s_l15Fine_k g0 h1 l2 m3 (fun r => some (f_s_l15Fine_en r)) := by kernel_rfl
theorem f_s_l15Fine_ok (g0 : List Sc) (h1 : List Sc) (l2 : List Sc) (m3 : List Sc) (r : Bool) (h : f_s_l15Fine g0 h1 l2 m3 = some r) : CS Try.prog 120 (f_s_l15Fine_a g0 h1 l2 m3) (f_s_l15Fine_i g0 h1 l2 m3) (f_s_l15Fine_en r).1 (f_s_l15Fine_en r).2 :=
  fn_true (Gk := fun k => f_s_l15Fine_k g0 h1 l2 m3 k) (en := f_s_l15Fine_en) Try.func120 E0ok f_s_l15Fine_Mt (addL_true (f_s_l15Fine_tt0) (noL_true)) f_s_l15Fine_o (f_s_l15Fine_e g0 h1 l2 m3) (f_s_l15Fine_p g0 h1 l2 m3) h
def f_s_l15Fine_c : CRow := fun args inh => match dec2 [.p .gr, .p .gr, .p .sl, .p .sl] [] args inh with
  | some ([.l g0, .l h1, .l l2, .l m3], []) => some ((f_s_l15Fine g0 h1 l2 m3).isSome, (f_s_l15Fine_en ((f_s_l15Fine g0 h1 l2 m3).getD false)).1, (f_s_l15Fine_en ((f_s_l15Fine g0 h1 l2 m3).getD false)).2)
  | _ => none
theorem f_s_l15Fine_cc : CTrue Try.prog 120 f_s_l15Fine_c := by
  intro args inh rs out h
  unfold f_s_l15Fine_c at h
  split at h
  · rename_i hd
    obtain ⟨h1, h2⟩ := dec2_enc hd
    rw [← h1, ← h2]
    exact rowC (f_s_l15Fine_ok _ _ _ _) h
  · cases h

def f_s_IsFreimanMap_F : Fi := { nv := 0, nc := 0, m := 0, vt := [], kl := [], sk := [], mvs := [], fz := [] }
def f_s_IsFreimanMap_a (g0 : List Sc) (h1 : List Sc) (l2 : List Sc) (m3 : List Sc) : List AV := enc [.p .gr, .p .gr, .p .sl, .p .sl] [.l g0, .l h1, .l l2, .l m3]
def f_s_IsFreimanMap_i (g0 : List Sc) (h1 : List Sc) (l2 : List Sc) (m3 : List Sc) : List AV := enc [] []
def f_s_IsFreimanMap_en (r : Bool) : List AV × List AV := (enc [.p .boo] [.b r], enc [] [])
def f_s_IsFreimanMap_M : Calling := addC 120 f_s_l15Fine_c (addC 92 f_s_l15Keeps_c (noC))
theorem f_s_IsFreimanMap_Mt : CallOk Try.prog (f_s_IsFreimanMap_M) := addC_true f_s_l15Fine_cc (addC_true f_s_l15Keeps_cc (noC_true))
theorem f_s_IsFreimanMap_o : loopsOnce Try.f108 = true := by kernel_rfl
theorem f_s_IsFreimanMap_p {R : Type} (g0 : List Sc) (h1 : List Sc) (l2 : List Sc) (m3 : List Sc) (kR : Bool → Option R) : f_s_IsFreimanMap_k g0 h1 l2 m3 kR = (f_s_IsFreimanMap_k g0 h1 l2 m3 some).bind kR := by
  simp only [f_s_IsFreimanMap_k, brB, boB, someB]
theorem f_s_IsFreimanMap_e (g0 : List Sc) (h1 : List Sc) (l2 : List Sc) (m3 : List Sc) : runFn E0 f_s_IsFreimanMap_M H0 f_s_IsFreimanMap_F (asL (noL)) Try.f108 (f_s_IsFreimanMap_a g0 h1 l2 m3) (f_s_IsFreimanMap_i g0 h1 l2 m3) = f_s_IsFreimanMap_k g0 h1 l2 m3 (fun r => some (f_s_IsFreimanMap_en r)) := by kernel_rfl
theorem f_s_IsFreimanMap_ok (g0 : List Sc) (h1 : List Sc) (l2 : List Sc) (m3 : List Sc) (r : Bool) (h : f_s_IsFreimanMap g0 h1 l2 m3 = some r) : CS Try.prog 108 (f_s_IsFreimanMap_a g0 h1 l2 m3) (f_s_IsFreimanMap_i g0 h1 l2 m3) (f_s_IsFreimanMap_en r).1 (f_s_IsFreimanMap_en r).2 :=
  fn_true (Gk := fun k => f_s_IsFreimanMap_k g0 h1 l2 m3 k) (en := f_s_IsFreimanMap_en) Try.func108 E0ok f_s_IsFreimanMap_Mt (noL_true) f_s_IsFreimanMap_o (f_s_IsFreimanMap_e g0 h1 l2 m3) (f_s_IsFreimanMap_p g0 h1 l2 m3) h
def f_s_IsFreimanMap_c : CRow := fun args inh => match dec2 [.p .gr, .p .gr, .p .sl, .p .sl] [] args inh with
  | some ([.l g0, .l h1, .l l2, .l m3], []) => some ((f_s_IsFreimanMap g0 h1 l2 m3).isSome, (f_s_IsFreimanMap_en ((f_s_IsFreimanMap g0 h1 l2 m3).getD false)).1, (f_s_IsFreimanMap_en ((f_s_IsFreimanMap g0 h1 l2 m3).getD false)).2)
  | _ => none
theorem f_s_IsFreimanMap_cc : CTrue Try.prog 108 f_s_IsFreimanMap_c := by
  intro args inh rs out h
  unfold f_s_IsFreimanMap_c at h
  split at h
  · rename_i hd
    obtain ⟨h1, h2⟩ := dec2_enc hd
    rw [← h1, ← h2]
    exact rowC (f_s_IsFreimanMap_ok _ _ _ _) h
  · cases h

def f_s_IsFreimanIso_F : Fi := { nv := 0, nc := 0, m := 0, vt := [], kl := [], sk := [], mvs := [], fz := [] }
def f_s_IsFreimanIso_a (g0 : List Sc) (h1 : List Sc) (l2 : List Sc) (m3 : List Sc) : List AV := enc [.p .gr, .p .gr, .p .sl, .p .sl] [.l g0, .l h1, .l l2, .l m3]
def f_s_IsFreimanIso_i (g0 : List Sc) (h1 : List Sc) (l2 : List Sc) (m3 : List Sc) : List AV := enc [] []
def f_s_IsFreimanIso_en (r : Bool) : List AV × List AV := (enc [.p .boo] [.b r], enc [] [])
def f_s_IsFreimanIso_M : Calling := addC 108 f_s_IsFreimanMap_c (noC)
theorem f_s_IsFreimanIso_Mt : CallOk Try.prog (f_s_IsFreimanIso_M) := addC_true f_s_IsFreimanMap_cc (noC_true)
theorem f_s_IsFreimanIso_o : loopsOnce Try.f102 = true := by kernel_rfl
theorem f_s_IsFreimanIso_p {R : Type} (g0 : List Sc) (h1 : List Sc) (l2 : List Sc) (m3 : List Sc) (kR : Bool → Option R) : f_s_IsFreimanIso_k g0 h1 l2 m3 kR = (f_s_IsFreimanIso_k g0 h1 l2 m3 some).bind kR := by
  simp only [f_s_IsFreimanIso_k, brB, boB, someB]
theorem f_s_IsFreimanIso_e (g0 : List Sc) (h1 : List Sc) (l2 : List Sc) (m3 : List Sc) : runFn E0 f_s_IsFreimanIso_M H0 f_s_IsFreimanIso_F (asL (noL)) Try.f102 (f_s_IsFreimanIso_a g0 h1 l2 m3) (f_s_IsFreimanIso_i g0 h1 l2 m3) = f_s_IsFreimanIso_k g0 h1 l2 m3 (fun r => some (f_s_IsFreimanIso_en r)) := by kernel_rfl
theorem f_s_IsFreimanIso_ok (g0 : List Sc) (h1 : List Sc) (l2 : List Sc) (m3 : List Sc) (r : Bool) (h : f_s_IsFreimanIso g0 h1 l2 m3 = some r) : CS Try.prog 102 (f_s_IsFreimanIso_a g0 h1 l2 m3) (f_s_IsFreimanIso_i g0 h1 l2 m3) (f_s_IsFreimanIso_en r).1 (f_s_IsFreimanIso_en r).2 :=
  fn_true (Gk := fun k => f_s_IsFreimanIso_k g0 h1 l2 m3 k) (en := f_s_IsFreimanIso_en) Try.func102 E0ok f_s_IsFreimanIso_Mt (noL_true) f_s_IsFreimanIso_o (f_s_IsFreimanIso_e g0 h1 l2 m3) (f_s_IsFreimanIso_p g0 h1 l2 m3) h
def f_s_IsFreimanIso_c : CRow := fun args inh => match dec2 [.p .gr, .p .gr, .p .sl, .p .sl] [] args inh with
  | some ([.l g0, .l h1, .l l2, .l m3], []) => some ((f_s_IsFreimanIso g0 h1 l2 m3).isSome, (f_s_IsFreimanIso_en ((f_s_IsFreimanIso g0 h1 l2 m3).getD false)).1, (f_s_IsFreimanIso_en ((f_s_IsFreimanIso g0 h1 l2 m3).getD false)).2)
  | _ => none
theorem f_s_IsFreimanIso_cc : CTrue Try.prog 102 f_s_IsFreimanIso_c := by
  intro args inh rs out h
  unfold f_s_IsFreimanIso_c at h
  split at h
  · rename_i hd
    obtain ⟨h1, h2⟩ := dec2_enc hd
    rw [← h1, ← h2]
    exact rowC (f_s_IsFreimanIso_ok _ _ _ _) h
  · cases h

def f_s_l15Find_F : Fi := { nv := 0, nc := 0, m := 0, vt := [], kl := [(0, ([0, 1, 7, 8, 9, 10, 11, 14, 15, 16, 17, 18, 19, 20, 21, 22, 23, 24, 25, 26, 27, 28, 29, 30, 31, 32, 33, 34, 35, 36, 37, 38, 39, 40, 41, 42, 43, 44, 45, 46, 47, 48, 49, 50, 51, 52, 53, 54, 55, 56, 57, 58, 59, 60, 61, 62, 63, 64, 65, 66, 67, 68, 69, 70, 71, 72, 73, 74, 75, 76, 77], [0, 1, 7, 8, 9, 10, 11, 14, 15, 16, 17, 18, 19, 20, 21, 22, 23, 24, 25, 26, 27, 28, 29, 30, 31, 32, 33, 34, 35, 36, 37, 38, 39, 40, 41, 42, 43, 44, 45, 46, 47, 48, 49, 50, 51, 52, 53, 54, 55, 56, 57, 58, 59, 60, 61, 62, 63, 64, 65, 66, 67, 68, 69, 70, 71, 72, 73, 74, 75, 76, 77], [0, 1, 2, 3, 4, 5, 6, 7, 8, 9, 12, 13, 14, 15, 16, 17, 18, 19, 20, 21, 22, 23, 24, 25, 26, 27, 28, 29, 30, 31, 32, 33, 34, 35, 36, 37, 38, 39, 40, 41, 42, 43, 44, 45, 46, 47, 48, 49, 50, 51, 52, 53, 54, 55, 56, 57, 58, 59, 60, 61, 62, 63, 64, 65, 66, 67, 68, 69, 70, 71, 72, 73, 74, 75, 76, 77]))], sk := [], mvs := [], fz := [], so := true }
def f_s_l15Find_a (L0 : List Sc) (p1 : List Sc) (p2 : List Sc) (p3 : List Sc) (p4 : Int) : List AV := enc [.p .gr, .p .gr, .p .sl, .p .sl, .p (.int .i64)] [.l L0, .l p1, .l p2, .l p3, .i p4]
def f_s_l15Find_i (L0 : List Sc) (p1 : List Sc) (p2 : List Sc) (p3 : List Sc) (p4 : Int) : List AV := enc [] []
def f_s_l15Find_en (r : List Sc × Bool) : List AV × List AV := (enc [.p .sl, .p .boo] [.l r.1, .b r.2], enc [] [])
def f_s_l15Find_cs (self : (List Sc × List Sc × List Sc × List Sc × Int) → Option (List Sc × Bool)) : CRow := fun args inh => match dec2 [.p .gr, .p .gr, .p .sl, .p .sl, .p (.int .i64)] [] args inh with
  | some ([.l L0, .l p1, .l p2, .l p3, .i p4], []) => some ((self (L0, p1, p2, p3, p4)).isSome, (f_s_l15Find_en ((self (L0, p1, p2, p3, p4)).getD ([], false))).1, (f_s_l15Find_en ((self (L0, p1, p2, p3, p4)).getD ([], false))).2)
  | _ => none
theorem f_s_l15Find_cst (self : (List Sc × List Sc × List Sc × List Sc × Int) → Option (List Sc × Bool)) (hs : ∀ a r, self a = some r → CS Try.prog 86 (f_s_l15Find_a a.1 a.2.1 a.2.2.1 a.2.2.2.1 a.2.2.2.2) (f_s_l15Find_i a.1 a.2.1 a.2.2.1 a.2.2.2.1 a.2.2.2.2) (f_s_l15Find_en r).1 (f_s_l15Find_en r).2) : CTrue Try.prog 86 (f_s_l15Find_cs self) := by
  intro args inh rs out h
  unfold f_s_l15Find_cs at h
  split at h
  · rename_i hd
    obtain ⟨h1, h2⟩ := dec2_enc hd
    rw [← h1, ← h2]
    exact rowC (hs _) h
  · cases h
def f_s_l15Find_M (self : (List Sc × List Sc × List Sc × List Sc × Int) → Option (List Sc × Bool)) : Calling := addC 86 (f_s_l15Find_cs self) (addC 102 f_s_IsFreimanIso_c (addC 62 f_s_l3List_c (addC 77 f_s_SetOf_c (addC 92 f_s_l15Keeps_c (noC)))))
theorem f_s_l15Find_Mt (self : (List Sc × List Sc × List Sc × List Sc × Int) → Option (List Sc × Bool)) (hs : ∀ a r, self a = some r → CS Try.prog 86 (f_s_l15Find_a a.1 a.2.1 a.2.2.1 a.2.2.2.1 a.2.2.2.2) (f_s_l15Find_i a.1 a.2.1 a.2.2.1 a.2.2.2.1 a.2.2.2.2) (f_s_l15Find_en r).1 (f_s_l15Find_en r).2) : CallOk Try.prog (f_s_l15Find_M self) := addC_true (f_s_l15Find_cst self hs) (addC_true f_s_IsFreimanIso_cc (addC_true f_s_l3List_cc (addC_true f_s_SetOf_cc (addC_true f_s_l15Keeps_cc (noC_true)))))
theorem f_s_l15Find_o : loopsOnce Try.f86 = true := by kernel_rfl
def f_s_l15Find_h0 : List Sh := [.u, .u, .p .sl, .p .sl, .p (.int .i64), .p .el, .p .el, .u, .u, .u, .u, .u, .own 3, .p (.int .i64), .u, .u, .u, .u, .u, .u, .u, .u, .u, .u, .u, .u, .u, .u, .u, .u, .u, .u, .u, .u, .u, .u, .u, .u, .u, .u, .u, .u, .u, .u, .u, .u, .u, .u, .u, .u, .u, .u, .u, .u, .u, .u, .u, .u, .u, .u, .u, .u, .u, .u, .u, .u, .u, .u, .u, .u, .u, .u, .u, .u, .u, .u, .u, .u]
def f_s_l15Find_fr0 (self : (List Sc × List Sc × List Sc × List Sc × Int) → Option (List Sc × Bool)) (t2 : List Sc) (t3 : List Sc) (t4 : Int) (t5 : List Sc) (t6 : List Sc) (s : List Sc × Int) : List AV := enc f_s_l15Find_h0 [.l t2, .l t3, .i t4, .l t5, .l t6, .l s.1, .i s.2]
def f_s_l15Find_g0_1 : List Sh := [.u, .u, .p .sl, .p .sl, .p (.int .i64), .p .el, .p .el, .u, .u, .u, .u, .u, .own 3, .p (.int .i64), .u, .u, .u, .u, .u, .u, .u, .u, .u, .u, .u, .u, .u, .u, .u, .u, .u, .u, .u, .u, .u, .u, .u, .u, .u, .u, .u, .u, .u, .u, .u, .u, .u, .u, .u, .u, .u, .u, .u, .u, .u, .u, .u, .u, .u, .u, .u, .u, .u, .u, .u, .u, .u, .u, .u, .u, .u, .u, .u, .u, .u, .u, .u, .u]
def f_s_l15Find_x0_1 (self : (List Sc × List Sc × List Sc × List Sc × Int) → Option (List Sc × Bool)) (t2 : List Sc) (t3 : List Sc) (t4 : Int) (t5 : List Sc) (t6 : List Sc) (e : List Sc × Int) : X × List AV := (.out 0, enc f_s_l15Find_g0_1 [.l t2, .l t3, .i t4, .l t5, .l t6, .l e.1, .i e.2])
def f_s_l15Find_g0_2 : List Sh := [.u, .u, .u, .u, .u, .u, .u, .u, .u, .u, .p .sl, .p .boo, .u, .u, .u, .u, .u, .u, .u, .u, .u, .u, .u, .u, .u, .u, .u, .u, .u, .u, .u, .u, .u, .u, .u, .u, .u, .u, .u, .u, .u, .u, .u, .u, .u, .u, .u, .u, .u, .u, .u, .u, .u, .u, .u, .u, .u, .u, .u, .u, .u, .u, .u, .u, .u, .u, .u, .u, .u, .u, .u, .u, .u, .u, .u, .u, .u, .u]
def f_s_l15Find_x0_2 (self : (List Sc × List Sc × List Sc × List Sc × Int) → Option (List Sc × Bool)) (t2 : List Sc) (t3 : List Sc) (t4 : Int) (t5 : List Sc) (t6 : List Sc) (e : List Sc) : X × List AV := (.ret, enc f_s_l15Find_g0_2 [.l e, .b true])
theorem f_s_l15Find_p0 {R : Type} (self : (List Sc × List Sc × List Sc × List Sc × Int) → Option (List Sc × Bool)) (t2 : List Sc) (t3 : List Sc) (t4 : Int) (t5 : List Sc) (t6 : List Sc) (s : List Sc × Int) (kN : List Sc × Int → Option R) (kA : List Sc × Int → Option R) (kB : List Sc → Option R) : f_s_l15Find_k0 self t2 t3 t4 t5 t6 s.1 s.2 kN kA kB = (f_s_l15Find_r0 self t2 t3 t4 t5 t6 s).bind (Ro.el kN kA kB) := by
  simp only [f_s_l15Find_k0, f_s_l15Find_r0, brB, boB, someB, noneB, Ro.el]
theorem f_s_l15Find_e0 (self : (List Sc × List Sc × List Sc × List Sc × Int) → Option (List Sc × Bool)) (t2 : List Sc) (t3 : List Sc) (t4 : Int) (t5 : List Sc) (t6 : List Sc) (s : List Sc × Int) : EC E0 (f_s_l15Find_M self) H0 f_s_l15Find_F (asL (noL)) 0 (bodyOf Try.f86 0) (f_s_l15Find_fr0 self t2 t3 t4 t5 t6 s) (done (klOf f_s_l15Find_F 0)) = f_s_l15Find_k0 self t2 t3 t4 t5 t6 s.1 s.2 (fun s => some (.norm, f_s_l15Find_fr0 self t2 t3 t4 t5 t6 s)) (fun e => some (f_s_l15Find_x0_1 self t2 t3 t4 t5 t6 e)) (fun e => some (f_s_l15Find_x0_2 self t2 t3 t4 t5 t6 e)) := by kernel_rfl
theorem f_s_l15Find_l0 (self : (List Sc × List Sc × List Sc × List Sc × Int) → Option (List Sc × Bool)) (hs : ∀ a r, self a = some r → CS Try.prog 86 (f_s_l15Find_a a.1 a.2.1 a.2.2.1 a.2.2.2.1 a.2.2.2.2) (f_s_l15Find_i a.1 a.2.1 a.2.2.1 a.2.2.2.1 a.2.2.2.2) (f_s_l15Find_en r).1 (f_s_l15Find_en r).2) (t2 : List Sc) (t3 : List Sc) (t4 : Int) (t5 : List Sc) (t6 : List Sc) : ∀ s r, loopL (f_s_l15Find_r0 self t2 t3 t4 t5 t6) s = some r → LS Try.prog f_s_l15Find_F (bodyOf Try.f86 0) (f_s_l15Find_fr0 self t2 t3 t4 t5 t6 s) (enX (f_s_l15Find_x0_1 self t2 t3 t4 t5 t6) (f_s_l15Find_x0_2 self t2 t3 t4 t5 t6) r) :=
  loop_true E0ok (f_s_l15Find_Mt self hs) (noL_true) f_s_l15Find_o (fun _ h => by cases h) (fun _ h => by cases h) (fun s => (f_s_l15Find_e0 self t2 t3 t4 t5 t6 s).trans (f_s_l15Find_p0 self t2 t3 t4 t5 t6 s _ _ (fun e => some (f_s_l15Find_x0_2 self t2 t3 t4 t5 t6 e))))
def f_s_l15Find_t0 (self : (List Sc × List Sc × List Sc × List Sc × Int) → Option (List Sc × Bool)) (σ : List AV) : Option (Bool × Bool × (X × List AV) × (X × List AV)) := match dec f_s_l15Find_h0 σ with
  | some [.l t2, .l t3, .i t4, .l t5, .l t6, .l t12, .i t13] => some ((loopL (f_s_l15Find_r0 self t2 t3 t4 t5 t6) (t12, t13)).isSome, isOne (loopL (f_s_l15Find_r0 self t2 t3 t4 t5 t6) (t12, t13)), f_s_l15Find_x0_1 self t2 t3 t4 t5 t6 (getOne ([], 0) (loopL (f_s_l15Find_r0 self t2 t3 t4 t5 t6) (t12, t13))), f_s_l15Find_x0_2 self t2 t3 t4 t5 t6 (getTwo [] (loopL (f_s_l15Find_r0 self t2 t3 t4 t5 t6) (t12, t13))))
  | _ => none
theorem f_s_l15Find_tt0 (self : (List Sc × List Sc × List Sc × List Sc × Int) → Option (List Sc × Bool)) (hs : ∀ a r, self a = some r → CS Try.prog 86 (f_s_l15Find_a a.1 a.2.1 a.2.2.1 a.2.2.2.1 a.2.2.2.2) (f_s_l15Find_i a.1 a.2.1 a.2.2.1 a.2.2.2.1 a.2.2.2.2) (f_s_l15Find_en r).1 (f_s_l15Find_en r).2) : TTrue Try.prog f_s_l15Find_F Try.f86 0 (f_s_l15Find_t0 self) := by
  intro σ p r r' h
  unfold f_s_l15Find_t0 at h
  split at h
  · rename_i hd
    rw [← dec_enc hd]
    exact row2 (f_s_l15Find_l0 self hs _ _ _ _ _ _) h
  · cases h
theorem f_s_l15Find_p {R : Type} (self : (List Sc × List Sc × List Sc × List Sc × Int) → Option (List Sc × Bool)) (L0 : List Sc) (p1 : List Sc) (p2 : List Sc) (p3 : List Sc) (p4 : Int) (kR : List Sc × Bool → Option R) : f_s_l15Find_k self L0 p1 p2 p3 p4 kR = (f_s_l15Find_k self L0 p1 p2 p3 p4 some).bind kR := by
  simp only [f_s_l15Find_k, brB, boB, blB, someB]
theorem f_s_l15Find_e (self : (List Sc × List Sc × List Sc × List Sc × Int) → Option (List Sc × Bool)) (L0 : List Sc) (p1 : List Sc) (p2 : List Sc) (p3 : List Sc) (p4 : Int) : runFn E0 (f_s_l15Find_M self) H0 f_s_l15Find_F (asL (addL 0 (f_s_l15Find_t0 self) (noL))) Try.f86 (f_s_l15Find_a L0 p1 p2 p3 p4) (f_s_l15Find_i L0 p1 p2 p3 p4) = f_s_l15Find_k self L0 p1 p2 p3 p4 (fun r => some (f_s_l15Find_en r)) := by kernel_rfl
theorem f_s_l15Find_ks (self : (List Sc × List Sc × List Sc × List Sc × Int) → Option (List Sc × Bool)) (hs : ∀ a r, self a = some r → CS Try.prog 86 (f_s_l15Find_a a.1 a.2.1 a.2.2.1 a.2.2.2.1 a.2.2.2.2) (f_s_l15Find_i a.1 a.2.1 a.2.2.1 a.2.2.2.1 a.2.2.2.2) (f_s_l15Find_en r).1 (f_s_l15Find_en r).2) (L0 : List Sc) (p1 : List Sc) (p2 : List Sc) (p3 : List Sc) (p4 : Int) (r : List Sc × Bool) (h : f_s_l15Find_k self L0 p1 p2 p3 p4 some = some r) : CS Try.prog 86 (f_s_l15Find_a L0 p1 p2 p3 p4) (f_s_l15Find_i L0 p1 p2 p3 p4) (f_s_l15Find_en r).1 (f_s_l15Find_en r).2 :=
  fn_true (Gk := fun k => f_s_l15Find_k self L0 p1 p2 p3 p4 k) (en := f_s_l15Find_en) Try.func86 E0ok (f_s_l15Find_Mt self hs) (addL_true (f_s_l15Find_tt0 self hs) (noL_true)) f_s_l15Find_o (f_s_l15Find_e self L0 p1 p2 p3 p4) (f_s_l15Find_p self L0 p1 p2 p3 p4) h
theorem f_s_l15Find_ns : ∀ n a r, f_s_l15Find_n n a = some r → CS Try.prog 86 (f_s_l15Find_a a.1 a.2.1 a.2.2.1 a.2.2.2.1 a.2.2.2.2) (f_s_l15Find_i a.1 a.2.1 a.2.2.1 a.2.2.2.1 a.2.2.2.2) (f_s_l15Find_en r).1 (f_s_l15Find_en r).2
  | 0, _, _, h => by cases h
  | n + 1, a, r, h => f_s_l15Find_ks (f_s_l15Find_n n) (f_s_l15Find_ns n) a.1 a.2.1 a.2.2.1 a.2.2.2.1 a.2.2.2.2 r h
theorem f_s_l15Find_ok (L0 : List Sc) (p1 : List Sc) (p2 : List Sc) (p3 : List Sc) (p4 : Int) (r : List Sc × Bool) (h : f_s_l15Find L0 p1 p2 p3 p4 = some r) : CS Try.prog 86 (f_s_l15Find_a L0 p1 p2 p3 p4) (f_s_l15Find_i L0 p1 p2 p3 p4) (f_s_l15Find_en r).1 (f_s_l15Find_en r).2 := by
  obtain ⟨n, hn⟩ := limF_some h
  exact f_s_l15Find_ns n _ r hn
def f_s_l15Find_c : CRow := fun args inh => match dec2 [.p .gr, .p .gr, .p .sl, .p .sl, .p (.int .i64)] [] args inh with
  | some ([.l L0, .l p1, .l p2, .l p3, .i p4], []) => some ((f_s_l15Find L0 p1 p2 p3 p4).isSome, (f_s_l15Find_en ((f_s_l15Find L0 p1 p2 p3 p4).getD ([], false))).1, (f_s_l15Find_en ((f_s_l15Find L0 p1 p2 p3 p4).getD ([], false))).2)
  | _ => none
theorem f_s_l15Find_cc : CTrue Try.prog 86 f_s_l15Find_c := by
  intro args inh rs out h
  unfold f_s_l15Find_c at h
  split at h
  · rename_i hd
    obtain ⟨h1, h2⟩ := dec2_enc hd
    rw [← h1, ← h2]
    exact rowC (f_s_l15Find_ok _ _ _ _ _) h
  · cases h

def f_s_FindFreimanIso_F : Fi := { nv := 0, nc := 0, m := 0, vt := [], kl := [], sk := [], mvs := [], fz := [], so := true }
def f_s_FindFreimanIso_a (g0 : List Sc) (h1 : List Sc) (a2 : Int) (b3 : Int) : List AV := enc [.p .gr, .p .gr, .p (.int .i64), .p (.int .i64)] [.l g0, .l h1, .i a2, .i b3]
def f_s_FindFreimanIso_i (g0 : List Sc) (h1 : List Sc) (a2 : Int) (b3 : Int) : List AV := enc [] []
def f_s_FindFreimanIso_en (r : List Sc × Bool) : List AV × List AV := (enc [.p .sl, .p .boo] [.l r.1, .b r.2], enc [] [])
def f_s_FindFreimanIso_M : Calling := addC 59 f_s_IsSet_c (addC 60 f_s_l3Bits_c (addC 50 f_s_l1In_c (addC 62 f_s_l3List_c (addC 86 f_s_l15Find_c (noC)))))
theorem f_s_FindFreimanIso_Mt : CallOk Try.prog (f_s_FindFreimanIso_M) := addC_true f_s_IsSet_cc (addC_true f_s_l3Bits_cc (addC_true f_s_l1In_cc (addC_true f_s_l3List_cc (addC_true f_s_l15Find_cc (noC_true)))))
theorem f_s_FindFreimanIso_o : loopsOnce Try.f41 = true := by kernel_rfl
theorem f_s_FindFreimanIso_p {R : Type} (g0 : List Sc) (h1 : List Sc) (a2 : Int) (b3 : Int) (kR : List Sc × Bool → Option R) : f_s_FindFreimanIso_k g0 h1 a2 b3 kR = (f_s_FindFreimanIso_k g0 h1 a2 b3 some).bind kR := by
  simp only [f_s_FindFreimanIso_k, brB, boB, someB]
theorem f_s_FindFreimanIso_e (g0 : List Sc) (h1 : List Sc) (a2 : Int) (b3 : Int) : runFn E0 f_s_FindFreimanIso_M H0 f_s_FindFreimanIso_F (asL (noL)) Try.f41 (f_s_FindFreimanIso_a g0 h1 a2 b3) (f_s_FindFreimanIso_i g0 h1 a2 b3) = f_s_FindFreimanIso_k g0 h1 a2 b3 (fun r => some (f_s_FindFreimanIso_en r)) := by kernel_rfl
theorem f_s_FindFreimanIso_ok (g0 : List Sc) (h1 : List Sc) (a2 : Int) (b3 : Int) (r : List Sc × Bool) (h : f_s_FindFreimanIso g0 h1 a2 b3 = some r) : CS Try.prog 41 (f_s_FindFreimanIso_a g0 h1 a2 b3) (f_s_FindFreimanIso_i g0 h1 a2 b3) (f_s_FindFreimanIso_en r).1 (f_s_FindFreimanIso_en r).2 :=
  fn_true (Gk := fun k => f_s_FindFreimanIso_k g0 h1 a2 b3 k) (en := f_s_FindFreimanIso_en) Try.func41 E0ok f_s_FindFreimanIso_Mt (noL_true) f_s_FindFreimanIso_o (f_s_FindFreimanIso_e g0 h1 a2 b3) (f_s_FindFreimanIso_p g0 h1 a2 b3) h
def f_s_FindFreimanIso_c : CRow := fun args inh => match dec2 [.p .gr, .p .gr, .p (.int .i64), .p (.int .i64)] [] args inh with
  | some ([.l g0, .l h1, .i a2, .i b3], []) => some ((f_s_FindFreimanIso g0 h1 a2 b3).isSome, (f_s_FindFreimanIso_en ((f_s_FindFreimanIso g0 h1 a2 b3).getD ([], false))).1, (f_s_FindFreimanIso_en ((f_s_FindFreimanIso g0 h1 a2 b3).getD ([], false))).2)
  | _ => none
theorem f_s_FindFreimanIso_cc : CTrue Try.prog 41 f_s_FindFreimanIso_c := by
  intro args inh rs out h
  unfold f_s_FindFreimanIso_c at h
  split at h
  · rename_i hd
    obtain ⟨h1, h2⟩ := dec2_enc hd
    rw [← h1, ← h2]
    exact rowC (f_s_FindFreimanIso_ok _ _ _ _) h
  · cases h

def f_i_FindFreimanIso_1_F : Fi := { nv := 5, nc := 5, m := 5, vt := [], kl := [(0, ([6, 7, 8, 9, 12, 13, 14, 15, 16, 17, 18, 19, 20, 21, 22, 23, 24, 25, 26, 27, 28, 29, 30, 31, 35, 36, 37, 38, 39, 40, 41, 42, 43, 44, 45, 46, 47, 48, 49, 50, 51, 52, 53, 54, 55, 56, 57, 58, 59, 60], [6, 7, 8, 9, 12, 13, 14, 15, 16, 17, 18, 19, 20, 21, 22, 23, 24, 25, 26, 27, 28, 29, 30, 31, 35, 36, 37, 38, 39, 40, 41, 42, 43, 44, 45, 46, 47, 48, 49, 50, 51, 52, 53, 54, 55, 56, 57, 58, 59, 60], [5, 6, 7, 8, 9, 10, 11, 13, 14, 15, 16, 17, 18, 19, 20, 21, 22, 23, 24, 25, 26, 27, 28, 29, 30, 31, 32, 33, 34, 35, 36, 37, 38, 39, 40, 41, 42, 43, 44, 45, 46, 47, 48, 49, 50, 51, 52, 53, 54, 55, 56, 57, 58, 59, 60]))], sk := [54], mvs := [], fz := [] }
def f_i_FindFreimanIso_1_a (p2 : List Sc) (p3 : List Sc) (h0 : List Sc) (h1 : List Sc) (h2 : List Sc) (h3 : Int) (h4_0 : List Sc) (h4_1 : List Sc) : List AV := enc [.p (.pt 0 1), .p (.pt 1 1), .p .el, .p .el, .p (.pt 2 1), .p (.pt 3 1), .p (.pt 4 1)] [.l p2, .l p3]
def f_i_FindFreimanIso_1_i (p2 : List Sc) (p3 : List Sc) (h0 : List Sc) (h1 : List Sc) (h2 : List Sc) (h3 : Int) (h4_0 : List Sc) (h4_1 : List Sc) : List AV := enc [.own 3, .fr 3, .fr 3, .p (.int .i64), .fn 87 [.pt 0 1, .pt 1 1, .el, .el, .pt 2 1, .pt 3 1, .pt 4 1]] [.l h0, .l h1, .l h2, .i h3, .l h4_0, .l h4_1]
def f_i_FindFreimanIso_1_en (r : Bool × List Sc × List Sc × List Sc × Int × List Sc × List Sc) : List AV × List AV := (enc [.p .boo] [.b r.1], enc [.own 3, .fr 3, .fr 3, .p (.int .i64), .fn 87 [.pt 0 1, .pt 1 1, .el, .el, .pt 2 1, .pt 3 1, .pt 4 1]] [.l r.2.1, .l r.2.2.1, .l r.2.2.2.1, .i r.2.2.2.2.1, .l r.2.2.2.2.2.1, .l r.2.2.2.2.2.2])
def f_i_FindFreimanIso_1_cs (self : (List Sc × List Sc × List Sc × List Sc × List Sc × Int × List Sc × List Sc) → Option (Bool × List Sc × List Sc × List Sc × Int × List Sc × List Sc)) : CRow := fun args inh => match dec2 [.p (.pt 0 1), .p (.pt 1 1), .p .el, .p .el, .p (.pt 2 1), .p (.pt 3 1), .p (.pt 4 1)] [.own 3, .fr 3, .fr 3, .p (.int .i64), .fn 87 [.pt 0 1, .pt 1 1, .el, .el, .pt 2 1, .pt 3 1, .pt 4 1]] args inh with
  | some ([.l p2, .l p3], [.l h0, .l h1, .l h2, .i h3, .l h4_0, .l h4_1]) => some ((self (p2, p3, h0, h1, h2, h3, h4_0, h4_1)).isSome, (f_i_FindFreimanIso_1_en ((self (p2, p3, h0, h1, h2, h3, h4_0, h4_1)).getD (false, [], [], [], 0, [], []))).1, (f_i_FindFreimanIso_1_en ((self (p2, p3, h0, h1, h2, h3, h4_0, h4_1)).getD (false, [], [], [], 0, [], []))).2)
  | _ => none
theorem f_i_FindFreimanIso_1_cst (self : (List Sc × List Sc × List Sc × List Sc × List Sc × Int × List Sc × List Sc) → Option (Bool × List Sc × List Sc × List Sc × Int × List Sc × List Sc)) (hs : ∀ a r, self a = some r → CS Try.prog 87 (f_i_FindFreimanIso_1_a a.1 a.2.1 a.2.2.1 a.2.2.2.1 a.2.2.2.2.1 a.2.2.2.2.2.1 a.2.2.2.2.2.2.1 a.2.2.2.2.2.2.2) (f_i_FindFreimanIso_1_i a.1 a.2.1 a.2.2.1 a.2.2.2.1 a.2.2.2.2.1 a.2.2.2.2.2.1 a.2.2.2.2.2.2.1 a.2.2.2.2.2.2.2) (f_i_FindFreimanIso_1_en r).1 (f_i_FindFreimanIso_1_en r).2) : CTrue Try.prog 87 (f_i_FindFreimanIso_1_cs self) := by
  intro args inh rs out h
  unfold f_i_FindFreimanIso_1_cs at h
  split at h
  · rename_i hd
    obtain ⟨h1, h2⟩ := dec2_enc hd
    rw [← h1, ← h2]
    exact rowC (hs _) h
  · cases h
def f_i_FindFreimanIso_1_M (self : (List Sc × List Sc × List Sc × List Sc × List Sc × Int × List Sc × List Sc) → Option (Bool × List Sc × List Sc × List Sc × Int × List Sc × List Sc)) : Calling := addC 87 (f_i_FindFreimanIso_1_cs self) (addC 67 f_i_keeps_c (addC 83 f_i_in_c (noC)))
theorem f_i_FindFreimanIso_1_Mt (self : (List Sc × List Sc × List Sc × List Sc × List Sc × Int × List Sc × List Sc) → Option (Bool × List Sc × List Sc × List Sc × Int × List Sc × List Sc)) (hs : ∀ a r, self a = some r → CS Try.prog 87 (f_i_FindFreimanIso_1_a a.1 a.2.1 a.2.2.1 a.2.2.2.1 a.2.2.2.2.1 a.2.2.2.2.2.1 a.2.2.2.2.2.2.1 a.2.2.2.2.2.2.2) (f_i_FindFreimanIso_1_i a.1 a.2.1 a.2.2.1 a.2.2.2.1 a.2.2.2.2.1 a.2.2.2.2.2.1 a.2.2.2.2.2.2.1 a.2.2.2.2.2.2.2) (f_i_FindFreimanIso_1_en r).1 (f_i_FindFreimanIso_1_en r).2) : CallOk Try.prog (f_i_FindFreimanIso_1_M self) := addC_true (f_i_FindFreimanIso_1_cst self hs) (addC_true f_i_keeps_cc (addC_true f_i_in_cc (noC_true)))
theorem f_i_FindFreimanIso_1_o : loopsOnce Try.f87 = true := by kernel_rfl
def f_i_FindFreimanIso_1_h0 : List Sh := [.own 3, .fr 3, .fr 3, .p (.int .i64), .fn 87 [.pt 0 1, .pt 1 1, .el, .el, .pt 2 1, .pt 3 1, .pt 4 1], .p (.pt 0 1), .u, .u, .u, .u, .p (.pt 3 1), .p (.pt 4 1), .u, .u, .u, .u, .u, .u, .u, .u, .u, .u, .u, .u, .u, .u, .u, .u, .u, .u, .u, .u, .fr 3, .p (.int .i64), .p (.int .i64), .u, .u, .u, .u, .u, .u, .u, .u, .u, .u, .u, .u, .u, .u, .u, .u, .u, .u, .u, .u, .u, .u, .u, .u, .u, .u]
def f_i_FindFreimanIso_1_fr0 (self : (List Sc × List Sc × List Sc × List Sc × List Sc × Int × List Sc × List Sc) → Option (Bool × List Sc × List Sc × List Sc × Int × List Sc × List Sc)) (t27 : List Sc) (t28 : Int) (s : List Sc × List Sc × List Sc × Int × List Sc × List Sc × Int) : List AV := enc f_i_FindFreimanIso_1_h0 [.l s.1, .l s.2.1, .l s.2.2.1, .i s.2.2.2.1, .l s.2.2.2.2.1, .l s.2.2.2.2.2.1, .l t27, .i t28, .i s.2.2.2.2.2.2]
def f_i_FindFreimanIso_1_g0_1 : List Sh := [.own 3, .fr 3, .fr 3, .p (.int .i64), .fn 87 [.pt 0 1, .pt 1 1, .el, .el, .pt 2 1, .pt 3 1, .pt 4 1], .p (.pt 0 1), .u, .u, .u, .u, .p (.pt 3 1), .p (.pt 4 1), .u, .u, .u, .u, .u, .u, .u, .u, .u, .u, .u, .u, .u, .u, .u, .u, .u, .u, .u, .u, .fr 3, .p (.int .i64), .p (.int .i64), .u, .u, .u, .u, .u, .u, .u, .u, .u, .u, .u, .u, .u, .u, .u, .u, .u, .u, .u, .u, .u, .u, .u, .u, .u, .u]
def f_i_FindFreimanIso_1_x0_1 (self : (List Sc × List Sc × List Sc × List Sc × List Sc × Int × List Sc × List Sc) → Option (Bool × List Sc × List Sc × List Sc × Int × List Sc × List Sc)) (t27 : List Sc) (t28 : Int) (e : List Sc × List Sc × List Sc × Int × List Sc × List Sc × Int) : X × List AV := (.out 0, enc f_i_FindFreimanIso_1_g0_1 [.l e.1, .l e.2.1, .l e.2.2.1, .i e.2.2.2.1, .l e.2.2.2.2.1, .l e.2.2.2.2.2.1, .l t27, .i t28, .i e.2.2.2.2.2.2])
def f_i_FindFreimanIso_1_g0_2 : List Sh := [.own 3, .fr 3, .fr 3, .p (.int .i64), .fn 87 [.pt 0 1, .pt 1 1, .el, .el, .pt 2 1, .pt 3 1, .pt 4 1], .u, .u, .u, .u, .u, .u, .u, .p .boo, .u, .u, .u, .u, .u, .u, .u, .u, .u, .u, .u, .u, .u, .u, .u, .u, .u, .u, .u, .u, .u, .u, .u, .u, .u, .u, .u, .u, .u, .u, .u, .u, .u, .u, .u, .u, .u, .u, .u, .u, .u, .u, .u, .u, .u, .u, .u, .u]
def f_i_FindFreimanIso_1_x0_2 (self : (List Sc × List Sc × List Sc × List Sc × List Sc × Int × List Sc × List Sc) → Option (Bool × List Sc × List Sc × List Sc × Int × List Sc × List Sc)) (t27 : List Sc) (t28 : Int) (e : List Sc × List Sc × List Sc × Int × List Sc × List Sc) : X × List AV := (.ret, enc f_i_FindFreimanIso_1_g0_2 [.l e.1, .l e.2.1, .l e.2.2.1, .i e.2.2.2.1, .l e.2.2.2.2.1, .l e.2.2.2.2.2, .b true])
theorem f_i_FindFreimanIso_1_p0 {R : Type} (self : (List Sc × List Sc × List Sc × List Sc × List Sc × Int × List Sc × List Sc) → Option (Bool × List Sc × List Sc × List Sc × Int × List Sc × List Sc)) (t27 : List Sc) (t28 : Int) (s : List Sc × List Sc × List Sc × Int × List Sc × List Sc × Int) (kN : List Sc × List Sc × List Sc × Int × List Sc × List Sc × Int → Option R) (kA : List Sc × List Sc × List Sc × Int × List Sc × List Sc × Int → Option R) (kB : List Sc × List Sc × List Sc × Int × List Sc × List Sc → Option R) : f_i_FindFreimanIso_1_k0 self t27 t28 s.1 s.2.1 s.2.2.1 s.2.2.2.1 s.2.2.2.2.1 s.2.2.2.2.2.1 s.2.2.2.2.2.2 kN kA kB = (f_i_FindFreimanIso_1_r0 self t27 t28 s).bind (Ro.el kN kA kB) := by
  simp only [f_i_FindFreimanIso_1_k0, f_i_FindFreimanIso_1_r0, brB, boB, someB, noneB, Ro.el]
theorem f_i_FindFreimanIso_1_e0 (self : (List Sc × List Sc × List Sc × List Sc × List Sc × Int × List Sc × List Sc) → Option (Bool × List Sc × List Sc × List Sc × Int × List Sc × List Sc)) (t27 : List Sc) (t28 : Int) (s : List Sc × List Sc × List Sc × Int × List Sc × List Sc × Int) : EC E0 (f_i_FindFreimanIso_1_M self) H0 f_i_FindFreimanIso_1_F (asL (noL)) 0 (bodyOf Try.f87 0) (f_i_FindFreimanIso_1_fr0 self t27 t28 s) (done (klOf f_i_FindFreimanIso_1_F 0)) = f_i_FindFreimanIso_1_k0 self t27 t28 s.1 s.2.1 s.2.2.1 s.2.2.2.1 s.2.2.2.2.1 s.2.2.2.2.2.1 s.2.2.2.2.2.2 (fun s => some (.norm, f_i_FindFreimanIso_1_fr0 self t27 t28 s)) (fun e => some (f_i_FindFreimanIso_1_x0_1 self t27 t28 e)) (fun e => some (f_i_FindFreimanIso_1_x0_2 self t27 t28 e)) := by kernel_rfl
theorem f_i_FindFreimanIso_1_l0 (self : (List Sc × List Sc × List Sc × List Sc × List Sc × Int × List Sc × List Sc) → Option (Bool × List Sc × List Sc × List Sc × Int × List Sc × List Sc)) (hs : ∀ a r, self a = some r → CS Try.prog 87 (f_i_FindFreimanIso_1_a a.1 a.2.1 a.2.2.1 a.2.2.2.1 a.2.2.2.2.1 a.2.2.2.2.2.1 a.2.2.2.2.2.2.1 a.2.2.2.2.2.2.2) (f_i_FindFreimanIso_1_i a.1 a.2.1 a.2.2.1 a.2.2.2.1 a.2.2.2.2.1 a.2.2.2.2.2.1 a.2.2.2.2.2.2.1 a.2.2.2.2.2.2.2) (f_i_FindFreimanIso_1_en r).1 (f_i_FindFreimanIso_1_en r).2) (t27 : List Sc) (t28 : Int) : ∀ s r, loopL (f_i_FindFreimanIso_1_r0 self t27 t28) s = some r → LS Try.prog f_i_FindFreimanIso_1_F (bodyOf Try.f87 0) (f_i_FindFreimanIso_1_fr0 self t27 t28 s) (enX (f_i_FindFreimanIso_1_x0_1 self t27 t28) (f_i_FindFreimanIso_1_x0_2 self t27 t28) r) :=
  loop_true E0ok (f_i_FindFreimanIso_1_Mt self hs) (noL_true) f_i_FindFreimanIso_1_o (fun _ h => by cases h) (fun _ h => by cases h) (fun s => (f_i_FindFreimanIso_1_e0 self t27 t28 s).trans (f_i_FindFreimanIso_1_p0 self t27 t28 s _ _ (fun e => some (f_i_FindFreimanIso_1_x0_2 self t27 t28 e))))
def f_i_FindFreimanIso_1_t0 (self : (List Sc × List Sc × List Sc × List Sc × List Sc × Int × List Sc × List Sc) → Option (Bool × List Sc × List Sc × List Sc × Int × List Sc × List Sc)) (σ : List AV) : Option (Bool × Bool × (X × List AV) × (X × List AV)) := match dec f_i_FindFreimanIso_1_h0 σ with
  | some [.l v0, .l v1, .l v2, .i v3, .l v4_0, .l v4_1, .l t27, .i t28, .i t29] => some ((loopL (f_i_FindFreimanIso_1_r0 self t27 t28) (v0, v1, v2, v3, v4_0, v4_1, t29)).isSome, isOne (loopL (f_i_FindFreimanIso_1_r0 self t27 t28) (v0, v1, v2, v3, v4_0, v4_1, t29)), f_i_FindFreimanIso_1_x0_1 self t27 t28 (getOne ([], [], [], 0, [], [], 0) (loopL (f_i_FindFreimanIso_1_r0 self t27 t28) (v0, v1, v2, v3, v4_0, v4_1, t29))), f_i_FindFreimanIso_1_x0_2 self t27 t28 (getTwo ([], [], [], 0, [], []) (loopL (f_i_FindFreimanIso_1_r0 self t27 t28) (v0, v1, v2, v3, v4_0, v4_1, t29))))
  | _ => none
theorem f_i_FindFreimanIso_1_tt0 (self : (List Sc × List Sc × List Sc × List Sc × List Sc × Int × List Sc × List Sc) → Option (Bool × List Sc × List Sc × List Sc × Int × List Sc × List Sc)) (hs : ∀ a r, self a = some r → CS Try.prog 87 (f_i_FindFreimanIso_1_a a.1 a.2.1 a.2.2.1 a.2.2.2.1 a.2.2.2.2.1 a.2.2.2.2.2.1 a.2.2.2.2.2.2.1 a.2.2.2.2.2.2.2) (f_i_FindFreimanIso_1_i a.1 a.2.1 a.2.2.1 a.2.2.2.1 a.2.2.2.2.1 a.2.2.2.2.2.1 a.2.2.2.2.2.2.1 a.2.2.2.2.2.2.2) (f_i_FindFreimanIso_1_en r).1 (f_i_FindFreimanIso_1_en r).2) : TTrue Try.prog f_i_FindFreimanIso_1_F Try.f87 0 (f_i_FindFreimanIso_1_t0 self) := by
  intro σ p r r' h
  unfold f_i_FindFreimanIso_1_t0 at h
  split at h
  · rename_i hd
    rw [← dec_enc hd]
    exact row2 (f_i_FindFreimanIso_1_l0 self hs _ _ _) h
  · cases h
theorem f_i_FindFreimanIso_1_p {R : Type} (self : (List Sc × List Sc × List Sc × List Sc × List Sc × Int × List Sc × List Sc) → Option (Bool × List Sc × List Sc × List Sc × Int × List Sc × List Sc)) (p2 : List Sc) (p3 : List Sc) (h0 : List Sc) (h1 : List Sc) (h2 : List Sc) (h3 : Int) (h4_0 : List Sc) (h4_1 : List Sc) (kR : Bool × List Sc × List Sc × List Sc × Int × List Sc × List Sc → Option R) : f_i_FindFreimanIso_1_k self p2 p3 h0 h1 h2 h3 h4_0 h4_1 kR = (f_i_FindFreimanIso_1_k self p2 p3 h0 h1 h2 h3 h4_0 h4_1 some).bind kR := by
  simp only [f_i_FindFreimanIso_1_k, brB, boB, blB, someB]
theorem f_i_FindFreimanIso_1_e (self : (List Sc × List Sc × List Sc × List Sc × List Sc × Int × List Sc × List Sc) → Option (Bool × List Sc × List Sc × List Sc × Int × List Sc × List Sc)) (p2 : List Sc) (p3 : List Sc) (h0 : List Sc) (h1 : List Sc) (h2 : List Sc) (h3 : Int) (h4_0 : List Sc) (h4_1 : List Sc) : runFn E0 (f_i_FindFreimanIso_1_M self) H0 f_i_FindFreimanIso_1_F (asL (addL 0 (f_i_FindFreimanIso_1_t0 self) (noL))) Try.f87 (f_i_FindFreimanIso_1_a p2 p3 h0 h1 h2 h3 h4_0 h4_1) (f_i_FindFreimanIso_1_i p2 p3 h0 h1 h2 h3 h4_0 h4_1) = f_i_FindFreimanIso_1_k self p2 p3 h0 h1 h2 h3 h4_0 h4_1 (fun r => some (f_i_FindFreimanIso_1_en r)) := by kernel_rfl
theorem f_i_FindFreimanIso_1_ks (self : (List Sc × List Sc × List Sc × List Sc × List Sc × Int × List Sc × List Sc) → Option (Bool × List Sc × List Sc × List Sc × Int × List Sc × List Sc)) (hs : ∀ a r, self a = some r → CS Try.prog 87 (f_i_FindFreimanIso_1_a a.1 a.2.1 a.2.2.1 a.2.2.2.1 a.2.2.2.2.1 a.2.2.2.2.2.1 a.2.2.2.2.2.2.1 a.2.2.2.2.2.2.2) (f_i_FindFreimanIso_1_i a.1 a.2.1 a.2.2.1 a.2.2.2.1 a.2.2.2.2.1 a.2.2.2.2.2.1 a.2.2.2.2.2.2.1 a.2.2.2.2.2.2.2) (f_i_FindFreimanIso_1_en r).1 (f_i_FindFreimanIso_1_en r).2) (p2 : List Sc) (p3 : List Sc) (h0 : List Sc) (h1 : List Sc) (h2 : List Sc) (h3 : Int) (h4_0 : List Sc) (h4_1 : List Sc) (r : Bool × List Sc × List Sc × List Sc × Int × List Sc × List Sc) (h : f_i_FindFreimanIso_1_k self p2 p3 h0 h1 h2 h3 h4_0 h4_1 some = some r) : CS Try.prog 87 (f_i_FindFreimanIso_1_a p2 p3 h0 h1 h2 h3 h4_0 h4_1) (f_i_FindFreimanIso_1_i p2 p3 h0 h1 h2 h3 h4_0 h4_1) (f_i_FindFreimanIso_1_en r).1 (f_i_FindFreimanIso_1_en r).2 :=
  fn_true (Gk := fun k => f_i_FindFreimanIso_1_k self p2 p3 h0 h1 h2 h3 h4_0 h4_1 k) (en := f_i_FindFreimanIso_1_en) Try.func87 E0ok (f_i_FindFreimanIso_1_Mt self hs) (addL_true (f_i_FindFreimanIso_1_tt0 self hs) (noL_true)) f_i_FindFreimanIso_1_o (f_i_FindFreimanIso_1_e self p2 p3 h0 h1 h2 h3 h4_0 h4_1) (f_i_FindFreimanIso_1_p self p2 p3 h0 h1 h2 h3 h4_0 h4_1) h
theorem f_i_FindFreimanIso_1_ns : ∀ n a r, f_i_FindFreimanIso_1_n n a = some r → CS Try.prog 87 (f_i_FindFreimanIso_1_a a.1 a.2.1 a.2.2.1 a.2.2.2.1 a.2.2.2.2.1 a.2.2.2.2.2.1 a.2.2.2.2.2.2.1 a.2.2.2.2.2.2.2) (f_i_FindFreimanIso_1_i a.1 a.2.1 a.2.2.1 a.2.2.2.1 a.2.2.2.2.1 a.2.2.2.2.2.1 a.2.2.2.2.2.2.1 a.2.2.2.2.2.2.2) (f_i_FindFreimanIso_1_en r).1 (f_i_FindFreimanIso_1_en r).2
  | 0, _, _, h => by cases h
  | n + 1, a, r, h => f_i_FindFreimanIso_1_ks (f_i_FindFreimanIso_1_n n) (f_i_FindFreimanIso_1_ns n) a.1 a.2.1 a.2.2.1 a.2.2.2.1 a.2.2.2.2.1 a.2.2.2.2.2.1 a.2.2.2.2.2.2.1 a.2.2.2.2.2.2.2 r h
theorem f_i_FindFreimanIso_1_ok (p2 : List Sc) (p3 : List Sc) (h0 : List Sc) (h1 : List Sc) (h2 : List Sc) (h3 : Int) (h4_0 : List Sc) (h4_1 : List Sc) (r : Bool × List Sc × List Sc × List Sc × Int × List Sc × List Sc) (h : f_i_FindFreimanIso_1 p2 p3 h0 h1 h2 h3 h4_0 h4_1 = some r) : CS Try.prog 87 (f_i_FindFreimanIso_1_a p2 p3 h0 h1 h2 h3 h4_0 h4_1) (f_i_FindFreimanIso_1_i p2 p3 h0 h1 h2 h3 h4_0 h4_1) (f_i_FindFreimanIso_1_en r).1 (f_i_FindFreimanIso_1_en r).2 := by
  obtain ⟨n, hn⟩ := limF_some h
  exact f_i_FindFreimanIso_1_ns n _ r hn
def f_i_FindFreimanIso_1_c : CRow := fun args inh => match dec2 [.p (.pt 0 1), .p (.pt 1 1), .p .el, .p .el, .p (.pt 2 1), .p (.pt 3 1), .p (.pt 4 1)] [.own 3, .fr 3, .fr 3, .p (.int .i64), .fn 87 [.pt 0 1, .pt 1 1, .el, .el, .pt 2 1, .pt 3 1, .pt 4 1]] args inh with
  | some ([.l p2, .l p3], [.l h0, .l h1, .l h2, .i h3, .l h4_0, .l h4_1]) => some ((f_i_FindFreimanIso_1 p2 p3 h0 h1 h2 h3 h4_0 h4_1).isSome, (f_i_FindFreimanIso_1_en ((f_i_FindFreimanIso_1 p2 p3 h0 h1 h2 h3 h4_0 h4_1).getD (false, [], [], [], 0, [], []))).1, (f_i_FindFreimanIso_1_en ((f_i_FindFreimanIso_1 p2 p3 h0 h1 h2 h3 h4_0 h4_1).getD (false, [], [], [], 0, [], []))).2)
  | _ => none
theorem f_i_FindFreimanIso_1_cc : CTrue Try.prog 87 f_i_FindFreimanIso_1_c := by
  intro args inh rs out h
  unfold f_i_FindFreimanIso_1_c at h
  split at h
  · rename_i hd
    obtain ⟨h1, h2⟩ := dec2_enc hd
    rw [← h1, ← h2]
    exact rowC (f_i_FindFreimanIso_1_ok _ _ _ _ _ _ _ _) h
  · cases h

def f_i_FindFreimanIso_F : Fi := { nv := 5, nc := 5, m := 0, vt := [(10, 0), (11, 1), (12, 2), (13, 3), (14, 4)], kl := [], sk := [], mvs := [], fz := [40, 42] }
def f_i_FindFreimanIso_a (g0 : List Sc) (h1 : List Sc) (a2 : Int) (b3 : Int) : List AV := enc [.p .gr, .p .gr, .p (.int .i64), .p (.int .i64)] [.l g0, .l h1, .i a2, .i b3]
def f_i_FindFreimanIso_i (g0 : List Sc) (h1 : List Sc) (a2 : Int) (b3 : Int) : List AV := enc [] []
def f_i_FindFreimanIso_en (r : List Sc × Bool) : List AV × List AV := (enc [.p (.al 0), .p .boo] [.b r.2], enc [.own 3] [.l r.1])
def f_i_FindFreimanIso_M : Calling := addC 63 f_i_IsSet_c (addC 64 f_i_bits_c (addC 54 f_i_within_c (addC 65 f_i_members_c (addC 87 f_i_FindFreimanIso_1_c (noC)))))
theorem f_i_FindFreimanIso_Mt : CallOk Try.prog (f_i_FindFreimanIso_M) := addC_true f_i_IsSet_cc (addC_true f_i_bits_cc (addC_true f_i_within_cc (addC_true f_i_members_cc (addC_true f_i_FindFreimanIso_1_cc (noC_true)))))
theorem f_i_FindFreimanIso_o : loopsOnce Try.f42 = true := by kernel_rfl
theorem f_i_FindFreimanIso_p {R : Type} (g0 : List Sc) (h1 : List Sc) (a2 : Int) (b3 : Int) (kR : List Sc × Bool → Option R) : f_i_FindFreimanIso_k g0 h1 a2 b3 kR = (f_i_FindFreimanIso_k g0 h1 a2 b3 some).bind kR := by
  simp only [f_i_FindFreimanIso_k, brB, boB, someB]
theorem f_i_FindFreimanIso_e (g0 : List Sc) (h1 : List Sc) (a2 : Int) (b3 : Int) : runFn E0 f_i_FindFreimanIso_M H0 f_i_FindFreimanIso_F (asL (noL)) Try.f42 (f_i_FindFreimanIso_a g0 h1 a2 b3) (f_i_FindFreimanIso_i g0 h1 a2 b3) = f_i_FindFreimanIso_k g0 h1 a2 b3 (fun r => some (f_i_FindFreimanIso_en r)) := by kernel_rfl
theorem f_i_FindFreimanIso_ok (g0 : List Sc) (h1 : List Sc) (a2 : Int) (b3 : Int) (r : List Sc × Bool) (h : f_i_FindFreimanIso g0 h1 a2 b3 = some r) : CS Try.prog 42 (f_i_FindFreimanIso_a g0 h1 a2 b3) (f_i_FindFreimanIso_i g0 h1 a2 b3) (f_i_FindFreimanIso_en r).1 (f_i_FindFreimanIso_en r).2 :=
  fn_true (Gk := fun k => f_i_FindFreimanIso_k g0 h1 a2 b3 k) (en := f_i_FindFreimanIso_en) Try.func42 E0ok f_i_FindFreimanIso_Mt (noL_true) f_i_FindFreimanIso_o (f_i_FindFreimanIso_e g0 h1 a2 b3) (f_i_FindFreimanIso_p g0 h1 a2 b3) h
def f_i_FindFreimanIso_c : CRow := fun args inh => match dec2 [.p .gr, .p .gr, .p (.int .i64), .p (.int .i64)] [] args inh with
  | some ([.l g0, .l h1, .i a2, .i b3], []) => some ((f_i_FindFreimanIso g0 h1 a2 b3).isSome, (f_i_FindFreimanIso_en ((f_i_FindFreimanIso g0 h1 a2 b3).getD ([], false))).1, (f_i_FindFreimanIso_en ((f_i_FindFreimanIso g0 h1 a2 b3).getD ([], false))).2)
  | _ => none
theorem f_i_FindFreimanIso_cc : CTrue Try.prog 42 f_i_FindFreimanIso_c := by
  intro args inh rs out h
  unfold f_i_FindFreimanIso_c at h
  split at h
  · rename_i hd
    obtain ⟨h1, h2⟩ := dec2_enc hd
    rw [← h1, ← h2]
    exact rowC (f_i_FindFreimanIso_ok _ _ _ _) h
  · cases h

def f_l_FnExactFindFreimanIso_F : Fi := { nv := 6, nc := 2, m := 0, vt := [(12, 0), (13, 1), (42, 2), (44, 3), (50, 4), (109, 5)], kl := [], sk := [], mvs := [2, 3, 4], fz := [] }
def f_l_FnExactFindFreimanIso_a (L0 : List Sc) (p1 : List Sc) (p2 : Int) (p3 : Int) : List AV := enc [.p .gr, .p .gr, .p (.int .i64), .p (.int .i64)] [.l L0, .l p1, .i p2, .i p3]
def f_l_FnExactFindFreimanIso_i (L0 : List Sc) (p1 : List Sc) (p2 : Int) (p3 : Int) : List AV := enc [] []
def f_l_FnExactFindFreimanIso_en (r : Bool) : List AV × List AV := (enc [.p .boo] [.b r], enc [] [])
def f_l_FnExactFindFreimanIso_M : Calling := addC 15 f_l_szGroup_c (addC 17 f_l_toGroup_c (addC 41 f_s_FindFreimanIso_c (addC 42 f_i_FindFreimanIso_c (addC 24 f_l_eqIntS_c (addC 19 f_l_eqGroup_c (addC 25 f_l_markGroup_io_c (addC 26 f_l_markIntS_io_c (addC 27 f_l_heldIntS_c (noC)))))))))
theorem f_l_FnExactFindFreimanIso_Mt : CallOk Try.prog (f_l_FnExactFindFreimanIso_M) := addC_true f_l_szGroup_cc (addC_true f_l_toGroup_cc (addC_true f_s_FindFreimanIso_cc (addC_true f_i_FindFreimanIso_cc (addC_true f_l_eqIntS_cc (addC_true f_l_eqGroup_cc (addC_true f_l_markGroup_io_cc (addC_true f_l_markIntS_io_cc (addC_true f_l_heldIntS_cc (noC_true)))))))))
theorem f_l_FnExactFindFreimanIso_o : loopsOnce Try.f12 = true := by kernel_rfl
theorem f_l_FnExactFindFreimanIso_p {R : Type} (L0 : List Sc) (p1 : List Sc) (p2 : Int) (p3 : Int) (kR : Bool → Option R) : f_l_FnExactFindFreimanIso_k L0 p1 p2 p3 kR = (f_l_FnExactFindFreimanIso_k L0 p1 p2 p3 some).bind kR := by
  simp only [f_l_FnExactFindFreimanIso_k, brB, boB, someB]
theorem f_l_FnExactFindFreimanIso_e (L0 : List Sc) (p1 : List Sc) (p2 : Int) (p3 : Int) : runFn E0 f_l_FnExactFindFreimanIso_M H0 f_l_FnExactFindFreimanIso_F (asL (noL)) Try.f12 (f_l_FnExactFindFreimanIso_a L0 p1 p2 p3) (f_l_FnExactFindFreimanIso_i L0 p1 p2 p3) = f_l_FnExactFindFreimanIso_k L0 p1 p2 p3 (fun r => some (f_l_FnExactFindFreimanIso_en r)) := by kernel_rfl
theorem f_l_FnExactFindFreimanIso_ok (L0 : List Sc) (p1 : List Sc) (p2 : Int) (p3 : Int) (r : Bool) (h : f_l_FnExactFindFreimanIso L0 p1 p2 p3 = some r) : CS Try.prog 12 (f_l_FnExactFindFreimanIso_a L0 p1 p2 p3) (f_l_FnExactFindFreimanIso_i L0 p1 p2 p3) (f_l_FnExactFindFreimanIso_en r).1 (f_l_FnExactFindFreimanIso_en r).2 :=
  fn_true (Gk := fun k => f_l_FnExactFindFreimanIso_k L0 p1 p2 p3 k) (en := f_l_FnExactFindFreimanIso_en) Try.func12 E0ok f_l_FnExactFindFreimanIso_Mt (noL_true) f_l_FnExactFindFreimanIso_o (f_l_FnExactFindFreimanIso_e L0 p1 p2 p3) (f_l_FnExactFindFreimanIso_p L0 p1 p2 p3) h
def f_l_FnExactFindFreimanIso_c : CRow := fun args inh => match dec2 [.p .gr, .p .gr, .p (.int .i64), .p (.int .i64)] [] args inh with
  | some ([.l L0, .l p1, .i p2, .i p3], []) => some ((f_l_FnExactFindFreimanIso L0 p1 p2 p3).isSome, (f_l_FnExactFindFreimanIso_en ((f_l_FnExactFindFreimanIso L0 p1 p2 p3).getD false)).1, (f_l_FnExactFindFreimanIso_en ((f_l_FnExactFindFreimanIso L0 p1 p2 p3).getD false)).2)
  | _ => none
theorem f_l_FnExactFindFreimanIso_cc : CTrue Try.prog 12 f_l_FnExactFindFreimanIso_c := by
  intro args inh rs out h
  unfold f_l_FnExactFindFreimanIso_c at h
  split at h
  · rename_i hd
    obtain ⟨h1, h2⟩ := dec2_enc hd
    rw [← h1, ← h2]
    exact rowC (f_l_FnExactFindFreimanIso_ok _ _ _ _) h
  · cases h
end
end Go.Proofs.Ytdlofeehgkijhaa
