/-
  That the program computes just that (printed by gen2.py).
-/
import Derived.Test.YtdocbpiocinllaaRuna
set_option linter.unusedVariables false
set_option linter.unusedSimpArgs false
namespace Go.Proofs.Ytdocbpiocinllaa
open Go Ev
noncomputable section
def f_i_zeroFree_AtomsOf_1_F : Fi := { nv := 1, nc := 1, m := 1, vt := [], kl := [(0, ([1, 6, 7, 8, 9, 11, 12, 13, 14, 15, 16, 17, 18, 19, 20, 21, 22, 23, 24, 25, 26, 27, 28, 29, 30, 31, 32, 33, 34, 35, 36, 37, 38, 39, 40, 41, 42, 43, 44, 45, 46, 47, 48, 49, 50, 51, 52], [1, 2, 3, 4, 5, 6, 7, 8, 9, 10, 11, 12, 13, 14, 15, 16, 17, 18, 19, 20, 21, 22, 23, 24, 25, 26, 27, 28, 29, 30, 31, 32, 33, 34, 35, 36, 37, 38, 39, 40, 41, 42, 43, 44, 45, 46, 47, 48, 49, 50, 51, 52], [1, 2, 3, 4, 5, 6, 7, 8, 9, 10, 11, 12, 13, 14, 15, 16, 17, 18, 19, 20, 21, 22, 23, 24, 25, 26, 27, 28, 29, 30, 31, 32, 33, 34, 35, 36, 37, 38, 39, 40, 41, 42, 43, 44, 45, 46, 47, 48, 49, 50, 51, 52]))], sk := [], mvs := [], fz := [] }
def f_i_zeroFree_AtomsOf_1_a (g0 : List Sc) (l1 : List Sc) (sums2 : Int) (visit3 : List Sc) (h0 : List Sc) : List AV := enc [.p .gr, .fr 3, .p (.int .i64), .fn 40 [.el, .pt 0 1]] [.l g0, .l l1, .i sums2, .l visit3]
def f_i_zeroFree_AtomsOf_1_i (g0 : List Sc) (l1 : List Sc) (sums2 : Int) (visit3 : List Sc) (h0 : List Sc) : List AV := enc [.own 1000022] [.l h0]
def f_i_zeroFree_AtomsOf_1_en (r : List Sc) : List AV × List AV := (enc [] [], enc [.own 1000022] [.l r])
def f_i_zeroFree_AtomsOf_1_cs (self : (List Sc × List Sc × Int × List Sc × List Sc) → Option (List Sc)) : CRow := fun args inh => match dec2 [.p .gr, .fr 3, .p (.int .i64), .fn 40 [.el, .pt 0 1]] [.own 1000022] args inh with
  | some ([.l g0, .l l1, .i sums2, .l visit3], [.l h0]) => some ((self (g0, l1, sums2, visit3, h0)).isSome, (f_i_zeroFree_AtomsOf_1_en ((self (g0, l1, sums2, visit3, h0)).getD [])).1, (f_i_zeroFree_AtomsOf_1_en ((self (g0, l1, sums2, visit3, h0)).getD [])).2)
  | _ => none
theorem f_i_zeroFree_AtomsOf_1_cst (self : (List Sc × List Sc × Int × List Sc × List Sc) → Option (List Sc)) (hs : ∀ a r, self a = some r → CS Try.prog 39 (f_i_zeroFree_AtomsOf_1_a a.1 a.2.1 a.2.2.1 a.2.2.2.1 a.2.2.2.2) (f_i_zeroFree_AtomsOf_1_i a.1 a.2.1 a.2.2.1 a.2.2.2.1 a.2.2.2.2) (f_i_zeroFree_AtomsOf_1_en r).1 (f_i_zeroFree_AtomsOf_1_en r).2) : CTrue Try.prog 39 (f_i_zeroFree_AtomsOf_1_cs self) := by
  intro args inh rs out h
  unfold f_i_zeroFree_AtomsOf_1_cs at h
  split at h
  · rename_i hd
    obtain ⟨h1, h2⟩ := dec2_enc hd
    rw [← h1, ← h2]
    exact rowC (hs _) h
  · cases h
def f_i_zeroFree_AtomsOf_1_M (self : (List Sc × List Sc × Int × List Sc × List Sc) → Option (List Sc)) : Calling := addC 39 (f_i_zeroFree_AtomsOf_1_cs self) (addC 40 f_i_AtomsOf_1_c (addC 38 f_i_OrderOf_c (addC 64 f_i_Group_shift_c (addC 65 f_i_in_c (addC 43 f_i_copyInts_c (noC))))))
theorem f_i_zeroFree_AtomsOf_1_Mt (self : (List Sc × List Sc × Int × List Sc × List Sc) → Option (List Sc)) (hs : ∀ a r, self a = some r → CS Try.prog 39 (f_i_zeroFree_AtomsOf_1_a a.1 a.2.1 a.2.2.1 a.2.2.2.1 a.2.2.2.2) (f_i_zeroFree_AtomsOf_1_i a.1 a.2.1 a.2.2.1 a.2.2.2.1 a.2.2.2.2) (f_i_zeroFree_AtomsOf_1_en r).1 (f_i_zeroFree_AtomsOf_1_en r).2) : CallOk Try.prog (f_i_zeroFree_AtomsOf_1_M self) := addC_true (f_i_zeroFree_AtomsOf_1_cst self hs) (addC_true f_i_AtomsOf_1_cc (addC_true f_i_OrderOf_cc (addC_true f_i_Group_shift_cc (addC_true f_i_in_cc (addC_true f_i_copyInts_cc (noC_true))))))
theorem f_i_zeroFree_AtomsOf_1_o : loopsOnce Try.f39 = true := by kernel_rfl
def f_i_zeroFree_AtomsOf_1_h0 : List Sh := [.own 1000022, .u, .fr 3, .p (.int .i64), .fn 40 [.el, .pt 0 1], .p .el, .u, .u, .u, .u, .p (.int .i64), .u, .u, .u, .u, .u, .u, .u, .u, .u, .u, .u, .u, .u, .u, .u, .u, .u, .u, .u, .u, .u, .u, .u, .u, .u, .u, .u, .u, .u, .u, .u, .u, .u, .u, .u, .u, .u, .u, .u, .u, .u, .u]
def f_i_zeroFree_AtomsOf_1_fr0 (self : (List Sc × List Sc × Int × List Sc × List Sc) → Option (List Sc)) (l1 : List Sc) (sums2 : Int) (visit3 : List Sc) (g4 : List Sc) (s : List Sc × Int) : List AV := enc f_i_zeroFree_AtomsOf_1_h0 [.l s.1, .l l1, .i sums2, .l visit3, .l g4, .i s.2]
def f_i_zeroFree_AtomsOf_1_g0_1 : List Sh := [.own 1000022, .u, .u, .u, .u, .u, .u, .u, .u, .u, .u, .u, .u, .u, .u, .u, .u, .u, .u, .u, .u, .u, .u, .u, .u, .u, .u, .u, .u, .u, .u, .u, .u, .u, .u, .u, .u, .u, .u, .u, .u, .u, .u, .u, .u, .u, .u, .u, .u, .u, .u, .u, .u]
def f_i_zeroFree_AtomsOf_1_x0_1 (self : (List Sc × List Sc × Int × List Sc × List Sc) → Option (List Sc)) (l1 : List Sc) (sums2 : Int) (visit3 : List Sc) (g4 : List Sc) (e : List Sc) : X × List AV := (.out 0, enc f_i_zeroFree_AtomsOf_1_g0_1 [.l e])
def f_i_zeroFree_AtomsOf_1_x0_2 (self : (List Sc × List Sc × Int × List Sc × List Sc) → Option (List Sc)) (l1 : List Sc) (sums2 : Int) (visit3 : List Sc) (g4 : List Sc) (_e : Unit) : X × List AV := (.ret, [])
theorem f_i_zeroFree_AtomsOf_1_p0 {R : Type} (self : (List Sc × List Sc × Int × List Sc × List Sc) → Option (List Sc)) (l1 : List Sc) (sums2 : Int) (visit3 : List Sc) (g4 : List Sc) (s : List Sc × Int) (kN : List Sc × Int → Option R) (kA : List Sc → Option R) (kB : Unit → Option R) : f_i_zeroFree_AtomsOf_1_k0 self l1 sums2 visit3 g4 s.1 s.2 kN kA = (f_i_zeroFree_AtomsOf_1_r0 self l1 sums2 visit3 g4 s).bind (Ro.el kN kA kB) := by
  simp only [f_i_zeroFree_AtomsOf_1_k0, f_i_zeroFree_AtomsOf_1_r0, brB, boB, someB, noneB, Ro.el]
theorem f_i_zeroFree_AtomsOf_1_e0 (self : (List Sc × List Sc × Int × List Sc × List Sc) → Option (List Sc)) (l1 : List Sc) (sums2 : Int) (visit3 : List Sc) (g4 : List Sc) (s : List Sc × Int) : EC E0 (f_i_zeroFree_AtomsOf_1_M self) H0 f_i_zeroFree_AtomsOf_1_F (asL (noL)) 0 (bodyOf Try.f39 0) (f_i_zeroFree_AtomsOf_1_fr0 self l1 sums2 visit3 g4 s) (done (klOf f_i_zeroFree_AtomsOf_1_F 0)) = f_i_zeroFree_AtomsOf_1_k0 self l1 sums2 visit3 g4 s.1 s.2 (fun s => some (.norm, f_i_zeroFree_AtomsOf_1_fr0 self l1 sums2 visit3 g4 s)) (fun e => some (f_i_zeroFree_AtomsOf_1_x0_1 self l1 sums2 visit3 g4 e)) := by kernel_rfl
theorem f_i_zeroFree_AtomsOf_1_l0 (self : (List Sc × List Sc × Int × List Sc × List Sc) → Option (List Sc)) (hs : ∀ a r, self a = some r → CS Try.prog 39 (f_i_zeroFree_AtomsOf_1_a a.1 a.2.1 a.2.2.1 a.2.2.2.1 a.2.2.2.2) (f_i_zeroFree_AtomsOf_1_i a.1 a.2.1 a.2.2.1 a.2.2.2.1 a.2.2.2.2) (f_i_zeroFree_AtomsOf_1_en r).1 (f_i_zeroFree_AtomsOf_1_en r).2) (l1 : List Sc) (sums2 : Int) (visit3 : List Sc) (g4 : List Sc) : ∀ s r, loopL (f_i_zeroFree_AtomsOf_1_r0 self l1 sums2 visit3 g4) s = some r → LS Try.prog f_i_zeroFree_AtomsOf_1_F (bodyOf Try.f39 0) (f_i_zeroFree_AtomsOf_1_fr0 self l1 sums2 visit3 g4 s) (enX (f_i_zeroFree_AtomsOf_1_x0_1 self l1 sums2 visit3 g4) (f_i_zeroFree_AtomsOf_1_x0_2 self l1 sums2 visit3 g4) r) :=
  loop_true E0ok (f_i_zeroFree_AtomsOf_1_Mt self hs) (noL_true) f_i_zeroFree_AtomsOf_1_o (fun _ h => by cases h) (fun _ h => by cases h) (fun _ h => by cases h) (fun _ h => by cases h) (fun s => (f_i_zeroFree_AtomsOf_1_e0 self l1 sums2 visit3 g4 s).trans (f_i_zeroFree_AtomsOf_1_p0 self l1 sums2 visit3 g4 s _ _ (fun e => some (f_i_zeroFree_AtomsOf_1_x0_2 self l1 sums2 visit3 g4 e))))
def f_i_zeroFree_AtomsOf_1_t0 (self : (List Sc × List Sc × Int × List Sc × List Sc) → Option (List Sc)) (σ : List AV) : Option (Bool × Bool × (X × List AV) × (X × List AV)) := match dec f_i_zeroFree_AtomsOf_1_h0 σ with
  | some [.l v0, .l l1, .i sums2, .l visit3, .l g4, .i x9] => some (isOne (loopL (f_i_zeroFree_AtomsOf_1_r0 self l1 sums2 visit3 g4) (v0, x9)), true, f_i_zeroFree_AtomsOf_1_x0_1 self l1 sums2 visit3 g4 (getOne [] (loopL (f_i_zeroFree_AtomsOf_1_r0 self l1 sums2 visit3 g4) (v0, x9))), (.ret, []))
  | _ => none
theorem f_i_zeroFree_AtomsOf_1_tt0 (self : (List Sc × List Sc × Int × List Sc × List Sc) → Option (List Sc)) (hs : ∀ a r, self a = some r → CS Try.prog 39 (f_i_zeroFree_AtomsOf_1_a a.1 a.2.1 a.2.2.1 a.2.2.2.1 a.2.2.2.2) (f_i_zeroFree_AtomsOf_1_i a.1 a.2.1 a.2.2.1 a.2.2.2.1 a.2.2.2.2) (f_i_zeroFree_AtomsOf_1_en r).1 (f_i_zeroFree_AtomsOf_1_en r).2) : TTrue Try.prog f_i_zeroFree_AtomsOf_1_F Try.f39 0 (f_i_zeroFree_AtomsOf_1_t0 self) := by
  intro σ p r r' h
  unfold f_i_zeroFree_AtomsOf_1_t0 at h
  split at h
  · rename_i hd
    rw [← dec_enc hd]
    exact row1 (f_i_zeroFree_AtomsOf_1_l0 self hs _ _ _ _ _) h
  · cases h
theorem f_i_zeroFree_AtomsOf_1_p {R : Type} (self : (List Sc × List Sc × Int × List Sc × List Sc) → Option (List Sc)) (g0 : List Sc) (l1 : List Sc) (sums2 : Int) (visit3 : List Sc) (h0 : List Sc) (kR : List Sc → Option R) : f_i_zeroFree_AtomsOf_1_k self g0 l1 sums2 visit3 h0 kR = (f_i_zeroFree_AtomsOf_1_k self g0 l1 sums2 visit3 h0 some).bind kR := by
  simp only [f_i_zeroFree_AtomsOf_1_k, brB, boB, bl1B, someB, noneB]
theorem f_i_zeroFree_AtomsOf_1_e (self : (List Sc × List Sc × Int × List Sc × List Sc) → Option (List Sc)) (g0 : List Sc) (l1 : List Sc) (sums2 : Int) (visit3 : List Sc) (h0 : List Sc) : runFn E0 (f_i_zeroFree_AtomsOf_1_M self) H0 f_i_zeroFree_AtomsOf_1_F (asL (addL 0 (f_i_zeroFree_AtomsOf_1_t0 self) (noL))) Try.f39 (f_i_zeroFree_AtomsOf_1_a g0 l1 sums2 visit3 h0) (f_i_zeroFree_AtomsOf_1_i g0 l1 sums2 visit3 h0) = f_i_zeroFree_AtomsOf_1_k self g0 l1 sums2 visit3 h0 (fun r => some (f_i_zeroFree_AtomsOf_1_en r)) := by kernel_rfl
theorem f_i_zeroFree_AtomsOf_1_ks (self : (List Sc × List Sc × Int × List Sc × List Sc) → Option (List Sc)) (hs : ∀ a r, self a = some r → CS Try.prog 39 (f_i_zeroFree_AtomsOf_1_a a.1 a.2.1 a.2.2.1 a.2.2.2.1 a.2.2.2.2) (f_i_zeroFree_AtomsOf_1_i a.1 a.2.1 a.2.2.1 a.2.2.2.1 a.2.2.2.2) (f_i_zeroFree_AtomsOf_1_en r).1 (f_i_zeroFree_AtomsOf_1_en r).2) (g0 : List Sc) (l1 : List Sc) (sums2 : Int) (visit3 : List Sc) (h0 : List Sc) (r : List Sc) (h : f_i_zeroFree_AtomsOf_1_k self g0 l1 sums2 visit3 h0 some = some r) : CS Try.prog 39 (f_i_zeroFree_AtomsOf_1_a g0 l1 sums2 visit3 h0) (f_i_zeroFree_AtomsOf_1_i g0 l1 sums2 visit3 h0) (f_i_zeroFree_AtomsOf_1_en r).1 (f_i_zeroFree_AtomsOf_1_en r).2 :=
  fn_true (Gk := fun k => f_i_zeroFree_AtomsOf_1_k self g0 l1 sums2 visit3 h0 k) (en := f_i_zeroFree_AtomsOf_1_en) Try.func39 E0ok (f_i_zeroFree_AtomsOf_1_Mt self hs) (addL_true (f_i_zeroFree_AtomsOf_1_tt0 self hs) (noL_true)) f_i_zeroFree_AtomsOf_1_o (f_i_zeroFree_AtomsOf_1_e self g0 l1 sums2 visit3 h0) (f_i_zeroFree_AtomsOf_1_p self g0 l1 sums2 visit3 h0) h
theorem f_i_zeroFree_AtomsOf_1_ns : ∀ n a r, f_i_zeroFree_AtomsOf_1_n n a = some r → CS Try.prog 39 (f_i_zeroFree_AtomsOf_1_a a.1 a.2.1 a.2.2.1 a.2.2.2.1 a.2.2.2.2) (f_i_zeroFree_AtomsOf_1_i a.1 a.2.1 a.2.2.1 a.2.2.2.1 a.2.2.2.2) (f_i_zeroFree_AtomsOf_1_en r).1 (f_i_zeroFree_AtomsOf_1_en r).2
  | 0, _, _, h => by cases h
  | n + 1, a, r, h => f_i_zeroFree_AtomsOf_1_ks (f_i_zeroFree_AtomsOf_1_n n) (f_i_zeroFree_AtomsOf_1_ns n) a.1 a.2.1 a.2.2.1 a.2.2.2.1 a.2.2.2.2 r h
theorem f_i_zeroFree_AtomsOf_1_ok (g0 : List Sc) (l1 : List Sc) (sums2 : Int) (visit3 : List Sc) (h0 : List Sc) (r : List Sc) (h : f_i_zeroFree_AtomsOf_1 g0 l1 sums2 visit3 h0 = some r) : CS Try.prog 39 (f_i_zeroFree_AtomsOf_1_a g0 l1 sums2 visit3 h0) (f_i_zeroFree_AtomsOf_1_i g0 l1 sums2 visit3 h0) (f_i_zeroFree_AtomsOf_1_en r).1 (f_i_zeroFree_AtomsOf_1_en r).2 := by
  obtain ⟨n, hn⟩ := limF_some h
  exact f_i_zeroFree_AtomsOf_1_ns n _ r hn
def f_i_zeroFree_AtomsOf_1_c : CRow := fun args inh => match dec2 [.p .gr, .fr 3, .p (.int .i64), .fn 40 [.el, .pt 0 1]] [.own 1000022] args inh with
  | some ([.l g0, .l l1, .i sums2, .l visit3], [.l h0]) => some ((f_i_zeroFree_AtomsOf_1 g0 l1 sums2 visit3 h0).isSome, (f_i_zeroFree_AtomsOf_1_en ((f_i_zeroFree_AtomsOf_1 g0 l1 sums2 visit3 h0).getD [])).1, (f_i_zeroFree_AtomsOf_1_en ((f_i_zeroFree_AtomsOf_1 g0 l1 sums2 visit3 h0).getD [])).2)
  | _ => none
theorem f_i_zeroFree_AtomsOf_1_cc : CTrue Try.prog 39 f_i_zeroFree_AtomsOf_1_c := by
  intro args inh rs out h
  unfold f_i_zeroFree_AtomsOf_1_c at h
  split at h
  · rename_i hd
    obtain ⟨h1, h2⟩ := dec2_enc hd
    rw [← h1, ← h2]
    exact rowC (f_i_zeroFree_AtomsOf_1_ok _ _ _ _ _) h
  · cases h

def f_math_bits_Len64_F : Fi := { nv := 0, nc := 0, m := 0, vt := [], kl := [], sk := [], mvs := [], fz := [] }
def f_math_bits_Len64_a (x0 : Int) : List AV := enc [.p (.int .u64)] [.i x0]
def f_math_bits_Len64_i (x0 : Int) : List AV := enc [] []
def f_math_bits_Len64_en (r : Int) : List AV × List AV := (enc [.p (.int .i64)] [.i r], enc [] [])
def f_math_bits_Len64_M : Calling := noC
theorem f_math_bits_Len64_Mt : CallOk Try.prog (f_math_bits_Len64_M) := noC_true
theorem f_math_bits_Len64_o : loopsOnce Try.f88 = true := by kernel_rfl
theorem f_math_bits_Len64_p {R : Type} (x0 : Int) (kR : Int → Option R) : f_math_bits_Len64_k x0 kR = (f_math_bits_Len64_k x0 some).bind kR := by
  simp only [f_math_bits_Len64_k, brB, someB, noneB]
theorem f_math_bits_Len64_e (x0 : Int) : runFn E0 f_math_bits_Len64_M H0 f_math_bits_Len64_F (asL (noL)) Try.f88 (f_math_bits_Len64_a x0) (f_math_bits_Len64_i x0) = f_math_bits_Len64_k x0 (fun r => some (f_math_bits_Len64_en r)) := by kernel_rfl
theorem f_math_bits_Len64_ok (x0 : Int) (r : Int) (h : f_math_bits_Len64 x0 = some r) : CS Try.prog 88 (f_math_bits_Len64_a x0) (f_math_bits_Len64_i x0) (f_math_bits_Len64_en r).1 (f_math_bits_Len64_en r).2 :=
  fn_true (Gk := fun k => f_math_bits_Len64_k x0 k) (en := f_math_bits_Len64_en) Try.func88 E0ok f_math_bits_Len64_Mt (noL_true) f_math_bits_Len64_o (f_math_bits_Len64_e x0) (f_math_bits_Len64_p x0) h
def f_math_bits_Len64_c : CRow := fun args inh => match dec2 [.p (.int .u64)] [] args inh with
  | some ([.i x0], []) => some ((f_math_bits_Len64 x0).isSome, (f_math_bits_Len64_en ((f_math_bits_Len64 x0).getD 0)).1, (f_math_bits_Len64_en ((f_math_bits_Len64 x0).getD 0)).2)
  | _ => none
theorem f_math_bits_Len64_cc : CTrue Try.prog 88 f_math_bits_Len64_c := by
  intro args inh rs out h
  unfold f_math_bits_Len64_c at h
  split at h
  · rename_i hd
    obtain ⟨h1, h2⟩ := dec2_enc hd
    rw [← h1, ← h2]
    exact rowC (f_math_bits_Len64_ok _) h
  · cases h

def f_math_bits_Len_F : Fi := { nv := 0, nc := 0, m := 0, vt := [], kl := [], sk := [], mvs := [], fz := [] }
def f_math_bits_Len_a (x0 : Int) : List AV := enc [.p (.int .u64)] [.i x0]
def f_math_bits_Len_i (x0 : Int) : List AV := enc [] []
def f_math_bits_Len_en (r : Int) : List AV × List AV := (enc [.p (.int .i64)] [.i r], enc [] [])
def f_math_bits_Len_M : Calling := addC 88 f_math_bits_Len64_c (noC)
theorem f_math_bits_Len_Mt : CallOk Try.prog (f_math_bits_Len_M) := addC_true f_math_bits_Len64_cc (noC_true)
theorem f_math_bits_Len_o : loopsOnce Try.f69 = true := by kernel_rfl
theorem f_math_bits_Len_p {R : Type} (x0 : Int) (kR : Int → Option R) : f_math_bits_Len_k x0 kR = (f_math_bits_Len_k x0 some).bind kR := by
  simp only [f_math_bits_Len_k, boB, someB]
theorem f_math_bits_Len_e (x0 : Int) : runFn E0 f_math_bits_Len_M H0 f_math_bits_Len_F (asL (noL)) Try.f69 (f_math_bits_Len_a x0) (f_math_bits_Len_i x0) = f_math_bits_Len_k x0 (fun r => some (f_math_bits_Len_en r)) := by kernel_rfl
theorem f_math_bits_Len_ok (x0 : Int) (r : Int) (h : f_math_bits_Len x0 = some r) : CS Try.prog 69 (f_math_bits_Len_a x0) (f_math_bits_Len_i x0) (f_math_bits_Len_en r).1 (f_math_bits_Len_en r).2 :=
  fn_true (Gk := fun k => f_math_bits_Len_k x0 k) (en := f_math_bits_Len_en) Try.func69 E0ok f_math_bits_Len_Mt (noL_true) f_math_bits_Len_o (f_math_bits_Len_e x0) (f_math_bits_Len_p x0) h
def f_math_bits_Len_c : CRow := fun args inh => match dec2 [.p (.int .u64)] [] args inh with
  | some ([.i x0], []) => some ((f_math_bits_Len x0).isSome, (f_math_bits_Len_en ((f_math_bits_Len x0).getD 0)).1, (f_math_bits_Len_en ((f_math_bits_Len x0).getD 0)).2)
  | _ => none
theorem f_math_bits_Len_cc : CTrue Try.prog 69 f_math_bits_Len_c := by
  intro args inh rs out h
  unfold f_math_bits_Len_c at h
  split at h
  · rename_i hd
    obtain ⟨h1, h2⟩ := dec2_enc hd
    rw [← h1, ← h2]
    exact rowC (f_math_bits_Len_ok _) h
  · cases h

def f_cmp_Compare_F : Fi := { nv := 0, nc := 0, m := 0, vt := [], kl := [], sk := [], mvs := [], fz := [] }
def f_cmp_Compare_a (x0 : Int) (y1 : Int) : List AV := enc [.p (.int .i64), .p (.int .i64)] [.i x0, .i y1]
def f_cmp_Compare_i (x0 : Int) (y1 : Int) : List AV := enc [] []
def f_cmp_Compare_en (r : Int) : List AV × List AV := (enc [.p (.int .i64)] [.i r], enc [] [])
def f_cmp_Compare_M : Calling := addC 89 f_cmp_isNaN_c (noC)
theorem f_cmp_Compare_Mt : CallOk Try.prog (f_cmp_Compare_M) := addC_true f_cmp_isNaN_cc (noC_true)
theorem f_cmp_Compare_o : loopsOnce Try.f70 = true := by kernel_rfl
theorem f_cmp_Compare_p {R : Type} (x0 : Int) (y1 : Int) (kR : Int → Option R) : f_cmp_Compare_k x0 y1 kR = (f_cmp_Compare_k x0 y1 some).bind kR := by
  simp only [f_cmp_Compare_k, brB, boB, someB]
theorem f_cmp_Compare_e (x0 : Int) (y1 : Int) : runFn E0 f_cmp_Compare_M H0 f_cmp_Compare_F (asL (noL)) Try.f70 (f_cmp_Compare_a x0 y1) (f_cmp_Compare_i x0 y1) = f_cmp_Compare_k x0 y1 (fun r => some (f_cmp_Compare_en r)) := by kernel_rfl
theorem f_cmp_Compare_ok (x0 : Int) (y1 : Int) (r : Int) (h : f_cmp_Compare x0 y1 = some r) : CS Try.prog 70 (f_cmp_Compare_a x0 y1) (f_cmp_Compare_i x0 y1) (f_cmp_Compare_en r).1 (f_cmp_Compare_en r).2 :=
  fn_true (Gk := fun k => f_cmp_Compare_k x0 y1 k) (en := f_cmp_Compare_en) Try.func70 E0ok f_cmp_Compare_Mt (noL_true) f_cmp_Compare_o (f_cmp_Compare_e x0 y1) (f_cmp_Compare_p x0 y1) h
def f_cmp_Compare_c : CRow := fun args inh => match dec2 [.p (.int .i64), .p (.int .i64)] [] args inh with
  | some ([.i x0, .i y1], []) => some ((f_cmp_Compare x0 y1).isSome, (f_cmp_Compare_en ((f_cmp_Compare x0 y1).getD 0)).1, (f_cmp_Compare_en ((f_cmp_Compare x0 y1).getD 0)).2)
  | _ => none
theorem f_cmp_Compare_cc : CTrue Try.prog 70 f_cmp_Compare_c := by
  intro args inh rs out h
  unfold f_cmp_Compare_c at h
  split at h
  · rename_i hd
    obtain ⟨h1, h2⟩ := dec2_enc hd
    rw [← h1, ← h2]
    exact rowC (f_cmp_Compare_ok _ _) h
  · cases h

def f_slices_Compare_F : Fi := { nv := 0, nc := 0, m := 0, vt := [], kl := [(0, ([2, 3, 4, 5, 6, 7, 8, 12, 13, 14, 15, 16, 17, 18, 19, 20, 21, 22, 23, 24, 25, 26, 27, 28, 29, 30, 31, 32, 33, 34, 35], [2, 3, 4, 5, 6, 7, 8, 9, 10, 11, 12, 13, 14, 15, 16, 17, 18, 19, 20, 21, 22, 23, 24, 25, 26, 27, 28, 29, 30, 31, 32, 33, 34, 35], [0, 1, 2, 3, 5, 6, 7, 8, 9, 10, 11, 12, 13, 14, 15, 16, 17, 18, 19, 20, 21, 22, 23, 24, 25, 26, 27, 28, 29, 30, 31, 32, 33, 34, 35]))], sk := [], mvs := [], fz := [] }
def f_slices_Compare_a (s10 : List Sc) (s21 : List Sc) : List AV := enc [.p .sl, .p .sl] [.l s10, .l s21]
def f_slices_Compare_i (s10 : List Sc) (s21 : List Sc) : List AV := enc [] []
def f_slices_Compare_en (r : Int) : List AV × List AV := (enc [.p (.int .i64)] [.i r], enc [] [])
def f_slices_Compare_M : Calling := addC 70 f_cmp_Compare_c (noC)
theorem f_slices_Compare_Mt : CallOk Try.prog (f_slices_Compare_M) := addC_true f_cmp_Compare_cc (noC_true)
theorem f_slices_Compare_o : loopsOnce Try.f47 = true := by kernel_rfl
def f_slices_Compare_h0 : List Sh := [.p .sl, .p .sl, .u, .u, .u, .u, .u, .u, .u, .p .sl, .p (.int .i64), .p (.int .i64), .u, .u, .u, .u, .u, .u, .u, .u, .u, .u, .u, .u, .u, .u, .u, .u, .u, .u, .u, .u, .u, .u, .u, .u]
def f_slices_Compare_fr0 (s10 : List Sc) (s21 : List Sc) (t9 : List Sc) (t10 : Int) (s : Int) : List AV := enc f_slices_Compare_h0 [.l s10, .l s21, .l t9, .i t10, .i s]
def f_slices_Compare_g0_1 : List Sh := [.p .sl, .p .sl, .u, .u, .u, .u, .u, .u, .u, .u, .u, .u, .u, .u, .u, .u, .u, .u, .u, .u, .u, .u, .u, .u, .u, .u, .u, .u, .u, .u, .u, .u, .u, .u, .u, .u]
def f_slices_Compare_x0_1 (s10 : List Sc) (s21 : List Sc) (t9 : List Sc) (t10 : Int) (e : Unit) : X × List AV := (.out 0, enc f_slices_Compare_g0_1 [.l s10, .l s21])
def f_slices_Compare_g0_2 : List Sh := [.u, .u, .u, .u, .p (.int .i64), .u, .u, .u, .u, .u, .u, .u, .u, .u, .u, .u, .u, .u, .u, .u, .u, .u, .u, .u, .u, .u, .u, .u, .u, .u, .u, .u, .u, .u, .u, .u]
def f_slices_Compare_x0_2 (s10 : List Sc) (s21 : List Sc) (t9 : List Sc) (t10 : Int) (e : Int) : X × List AV := (.ret, enc f_slices_Compare_g0_2 [.i e])
theorem f_slices_Compare_p0 {R : Type} (s10 : List Sc) (s21 : List Sc) (t9 : List Sc) (t10 : Int) (s : Int) (kN : Int → Option R) (kA : Unit → Option R) (kB : Int → Option R) : f_slices_Compare_k0 s10 s21 t9 t10 s kN kA kB = (f_slices_Compare_r0 s10 s21 t9 t10 s).bind (Ro.el kN kA kB) := by
  simp only [f_slices_Compare_k0, f_slices_Compare_r0, brB, boB, someB, noneB, Ro.el]
theorem f_slices_Compare_e0 (s10 : List Sc) (s21 : List Sc) (t9 : List Sc) (t10 : Int) (s : Int) : EC E0 f_slices_Compare_M H0 f_slices_Compare_F (asL (noL)) 0 (bodyOf Try.f47 0) (f_slices_Compare_fr0 s10 s21 t9 t10 s) (done (klOf f_slices_Compare_F 0)) = f_slices_Compare_k0 s10 s21 t9 t10 s (fun s => some (.norm, f_slices_Compare_fr0 s10 s21 t9 t10 s)) (fun e => some (f_slices_Compare_x0_1 s10 s21 t9 t10 e)) (fun e => some (f_slices_Compare_x0_2 s10 s21 t9 t10 e)) := by kernel_rfl
theorem f_slices_Compare_l0 (s10 : List Sc) (s21 : List Sc) (t9 : List Sc) (t10 : Int) : ∀ s r, loopL (f_slices_Compare_r0 s10 s21 t9 t10) s = some r → LS Try.prog f_slices_Compare_F (bodyOf Try.f47 0) (f_slices_Compare_fr0 s10 s21 t9 t10 s) (enX (f_slices_Compare_x0_1 s10 s21 t9 t10) (f_slices_Compare_x0_2 s10 s21 t9 t10) r) :=
  loop_true E0ok f_slices_Compare_Mt (noL_true) f_slices_Compare_o (fun _ h => by cases h) (fun _ h => by cases h) (fun _ h => by cases h) (fun _ h => by cases h) (fun s => (f_slices_Compare_e0 s10 s21 t9 t10 s).trans (f_slices_Compare_p0 s10 s21 t9 t10 s _ _ (fun e => some (f_slices_Compare_x0_2 s10 s21 t9 t10 e))))
def f_slices_Compare_t0 (σ : List AV) : Option (Bool × Bool × (X × List AV) × (X × List AV)) := match dec f_slices_Compare_h0 σ with
  | some [.l s10, .l s21, .l t9, .i t10, .i t11] => some ((loopL (f_slices_Compare_r0 s10 s21 t9 t10) t11).isSome, isOne (loopL (f_slices_Compare_r0 s10 s21 t9 t10) t11), f_slices_Compare_x0_1 s10 s21 t9 t10 (getOne () (loopL (f_slices_Compare_r0 s10 s21 t9 t10) t11)), f_slices_Compare_x0_2 s10 s21 t9 t10 (getTwo 0 (loopL (f_slices_Compare_r0 s10 s21 t9 t10) t11)))
  | _ => none
theorem f_slices_Compare_tt0 : TTrue Try.prog f_slices_Compare_F Try.f47 0 (f_slices_Compare_t0) := by
  intro σ p r r' h
  unfold f_slices_Compare_t0 at h
  split at h
  · rename_i hd
    rw [← dec_enc hd]
    exact row2 (f_slices_Compare_l0 _ _ _ _ _) h
  · cases h
theorem f_slices_Compare_p {R : Type} (s10 : List Sc) (s21 : List Sc) (kR : Int → Option R) : f_slices_Compare_k s10 s21 kR = (f_slices_Compare_k s10 s21 some).bind kR := by
  simp only [f_slices_Compare_k, brB, blB, someB]
theorem f_slices_Compare_e (s10 : List Sc) (s21 : List Sc) : runFn E0 f_slices_Compare_M H0 f_slices_Compare_F (asL (addL 0 (f_slices_Compare_t0) (noL))) Try.f47 (f_slices_Compare_a s10 s21) (f_slices_Compare_i s10 s21) = f_slices_Compare_k s10 s21 (fun r => some (f_slices_Compare_en r)) := by kernel_rfl
theorem f_slices_Compare_ok (s10 : List Sc) (s21 : List Sc) (r : Int) (h : f_slices_Compare s10 s21 = some r) : CS Try.prog 47 (f_slices_Compare_a s10 s21) (f_slices_Compare_i s10 s21) (f_slices_Compare_en r).1 (f_slices_Compare_en r).2 :=
  fn_true (Gk := fun k => f_slices_Compare_k s10 s21 k) (en := f_slices_Compare_en) Try.func47 E0ok f_slices_Compare_Mt (addL_true (f_slices_Compare_tt0) (noL_true)) f_slices_Compare_o (f_slices_Compare_e s10 s21) (f_slices_Compare_p s10 s21) h
def f_slices_Compare_c : CRow := fun args inh => match dec2 [.p .sl, .p .sl] [] args inh with
  | some ([.l s10, .l s21], []) => some ((f_slices_Compare s10 s21).isSome, (f_slices_Compare_en ((f_slices_Compare s10 s21).getD 0)).1, (f_slices_Compare_en ((f_slices_Compare s10 s21).getD 0)).2)
  | _ => none
theorem f_slices_Compare_cc : CTrue Try.prog 47 f_slices_Compare_c := by
  intro args inh rs out h
  unfold f_slices_Compare_c at h
  split at h
  · rename_i hd
    obtain ⟨h1, h2⟩ := dec2_enc hd
    rw [← h1, ← h2]
    exact rowC (f_slices_Compare_ok _ _) h
  · cases h

def f_i_AtomsOf_2_F : Fi := { nv := 0, nc := 0, m := 0, vt := [], kl := [], sk := [], mvs := [], fz := [] }
def f_i_AtomsOf_2_a (a0 : List Sc) (b1 : List Sc) : List AV := enc [.p .sl, .p .sl] [.l a0, .l b1]
def f_i_AtomsOf_2_i (a0 : List Sc) (b1 : List Sc) : List AV := enc [] []
def f_i_AtomsOf_2_en (r : Int) : List AV × List AV := (enc [.p (.int .i64)] [.i r], enc [] [])
def f_i_AtomsOf_2_M : Calling := addC 47 f_slices_Compare_c (noC)
theorem f_i_AtomsOf_2_Mt : CallOk Try.prog (f_i_AtomsOf_2_M) := addC_true f_slices_Compare_cc (noC_true)
theorem f_i_AtomsOf_2_o : loopsOnce Try.f46 = true := by kernel_rfl
theorem f_i_AtomsOf_2_p {R : Type} (a0 : List Sc) (b1 : List Sc) (kR : Int → Option R) : f_i_AtomsOf_2_k a0 b1 kR = (f_i_AtomsOf_2_k a0 b1 some).bind kR := by
  simp only [f_i_AtomsOf_2_k, brB, boB, someB]
theorem f_i_AtomsOf_2_e (a0 : List Sc) (b1 : List Sc) : runFn E0 f_i_AtomsOf_2_M H0 f_i_AtomsOf_2_F (asL (noL)) Try.f46 (f_i_AtomsOf_2_a a0 b1) (f_i_AtomsOf_2_i a0 b1) = f_i_AtomsOf_2_k a0 b1 (fun r => some (f_i_AtomsOf_2_en r)) := by kernel_rfl
theorem f_i_AtomsOf_2_ok (a0 : List Sc) (b1 : List Sc) (r : Int) (h : f_i_AtomsOf_2 a0 b1 = some r) : CS Try.prog 46 (f_i_AtomsOf_2_a a0 b1) (f_i_AtomsOf_2_i a0 b1) (f_i_AtomsOf_2_en r).1 (f_i_AtomsOf_2_en r).2 :=
  fn_true (Gk := fun k => f_i_AtomsOf_2_k a0 b1 k) (en := f_i_AtomsOf_2_en) Try.func46 E0ok f_i_AtomsOf_2_Mt (noL_true) f_i_AtomsOf_2_o (f_i_AtomsOf_2_e a0 b1) (f_i_AtomsOf_2_p a0 b1) h
def f_i_AtomsOf_2_c : CRow := fun args inh => match dec2 [.p .sl, .p .sl] [] args inh with
  | some ([.l a0, .l b1], []) => some ((f_i_AtomsOf_2 a0 b1).isSome, (f_i_AtomsOf_2_en ((f_i_AtomsOf_2 a0 b1).getD 0)).1, (f_i_AtomsOf_2_en ((f_i_AtomsOf_2 a0 b1).getD 0)).2)
  | _ => none
theorem f_i_AtomsOf_2_cc : CTrue Try.prog 46 f_i_AtomsOf_2_c := by
  intro args inh rs out h
  unfold f_i_AtomsOf_2_c at h
  split at h
  · rename_i hd
    obtain ⟨h1, h2⟩ := dec2_enc hd
    rw [← h1, ← h2]
    exact rowC (f_i_AtomsOf_2_ok _ _) h
  · cases h

def f_slices_insertionSortCmpFunc_AtomsOf_2_F : Fi := { nv := 1, nc := 1, m := 1, vt := [], kl := [(2, ([5, 6, 7, 8, 11, 12, 13, 14, 15, 16, 17, 18, 19, 20, 21, 22, 23, 24, 25, 26, 27, 28, 29, 30, 31, 32, 33, 34, 35, 36, 37, 38, 39, 40, 41, 42, 43, 44, 45, 46, 47, 48, 49, 50, 51, 52, 53], [5, 6, 7, 8, 10, 11, 12, 13, 14, 15, 16, 17, 18, 19, 20, 21, 22, 23, 24, 25, 26, 27, 28, 29, 30, 31, 32, 33, 34, 35, 36, 37, 38, 39, 40, 41, 42, 43, 44, 45, 46, 47, 48, 49, 50, 51, 52, 53], [1, 2, 3, 4, 5, 6, 7, 8, 9, 10, 11, 12, 13, 14, 15, 16, 17, 18, 19, 20, 21, 22, 23, 24, 25, 26, 27, 28, 29, 30, 31, 32, 33, 34, 35, 36, 37, 38, 39, 40, 41, 42, 43, 44, 45, 46, 47, 48, 49, 50, 51, 52, 53])), (0, ([5, 6, 7, 8, 10, 11, 12, 13, 14, 15, 16, 17, 18, 19, 20, 21, 22, 23, 24, 25, 26, 27, 28, 29, 30, 31, 32, 33, 34, 35, 36, 37, 38, 39, 40, 41, 42, 43, 44, 45, 46, 47, 48, 49, 50, 51, 52, 53], [5, 6, 7, 8, 10, 11, 12, 13, 14, 15, 16, 17, 18, 19, 20, 21, 22, 23, 24, 25, 26, 27, 28, 29, 30, 31, 32, 33, 34, 35, 36, 37, 38, 39, 40, 41, 42, 43, 44, 45, 46, 47, 48, 49, 50, 51, 52, 53], [1, 2, 3, 4, 5, 6, 7, 8, 9, 10, 11, 12, 13, 14, 15, 16, 17, 18, 19, 20, 21, 22, 23, 24, 25, 26, 27, 28, 29, 30, 31, 32, 33, 34, 35, 36, 37, 38, 39, 40, 41, 42, 43, 44, 45, 46, 47, 48, 49, 50, 51, 52, 53]))], sk := [], mvs := [], fz := [] }
def f_slices_insertionSortCmpFunc_AtomsOf_2_a (a1 : Int) (b2 : Int) (h0 : List Sc) : List AV := enc [.p (.al 0), .p (.int .i64), .p (.int .i64), .fn 46 []] [.i a1, .i b2]
def f_slices_insertionSortCmpFunc_AtomsOf_2_i (a1 : Int) (b2 : Int) (h0 : List Sc) : List AV := enc [.own 1000022] [.l h0]
def f_slices_insertionSortCmpFunc_AtomsOf_2_en (r : List Sc) : List AV × List AV := (enc [] [], enc [.own 1000022] [.l r])
def f_slices_insertionSortCmpFunc_AtomsOf_2_M : Calling := addC 46 f_i_AtomsOf_2_c (noC)
theorem f_slices_insertionSortCmpFunc_AtomsOf_2_Mt : CallOk Try.prog (f_slices_insertionSortCmpFunc_AtomsOf_2_M) := addC_true f_i_AtomsOf_2_cc (noC_true)
theorem f_slices_insertionSortCmpFunc_AtomsOf_2_o : loopsOnce Try.f79 = true := by kernel_rfl
def f_slices_insertionSortCmpFunc_AtomsOf_2_h2 : List Sh := [.own 1000022, .p (.al 0), .p (.int .i64), .p (.int .i64), .fn 46 [], .u, .u, .u, .u, .p (.int .i64), .p (.int .i64), .u, .u, .u, .u, .u, .u, .u, .u, .u, .u, .u, .u, .u, .u, .u, .u, .u, .u, .u, .u, .u, .u, .u, .u, .u, .u, .u, .u, .u, .u, .u, .u, .u, .u, .u, .u, .u, .u, .u, .u, .u, .u, .u]
def f_slices_insertionSortCmpFunc_AtomsOf_2_fr2 (a1 : Int) (b2 : Int) (i8 : Int) (s : List Sc × Int) : List AV := enc f_slices_insertionSortCmpFunc_AtomsOf_2_h2 [.l s.1, .i a1, .i b2, .i i8, .i s.2]
def f_slices_insertionSortCmpFunc_AtomsOf_2_g2_1 : List Sh := [.own 1000022, .p (.al 0), .p (.int .i64), .p (.int .i64), .fn 46 [], .u, .u, .u, .u, .p (.int .i64), .u, .u, .u, .u, .u, .u, .u, .u, .u, .u, .u, .u, .u, .u, .u, .u, .u, .u, .u, .u, .u, .u, .u, .u, .u, .u, .u, .u, .u, .u, .u, .u, .u, .u, .u, .u, .u, .u, .u, .u, .u, .u, .u, .u]
def f_slices_insertionSortCmpFunc_AtomsOf_2_x2_1 (a1 : Int) (b2 : Int) (i8 : Int) (e : List Sc) : X × List AV := (.out 2, enc f_slices_insertionSortCmpFunc_AtomsOf_2_g2_1 [.l e, .i a1, .i b2, .i i8])
def f_slices_insertionSortCmpFunc_AtomsOf_2_x2_2 (a1 : Int) (b2 : Int) (i8 : Int) (_e : Unit) : X × List AV := (.ret, [])
theorem f_slices_insertionSortCmpFunc_AtomsOf_2_p2 {R : Type} (a1 : Int) (b2 : Int) (i8 : Int) (s : List Sc × Int) (kN : List Sc × Int → Option R) (kA : List Sc → Option R) (kB : Unit → Option R) : f_slices_insertionSortCmpFunc_AtomsOf_2_k2 a1 b2 i8 s.1 s.2 kN kA = (f_slices_insertionSortCmpFunc_AtomsOf_2_r2 a1 b2 i8 s).bind (Ro.el kN kA kB) := by
  simp only [f_slices_insertionSortCmpFunc_AtomsOf_2_k2, f_slices_insertionSortCmpFunc_AtomsOf_2_r2, brB, boB, someB, noneB, Ro.el]
theorem f_slices_insertionSortCmpFunc_AtomsOf_2_e2 (a1 : Int) (b2 : Int) (i8 : Int) (s : List Sc × Int) : EC E0 f_slices_insertionSortCmpFunc_AtomsOf_2_M H0 f_slices_insertionSortCmpFunc_AtomsOf_2_F (asL (noL)) 2 (bodyOf Try.f79 2) (f_slices_insertionSortCmpFunc_AtomsOf_2_fr2 a1 b2 i8 s) (done (klOf f_slices_insertionSortCmpFunc_AtomsOf_2_F 2)) = f_slices_insertionSortCmpFunc_AtomsOf_2_k2 a1 b2 i8 s.1 s.2 (fun s => some (.norm, f_slices_insertionSortCmpFunc_AtomsOf_2_fr2 a1 b2 i8 s)) (fun e => some (f_slices_insertionSortCmpFunc_AtomsOf_2_x2_1 a1 b2 i8 e)) := by kernel_rfl
theorem f_slices_insertionSortCmpFunc_AtomsOf_2_l2 (a1 : Int) (b2 : Int) (i8 : Int) : ∀ s r, loopL (f_slices_insertionSortCmpFunc_AtomsOf_2_r2 a1 b2 i8) s = some r → LS Try.prog f_slices_insertionSortCmpFunc_AtomsOf_2_F (bodyOf Try.f79 2) (f_slices_insertionSortCmpFunc_AtomsOf_2_fr2 a1 b2 i8 s) (enX (f_slices_insertionSortCmpFunc_AtomsOf_2_x2_1 a1 b2 i8) (f_slices_insertionSortCmpFunc_AtomsOf_2_x2_2 a1 b2 i8) r) :=
  loop_true E0ok f_slices_insertionSortCmpFunc_AtomsOf_2_Mt (noL_true) f_slices_insertionSortCmpFunc_AtomsOf_2_o (fun _ h => by cases h) (fun _ h => by cases h) (fun _ h => by cases h) (fun _ h => by cases h) (fun s => (f_slices_insertionSortCmpFunc_AtomsOf_2_e2 a1 b2 i8 s).trans (f_slices_insertionSortCmpFunc_AtomsOf_2_p2 a1 b2 i8 s _ _ (fun e => some (f_slices_insertionSortCmpFunc_AtomsOf_2_x2_2 a1 b2 i8 e))))
def f_slices_insertionSortCmpFunc_AtomsOf_2_t2 (σ : List AV) : Option (Bool × Bool × (X × List AV) × (X × List AV)) := match dec f_slices_insertionSortCmpFunc_AtomsOf_2_h2 σ with
  | some [.l v0, .i a1, .i b2, .i i8, .i j9] => some (isOne (loopL (f_slices_insertionSortCmpFunc_AtomsOf_2_r2 a1 b2 i8) (v0, j9)), true, f_slices_insertionSortCmpFunc_AtomsOf_2_x2_1 a1 b2 i8 (getOne [] (loopL (f_slices_insertionSortCmpFunc_AtomsOf_2_r2 a1 b2 i8) (v0, j9))), (.ret, []))
  | _ => none
theorem f_slices_insertionSortCmpFunc_AtomsOf_2_tt2 : TTrue Try.prog f_slices_insertionSortCmpFunc_AtomsOf_2_F Try.f79 2 (f_slices_insertionSortCmpFunc_AtomsOf_2_t2) := by
  intro σ p r r' h
  unfold f_slices_insertionSortCmpFunc_AtomsOf_2_t2 at h
  split at h
  · rename_i hd
    rw [← dec_enc hd]
    exact row1 (f_slices_insertionSortCmpFunc_AtomsOf_2_l2 _ _ _ _) h
  · cases h
def f_slices_insertionSortCmpFunc_AtomsOf_2_h0 : List Sh := [.own 1000022, .p (.al 0), .p (.int .i64), .p (.int .i64), .fn 46 [], .u, .u, .u, .u, .p (.int .i64), .u, .u, .u, .u, .u, .u, .u, .u, .u, .u, .u, .u, .u, .u, .u, .u, .u, .u, .u, .u, .u, .u, .u, .u, .u, .u, .u, .u, .u, .u, .u, .u, .u, .u, .u, .u, .u, .u, .u, .u, .u, .u, .u, .u]
def f_slices_insertionSortCmpFunc_AtomsOf_2_fr0 (a1 : Int) (b2 : Int) (s : List Sc × Int) : List AV := enc f_slices_insertionSortCmpFunc_AtomsOf_2_h0 [.l s.1, .i a1, .i b2, .i s.2]
def f_slices_insertionSortCmpFunc_AtomsOf_2_g0_1 : List Sh := [.own 1000022, .p (.al 0), .p (.int .i64), .p (.int .i64), .fn 46 [], .u, .u, .u, .u, .p (.int .i64), .u, .u, .u, .u, .u, .u, .u, .u, .u, .u, .u, .u, .u, .u, .u, .u, .u, .u, .u, .u, .u, .u, .u, .u, .u, .u, .u, .u, .u, .u, .u, .u, .u, .u, .u, .u, .u, .u, .u, .u, .u, .u, .u, .u]
def f_slices_insertionSortCmpFunc_AtomsOf_2_x0_1 (a1 : Int) (b2 : Int) (e : List Sc × Int) : X × List AV := (.out 0, enc f_slices_insertionSortCmpFunc_AtomsOf_2_g0_1 [.l e.1, .i a1, .i b2, .i e.2])
def f_slices_insertionSortCmpFunc_AtomsOf_2_x0_2 (a1 : Int) (b2 : Int) (_e : Unit) : X × List AV := (.ret, [])
theorem f_slices_insertionSortCmpFunc_AtomsOf_2_p0 {R : Type} (a1 : Int) (b2 : Int) (s : List Sc × Int) (kN : List Sc × Int → Option R) (kA : List Sc × Int → Option R) (kB : Unit → Option R) : f_slices_insertionSortCmpFunc_AtomsOf_2_k0 a1 b2 s.1 s.2 kN kA = (f_slices_insertionSortCmpFunc_AtomsOf_2_r0 a1 b2 s).bind (Ro.el kN kA kB) := by
  simp only [f_slices_insertionSortCmpFunc_AtomsOf_2_k0, f_slices_insertionSortCmpFunc_AtomsOf_2_r0, brB, bl1B, someB, Ro.el]
theorem f_slices_insertionSortCmpFunc_AtomsOf_2_e0 (a1 : Int) (b2 : Int) (s : List Sc × Int) : EC E0 f_slices_insertionSortCmpFunc_AtomsOf_2_M H0 f_slices_insertionSortCmpFunc_AtomsOf_2_F (asL (addL 2 (f_slices_insertionSortCmpFunc_AtomsOf_2_t2) (noL))) 0 (bodyOf Try.f79 0) (f_slices_insertionSortCmpFunc_AtomsOf_2_fr0 a1 b2 s) (done (klOf f_slices_insertionSortCmpFunc_AtomsOf_2_F 0)) = f_slices_insertionSortCmpFunc_AtomsOf_2_k0 a1 b2 s.1 s.2 (fun s => some (.norm, f_slices_insertionSortCmpFunc_AtomsOf_2_fr0 a1 b2 s)) (fun e => some (f_slices_insertionSortCmpFunc_AtomsOf_2_x0_1 a1 b2 e)) := by kernel_rfl
theorem f_slices_insertionSortCmpFunc_AtomsOf_2_l0 (a1 : Int) (b2 : Int) : ∀ s r, loopL (f_slices_insertionSortCmpFunc_AtomsOf_2_r0 a1 b2) s = some r → LS Try.prog f_slices_insertionSortCmpFunc_AtomsOf_2_F (bodyOf Try.f79 0) (f_slices_insertionSortCmpFunc_AtomsOf_2_fr0 a1 b2 s) (enX (f_slices_insertionSortCmpFunc_AtomsOf_2_x0_1 a1 b2) (f_slices_insertionSortCmpFunc_AtomsOf_2_x0_2 a1 b2) r) :=
  loop_true E0ok f_slices_insertionSortCmpFunc_AtomsOf_2_Mt (addL_true (f_slices_insertionSortCmpFunc_AtomsOf_2_tt2) (noL_true)) f_slices_insertionSortCmpFunc_AtomsOf_2_o (fun _ h => by cases h) (fun _ h => by cases h) (fun _ h => by cases h) (fun _ h => by cases h) (fun s => (f_slices_insertionSortCmpFunc_AtomsOf_2_e0 a1 b2 s).trans (f_slices_insertionSortCmpFunc_AtomsOf_2_p0 a1 b2 s _ _ (fun e => some (f_slices_insertionSortCmpFunc_AtomsOf_2_x0_2 a1 b2 e))))
def f_slices_insertionSortCmpFunc_AtomsOf_2_t0 (σ : List AV) : Option (Bool × Bool × (X × List AV) × (X × List AV)) := match dec f_slices_insertionSortCmpFunc_AtomsOf_2_h0 σ with
  | some [.l v0, .i a1, .i b2, .i i8] => some (isOne (loopL (f_slices_insertionSortCmpFunc_AtomsOf_2_r0 a1 b2) (v0, i8)), true, f_slices_insertionSortCmpFunc_AtomsOf_2_x0_1 a1 b2 (getOne ([], 0) (loopL (f_slices_insertionSortCmpFunc_AtomsOf_2_r0 a1 b2) (v0, i8))), (.ret, []))
  | _ => none
theorem f_slices_insertionSortCmpFunc_AtomsOf_2_tt0 : TTrue Try.prog f_slices_insertionSortCmpFunc_AtomsOf_2_F Try.f79 0 (f_slices_insertionSortCmpFunc_AtomsOf_2_t0) := by
  intro σ p r r' h
  unfold f_slices_insertionSortCmpFunc_AtomsOf_2_t0 at h
  split at h
  · rename_i hd
    rw [← dec_enc hd]
    exact row1 (f_slices_insertionSortCmpFunc_AtomsOf_2_l0 _ _ _) h
  · cases h
theorem f_slices_insertionSortCmpFunc_AtomsOf_2_p {R : Type} (a1 : Int) (b2 : Int) (h0 : List Sc) (kR : List Sc → Option R) : f_slices_insertionSortCmpFunc_AtomsOf_2_k a1 b2 h0 kR = (f_slices_insertionSortCmpFunc_AtomsOf_2_k a1 b2 h0 some).bind kR := by
  simp only [f_slices_insertionSortCmpFunc_AtomsOf_2_k, bl1B, someB]
theorem f_slices_insertionSortCmpFunc_AtomsOf_2_e (a1 : Int) (b2 : Int) (h0 : List Sc) : runFn E0 f_slices_insertionSortCmpFunc_AtomsOf_2_M H0 f_slices_insertionSortCmpFunc_AtomsOf_2_F (asL (addL 0 (f_slices_insertionSortCmpFunc_AtomsOf_2_t0) (addL 2 (f_slices_insertionSortCmpFunc_AtomsOf_2_t2) (noL)))) Try.f79 (f_slices_insertionSortCmpFunc_AtomsOf_2_a a1 b2 h0) (f_slices_insertionSortCmpFunc_AtomsOf_2_i a1 b2 h0) = f_slices_insertionSortCmpFunc_AtomsOf_2_k a1 b2 h0 (fun r => some (f_slices_insertionSortCmpFunc_AtomsOf_2_en r)) := by kernel_rfl
theorem f_slices_insertionSortCmpFunc_AtomsOf_2_ok (a1 : Int) (b2 : Int) (h0 : List Sc) (r : List Sc) (h : f_slices_insertionSortCmpFunc_AtomsOf_2 a1 b2 h0 = some r) : CS Try.prog 79 (f_slices_insertionSortCmpFunc_AtomsOf_2_a a1 b2 h0) (f_slices_insertionSortCmpFunc_AtomsOf_2_i a1 b2 h0) (f_slices_insertionSortCmpFunc_AtomsOf_2_en r).1 (f_slices_insertionSortCmpFunc_AtomsOf_2_en r).2 :=
  fn_true (Gk := fun k => f_slices_insertionSortCmpFunc_AtomsOf_2_k a1 b2 h0 k) (en := f_slices_insertionSortCmpFunc_AtomsOf_2_en) Try.func79 E0ok f_slices_insertionSortCmpFunc_AtomsOf_2_Mt (addL_true (f_slices_insertionSortCmpFunc_AtomsOf_2_tt0) (addL_true (f_slices_insertionSortCmpFunc_AtomsOf_2_tt2) (noL_true))) f_slices_insertionSortCmpFunc_AtomsOf_2_o (f_slices_insertionSortCmpFunc_AtomsOf_2_e a1 b2 h0) (f_slices_insertionSortCmpFunc_AtomsOf_2_p a1 b2 h0) h
def f_slices_insertionSortCmpFunc_AtomsOf_2_c : CRow := fun args inh => match dec2 [.p (.al 0), .p (.int .i64), .p (.int .i64), .fn 46 []] [.own 1000022] args inh with
  | some ([.i a1, .i b2], [.l h0]) => some ((f_slices_insertionSortCmpFunc_AtomsOf_2 a1 b2 h0).isSome, (f_slices_insertionSortCmpFunc_AtomsOf_2_en ((f_slices_insertionSortCmpFunc_AtomsOf_2 a1 b2 h0).getD [])).1, (f_slices_insertionSortCmpFunc_AtomsOf_2_en ((f_slices_insertionSortCmpFunc_AtomsOf_2 a1 b2 h0).getD [])).2)
  | _ => none
theorem f_slices_insertionSortCmpFunc_AtomsOf_2_cc : CTrue Try.prog 79 f_slices_insertionSortCmpFunc_AtomsOf_2_c := by
  intro args inh rs out h
  unfold f_slices_insertionSortCmpFunc_AtomsOf_2_c at h
  split at h
  · rename_i hd
    obtain ⟨h1, h2⟩ := dec2_enc hd
    rw [← h1, ← h2]
    exact rowC (f_slices_insertionSortCmpFunc_AtomsOf_2_ok _ _ _) h
  · cases h

def f_slices_order2CmpFunc_AtomsOf_2_F : Fi := { nv := 2, nc := 2, m := 2, vt := [], kl := [], sk := [], mvs := [], fz := [] }
def f_slices_order2CmpFunc_AtomsOf_2_a (a1 : Int) (b2 : Int) (h0 : List Sc) (h1 : Int) : List AV := enc [.p (.al 0), .p (.int .i64), .p (.int .i64), .p (.pt 1 1), .fn 46 []] [.i a1, .i b2]
def f_slices_order2CmpFunc_AtomsOf_2_i (a1 : Int) (b2 : Int) (h0 : List Sc) (h1 : Int) : List AV := enc [.own 1000022, .p (.int .i64)] [.l h0, .i h1]
def f_slices_order2CmpFunc_AtomsOf_2_en (r : Int × Int × List Sc × Int) : List AV × List AV := (enc [.p (.int .i64), .p (.int .i64)] [.i r.1, .i r.2.1], enc [.own 1000022, .p (.int .i64)] [.l r.2.2.1, .i r.2.2.2])
def f_slices_order2CmpFunc_AtomsOf_2_M : Calling := addC 46 f_i_AtomsOf_2_c (noC)
theorem f_slices_order2CmpFunc_AtomsOf_2_Mt : CallOk Try.prog (f_slices_order2CmpFunc_AtomsOf_2_M) := addC_true f_i_AtomsOf_2_cc (noC_true)
theorem f_slices_order2CmpFunc_AtomsOf_2_o : loopsOnce Try.f111 = true := by kernel_rfl
theorem f_slices_order2CmpFunc_AtomsOf_2_p {R : Type} (a1 : Int) (b2 : Int) (h0 : List Sc) (h1 : Int) (kR : Int × Int × List Sc × Int → Option R) : f_slices_order2CmpFunc_AtomsOf_2_k a1 b2 h0 h1 kR = (f_slices_order2CmpFunc_AtomsOf_2_k a1 b2 h0 h1 some).bind kR := by
  simp only [f_slices_order2CmpFunc_AtomsOf_2_k, brB, boB, someB, noneB]
theorem f_slices_order2CmpFunc_AtomsOf_2_e (a1 : Int) (b2 : Int) (h0 : List Sc) (h1 : Int) : runFn E0 f_slices_order2CmpFunc_AtomsOf_2_M H0 f_slices_order2CmpFunc_AtomsOf_2_F (asL (noL)) Try.f111 (f_slices_order2CmpFunc_AtomsOf_2_a a1 b2 h0 h1) (f_slices_order2CmpFunc_AtomsOf_2_i a1 b2 h0 h1) = f_slices_order2CmpFunc_AtomsOf_2_k a1 b2 h0 h1 (fun r => some (f_slices_order2CmpFunc_AtomsOf_2_en r)) := by kernel_rfl
theorem f_slices_order2CmpFunc_AtomsOf_2_ok (a1 : Int) (b2 : Int) (h0 : List Sc) (h1 : Int) (r : Int × Int × List Sc × Int) (h : f_slices_order2CmpFunc_AtomsOf_2 a1 b2 h0 h1 = some r) : CS Try.prog 111 (f_slices_order2CmpFunc_AtomsOf_2_a a1 b2 h0 h1) (f_slices_order2CmpFunc_AtomsOf_2_i a1 b2 h0 h1) (f_slices_order2CmpFunc_AtomsOf_2_en r).1 (f_slices_order2CmpFunc_AtomsOf_2_en r).2 :=
  fn_true (Gk := fun k => f_slices_order2CmpFunc_AtomsOf_2_k a1 b2 h0 h1 k) (en := f_slices_order2CmpFunc_AtomsOf_2_en) Try.func111 E0ok f_slices_order2CmpFunc_AtomsOf_2_Mt (noL_true) f_slices_order2CmpFunc_AtomsOf_2_o (f_slices_order2CmpFunc_AtomsOf_2_e a1 b2 h0 h1) (f_slices_order2CmpFunc_AtomsOf_2_p a1 b2 h0 h1) h
def f_slices_order2CmpFunc_AtomsOf_2_c : CRow := fun args inh => match dec2 [.p (.al 0), .p (.int .i64), .p (.int .i64), .p (.pt 1 1), .fn 46 []] [.own 1000022, .p (.int .i64)] args inh with
  | some ([.i a1, .i b2], [.l h0, .i h1]) => some ((f_slices_order2CmpFunc_AtomsOf_2 a1 b2 h0 h1).isSome, (f_slices_order2CmpFunc_AtomsOf_2_en ((f_slices_order2CmpFunc_AtomsOf_2 a1 b2 h0 h1).getD (0, 0, [], 0))).1, (f_slices_order2CmpFunc_AtomsOf_2_en ((f_slices_order2CmpFunc_AtomsOf_2 a1 b2 h0 h1).getD (0, 0, [], 0))).2)
  | _ => none
theorem f_slices_order2CmpFunc_AtomsOf_2_cc : CTrue Try.prog 111 f_slices_order2CmpFunc_AtomsOf_2_c := by
  intro args inh rs out h
  unfold f_slices_order2CmpFunc_AtomsOf_2_c at h
  split at h
  · rename_i hd
    obtain ⟨h1, h2⟩ := dec2_enc hd
    rw [← h1, ← h2]
    exact rowC (f_slices_order2CmpFunc_AtomsOf_2_ok _ _ _ _) h
  · cases h

def f_slices_medianCmpFunc_AtomsOf_2_F : Fi := { nv := 2, nc := 2, m := 2, vt := [], kl := [], sk := [], mvs := [], fz := [] }
def f_slices_medianCmpFunc_AtomsOf_2_a (a1 : Int) (b2 : Int) (c3 : Int) (h0 : List Sc) (h1 : Int) : List AV := enc [.p (.al 0), .p (.int .i64), .p (.int .i64), .p (.int .i64), .p (.pt 1 1), .fn 46 []] [.i a1, .i b2, .i c3]
def f_slices_medianCmpFunc_AtomsOf_2_i (a1 : Int) (b2 : Int) (c3 : Int) (h0 : List Sc) (h1 : Int) : List AV := enc [.own 1000022, .p (.int .i64)] [.l h0, .i h1]
def f_slices_medianCmpFunc_AtomsOf_2_en (r : Int × List Sc × Int) : List AV × List AV := (enc [.p (.int .i64)] [.i r.1], enc [.own 1000022, .p (.int .i64)] [.l r.2.1, .i r.2.2])
def f_slices_medianCmpFunc_AtomsOf_2_M : Calling := addC 111 f_slices_order2CmpFunc_AtomsOf_2_c (noC)
theorem f_slices_medianCmpFunc_AtomsOf_2_Mt : CallOk Try.prog (f_slices_medianCmpFunc_AtomsOf_2_M) := addC_true f_slices_order2CmpFunc_AtomsOf_2_cc (noC_true)
theorem f_slices_medianCmpFunc_AtomsOf_2_o : loopsOnce Try.f106 = true := by kernel_rfl
theorem f_slices_medianCmpFunc_AtomsOf_2_p {R : Type} (a1 : Int) (b2 : Int) (c3 : Int) (h0 : List Sc) (h1 : Int) (kR : Int × List Sc × Int → Option R) : f_slices_medianCmpFunc_AtomsOf_2_k a1 b2 c3 h0 h1 kR = (f_slices_medianCmpFunc_AtomsOf_2_k a1 b2 c3 h0 h1 some).bind kR := by
  simp only [f_slices_medianCmpFunc_AtomsOf_2_k, boB, someB]
theorem f_slices_medianCmpFunc_AtomsOf_2_e (a1 : Int) (b2 : Int) (c3 : Int) (h0 : List Sc) (h1 : Int) : runFn E0 f_slices_medianCmpFunc_AtomsOf_2_M H0 f_slices_medianCmpFunc_AtomsOf_2_F (asL (noL)) Try.f106 (f_slices_medianCmpFunc_AtomsOf_2_a a1 b2 c3 h0 h1) (f_slices_medianCmpFunc_AtomsOf_2_i a1 b2 c3 h0 h1) = f_slices_medianCmpFunc_AtomsOf_2_k a1 b2 c3 h0 h1 (fun r => some (f_slices_medianCmpFunc_AtomsOf_2_en r)) := by kernel_rfl
theorem f_slices_medianCmpFunc_AtomsOf_2_ok (a1 : Int) (b2 : Int) (c3 : Int) (h0 : List Sc) (h1 : Int) (r : Int × List Sc × Int) (h : f_slices_medianCmpFunc_AtomsOf_2 a1 b2 c3 h0 h1 = some r) : CS Try.prog 106 (f_slices_medianCmpFunc_AtomsOf_2_a a1 b2 c3 h0 h1) (f_slices_medianCmpFunc_AtomsOf_2_i a1 b2 c3 h0 h1) (f_slices_medianCmpFunc_AtomsOf_2_en r).1 (f_slices_medianCmpFunc_AtomsOf_2_en r).2 :=
  fn_true (Gk := fun k => f_slices_medianCmpFunc_AtomsOf_2_k a1 b2 c3 h0 h1 k) (en := f_slices_medianCmpFunc_AtomsOf_2_en) Try.func106 E0ok f_slices_medianCmpFunc_AtomsOf_2_Mt (noL_true) f_slices_medianCmpFunc_AtomsOf_2_o (f_slices_medianCmpFunc_AtomsOf_2_e a1 b2 c3 h0 h1) (f_slices_medianCmpFunc_AtomsOf_2_p a1 b2 c3 h0 h1) h
def f_slices_medianCmpFunc_AtomsOf_2_c : CRow := fun args inh => match dec2 [.p (.al 0), .p (.int .i64), .p (.int .i64), .p (.int .i64), .p (.pt 1 1), .fn 46 []] [.own 1000022, .p (.int .i64)] args inh with
  | some ([.i a1, .i b2, .i c3], [.l h0, .i h1]) => some ((f_slices_medianCmpFunc_AtomsOf_2 a1 b2 c3 h0 h1).isSome, (f_slices_medianCmpFunc_AtomsOf_2_en ((f_slices_medianCmpFunc_AtomsOf_2 a1 b2 c3 h0 h1).getD (0, [], 0))).1, (f_slices_medianCmpFunc_AtomsOf_2_en ((f_slices_medianCmpFunc_AtomsOf_2 a1 b2 c3 h0 h1).getD (0, [], 0))).2)
  | _ => none
theorem f_slices_medianCmpFunc_AtomsOf_2_cc : CTrue Try.prog 106 f_slices_medianCmpFunc_AtomsOf_2_c := by
  intro args inh rs out h
  unfold f_slices_medianCmpFunc_AtomsOf_2_c at h
  split at h
  · rename_i hd
    obtain ⟨h1, h2⟩ := dec2_enc hd
    rw [← h1, ← h2]
    exact rowC (f_slices_medianCmpFunc_AtomsOf_2_ok _ _ _ _ _) h
  · cases h

def f_slices_choosePivotCmpFunc_AtomsOf_2_F : Fi := { nv := 2, nc := 2, m := 1, vt := [(11, 1)], kl := [], sk := [], mvs := [], fz := [] }
def f_slices_choosePivotCmpFunc_AtomsOf_2_a (a1 : Int) (b2 : Int) (h0 : List Sc) : List AV := enc [.p (.al 0), .p (.int .i64), .p (.int .i64), .fn 46 []] [.i a1, .i b2]
def f_slices_choosePivotCmpFunc_AtomsOf_2_i (a1 : Int) (b2 : Int) (h0 : List Sc) : List AV := enc [.own 1000022] [.l h0]
def f_slices_choosePivotCmpFunc_AtomsOf_2_en (r : Int × Int × List Sc) : List AV × List AV := (enc [.p (.int .i64), .p (.int .i64)] [.i r.1, .i r.2.1], enc [.own 1000022] [.l r.2.2])
def f_slices_choosePivotCmpFunc_AtomsOf_2_M : Calling := addC 106 f_slices_medianCmpFunc_AtomsOf_2_c (noC)
theorem f_slices_choosePivotCmpFunc_AtomsOf_2_Mt : CallOk Try.prog (f_slices_choosePivotCmpFunc_AtomsOf_2_M) := addC_true f_slices_medianCmpFunc_AtomsOf_2_cc (noC_true)
theorem f_slices_choosePivotCmpFunc_AtomsOf_2_o : loopsOnce Try.f82 = true := by kernel_rfl
theorem f_slices_choosePivotCmpFunc_AtomsOf_2_p {R : Type} (a1 : Int) (b2 : Int) (h0 : List Sc) (kR : Int × Int × List Sc → Option R) : f_slices_choosePivotCmpFunc_AtomsOf_2_k a1 b2 h0 kR = (f_slices_choosePivotCmpFunc_AtomsOf_2_k a1 b2 h0 some).bind kR := by
  simp only [f_slices_choosePivotCmpFunc_AtomsOf_2_k, brB, boB, someB, noneB]
theorem f_slices_choosePivotCmpFunc_AtomsOf_2_e (a1 : Int) (b2 : Int) (h0 : List Sc) : runFn E0 f_slices_choosePivotCmpFunc_AtomsOf_2_M H0 f_slices_choosePivotCmpFunc_AtomsOf_2_F (asL (noL)) Try.f82 (f_slices_choosePivotCmpFunc_AtomsOf_2_a a1 b2 h0) (f_slices_choosePivotCmpFunc_AtomsOf_2_i a1 b2 h0) = f_slices_choosePivotCmpFunc_AtomsOf_2_k a1 b2 h0 (fun r => some (f_slices_choosePivotCmpFunc_AtomsOf_2_en r)) := by kernel_rfl
theorem f_slices_choosePivotCmpFunc_AtomsOf_2_ok (a1 : Int) (b2 : Int) (h0 : List Sc) (r : Int × Int × List Sc) (h : f_slices_choosePivotCmpFunc_AtomsOf_2 a1 b2 h0 = some r) : CS Try.prog 82 (f_slices_choosePivotCmpFunc_AtomsOf_2_a a1 b2 h0) (f_slices_choosePivotCmpFunc_AtomsOf_2_i a1 b2 h0) (f_slices_choosePivotCmpFunc_AtomsOf_2_en r).1 (f_slices_choosePivotCmpFunc_AtomsOf_2_en r).2 :=
  fn_true (Gk := fun k => f_slices_choosePivotCmpFunc_AtomsOf_2_k a1 b2 h0 k) (en := f_slices_choosePivotCmpFunc_AtomsOf_2_en) Try.func82 E0ok f_slices_choosePivotCmpFunc_AtomsOf_2_Mt (noL_true) f_slices_choosePivotCmpFunc_AtomsOf_2_o (f_slices_choosePivotCmpFunc_AtomsOf_2_e a1 b2 h0) (f_slices_choosePivotCmpFunc_AtomsOf_2_p a1 b2 h0) h
def f_slices_choosePivotCmpFunc_AtomsOf_2_c : CRow := fun args inh => match dec2 [.p (.al 0), .p (.int .i64), .p (.int .i64), .fn 46 []] [.own 1000022] args inh with
  | some ([.i a1, .i b2], [.l h0]) => some ((f_slices_choosePivotCmpFunc_AtomsOf_2 a1 b2 h0).isSome, (f_slices_choosePivotCmpFunc_AtomsOf_2_en ((f_slices_choosePivotCmpFunc_AtomsOf_2 a1 b2 h0).getD (0, 0, []))).1, (f_slices_choosePivotCmpFunc_AtomsOf_2_en ((f_slices_choosePivotCmpFunc_AtomsOf_2 a1 b2 h0).getD (0, 0, []))).2)
  | _ => none
theorem f_slices_choosePivotCmpFunc_AtomsOf_2_cc : CTrue Try.prog 82 f_slices_choosePivotCmpFunc_AtomsOf_2_c := by
  intro args inh rs out h
  unfold f_slices_choosePivotCmpFunc_AtomsOf_2_c at h
  split at h
  · rename_i hd
    obtain ⟨h1, h2⟩ := dec2_enc hd
    rw [← h1, ← h2]
    exact rowC (f_slices_choosePivotCmpFunc_AtomsOf_2_ok _ _ _) h
  · cases h

def f_slices_partialInsertionSortCmpFunc_AtomsOf_2_F : Fi := { nv := 1, nc := 1, m := 1, vt := [], kl := [(6, ([5, 6, 7, 8, 9, 12, 14, 15, 16, 17, 18, 19, 20, 21, 22, 23, 24, 25, 26, 27, 28, 29, 30, 31, 32, 33, 34, 35, 36, 37, 38, 39, 40, 41, 42, 43, 44, 45, 46, 47, 48, 49, 50, 51, 52, 53, 54, 55, 56, 57, 58, 59, 60, 61, 62, 63, 64, 65, 66, 67, 68, 69, 70, 71, 72, 73, 74, 75, 76, 77, 78, 79, 80, 81, 82, 83, 84, 85, 86, 87, 88, 89, 90, 91, 92, 93, 94, 95, 96, 97, 98, 99, 100, 101, 102, 103, 104, 105, 106, 107, 108, 109, 110, 111, 112, 113, 114, 115, 116, 117, 118, 119, 120, 121, 122, 123, 124, 125, 126, 127, 128, 129, 130, 131, 132, 133, 134, 135, 136, 137, 138, 139, 140, 141], [5, 6, 7, 8, 9, 12, 13, 14, 15, 16, 17, 18, 19, 20, 21, 22, 23, 24, 25, 26, 27, 28, 29, 30, 31, 32, 33, 34, 35, 36, 37, 38, 39, 40, 41, 42, 43, 44, 45, 46, 47, 48, 49, 50, 51, 52, 53, 54, 55, 56, 57, 58, 59, 60, 61, 62, 63, 64, 65, 66, 67, 68, 69, 70, 71, 72, 73, 74, 75, 76, 77, 78, 79, 80, 81, 82, 83, 84, 85, 86, 87, 88, 89, 90, 91, 92, 93, 94, 95, 96, 97, 98, 99, 100, 101, 102, 103, 104, 105, 106, 107, 108, 109, 110, 111, 112, 113, 114, 115, 116, 117, 118, 119, 120, 121, 122, 123, 124, 125, 126, 127, 128, 129, 130, 131, 132, 133, 134, 135, 136, 137, 138, 139, 140, 141], [1, 2, 3, 4, 5, 6, 7, 8, 10, 11, 12, 13, 14, 15, 16, 17, 18, 19, 20, 21, 22, 23, 24, 25, 26, 27, 28, 29, 30, 31, 32, 33, 34, 35, 36, 37, 38, 39, 40, 41, 42, 43, 44, 45, 46, 47, 48, 49, 50, 51, 52, 53, 54, 55, 56, 57, 58, 59, 60, 61, 62, 63, 64, 65, 66, 67, 68, 69, 70, 71, 72, 73, 74, 75, 76, 77, 78, 79, 80, 81, 82, 83, 84, 85, 86, 87, 88, 89, 90, 91, 92, 93, 94, 95, 96, 97, 98, 99, 100, 101, 102, 103, 104, 105, 106, 107, 108, 109, 110, 111, 112, 113, 114, 115, 116, 117, 118, 119, 120, 121, 122, 123, 124, 125, 126, 127, 128, 129, 130, 131, 132, 133, 134, 135, 136, 137, 138, 139, 140, 141])), (4, ([5, 6, 7, 8, 9, 13, 14, 15, 16, 17, 18, 19, 20, 21, 22, 23, 24, 25, 26, 27, 28, 29, 30, 31, 32, 33, 34, 35, 36, 37, 38, 39, 40, 41, 42, 43, 44, 45, 46, 47, 48, 49, 50, 51, 52, 53, 54, 55, 56, 57, 58, 59, 60, 61, 62, 63, 64, 65, 66, 67, 68, 69, 70, 71, 72, 73, 74, 75, 76, 77, 78, 79, 80, 81, 82, 83, 84, 85, 86, 87, 88, 89, 90, 91, 92, 93, 94, 95, 96, 97, 98, 99, 100, 101, 102, 103, 104, 105, 106, 107, 108, 109, 110, 111, 112, 113, 114, 115, 116, 117, 118, 119, 120, 121, 122, 123, 124, 125, 126, 127, 128, 129, 130, 131, 132, 133, 134, 135, 136, 137, 138, 139, 140, 141], [5, 6, 7, 8, 9, 12, 13, 14, 15, 16, 17, 18, 19, 20, 21, 22, 23, 24, 25, 26, 27, 28, 29, 30, 31, 32, 33, 34, 35, 36, 37, 38, 39, 40, 41, 42, 43, 44, 45, 46, 47, 48, 49, 50, 51, 52, 53, 54, 55, 56, 57, 58, 59, 60, 61, 62, 63, 64, 65, 66, 67, 68, 69, 70, 71, 72, 73, 74, 75, 76, 77, 78, 79, 80, 81, 82, 83, 84, 85, 86, 87, 88, 89, 90, 91, 92, 93, 94, 95, 96, 97, 98, 99, 100, 101, 102, 103, 104, 105, 106, 107, 108, 109, 110, 111, 112, 113, 114, 115, 116, 117, 118, 119, 120, 121, 122, 123, 124, 125, 126, 127, 128, 129, 130, 131, 132, 133, 134, 135, 136, 137, 138, 139, 140, 141], [1, 2, 3, 4, 5, 6, 7, 8, 10, 11, 12, 13, 14, 15, 16, 17, 18, 19, 20, 21, 22, 23, 24, 25, 26, 27, 28, 29, 30, 31, 32, 33, 34, 35, 36, 37, 38, 39, 40, 41, 42, 43, 44, 45, 46, 47, 48, 49, 50, 51, 52, 53, 54, 55, 56, 57, 58, 59, 60, 61, 62, 63, 64, 65, 66, 67, 68, 69, 70, 71, 72, 73, 74, 75, 76, 77, 78, 79, 80, 81, 82, 83, 84, 85, 86, 87, 88, 89, 90, 91, 92, 93, 94, 95, 96, 97, 98, 99, 100, 101, 102, 103, 104, 105, 106, 107, 108, 109, 110, 111, 112, 113, 114, 115, 116, 117, 118, 119, 120, 121, 122, 123, 124, 125, 126, 127, 128, 129, 130, 131, 132, 133, 134, 135, 136, 137, 138, 139, 140, 141])), (2, ([5, 6, 7, 8, 9, 12, 13, 14, 15, 16, 17, 18, 19, 20, 21, 22, 23, 24, 25, 26, 27, 28, 29, 30, 31, 32, 33, 34, 35, 36, 37, 38, 39, 40, 41, 42, 43, 44, 45, 46, 47, 48, 49, 50, 51, 52, 53, 54, 55, 56, 57, 58, 59, 60, 61, 62, 63, 64, 65, 66, 67, 68, 69, 70, 71, 72, 73, 74, 75, 76, 77, 78, 79, 80, 81, 82, 83, 84, 85, 86, 87, 88, 89, 90, 91, 92, 93, 94, 95, 96, 97, 98, 99, 100, 101, 102, 103, 104, 105, 106, 107, 108, 109, 110, 111, 112, 113, 114, 115, 116, 117, 118, 119, 120, 121, 122, 123, 124, 125, 126, 127, 128, 129, 130, 131, 132, 133, 134, 135, 136, 137, 138, 139, 140, 141], [5, 6, 7, 8, 9, 12, 13, 14, 15, 16, 17, 18, 19, 20, 21, 22, 23, 24, 25, 26, 27, 28, 29, 30, 31, 32, 33, 34, 35, 36, 37, 38, 39, 40, 41, 42, 43, 44, 45, 46, 47, 48, 49, 50, 51, 52, 53, 54, 55, 56, 57, 58, 59, 60, 61, 62, 63, 64, 65, 66, 67, 68, 69, 70, 71, 72, 73, 74, 75, 76, 77, 78, 79, 80, 81, 82, 83, 84, 85, 86, 87, 88, 89, 90, 91, 92, 93, 94, 95, 96, 97, 98, 99, 100, 101, 102, 103, 104, 105, 106, 107, 108, 109, 110, 111, 112, 113, 114, 115, 116, 117, 118, 119, 120, 121, 122, 123, 124, 125, 126, 127, 128, 129, 130, 131, 132, 133, 134, 135, 136, 137, 138, 139, 140, 141], [1, 2, 3, 4, 5, 6, 7, 8, 10, 11, 12, 13, 14, 15, 16, 17, 18, 19, 20, 21, 22, 23, 24, 25, 26, 27, 28, 29, 30, 31, 32, 33, 34, 35, 36, 37, 38, 39, 40, 41, 42, 43, 44, 45, 46, 47, 48, 49, 50, 51, 52, 53, 54, 55, 56, 57, 58, 59, 60, 61, 62, 63, 64, 65, 66, 67, 68, 69, 70, 71, 72, 73, 74, 75, 76, 77, 78, 79, 80, 81, 82, 83, 84, 85, 86, 87, 88, 89, 90, 91, 92, 93, 94, 95, 96, 97, 98, 99, 100, 101, 102, 103, 104, 105, 106, 107, 108, 109, 110, 111, 112, 113, 114, 115, 116, 117, 118, 119, 120, 121, 122, 123, 124, 125, 126, 127, 128, 129, 130, 131, 132, 133, 134, 135, 136, 137, 138, 139, 140, 141])), (0, ([5, 6, 7, 8, 9, 12, 13, 14, 15, 16, 17, 18, 19, 20, 21, 22, 23, 24, 25, 26, 27, 28, 29, 30, 31, 32, 33, 34, 35, 36, 37, 38, 39, 40, 41, 42, 43, 44, 45, 46, 47, 48, 49, 50, 51, 52, 53, 54, 55, 56, 57, 58, 59, 60, 61, 62, 63, 64, 65, 66, 67, 68, 69, 70, 71, 72, 73, 74, 75, 76, 77, 78, 79, 80, 81, 82, 83, 84, 85, 86, 87, 88, 89, 90, 91, 92, 93, 94, 95, 96, 97, 98, 99, 100, 101, 102, 103, 104, 105, 106, 107, 108, 109, 110, 111, 112, 113, 114, 115, 116, 117, 118, 119, 120, 121, 122, 123, 124, 125, 126, 127, 128, 129, 130, 131, 132, 133, 134, 135, 136, 137, 138, 139, 140, 141], [5, 6, 7, 8, 9, 12, 13, 14, 15, 16, 17, 18, 19, 20, 21, 22, 23, 24, 25, 26, 27, 28, 29, 30, 31, 32, 33, 34, 35, 36, 37, 38, 39, 40, 41, 42, 43, 44, 45, 46, 47, 48, 49, 50, 51, 52, 53, 54, 55, 56, 57, 58, 59, 60, 61, 62, 63, 64, 65, 66, 67, 68, 69, 70, 71, 72, 73, 74, 75, 76, 77, 78, 79, 80, 81, 82, 83, 84, 85, 86, 87, 88, 89, 90, 91, 92, 93, 94, 95, 96, 97, 98, 99, 100, 101, 102, 103, 104, 105, 106, 107, 108, 109, 110, 111, 112, 113, 114, 115, 116, 117, 118, 119, 120, 121, 122, 123, 124, 125, 126, 127, 128, 129, 130, 131, 132, 133, 134, 135, 136, 137, 138, 139, 140, 141], [1, 2, 3, 4, 5, 6, 7, 8, 10, 11, 12, 13, 14, 15, 16, 17, 18, 19, 20, 21, 22, 23, 24, 25, 26, 27, 28, 29, 30, 31, 32, 33, 34, 35, 36, 37, 38, 39, 40, 41, 42, 43, 44, 45, 46, 47, 48, 49, 50, 51, 52, 53, 54, 55, 56, 57, 58, 59, 60, 61, 62, 63, 64, 65, 66, 67, 68, 69, 70, 71, 72, 73, 74, 75, 76, 77, 78, 79, 80, 81, 82, 83, 84, 85, 86, 87, 88, 89, 90, 91, 92, 93, 94, 95, 96, 97, 98, 99, 100, 101, 102, 103, 104, 105, 106, 107, 108, 109, 110, 111, 112, 113, 114, 115, 116, 117, 118, 119, 120, 121, 122, 123, 124, 125, 126, 127, 128, 129, 130, 131, 132, 133, 134, 135, 136, 137, 138, 139, 140, 141]))], sk := [], mvs := [], fz := [] }
def f_slices_partialInsertionSortCmpFunc_AtomsOf_2_a (p1 : Int) (p2 : Int) (h0 : List Sc) : List AV := enc [.p (.al 0), .p (.int .i64), .p (.int .i64), .fn 46 []] [.i p1, .i p2]
def f_slices_partialInsertionSortCmpFunc_AtomsOf_2_i (p1 : Int) (p2 : Int) (h0 : List Sc) : List AV := enc [.own 1000022] [.l h0]
def f_slices_partialInsertionSortCmpFunc_AtomsOf_2_en (r : Bool × List Sc) : List AV × List AV := (enc [.p .boo] [.b r.1], enc [.own 1000022] [.l r.2])
def f_slices_partialInsertionSortCmpFunc_AtomsOf_2_M : Calling := addC 46 f_i_AtomsOf_2_c (noC)
theorem f_slices_partialInsertionSortCmpFunc_AtomsOf_2_Mt : CallOk Try.prog (f_slices_partialInsertionSortCmpFunc_AtomsOf_2_M) := addC_true f_i_AtomsOf_2_cc (noC_true)
theorem f_slices_partialInsertionSortCmpFunc_AtomsOf_2_o : loopsOnce Try.f84 = true := by kernel_rfl
def f_slices_partialInsertionSortCmpFunc_AtomsOf_2_h2 : List Sh := [.own 1000022, .p (.al 0), .p (.int .i64), .p (.int .i64), .fn 46 [], .u, .u, .u, .u, .u, .p (.int .i64), .p (.int .i64), .u, .u, .u, .u, .u, .u, .u, .u, .u, .u, .u, .u, .u, .u, .u, .u, .u, .u, .u, .u, .u, .u, .u, .u, .u, .u, .u, .u, .u, .u, .u, .u, .u, .u, .u, .u, .u, .u, .u, .u, .u, .u, .u, .u, .u, .u, .u, .u, .u, .u, .u, .u, .u, .u, .u, .u, .u, .u, .u, .u, .u, .u, .u, .u, .u, .u, .u, .u, .u, .u, .u, .u, .u, .u, .u, .u, .u, .u, .u, .u, .u, .u, .u, .u, .u, .u, .u, .u, .u, .u, .u, .u, .u, .u, .u, .u, .u, .u, .u, .u, .u, .u, .u, .u, .u, .u, .u, .u, .u, .u, .u, .u, .u, .u, .u, .u, .u, .u, .u, .u, .u, .u, .u, .u, .u, .u, .u, .u, .u, .u]
def f_slices_partialInsertionSortCmpFunc_AtomsOf_2_fr2 (t1 : Int) (t2 : Int) (t10 : Int) (s : List Sc × Int) : List AV := enc f_slices_partialInsertionSortCmpFunc_AtomsOf_2_h2 [.l s.1, .i t1, .i t2, .i s.2, .i t10]
def f_slices_partialInsertionSortCmpFunc_AtomsOf_2_g2_1 : List Sh := [.own 1000022, .p (.al 0), .p (.int .i64), .p (.int .i64), .fn 46 [], .u, .u, .u, .u, .u, .p (.int .i64), .p (.int .i64), .u, .u, .u, .u, .u, .u, .u, .u, .u, .u, .u, .u, .u, .u, .u, .u, .u, .u, .u, .u, .u, .u, .u, .u, .u, .u, .u, .u, .u, .u, .u, .u, .u, .u, .u, .u, .u, .u, .u, .u, .u, .u, .u, .u, .u, .u, .u, .u, .u, .u, .u, .u, .u, .u, .u, .u, .u, .u, .u, .u, .u, .u, .u, .u, .u, .u, .u, .u, .u, .u, .u, .u, .u, .u, .u, .u, .u, .u, .u, .u, .u, .u, .u, .u, .u, .u, .u, .u, .u, .u, .u, .u, .u, .u, .u, .u, .u, .u, .u, .u, .u, .u, .u, .u, .u, .u, .u, .u, .u, .u, .u, .u, .u, .u, .u, .u, .u, .u, .u, .u, .u, .u, .u, .u, .u, .u, .u, .u, .u, .u]
def f_slices_partialInsertionSortCmpFunc_AtomsOf_2_x2_1 (t1 : Int) (t2 : Int) (t10 : Int) (e : List Sc × Int) : X × List AV := (.out 2, enc f_slices_partialInsertionSortCmpFunc_AtomsOf_2_g2_1 [.l e.1, .i t1, .i t2, .i e.2, .i t10])
def f_slices_partialInsertionSortCmpFunc_AtomsOf_2_x2_2 (t1 : Int) (t2 : Int) (t10 : Int) (_e : Unit) : X × List AV := (.ret, [])
theorem f_slices_partialInsertionSortCmpFunc_AtomsOf_2_p2 {R : Type} (t1 : Int) (t2 : Int) (t10 : Int) (s : List Sc × Int) (kN : List Sc × Int → Option R) (kA : List Sc × Int → Option R) (kB : Unit → Option R) : f_slices_partialInsertionSortCmpFunc_AtomsOf_2_k2 t1 t2 t10 s.1 s.2 kN kA = (f_slices_partialInsertionSortCmpFunc_AtomsOf_2_r2 t1 t2 t10 s).bind (Ro.el kN kA kB) := by
  simp only [f_slices_partialInsertionSortCmpFunc_AtomsOf_2_k2, f_slices_partialInsertionSortCmpFunc_AtomsOf_2_r2, brB, boB, someB, noneB, Ro.el]
theorem f_slices_partialInsertionSortCmpFunc_AtomsOf_2_e2 (t1 : Int) (t2 : Int) (t10 : Int) (s : List Sc × Int) : EC E0 f_slices_partialInsertionSortCmpFunc_AtomsOf_2_M H0 f_slices_partialInsertionSortCmpFunc_AtomsOf_2_F (asL (noL)) 2 (bodyOf Try.f84 2) (f_slices_partialInsertionSortCmpFunc_AtomsOf_2_fr2 t1 t2 t10 s) (done (klOf f_slices_partialInsertionSortCmpFunc_AtomsOf_2_F 2)) = f_slices_partialInsertionSortCmpFunc_AtomsOf_2_k2 t1 t2 t10 s.1 s.2 (fun s => some (.norm, f_slices_partialInsertionSortCmpFunc_AtomsOf_2_fr2 t1 t2 t10 s)) (fun e => some (f_slices_partialInsertionSortCmpFunc_AtomsOf_2_x2_1 t1 t2 t10 e)) := by kernel_rfl
theorem f_slices_partialInsertionSortCmpFunc_AtomsOf_2_l2 (t1 : Int) (t2 : Int) (t10 : Int) : ∀ s r, loopL (f_slices_partialInsertionSortCmpFunc_AtomsOf_2_r2 t1 t2 t10) s = some r → LS Try.prog f_slices_partialInsertionSortCmpFunc_AtomsOf_2_F (bodyOf Try.f84 2) (f_slices_partialInsertionSortCmpFunc_AtomsOf_2_fr2 t1 t2 t10 s) (enX (f_slices_partialInsertionSortCmpFunc_AtomsOf_2_x2_1 t1 t2 t10) (f_slices_partialInsertionSortCmpFunc_AtomsOf_2_x2_2 t1 t2 t10) r) :=
  loop_true E0ok f_slices_partialInsertionSortCmpFunc_AtomsOf_2_Mt (noL_true) f_slices_partialInsertionSortCmpFunc_AtomsOf_2_o (fun _ h => by cases h) (fun _ h => by cases h) (fun _ h => by cases h) (fun _ h => by cases h) (fun s => (f_slices_partialInsertionSortCmpFunc_AtomsOf_2_e2 t1 t2 t10 s).trans (f_slices_partialInsertionSortCmpFunc_AtomsOf_2_p2 t1 t2 t10 s _ _ (fun e => some (f_slices_partialInsertionSortCmpFunc_AtomsOf_2_x2_2 t1 t2 t10 e))))
def f_slices_partialInsertionSortCmpFunc_AtomsOf_2_t2 (σ : List AV) : Option (Bool × Bool × (X × List AV) × (X × List AV)) := match dec f_slices_partialInsertionSortCmpFunc_AtomsOf_2_h2 σ with
  | some [.l v0, .i t1, .i t2, .i t9, .i t10] => some (isOne (loopL (f_slices_partialInsertionSortCmpFunc_AtomsOf_2_r2 t1 t2 t10) (v0, t9)), true, f_slices_partialInsertionSortCmpFunc_AtomsOf_2_x2_1 t1 t2 t10 (getOne ([], 0) (loopL (f_slices_partialInsertionSortCmpFunc_AtomsOf_2_r2 t1 t2 t10) (v0, t9))), (.ret, []))
  | _ => none
theorem f_slices_partialInsertionSortCmpFunc_AtomsOf_2_tt2 : TTrue Try.prog f_slices_partialInsertionSortCmpFunc_AtomsOf_2_F Try.f84 2 (f_slices_partialInsertionSortCmpFunc_AtomsOf_2_t2) := by
  intro σ p r r' h
  unfold f_slices_partialInsertionSortCmpFunc_AtomsOf_2_t2 at h
  split at h
  · rename_i hd
    rw [← dec_enc hd]
    exact row1 (f_slices_partialInsertionSortCmpFunc_AtomsOf_2_l2 _ _ _ _) h
  · cases h
def f_slices_partialInsertionSortCmpFunc_AtomsOf_2_h4 : List Sh := [.own 1000022, .p (.al 0), .p (.int .i64), .p (.int .i64), .fn 46 [], .u, .u, .u, .u, .u, .p (.int .i64), .p (.int .i64), .p (.int .i64), .u, .u, .u, .u, .u, .u, .u, .u, .u, .u, .u, .u, .u, .u, .u, .u, .u, .u, .u, .u, .u, .u, .u, .u, .u, .u, .u, .u, .u, .u, .u, .u, .u, .u, .u, .u, .u, .u, .u, .u, .u, .u, .u, .u, .u, .u, .u, .u, .u, .u, .u, .u, .u, .u, .u, .u, .u, .u, .u, .u, .u, .u, .u, .u, .u, .u, .u, .u, .u, .u, .u, .u, .u, .u, .u, .u, .u, .u, .u, .u, .u, .u, .u, .u, .u, .u, .u, .u, .u, .u, .u, .u, .u, .u, .u, .u, .u, .u, .u, .u, .u, .u, .u, .u, .u, .u, .u, .u, .u, .u, .u, .u, .u, .u, .u, .u, .u, .u, .u, .u, .u, .u, .u, .u, .u, .u, .u, .u, .u]
def f_slices_partialInsertionSortCmpFunc_AtomsOf_2_fr4 (t1 : Int) (t2 : Int) (t9 : Int) (t10 : Int) (s : List Sc × Int) : List AV := enc f_slices_partialInsertionSortCmpFunc_AtomsOf_2_h4 [.l s.1, .i t1, .i t2, .i t9, .i t10, .i s.2]
def f_slices_partialInsertionSortCmpFunc_AtomsOf_2_g4_1 : List Sh := [.own 1000022, .p (.al 0), .p (.int .i64), .p (.int .i64), .fn 46 [], .u, .u, .u, .u, .u, .p (.int .i64), .p (.int .i64), .u, .u, .u, .u, .u, .u, .u, .u, .u, .u, .u, .u, .u, .u, .u, .u, .u, .u, .u, .u, .u, .u, .u, .u, .u, .u, .u, .u, .u, .u, .u, .u, .u, .u, .u, .u, .u, .u, .u, .u, .u, .u, .u, .u, .u, .u, .u, .u, .u, .u, .u, .u, .u, .u, .u, .u, .u, .u, .u, .u, .u, .u, .u, .u, .u, .u, .u, .u, .u, .u, .u, .u, .u, .u, .u, .u, .u, .u, .u, .u, .u, .u, .u, .u, .u, .u, .u, .u, .u, .u, .u, .u, .u, .u, .u, .u, .u, .u, .u, .u, .u, .u, .u, .u, .u, .u, .u, .u, .u, .u, .u, .u, .u, .u, .u, .u, .u, .u, .u, .u, .u, .u, .u, .u, .u, .u, .u, .u, .u, .u]
def f_slices_partialInsertionSortCmpFunc_AtomsOf_2_x4_1 (t1 : Int) (t2 : Int) (t9 : Int) (t10 : Int) (e : List Sc) : X × List AV := (.out 4, enc f_slices_partialInsertionSortCmpFunc_AtomsOf_2_g4_1 [.l e, .i t1, .i t2, .i t9, .i t10])
def f_slices_partialInsertionSortCmpFunc_AtomsOf_2_x4_2 (t1 : Int) (t2 : Int) (t9 : Int) (t10 : Int) (_e : Unit) : X × List AV := (.ret, [])
theorem f_slices_partialInsertionSortCmpFunc_AtomsOf_2_p4 {R : Type} (t1 : Int) (t2 : Int) (t9 : Int) (t10 : Int) (s : List Sc × Int) (kN : List Sc × Int → Option R) (kA : List Sc → Option R) (kB : Unit → Option R) : f_slices_partialInsertionSortCmpFunc_AtomsOf_2_k4 t1 t2 t9 t10 s.1 s.2 kN kA = (f_slices_partialInsertionSortCmpFunc_AtomsOf_2_r4 t1 t2 t9 t10 s).bind (Ro.el kN kA kB) := by
  simp only [f_slices_partialInsertionSortCmpFunc_AtomsOf_2_k4, f_slices_partialInsertionSortCmpFunc_AtomsOf_2_r4, brB, boB, someB, noneB, Ro.el]
theorem f_slices_partialInsertionSortCmpFunc_AtomsOf_2_e4 (t1 : Int) (t2 : Int) (t9 : Int) (t10 : Int) (s : List Sc × Int) : EC E0 f_slices_partialInsertionSortCmpFunc_AtomsOf_2_M H0 f_slices_partialInsertionSortCmpFunc_AtomsOf_2_F (asL (addL 2 (f_slices_partialInsertionSortCmpFunc_AtomsOf_2_t2) (noL))) 4 (bodyOf Try.f84 4) (f_slices_partialInsertionSortCmpFunc_AtomsOf_2_fr4 t1 t2 t9 t10 s) (done (klOf f_slices_partialInsertionSortCmpFunc_AtomsOf_2_F 4)) = f_slices_partialInsertionSortCmpFunc_AtomsOf_2_k4 t1 t2 t9 t10 s.1 s.2 (fun s => some (.norm, f_slices_partialInsertionSortCmpFunc_AtomsOf_2_fr4 t1 t2 t9 t10 s)) (fun e => some (f_slices_partialInsertionSortCmpFunc_AtomsOf_2_x4_1 t1 t2 t9 t10 e)) := by kernel_rfl
theorem f_slices_partialInsertionSortCmpFunc_AtomsOf_2_l4 (t1 : Int) (t2 : Int) (t9 : Int) (t10 : Int) : ∀ s r, loopL (f_slices_partialInsertionSortCmpFunc_AtomsOf_2_r4 t1 t2 t9 t10) s = some r → LS Try.prog f_slices_partialInsertionSortCmpFunc_AtomsOf_2_F (bodyOf Try.f84 4) (f_slices_partialInsertionSortCmpFunc_AtomsOf_2_fr4 t1 t2 t9 t10 s) (enX (f_slices_partialInsertionSortCmpFunc_AtomsOf_2_x4_1 t1 t2 t9 t10) (f_slices_partialInsertionSortCmpFunc_AtomsOf_2_x4_2 t1 t2 t9 t10) r) :=
  loop_true E0ok f_slices_partialInsertionSortCmpFunc_AtomsOf_2_Mt (addL_true (f_slices_partialInsertionSortCmpFunc_AtomsOf_2_tt2) (noL_true)) f_slices_partialInsertionSortCmpFunc_AtomsOf_2_o (fun _ h => by cases h) (fun _ h => by cases h) (fun _ h => by cases h) (fun _ h => by cases h) (fun s => (f_slices_partialInsertionSortCmpFunc_AtomsOf_2_e4 t1 t2 t9 t10 s).trans (f_slices_partialInsertionSortCmpFunc_AtomsOf_2_p4 t1 t2 t9 t10 s _ _ (fun e => some (f_slices_partialInsertionSortCmpFunc_AtomsOf_2_x4_2 t1 t2 t9 t10 e))))
def f_slices_partialInsertionSortCmpFunc_AtomsOf_2_t4 (σ : List AV) : Option (Bool × Bool × (X × List AV) × (X × List AV)) := match dec f_slices_partialInsertionSortCmpFunc_AtomsOf_2_h4 σ with
  | some [.l v0, .i t1, .i t2, .i t9, .i t10, .i t11] => some (isOne (loopL (f_slices_partialInsertionSortCmpFunc_AtomsOf_2_r4 t1 t2 t9 t10) (v0, t11)), true, f_slices_partialInsertionSortCmpFunc_AtomsOf_2_x4_1 t1 t2 t9 t10 (getOne [] (loopL (f_slices_partialInsertionSortCmpFunc_AtomsOf_2_r4 t1 t2 t9 t10) (v0, t11))), (.ret, []))
  | _ => none
theorem f_slices_partialInsertionSortCmpFunc_AtomsOf_2_tt4 : TTrue Try.prog f_slices_partialInsertionSortCmpFunc_AtomsOf_2_F Try.f84 4 (f_slices_partialInsertionSortCmpFunc_AtomsOf_2_t4) := by
  intro σ p r r' h
  unfold f_slices_partialInsertionSortCmpFunc_AtomsOf_2_t4 at h
  split at h
  · rename_i hd
    rw [← dec_enc hd]
    exact row1 (f_slices_partialInsertionSortCmpFunc_AtomsOf_2_l4 _ _ _ _ _) h
  · cases h
def f_slices_partialInsertionSortCmpFunc_AtomsOf_2_h6 : List Sh := [.own 1000022, .p (.al 0), .p (.int .i64), .p (.int .i64), .fn 46 [], .u, .u, .u, .u, .u, .p (.int .i64), .p (.int .i64), .u, .p (.int .i64), .u, .u, .u, .u, .u, .u, .u, .u, .u, .u, .u, .u, .u, .u, .u, .u, .u, .u, .u, .u, .u, .u, .u, .u, .u, .u, .u, .u, .u, .u, .u, .u, .u, .u, .u, .u, .u, .u, .u, .u, .u, .u, .u, .u, .u, .u, .u, .u, .u, .u, .u, .u, .u, .u, .u, .u, .u, .u, .u, .u, .u, .u, .u, .u, .u, .u, .u, .u, .u, .u, .u, .u, .u, .u, .u, .u, .u, .u, .u, .u, .u, .u, .u, .u, .u, .u, .u, .u, .u, .u, .u, .u, .u, .u, .u, .u, .u, .u, .u, .u, .u, .u, .u, .u, .u, .u, .u, .u, .u, .u, .u, .u, .u, .u, .u, .u, .u, .u, .u, .u, .u, .u, .u, .u, .u, .u, .u, .u]
def f_slices_partialInsertionSortCmpFunc_AtomsOf_2_fr6 (t1 : Int) (t2 : Int) (t9 : Int) (t10 : Int) (s : List Sc × Int) : List AV := enc f_slices_partialInsertionSortCmpFunc_AtomsOf_2_h6 [.l s.1, .i t1, .i t2, .i t9, .i t10, .i s.2]
def f_slices_partialInsertionSortCmpFunc_AtomsOf_2_g6_1 : List Sh := [.own 1000022, .p (.al 0), .p (.int .i64), .p (.int .i64), .fn 46 [], .u, .u, .u, .u, .u, .p (.int .i64), .p (.int .i64), .u, .u, .u, .u, .u, .u, .u, .u, .u, .u, .u, .u, .u, .u, .u, .u, .u, .u, .u, .u, .u, .u, .u, .u, .u, .u, .u, .u, .u, .u, .u, .u, .u, .u, .u, .u, .u, .u, .u, .u, .u, .u, .u, .u, .u, .u, .u, .u, .u, .u, .u, .u, .u, .u, .u, .u, .u, .u, .u, .u, .u, .u, .u, .u, .u, .u, .u, .u, .u, .u, .u, .u, .u, .u, .u, .u, .u, .u, .u, .u, .u, .u, .u, .u, .u, .u, .u, .u, .u, .u, .u, .u, .u, .u, .u, .u, .u, .u, .u, .u, .u, .u, .u, .u, .u, .u, .u, .u, .u, .u, .u, .u, .u, .u, .u, .u, .u, .u, .u, .u, .u, .u, .u, .u, .u, .u, .u, .u, .u, .u]
def f_slices_partialInsertionSortCmpFunc_AtomsOf_2_x6_1 (t1 : Int) (t2 : Int) (t9 : Int) (t10 : Int) (e : List Sc) : X × List AV := (.out 6, enc f_slices_partialInsertionSortCmpFunc_AtomsOf_2_g6_1 [.l e, .i t1, .i t2, .i t9, .i t10])
def f_slices_partialInsertionSortCmpFunc_AtomsOf_2_x6_2 (t1 : Int) (t2 : Int) (t9 : Int) (t10 : Int) (_e : Unit) : X × List AV := (.ret, [])
theorem f_slices_partialInsertionSortCmpFunc_AtomsOf_2_p6 {R : Type} (t1 : Int) (t2 : Int) (t9 : Int) (t10 : Int) (s : List Sc × Int) (kN : List Sc × Int → Option R) (kA : List Sc → Option R) (kB : Unit → Option R) : f_slices_partialInsertionSortCmpFunc_AtomsOf_2_k6 t1 t2 t9 t10 s.1 s.2 kN kA = (f_slices_partialInsertionSortCmpFunc_AtomsOf_2_r6 t1 t2 t9 t10 s).bind (Ro.el kN kA kB) := by
  simp only [f_slices_partialInsertionSortCmpFunc_AtomsOf_2_k6, f_slices_partialInsertionSortCmpFunc_AtomsOf_2_r6, brB, boB, someB, noneB, Ro.el]
theorem f_slices_partialInsertionSortCmpFunc_AtomsOf_2_e6 (t1 : Int) (t2 : Int) (t9 : Int) (t10 : Int) (s : List Sc × Int) : EC E0 f_slices_partialInsertionSortCmpFunc_AtomsOf_2_M H0 f_slices_partialInsertionSortCmpFunc_AtomsOf_2_F (asL (addL 4 (f_slices_partialInsertionSortCmpFunc_AtomsOf_2_t4) (addL 2 (f_slices_partialInsertionSortCmpFunc_AtomsOf_2_t2) (noL)))) 6 (bodyOf Try.f84 6) (f_slices_partialInsertionSortCmpFunc_AtomsOf_2_fr6 t1 t2 t9 t10 s) (done (klOf f_slices_partialInsertionSortCmpFunc_AtomsOf_2_F 6)) = f_slices_partialInsertionSortCmpFunc_AtomsOf_2_k6 t1 t2 t9 t10 s.1 s.2 (fun s => some (.norm, f_slices_partialInsertionSortCmpFunc_AtomsOf_2_fr6 t1 t2 t9 t10 s)) (fun e => some (f_slices_partialInsertionSortCmpFunc_AtomsOf_2_x6_1 t1 t2 t9 t10 e)) := by kernel_rfl
theorem f_slices_partialInsertionSortCmpFunc_AtomsOf_2_l6 (t1 : Int) (t2 : Int) (t9 : Int) (t10 : Int) : ∀ s r, loopL (f_slices_partialInsertionSortCmpFunc_AtomsOf_2_r6 t1 t2 t9 t10) s = some r → LS Try.prog f_slices_partialInsertionSortCmpFunc_AtomsOf_2_F (bodyOf Try.f84 6) (f_slices_partialInsertionSortCmpFunc_AtomsOf_2_fr6 t1 t2 t9 t10 s) (enX (f_slices_partialInsertionSortCmpFunc_AtomsOf_2_x6_1 t1 t2 t9 t10) (f_slices_partialInsertionSortCmpFunc_AtomsOf_2_x6_2 t1 t2 t9 t10) r) :=
  loop_true E0ok f_slices_partialInsertionSortCmpFunc_AtomsOf_2_Mt (addL_true (f_slices_partialInsertionSortCmpFunc_AtomsOf_2_tt4) (addL_true (f_slices_partialInsertionSortCmpFunc_AtomsOf_2_tt2) (noL_true))) f_slices_partialInsertionSortCmpFunc_AtomsOf_2_o (fun _ h => by cases h) (fun _ h => by cases h) (fun _ h => by cases h) (fun _ h => by cases h) (fun s => (f_slices_partialInsertionSortCmpFunc_AtomsOf_2_e6 t1 t2 t9 t10 s).trans (f_slices_partialInsertionSortCmpFunc_AtomsOf_2_p6 t1 t2 t9 t10 s _ _ (fun e => some (f_slices_partialInsertionSortCmpFunc_AtomsOf_2_x6_2 t1 t2 t9 t10 e))))
def f_slices_partialInsertionSortCmpFunc_AtomsOf_2_t6 (σ : List AV) : Option (Bool × Bool × (X × List AV) × (X × List AV)) := match dec f_slices_partialInsertionSortCmpFunc_AtomsOf_2_h6 σ with
  | some [.l v0, .i t1, .i t2, .i t9, .i t10, .i t12] => some (isOne (loopL (f_slices_partialInsertionSortCmpFunc_AtomsOf_2_r6 t1 t2 t9 t10) (v0, t12)), true, f_slices_partialInsertionSortCmpFunc_AtomsOf_2_x6_1 t1 t2 t9 t10 (getOne [] (loopL (f_slices_partialInsertionSortCmpFunc_AtomsOf_2_r6 t1 t2 t9 t10) (v0, t12))), (.ret, []))
  | _ => none
theorem f_slices_partialInsertionSortCmpFunc_AtomsOf_2_tt6 : TTrue Try.prog f_slices_partialInsertionSortCmpFunc_AtomsOf_2_F Try.f84 6 (f_slices_partialInsertionSortCmpFunc_AtomsOf_2_t6) := by
  intro σ p r r' h
  unfold f_slices_partialInsertionSortCmpFunc_AtomsOf_2_t6 at h
  split at h
  · rename_i hd
    rw [← dec_enc hd]
    exact row1 (f_slices_partialInsertionSortCmpFunc_AtomsOf_2_l6 _ _ _ _ _) h
  · cases h
def f_slices_partialInsertionSortCmpFunc_AtomsOf_2_h0 : List Sh := [.own 1000022, .p (.al 0), .p (.int .i64), .p (.int .i64), .fn 46 [], .u, .u, .u, .u, .u, .p (.int .i64), .p (.int .i64), .u, .u, .u, .u, .u, .u, .u, .u, .u, .u, .u, .u, .u, .u, .u, .u, .u, .u, .u, .u, .u, .u, .u, .u, .u, .u, .u, .u, .u, .u, .u, .u, .u, .u, .u, .u, .u, .u, .u, .u, .u, .u, .u, .u, .u, .u, .u, .u, .u, .u, .u, .u, .u, .u, .u, .u, .u, .u, .u, .u, .u, .u, .u, .u, .u, .u, .u, .u, .u, .u, .u, .u, .u, .u, .u, .u, .u, .u, .u, .u, .u, .u, .u, .u, .u, .u, .u, .u, .u, .u, .u, .u, .u, .u, .u, .u, .u, .u, .u, .u, .u, .u, .u, .u, .u, .u, .u, .u, .u, .u, .u, .u, .u, .u, .u, .u, .u, .u, .u, .u, .u, .u, .u, .u, .u, .u, .u, .u, .u, .u]
def f_slices_partialInsertionSortCmpFunc_AtomsOf_2_fr0 (t1 : Int) (t2 : Int) (s : List Sc × Int × Int) : List AV := enc f_slices_partialInsertionSortCmpFunc_AtomsOf_2_h0 [.l s.1, .i t1, .i t2, .i s.2.1, .i s.2.2]
def f_slices_partialInsertionSortCmpFunc_AtomsOf_2_g0_1 : List Sh := [.own 1000022, .p (.al 0), .p (.int .i64), .p (.int .i64), .fn 46 [], .u, .u, .u, .u, .u, .p (.int .i64), .p (.int .i64), .u, .u, .u, .u, .u, .u, .u, .u, .u, .u, .u, .u, .u, .u, .u, .u, .u, .u, .u, .u, .u, .u, .u, .u, .u, .u, .u, .u, .u, .u, .u, .u, .u, .u, .u, .u, .u, .u, .u, .u, .u, .u, .u, .u, .u, .u, .u, .u, .u, .u, .u, .u, .u, .u, .u, .u, .u, .u, .u, .u, .u, .u, .u, .u, .u, .u, .u, .u, .u, .u, .u, .u, .u, .u, .u, .u, .u, .u, .u, .u, .u, .u, .u, .u, .u, .u, .u, .u, .u, .u, .u, .u, .u, .u, .u, .u, .u, .u, .u, .u, .u, .u, .u, .u, .u, .u, .u, .u, .u, .u, .u, .u, .u, .u, .u, .u, .u, .u, .u, .u, .u, .u, .u, .u, .u, .u, .u, .u, .u, .u]
def f_slices_partialInsertionSortCmpFunc_AtomsOf_2_x0_1 (t1 : Int) (t2 : Int) (e : List Sc × Int × Int) : X × List AV := (.out 0, enc f_slices_partialInsertionSortCmpFunc_AtomsOf_2_g0_1 [.l e.1, .i t1, .i t2, .i e.2.1, .i e.2.2])
def f_slices_partialInsertionSortCmpFunc_AtomsOf_2_g0_2 : List Sh := [.own 1000022, .u, .u, .u, .u, .u, .u, .u, .u, .p .boo, .u, .u, .u, .u, .u, .u, .u, .u, .u, .u, .u, .u, .u, .u, .u, .u, .u, .u, .u, .u, .u, .u, .u, .u, .u, .u, .u, .u, .u, .u, .u, .u, .u, .u, .u, .u, .u, .u, .u, .u, .u, .u, .u, .u, .u, .u, .u, .u, .u, .u, .u, .u, .u, .u, .u, .u, .u, .u, .u, .u, .u, .u, .u, .u, .u, .u, .u, .u, .u, .u, .u, .u, .u, .u, .u, .u, .u, .u, .u, .u, .u, .u, .u, .u, .u, .u, .u, .u, .u, .u, .u, .u, .u, .u, .u, .u, .u, .u, .u, .u, .u, .u, .u, .u, .u, .u, .u, .u, .u, .u, .u, .u, .u, .u, .u, .u, .u, .u, .u, .u, .u, .u, .u, .u, .u, .u, .u, .u, .u, .u, .u, .u]
def f_slices_partialInsertionSortCmpFunc_AtomsOf_2_x0_2 (t1 : Int) (t2 : Int) (e : List Sc × Bool) : X × List AV := (.ret, enc f_slices_partialInsertionSortCmpFunc_AtomsOf_2_g0_2 [.l e.1, .b e.2])
theorem f_slices_partialInsertionSortCmpFunc_AtomsOf_2_p0 {R : Type} (t1 : Int) (t2 : Int) (s : List Sc × Int × Int) (kN : List Sc × Int × Int → Option R) (kA : List Sc × Int × Int → Option R) (kB : List Sc × Bool → Option R) : f_slices_partialInsertionSortCmpFunc_AtomsOf_2_k0 t1 t2 s.1 s.2.1 s.2.2 kN kA kB = (f_slices_partialInsertionSortCmpFunc_AtomsOf_2_r0 t1 t2 s).bind (Ro.el kN kA kB) := by
  simp only [f_slices_partialInsertionSortCmpFunc_AtomsOf_2_k0, f_slices_partialInsertionSortCmpFunc_AtomsOf_2_r0, brB, bl1B, someB, noneB, Ro.el]
theorem f_slices_partialInsertionSortCmpFunc_AtomsOf_2_e0 (t1 : Int) (t2 : Int) (s : List Sc × Int × Int) : EC E0 f_slices_partialInsertionSortCmpFunc_AtomsOf_2_M H0 f_slices_partialInsertionSortCmpFunc_AtomsOf_2_F (asL (addL 6 (f_slices_partialInsertionSortCmpFunc_AtomsOf_2_t6) (addL 4 (f_slices_partialInsertionSortCmpFunc_AtomsOf_2_t4) (addL 2 (f_slices_partialInsertionSortCmpFunc_AtomsOf_2_t2) (noL))))) 0 (bodyOf Try.f84 0) (f_slices_partialInsertionSortCmpFunc_AtomsOf_2_fr0 t1 t2 s) (done (klOf f_slices_partialInsertionSortCmpFunc_AtomsOf_2_F 0)) = f_slices_partialInsertionSortCmpFunc_AtomsOf_2_k0 t1 t2 s.1 s.2.1 s.2.2 (fun s => some (.norm, f_slices_partialInsertionSortCmpFunc_AtomsOf_2_fr0 t1 t2 s)) (fun e => some (f_slices_partialInsertionSortCmpFunc_AtomsOf_2_x0_1 t1 t2 e)) (fun e => some (f_slices_partialInsertionSortCmpFunc_AtomsOf_2_x0_2 t1 t2 e)) := by kernel_rfl
theorem f_slices_partialInsertionSortCmpFunc_AtomsOf_2_l0 (t1 : Int) (t2 : Int) : ∀ s r, loopL (f_slices_partialInsertionSortCmpFunc_AtomsOf_2_r0 t1 t2) s = some r → LS Try.prog f_slices_partialInsertionSortCmpFunc_AtomsOf_2_F (bodyOf Try.f84 0) (f_slices_partialInsertionSortCmpFunc_AtomsOf_2_fr0 t1 t2 s) (enX (f_slices_partialInsertionSortCmpFunc_AtomsOf_2_x0_1 t1 t2) (f_slices_partialInsertionSortCmpFunc_AtomsOf_2_x0_2 t1 t2) r) :=
  loop_true E0ok f_slices_partialInsertionSortCmpFunc_AtomsOf_2_Mt (addL_true (f_slices_partialInsertionSortCmpFunc_AtomsOf_2_tt6) (addL_true (f_slices_partialInsertionSortCmpFunc_AtomsOf_2_tt4) (addL_true (f_slices_partialInsertionSortCmpFunc_AtomsOf_2_tt2) (noL_true)))) f_slices_partialInsertionSortCmpFunc_AtomsOf_2_o (fun _ h => by cases h) (fun _ h => by cases h) (fun _ h => by cases h) (fun _ h => by cases h) (fun s => (f_slices_partialInsertionSortCmpFunc_AtomsOf_2_e0 t1 t2 s).trans (f_slices_partialInsertionSortCmpFunc_AtomsOf_2_p0 t1 t2 s _ _ (fun e => some (f_slices_partialInsertionSortCmpFunc_AtomsOf_2_x0_2 t1 t2 e))))
def f_slices_partialInsertionSortCmpFunc_AtomsOf_2_t0 (σ : List AV) : Option (Bool × Bool × (X × List AV) × (X × List AV)) := match dec f_slices_partialInsertionSortCmpFunc_AtomsOf_2_h0 σ with
  | some [.l v0, .i t1, .i t2, .i t9, .i t10] => some ((loopL (f_slices_partialInsertionSortCmpFunc_AtomsOf_2_r0 t1 t2) (v0, t9, t10)).isSome, isOne (loopL (f_slices_partialInsertionSortCmpFunc_AtomsOf_2_r0 t1 t2) (v0, t9, t10)), f_slices_partialInsertionSortCmpFunc_AtomsOf_2_x0_1 t1 t2 (getOne ([], 0, 0) (loopL (f_slices_partialInsertionSortCmpFunc_AtomsOf_2_r0 t1 t2) (v0, t9, t10))), f_slices_partialInsertionSortCmpFunc_AtomsOf_2_x0_2 t1 t2 (getTwo ([], false) (loopL (f_slices_partialInsertionSortCmpFunc_AtomsOf_2_r0 t1 t2) (v0, t9, t10))))
  | _ => none
theorem f_slices_partialInsertionSortCmpFunc_AtomsOf_2_tt0 : TTrue Try.prog f_slices_partialInsertionSortCmpFunc_AtomsOf_2_F Try.f84 0 (f_slices_partialInsertionSortCmpFunc_AtomsOf_2_t0) := by
  intro σ p r r' h
  unfold f_slices_partialInsertionSortCmpFunc_AtomsOf_2_t0 at h
  split at h
  · rename_i hd
    rw [← dec_enc hd]
    exact row2 (f_slices_partialInsertionSortCmpFunc_AtomsOf_2_l0 _ _ _) h
  · cases h
theorem f_slices_partialInsertionSortCmpFunc_AtomsOf_2_p {R : Type} (p1 : Int) (p2 : Int) (h0 : List Sc) (kR : Bool × List Sc → Option R) : f_slices_partialInsertionSortCmpFunc_AtomsOf_2_k p1 p2 h0 kR = (f_slices_partialInsertionSortCmpFunc_AtomsOf_2_k p1 p2 h0 some).bind kR := by
  simp only [f_slices_partialInsertionSortCmpFunc_AtomsOf_2_k, blB, someB]
theorem f_slices_partialInsertionSortCmpFunc_AtomsOf_2_e (p1 : Int) (p2 : Int) (h0 : List Sc) : runFn E0 f_slices_partialInsertionSortCmpFunc_AtomsOf_2_M H0 f_slices_partialInsertionSortCmpFunc_AtomsOf_2_F (asL (addL 0 (f_slices_partialInsertionSortCmpFunc_AtomsOf_2_t0) (addL 6 (f_slices_partialInsertionSortCmpFunc_AtomsOf_2_t6) (addL 4 (f_slices_partialInsertionSortCmpFunc_AtomsOf_2_t4) (addL 2 (f_slices_partialInsertionSortCmpFunc_AtomsOf_2_t2) (noL)))))) Try.f84 (f_slices_partialInsertionSortCmpFunc_AtomsOf_2_a p1 p2 h0) (f_slices_partialInsertionSortCmpFunc_AtomsOf_2_i p1 p2 h0) = f_slices_partialInsertionSortCmpFunc_AtomsOf_2_k p1 p2 h0 (fun r => some (f_slices_partialInsertionSortCmpFunc_AtomsOf_2_en r)) := by kernel_rfl
theorem f_slices_partialInsertionSortCmpFunc_AtomsOf_2_ok (p1 : Int) (p2 : Int) (h0 : List Sc) (r : Bool × List Sc) (h : f_slices_partialInsertionSortCmpFunc_AtomsOf_2 p1 p2 h0 = some r) : CS Try.prog 84 (f_slices_partialInsertionSortCmpFunc_AtomsOf_2_a p1 p2 h0) (f_slices_partialInsertionSortCmpFunc_AtomsOf_2_i p1 p2 h0) (f_slices_partialInsertionSortCmpFunc_AtomsOf_2_en r).1 (f_slices_partialInsertionSortCmpFunc_AtomsOf_2_en r).2 :=
  fn_true (Gk := fun k => f_slices_partialInsertionSortCmpFunc_AtomsOf_2_k p1 p2 h0 k) (en := f_slices_partialInsertionSortCmpFunc_AtomsOf_2_en) Try.func84 E0ok f_slices_partialInsertionSortCmpFunc_AtomsOf_2_Mt (addL_true (f_slices_partialInsertionSortCmpFunc_AtomsOf_2_tt0) (addL_true (f_slices_partialInsertionSortCmpFunc_AtomsOf_2_tt6) (addL_true (f_slices_partialInsertionSortCmpFunc_AtomsOf_2_tt4) (addL_true (f_slices_partialInsertionSortCmpFunc_AtomsOf_2_tt2) (noL_true))))) f_slices_partialInsertionSortCmpFunc_AtomsOf_2_o (f_slices_partialInsertionSortCmpFunc_AtomsOf_2_e p1 p2 h0) (f_slices_partialInsertionSortCmpFunc_AtomsOf_2_p p1 p2 h0) h
def f_slices_partialInsertionSortCmpFunc_AtomsOf_2_c : CRow := fun args inh => match dec2 [.p (.al 0), .p (.int .i64), .p (.int .i64), .fn 46 []] [.own 1000022] args inh with
  | some ([.i p1, .i p2], [.l h0]) => some ((f_slices_partialInsertionSortCmpFunc_AtomsOf_2 p1 p2 h0).isSome, (f_slices_partialInsertionSortCmpFunc_AtomsOf_2_en ((f_slices_partialInsertionSortCmpFunc_AtomsOf_2 p1 p2 h0).getD (false, []))).1, (f_slices_partialInsertionSortCmpFunc_AtomsOf_2_en ((f_slices_partialInsertionSortCmpFunc_AtomsOf_2 p1 p2 h0).getD (false, []))).2)
  | _ => none
theorem f_slices_partialInsertionSortCmpFunc_AtomsOf_2_cc : CTrue Try.prog 84 f_slices_partialInsertionSortCmpFunc_AtomsOf_2_c := by
  intro args inh rs out h
  unfold f_slices_partialInsertionSortCmpFunc_AtomsOf_2_c at h
  split at h
  · rename_i hd
    obtain ⟨h1, h2⟩ := dec2_enc hd
    rw [← h1, ← h2]
    exact rowC (f_slices_partialInsertionSortCmpFunc_AtomsOf_2_ok _ _ _) h
  · cases h

def f_slices_partitionCmpFunc_AtomsOf_2_F : Fi := { nv := 1, nc := 1, m := 1, vt := [], kl := [(8, ([3, 4, 6, 7, 8, 9, 10, 11, 12, 15, 16, 17, 18, 19, 20, 21, 22, 23, 24, 25, 26, 27, 28, 29, 30, 31, 32, 33, 34, 35, 36, 37, 38, 39, 40, 41, 42, 43, 44, 45, 46, 47, 48, 49, 50, 51, 52, 53, 54, 55, 56, 57, 58, 59, 60, 61, 62, 63, 64, 65, 66, 67, 68, 69, 70, 71, 72, 73, 74, 75, 76, 77, 78, 79, 80, 81, 82, 83, 84, 85, 86, 87, 88, 89, 90, 91, 92, 93, 94, 95, 96, 97, 98, 99, 100, 101, 102, 103, 104, 105, 106, 107, 108, 109, 110, 111, 112, 113, 114, 115, 116, 117, 118, 119, 120, 121, 122, 123, 124, 125, 126, 127, 128, 129, 130, 131, 132, 133, 134, 135, 136, 137, 138, 139, 140, 141, 142, 143, 144, 145, 146, 147, 148, 149, 150, 151, 152, 153, 154, 155, 156, 157, 158, 159, 160, 161, 162, 163, 164, 165, 166, 167, 168, 169, 170, 171, 172, 173, 174, 175, 176, 177, 178], [3, 4, 6, 7, 8, 9, 10, 11, 12, 15, 16, 17, 18, 19, 20, 21, 22, 23, 24, 25, 26, 27, 28, 29, 30, 31, 32, 33, 34, 35, 36, 37, 38, 39, 40, 41, 42, 43, 44, 45, 46, 47, 48, 49, 50, 51, 52, 53, 54, 55, 56, 57, 58, 59, 60, 61, 62, 63, 64, 65, 66, 67, 68, 69, 70, 71, 72, 73, 74, 75, 76, 77, 78, 79, 80, 81, 82, 83, 84, 85, 86, 87, 88, 89, 90, 91, 92, 93, 94, 95, 96, 97, 98, 99, 100, 101, 102, 103, 104, 105, 106, 107, 108, 109, 110, 111, 112, 113, 114, 115, 116, 117, 118, 119, 120, 121, 122, 123, 124, 125, 126, 127, 128, 129, 130, 131, 132, 133, 134, 135, 136, 137, 138, 139, 140, 141, 142, 143, 144, 145, 146, 147, 148, 149, 150, 151, 152, 153, 154, 155, 156, 157, 158, 159, 160, 161, 162, 163, 164, 165, 166, 167, 168, 169, 170, 171, 172, 173, 174, 175, 176, 177, 178], [1, 2, 3, 4, 5, 6, 7, 8, 9, 10, 13, 14, 15, 16, 17, 18, 19, 20, 21, 22, 23, 24, 25, 26, 27, 28, 29, 30, 31, 32, 33, 34, 35, 36, 37, 38, 39, 40, 41, 42, 43, 44, 45, 46, 47, 48, 49, 50, 51, 52, 53, 54, 55, 56, 57, 58, 59, 60, 61, 62, 63, 64, 65, 66, 67, 68, 69, 70, 71, 72, 73, 74, 75, 76, 77, 78, 79, 80, 81, 82, 83, 84, 85, 86, 87, 88, 89, 90, 91, 92, 93, 94, 95, 96, 97, 98, 99, 100, 101, 102, 103, 104, 105, 106, 107, 108, 109, 110, 111, 112, 113, 114, 115, 116, 117, 118, 119, 120, 121, 122, 123, 124, 125, 126, 127, 128, 129, 130, 131, 132, 133, 134, 135, 136, 137, 138, 139, 140, 141, 142, 143, 144, 145, 146, 147, 148, 149, 150, 151, 152, 153, 154, 155, 156, 157, 158, 159, 160, 161, 162, 163, 164, 165, 166, 167, 168, 169, 170, 171, 172, 173, 174, 175, 176, 177, 178])), (6, ([3, 4, 6, 7, 8, 9, 10, 11, 12, 15, 16, 17, 18, 19, 20, 21, 22, 23, 24, 25, 26, 27, 28, 29, 30, 31, 32, 33, 34, 35, 36, 37, 38, 39, 40, 41, 42, 43, 44, 45, 46, 47, 48, 49, 50, 51, 52, 53, 54, 55, 56, 57, 58, 59, 60, 61, 62, 63, 64, 65, 66, 67, 68, 69, 70, 71, 72, 73, 74, 75, 76, 77, 78, 79, 80, 81, 82, 83, 84, 85, 86, 87, 88, 89, 90, 91, 92, 93, 94, 95, 96, 97, 98, 99, 100, 101, 102, 103, 104, 105, 106, 107, 108, 109, 110, 111, 112, 113, 114, 115, 116, 117, 118, 119, 120, 121, 122, 123, 124, 125, 126, 127, 128, 129, 130, 131, 132, 133, 134, 135, 136, 137, 138, 139, 140, 141, 142, 143, 144, 145, 146, 147, 148, 149, 150, 151, 152, 153, 154, 155, 156, 157, 158, 159, 160, 161, 162, 163, 164, 165, 166, 167, 168, 169, 170, 171, 172, 173, 174, 175, 176, 177, 178], [3, 4, 6, 7, 8, 9, 10, 11, 12, 15, 16, 17, 18, 19, 20, 21, 22, 23, 24, 25, 26, 27, 28, 29, 30, 31, 32, 33, 34, 35, 36, 37, 38, 39, 40, 41, 42, 43, 44, 45, 46, 47, 48, 49, 50, 51, 52, 53, 54, 55, 56, 57, 58, 59, 60, 61, 62, 63, 64, 65, 66, 67, 68, 69, 70, 71, 72, 73, 74, 75, 76, 77, 78, 79, 80, 81, 82, 83, 84, 85, 86, 87, 88, 89, 90, 91, 92, 93, 94, 95, 96, 97, 98, 99, 100, 101, 102, 103, 104, 105, 106, 107, 108, 109, 110, 111, 112, 113, 114, 115, 116, 117, 118, 119, 120, 121, 122, 123, 124, 125, 126, 127, 128, 129, 130, 131, 132, 133, 134, 135, 136, 137, 138, 139, 140, 141, 142, 143, 144, 145, 146, 147, 148, 149, 150, 151, 152, 153, 154, 155, 156, 157, 158, 159, 160, 161, 162, 163, 164, 165, 166, 167, 168, 169, 170, 171, 172, 173, 174, 175, 176, 177, 178], [1, 2, 3, 4, 5, 6, 7, 8, 9, 10, 13, 14, 15, 16, 17, 18, 19, 20, 21, 22, 23, 24, 25, 26, 27, 28, 29, 30, 31, 32, 33, 34, 35, 36, 37, 38, 39, 40, 41, 42, 43, 44, 45, 46, 47, 48, 49, 50, 51, 52, 53, 54, 55, 56, 57, 58, 59, 60, 61, 62, 63, 64, 65, 66, 67, 68, 69, 70, 71, 72, 73, 74, 75, 76, 77, 78, 79, 80, 81, 82, 83, 84, 85, 86, 87, 88, 89, 90, 91, 92, 93, 94, 95, 96, 97, 98, 99, 100, 101, 102, 103, 104, 105, 106, 107, 108, 109, 110, 111, 112, 113, 114, 115, 116, 117, 118, 119, 120, 121, 122, 123, 124, 125, 126, 127, 128, 129, 130, 131, 132, 133, 134, 135, 136, 137, 138, 139, 140, 141, 142, 143, 144, 145, 146, 147, 148, 149, 150, 151, 152, 153, 154, 155, 156, 157, 158, 159, 160, 161, 162, 163, 164, 165, 166, 167, 168, 169, 170, 171, 172, 173, 174, 175, 176, 177, 178])), (4, ([3, 4, 6, 7, 8, 9, 10, 11, 12, 15, 16, 17, 18, 19, 20, 21, 22, 23, 24, 25, 26, 27, 28, 29, 30, 31, 32, 33, 34, 35, 36, 37, 38, 39, 40, 41, 42, 43, 44, 45, 46, 47, 48, 49, 50, 51, 52, 53, 54, 55, 56, 57, 58, 59, 60, 61, 62, 63, 64, 65, 66, 67, 68, 69, 70, 71, 72, 73, 74, 75, 76, 77, 78, 79, 80, 81, 82, 83, 84, 85, 86, 87, 88, 89, 90, 91, 92, 93, 94, 95, 96, 97, 98, 99, 100, 101, 102, 103, 104, 105, 106, 107, 108, 109, 110, 111, 112, 113, 114, 115, 116, 117, 118, 119, 120, 121, 122, 123, 124, 125, 126, 127, 128, 129, 130, 131, 132, 133, 134, 135, 136, 137, 138, 139, 140, 141, 142, 143, 144, 145, 146, 147, 148, 149, 150, 151, 152, 153, 154, 155, 156, 157, 158, 159, 160, 161, 162, 163, 164, 165, 166, 167, 168, 169, 170, 171, 172, 173, 174, 175, 176, 177, 178], [3, 4, 6, 7, 8, 9, 10, 11, 12, 15, 16, 17, 18, 19, 20, 21, 22, 23, 24, 25, 26, 27, 28, 29, 30, 31, 32, 33, 34, 35, 36, 37, 38, 39, 40, 41, 42, 43, 44, 45, 46, 47, 48, 49, 50, 51, 52, 53, 54, 55, 56, 57, 58, 59, 60, 61, 62, 63, 64, 65, 66, 67, 68, 69, 70, 71, 72, 73, 74, 75, 76, 77, 78, 79, 80, 81, 82, 83, 84, 85, 86, 87, 88, 89, 90, 91, 92, 93, 94, 95, 96, 97, 98, 99, 100, 101, 102, 103, 104, 105, 106, 107, 108, 109, 110, 111, 112, 113, 114, 115, 116, 117, 118, 119, 120, 121, 122, 123, 124, 125, 126, 127, 128, 129, 130, 131, 132, 133, 134, 135, 136, 137, 138, 139, 140, 141, 142, 143, 144, 145, 146, 147, 148, 149, 150, 151, 152, 153, 154, 155, 156, 157, 158, 159, 160, 161, 162, 163, 164, 165, 166, 167, 168, 169, 170, 171, 172, 173, 174, 175, 176, 177, 178], [1, 2, 3, 4, 5, 6, 7, 8, 9, 10, 13, 14, 15, 16, 17, 18, 19, 20, 21, 22, 23, 24, 25, 26, 27, 28, 29, 30, 31, 32, 33, 34, 35, 36, 37, 38, 39, 40, 41, 42, 43, 44, 45, 46, 47, 48, 49, 50, 51, 52, 53, 54, 55, 56, 57, 58, 59, 60, 61, 62, 63, 64, 65, 66, 67, 68, 69, 70, 71, 72, 73, 74, 75, 76, 77, 78, 79, 80, 81, 82, 83, 84, 85, 86, 87, 88, 89, 90, 91, 92, 93, 94, 95, 96, 97, 98, 99, 100, 101, 102, 103, 104, 105, 106, 107, 108, 109, 110, 111, 112, 113, 114, 115, 116, 117, 118, 119, 120, 121, 122, 123, 124, 125, 126, 127, 128, 129, 130, 131, 132, 133, 134, 135, 136, 137, 138, 139, 140, 141, 142, 143, 144, 145, 146, 147, 148, 149, 150, 151, 152, 153, 154, 155, 156, 157, 158, 159, 160, 161, 162, 163, 164, 165, 166, 167, 168, 169, 170, 171, 172, 173, 174, 175, 176, 177, 178])), (2, ([3, 4, 6, 7, 8, 9, 10, 11, 12, 15, 16, 17, 18, 19, 20, 21, 22, 23, 24, 25, 26, 27, 28, 29, 30, 31, 32, 33, 34, 35, 36, 37, 38, 39, 40, 41, 42, 43, 44, 45, 46, 47, 48, 49, 50, 51, 52, 53, 54, 55, 56, 57, 58, 59, 60, 61, 62, 63, 64, 65, 66, 67, 68, 69, 70, 71, 72, 73, 74, 75, 76, 77, 78, 79, 80, 81, 82, 83, 84, 85, 86, 87, 88, 89, 90, 91, 92, 93, 94, 95, 96, 97, 98, 99, 100, 101, 102, 103, 104, 105, 106, 107, 108, 109, 110, 111, 112, 113, 114, 115, 116, 117, 118, 119, 120, 121, 122, 123, 124, 125, 126, 127, 128, 129, 130, 131, 132, 133, 134, 135, 136, 137, 138, 139, 140, 141, 142, 143, 144, 145, 146, 147, 148, 149, 150, 151, 152, 153, 154, 155, 156, 157, 158, 159, 160, 161, 162, 163, 164, 165, 166, 167, 168, 169, 170, 171, 172, 173, 174, 175, 176, 177, 178], [3, 4, 6, 7, 8, 9, 10, 11, 12, 15, 16, 17, 18, 19, 20, 21, 22, 23, 24, 25, 26, 27, 28, 29, 30, 31, 32, 33, 34, 35, 36, 37, 38, 39, 40, 41, 42, 43, 44, 45, 46, 47, 48, 49, 50, 51, 52, 53, 54, 55, 56, 57, 58, 59, 60, 61, 62, 63, 64, 65, 66, 67, 68, 69, 70, 71, 72, 73, 74, 75, 76, 77, 78, 79, 80, 81, 82, 83, 84, 85, 86, 87, 88, 89, 90, 91, 92, 93, 94, 95, 96, 97, 98, 99, 100, 101, 102, 103, 104, 105, 106, 107, 108, 109, 110, 111, 112, 113, 114, 115, 116, 117, 118, 119, 120, 121, 122, 123, 124, 125, 126, 127, 128, 129, 130, 131, 132, 133, 134, 135, 136, 137, 138, 139, 140, 141, 142, 143, 144, 145, 146, 147, 148, 149, 150, 151, 152, 153, 154, 155, 156, 157, 158, 159, 160, 161, 162, 163, 164, 165, 166, 167, 168, 169, 170, 171, 172, 173, 174, 175, 176, 177, 178], [1, 2, 3, 4, 5, 6, 7, 8, 9, 10, 13, 14, 15, 16, 17, 18, 19, 20, 21, 22, 23, 24, 25, 26, 27, 28, 29, 30, 31, 32, 33, 34, 35, 36, 37, 38, 39, 40, 41, 42, 43, 44, 45, 46, 47, 48, 49, 50, 51, 52, 53, 54, 55, 56, 57, 58, 59, 60, 61, 62, 63, 64, 65, 66, 67, 68, 69, 70, 71, 72, 73, 74, 75, 76, 77, 78, 79, 80, 81, 82, 83, 84, 85, 86, 87, 88, 89, 90, 91, 92, 93, 94, 95, 96, 97, 98, 99, 100, 101, 102, 103, 104, 105, 106, 107, 108, 109, 110, 111, 112, 113, 114, 115, 116, 117, 118, 119, 120, 121, 122, 123, 124, 125, 126, 127, 128, 129, 130, 131, 132, 133, 134, 135, 136, 137, 138, 139, 140, 141, 142, 143, 144, 145, 146, 147, 148, 149, 150, 151, 152, 153, 154, 155, 156, 157, 158, 159, 160, 161, 162, 163, 164, 165, 166, 167, 168, 169, 170, 171, 172, 173, 174, 175, 176, 177, 178])), (0, ([3, 4, 6, 7, 8, 9, 10, 11, 12, 15, 16, 17, 18, 19, 20, 21, 22, 23, 24, 25, 26, 27, 28, 29, 30, 31, 32, 33, 34, 35, 36, 37, 38, 39, 40, 41, 42, 43, 44, 45, 46, 47, 48, 49, 50, 51, 52, 53, 54, 55, 56, 57, 58, 59, 60, 61, 62, 63, 64, 65, 66, 67, 68, 69, 70, 71, 72, 73, 74, 75, 76, 77, 78, 79, 80, 81, 82, 83, 84, 85, 86, 87, 88, 89, 90, 91, 92, 93, 94, 95, 96, 97, 98, 99, 100, 101, 102, 103, 104, 105, 106, 107, 108, 109, 110, 111, 112, 113, 114, 115, 116, 117, 118, 119, 120, 121, 122, 123, 124, 125, 126, 127, 128, 129, 130, 131, 132, 133, 134, 135, 136, 137, 138, 139, 140, 141, 142, 143, 144, 145, 146, 147, 148, 149, 150, 151, 152, 153, 154, 155, 156, 157, 158, 159, 160, 161, 162, 163, 164, 165, 166, 167, 168, 169, 170, 171, 172, 173, 174, 175, 176, 177, 178], [3, 4, 6, 7, 8, 9, 10, 11, 12, 15, 16, 17, 18, 19, 20, 21, 22, 23, 24, 25, 26, 27, 28, 29, 30, 31, 32, 33, 34, 35, 36, 37, 38, 39, 40, 41, 42, 43, 44, 45, 46, 47, 48, 49, 50, 51, 52, 53, 54, 55, 56, 57, 58, 59, 60, 61, 62, 63, 64, 65, 66, 67, 68, 69, 70, 71, 72, 73, 74, 75, 76, 77, 78, 79, 80, 81, 82, 83, 84, 85, 86, 87, 88, 89, 90, 91, 92, 93, 94, 95, 96, 97, 98, 99, 100, 101, 102, 103, 104, 105, 106, 107, 108, 109, 110, 111, 112, 113, 114, 115, 116, 117, 118, 119, 120, 121, 122, 123, 124, 125, 126, 127, 128, 129, 130, 131, 132, 133, 134, 135, 136, 137, 138, 139, 140, 141, 142, 143, 144, 145, 146, 147, 148, 149, 150, 151, 152, 153, 154, 155, 156, 157, 158, 159, 160, 161, 162, 163, 164, 165, 166, 167, 168, 169, 170, 171, 172, 173, 174, 175, 176, 177, 178], [1, 2, 3, 4, 5, 6, 7, 8, 9, 10, 13, 14, 15, 16, 17, 18, 19, 20, 21, 22, 23, 24, 25, 26, 27, 28, 29, 30, 31, 32, 33, 34, 35, 36, 37, 38, 39, 40, 41, 42, 43, 44, 45, 46, 47, 48, 49, 50, 51, 52, 53, 54, 55, 56, 57, 58, 59, 60, 61, 62, 63, 64, 65, 66, 67, 68, 69, 70, 71, 72, 73, 74, 75, 76, 77, 78, 79, 80, 81, 82, 83, 84, 85, 86, 87, 88, 89, 90, 91, 92, 93, 94, 95, 96, 97, 98, 99, 100, 101, 102, 103, 104, 105, 106, 107, 108, 109, 110, 111, 112, 113, 114, 115, 116, 117, 118, 119, 120, 121, 122, 123, 124, 125, 126, 127, 128, 129, 130, 131, 132, 133, 134, 135, 136, 137, 138, 139, 140, 141, 142, 143, 144, 145, 146, 147, 148, 149, 150, 151, 152, 153, 154, 155, 156, 157, 158, 159, 160, 161, 162, 163, 164, 165, 166, 167, 168, 169, 170, 171, 172, 173, 174, 175, 176, 177, 178]))], sk := [], mvs := [], fz := [] }
def f_slices_partitionCmpFunc_AtomsOf_2_a (p1 : Int) (p2 : Int) (p3 : Int) (h0 : List Sc) : List AV := enc [.p (.al 0), .p (.int .i64), .p (.int .i64), .p (.int .i64), .fn 46 []] [.i p1, .i p2, .i p3]
def f_slices_partitionCmpFunc_AtomsOf_2_i (p1 : Int) (p2 : Int) (p3 : Int) (h0 : List Sc) : List AV := enc [.own 1000022] [.l h0]
def f_slices_partitionCmpFunc_AtomsOf_2_en (r : Int × Bool × List Sc) : List AV × List AV := (enc [.p (.int .i64), .p .boo] [.i r.1, .b r.2.1], enc [.own 1000022] [.l r.2.2])
def f_slices_partitionCmpFunc_AtomsOf_2_M : Calling := addC 46 f_i_AtomsOf_2_c (noC)
theorem f_slices_partitionCmpFunc_AtomsOf_2_Mt : CallOk Try.prog (f_slices_partitionCmpFunc_AtomsOf_2_M) := addC_true f_i_AtomsOf_2_cc (noC_true)
theorem f_slices_partitionCmpFunc_AtomsOf_2_o : loopsOnce Try.f86 = true := by kernel_rfl
def f_slices_partitionCmpFunc_AtomsOf_2_h0 : List Sh := [.own 1000022, .p (.al 0), .p (.int .i64), .u, .u, .fn 46 [], .u, .u, .u, .u, .u, .u, .u, .p (.int .i64), .p (.int .i64), .u, .u, .u, .u, .u, .u, .u, .u, .u, .u, .u, .u, .u, .u, .u, .u, .u, .u, .u, .u, .u, .u, .u, .u, .u, .u, .u, .u, .u, .u, .u, .u, .u, .u, .u, .u, .u, .u, .u, .u, .u, .u, .u, .u, .u, .u, .u, .u, .u, .u, .u, .u, .u, .u, .u, .u, .u, .u, .u, .u, .u, .u, .u, .u, .u, .u, .u, .u, .u, .u, .u, .u, .u, .u, .u, .u, .u, .u, .u, .u, .u, .u, .u, .u, .u, .u, .u, .u, .u, .u, .u, .u, .u, .u, .u, .u, .u, .u, .u, .u, .u, .u, .u, .u, .u, .u, .u, .u, .u, .u, .u, .u, .u, .u, .u, .u, .u, .u, .u, .u, .u, .u, .u, .u, .u, .u, .u, .u, .u, .u, .u, .u, .u, .u, .u, .u, .u, .u, .u, .u, .u, .u, .u, .u, .u, .u, .u, .u, .u, .u, .u, .u, .u, .u, .u, .u, .u, .u, .u, .u, .u, .u, .u, .u]
def f_slices_partitionCmpFunc_AtomsOf_2_fr0 (t1 : Int) (t13 : Int) (s : List Sc × Int) : List AV := enc f_slices_partitionCmpFunc_AtomsOf_2_h0 [.l s.1, .i t1, .i s.2, .i t13]
def f_slices_partitionCmpFunc_AtomsOf_2_g0_1 : List Sh := [.own 1000022, .p (.al 0), .p (.int .i64), .u, .u, .fn 46 [], .u, .u, .u, .u, .u, .u, .u, .p (.int .i64), .p (.int .i64), .u, .u, .u, .u, .u, .u, .u, .u, .u, .u, .u, .u, .u, .u, .u, .u, .u, .u, .u, .u, .u, .u, .u, .u, .u, .u, .u, .u, .u, .u, .u, .u, .u, .u, .u, .u, .u, .u, .u, .u, .u, .u, .u, .u, .u, .u, .u, .u, .u, .u, .u, .u, .u, .u, .u, .u, .u, .u, .u, .u, .u, .u, .u, .u, .u, .u, .u, .u, .u, .u, .u, .u, .u, .u, .u, .u, .u, .u, .u, .u, .u, .u, .u, .u, .u, .u, .u, .u, .u, .u, .u, .u, .u, .u, .u, .u, .u, .u, .u, .u, .u, .u, .u, .u, .u, .u, .u, .u, .u, .u, .u, .u, .u, .u, .u, .u, .u, .u, .u, .u, .u, .u, .u, .u, .u, .u, .u, .u, .u, .u, .u, .u, .u, .u, .u, .u, .u, .u, .u, .u, .u, .u, .u, .u, .u, .u, .u, .u, .u, .u, .u, .u, .u, .u, .u, .u, .u, .u, .u, .u, .u, .u, .u, .u]
def f_slices_partitionCmpFunc_AtomsOf_2_x0_1 (t1 : Int) (t13 : Int) (e : List Sc × Int) : X × List AV := (.out 0, enc f_slices_partitionCmpFunc_AtomsOf_2_g0_1 [.l e.1, .i t1, .i e.2, .i t13])
def f_slices_partitionCmpFunc_AtomsOf_2_x0_2 (t1 : Int) (t13 : Int) (_e : Unit) : X × List AV := (.ret, [])
theorem f_slices_partitionCmpFunc_AtomsOf_2_p0 {R : Type} (t1 : Int) (t13 : Int) (s : List Sc × Int) (kN : List Sc × Int → Option R) (kA : List Sc × Int → Option R) (kB : Unit → Option R) : f_slices_partitionCmpFunc_AtomsOf_2_k0 t1 t13 s.1 s.2 kN kA = (f_slices_partitionCmpFunc_AtomsOf_2_r0 t1 t13 s).bind (Ro.el kN kA kB) := by
  simp only [f_slices_partitionCmpFunc_AtomsOf_2_k0, f_slices_partitionCmpFunc_AtomsOf_2_r0, brB, boB, someB, noneB, Ro.el]
theorem f_slices_partitionCmpFunc_AtomsOf_2_e0 (t1 : Int) (t13 : Int) (s : List Sc × Int) : EC E0 f_slices_partitionCmpFunc_AtomsOf_2_M H0 f_slices_partitionCmpFunc_AtomsOf_2_F (asL (noL)) 0 (bodyOf Try.f86 0) (f_slices_partitionCmpFunc_AtomsOf_2_fr0 t1 t13 s) (done (klOf f_slices_partitionCmpFunc_AtomsOf_2_F 0)) = f_slices_partitionCmpFunc_AtomsOf_2_k0 t1 t13 s.1 s.2 (fun s => some (.norm, f_slices_partitionCmpFunc_AtomsOf_2_fr0 t1 t13 s)) (fun e => some (f_slices_partitionCmpFunc_AtomsOf_2_x0_1 t1 t13 e)) := by kernel_rfl
theorem f_slices_partitionCmpFunc_AtomsOf_2_l0 (t1 : Int) (t13 : Int) : ∀ s r, loopL (f_slices_partitionCmpFunc_AtomsOf_2_r0 t1 t13) s = some r → LS Try.prog f_slices_partitionCmpFunc_AtomsOf_2_F (bodyOf Try.f86 0) (f_slices_partitionCmpFunc_AtomsOf_2_fr0 t1 t13 s) (enX (f_slices_partitionCmpFunc_AtomsOf_2_x0_1 t1 t13) (f_slices_partitionCmpFunc_AtomsOf_2_x0_2 t1 t13) r) :=
  loop_true E0ok f_slices_partitionCmpFunc_AtomsOf_2_Mt (noL_true) f_slices_partitionCmpFunc_AtomsOf_2_o (fun _ h => by cases h) (fun _ h => by cases h) (fun _ h => by cases h) (fun _ h => by cases h) (fun s => (f_slices_partitionCmpFunc_AtomsOf_2_e0 t1 t13 s).trans (f_slices_partitionCmpFunc_AtomsOf_2_p0 t1 t13 s _ _ (fun e => some (f_slices_partitionCmpFunc_AtomsOf_2_x0_2 t1 t13 e))))
def f_slices_partitionCmpFunc_AtomsOf_2_t0 (σ : List AV) : Option (Bool × Bool × (X × List AV) × (X × List AV)) := match dec f_slices_partitionCmpFunc_AtomsOf_2_h0 σ with
  | some [.l v0, .i t1, .i t12, .i t13] => some (isOne (loopL (f_slices_partitionCmpFunc_AtomsOf_2_r0 t1 t13) (v0, t12)), true, f_slices_partitionCmpFunc_AtomsOf_2_x0_1 t1 t13 (getOne ([], 0) (loopL (f_slices_partitionCmpFunc_AtomsOf_2_r0 t1 t13) (v0, t12))), (.ret, []))
  | _ => none
theorem f_slices_partitionCmpFunc_AtomsOf_2_tt0 : TTrue Try.prog f_slices_partitionCmpFunc_AtomsOf_2_F Try.f86 0 (f_slices_partitionCmpFunc_AtomsOf_2_t0) := by
  intro σ p r r' h
  unfold f_slices_partitionCmpFunc_AtomsOf_2_t0 at h
  split at h
  · rename_i hd
    rw [← dec_enc hd]
    exact row1 (f_slices_partitionCmpFunc_AtomsOf_2_l0 _ _ _) h
  · cases h
def f_slices_partitionCmpFunc_AtomsOf_2_h2 : List Sh := [.own 1000022, .p (.al 0), .p (.int .i64), .u, .u, .fn 46 [], .u, .u, .u, .u, .u, .u, .u, .p (.int .i64), .p (.int .i64), .u, .u, .u, .u, .u, .u, .u, .u, .u, .u, .u, .u, .u, .u, .u, .u, .u, .u, .u, .u, .u, .u, .u, .u, .u, .u, .u, .u, .u, .u, .u, .u, .u, .u, .u, .u, .u, .u, .u, .u, .u, .u, .u, .u, .u, .u, .u, .u, .u, .u, .u, .u, .u, .u, .u, .u, .u, .u, .u, .u, .u, .u, .u, .u, .u, .u, .u, .u, .u, .u, .u, .u, .u, .u, .u, .u, .u, .u, .u, .u, .u, .u, .u, .u, .u, .u, .u, .u, .u, .u, .u, .u, .u, .u, .u, .u, .u, .u, .u, .u, .u, .u, .u, .u, .u, .u, .u, .u, .u, .u, .u, .u, .u, .u, .u, .u, .u, .u, .u, .u, .u, .u, .u, .u, .u, .u, .u, .u, .u, .u, .u, .u, .u, .u, .u, .u, .u, .u, .u, .u, .u, .u, .u, .u, .u, .u, .u, .u, .u, .u, .u, .u, .u, .u, .u, .u, .u, .u, .u, .u, .u, .u, .u, .u]
def f_slices_partitionCmpFunc_AtomsOf_2_fr2 (t1 : Int) (t12 : Int) (s : List Sc × Int) : List AV := enc f_slices_partitionCmpFunc_AtomsOf_2_h2 [.l s.1, .i t1, .i t12, .i s.2]
def f_slices_partitionCmpFunc_AtomsOf_2_g2_1 : List Sh := [.own 1000022, .p (.al 0), .p (.int .i64), .u, .u, .fn 46 [], .u, .u, .u, .u, .u, .u, .u, .p (.int .i64), .p (.int .i64), .u, .u, .u, .u, .u, .u, .u, .u, .u, .u, .u, .u, .u, .u, .u, .u, .u, .u, .u, .u, .u, .u, .u, .u, .u, .u, .u, .u, .u, .u, .u, .u, .u, .u, .u, .u, .u, .u, .u, .u, .u, .u, .u, .u, .u, .u, .u, .u, .u, .u, .u, .u, .u, .u, .u, .u, .u, .u, .u, .u, .u, .u, .u, .u, .u, .u, .u, .u, .u, .u, .u, .u, .u, .u, .u, .u, .u, .u, .u, .u, .u, .u, .u, .u, .u, .u, .u, .u, .u, .u, .u, .u, .u, .u, .u, .u, .u, .u, .u, .u, .u, .u, .u, .u, .u, .u, .u, .u, .u, .u, .u, .u, .u, .u, .u, .u, .u, .u, .u, .u, .u, .u, .u, .u, .u, .u, .u, .u, .u, .u, .u, .u, .u, .u, .u, .u, .u, .u, .u, .u, .u, .u, .u, .u, .u, .u, .u, .u, .u, .u, .u, .u, .u, .u, .u, .u, .u, .u, .u, .u, .u, .u, .u, .u]
def f_slices_partitionCmpFunc_AtomsOf_2_x2_1 (t1 : Int) (t12 : Int) (e : List Sc × Int) : X × List AV := (.out 2, enc f_slices_partitionCmpFunc_AtomsOf_2_g2_1 [.l e.1, .i t1, .i t12, .i e.2])
def f_slices_partitionCmpFunc_AtomsOf_2_x2_2 (t1 : Int) (t12 : Int) (_e : Unit) : X × List AV := (.ret, [])
theorem f_slices_partitionCmpFunc_AtomsOf_2_p2 {R : Type} (t1 : Int) (t12 : Int) (s : List Sc × Int) (kN : List Sc × Int → Option R) (kA : List Sc × Int → Option R) (kB : Unit → Option R) : f_slices_partitionCmpFunc_AtomsOf_2_k2 t1 t12 s.1 s.2 kN kA = (f_slices_partitionCmpFunc_AtomsOf_2_r2 t1 t12 s).bind (Ro.el kN kA kB) := by
  simp only [f_slices_partitionCmpFunc_AtomsOf_2_k2, f_slices_partitionCmpFunc_AtomsOf_2_r2, brB, boB, someB, noneB, Ro.el]
theorem f_slices_partitionCmpFunc_AtomsOf_2_e2 (t1 : Int) (t12 : Int) (s : List Sc × Int) : EC E0 f_slices_partitionCmpFunc_AtomsOf_2_M H0 f_slices_partitionCmpFunc_AtomsOf_2_F (asL (addL 0 (f_slices_partitionCmpFunc_AtomsOf_2_t0) (noL))) 2 (bodyOf Try.f86 2) (f_slices_partitionCmpFunc_AtomsOf_2_fr2 t1 t12 s) (done (klOf f_slices_partitionCmpFunc_AtomsOf_2_F 2)) = f_slices_partitionCmpFunc_AtomsOf_2_k2 t1 t12 s.1 s.2 (fun s => some (.norm, f_slices_partitionCmpFunc_AtomsOf_2_fr2 t1 t12 s)) (fun e => some (f_slices_partitionCmpFunc_AtomsOf_2_x2_1 t1 t12 e)) := by kernel_rfl
theorem f_slices_partitionCmpFunc_AtomsOf_2_l2 (t1 : Int) (t12 : Int) : ∀ s r, loopL (f_slices_partitionCmpFunc_AtomsOf_2_r2 t1 t12) s = some r → LS Try.prog f_slices_partitionCmpFunc_AtomsOf_2_F (bodyOf Try.f86 2) (f_slices_partitionCmpFunc_AtomsOf_2_fr2 t1 t12 s) (enX (f_slices_partitionCmpFunc_AtomsOf_2_x2_1 t1 t12) (f_slices_partitionCmpFunc_AtomsOf_2_x2_2 t1 t12) r) :=
  loop_true E0ok f_slices_partitionCmpFunc_AtomsOf_2_Mt (addL_true (f_slices_partitionCmpFunc_AtomsOf_2_tt0) (noL_true)) f_slices_partitionCmpFunc_AtomsOf_2_o (fun _ h => by cases h) (fun _ h => by cases h) (fun _ h => by cases h) (fun _ h => by cases h) (fun s => (f_slices_partitionCmpFunc_AtomsOf_2_e2 t1 t12 s).trans (f_slices_partitionCmpFunc_AtomsOf_2_p2 t1 t12 s _ _ (fun e => some (f_slices_partitionCmpFunc_AtomsOf_2_x2_2 t1 t12 e))))
def f_slices_partitionCmpFunc_AtomsOf_2_t2 (σ : List AV) : Option (Bool × Bool × (X × List AV) × (X × List AV)) := match dec f_slices_partitionCmpFunc_AtomsOf_2_h2 σ with
  | some [.l v0, .i t1, .i t12, .i t13] => some (isOne (loopL (f_slices_partitionCmpFunc_AtomsOf_2_r2 t1 t12) (v0, t13)), true, f_slices_partitionCmpFunc_AtomsOf_2_x2_1 t1 t12 (getOne ([], 0) (loopL (f_slices_partitionCmpFunc_AtomsOf_2_r2 t1 t12) (v0, t13))), (.ret, []))
  | _ => none
theorem f_slices_partitionCmpFunc_AtomsOf_2_tt2 : TTrue Try.prog f_slices_partitionCmpFunc_AtomsOf_2_F Try.f86 2 (f_slices_partitionCmpFunc_AtomsOf_2_t2) := by
  intro σ p r r' h
  unfold f_slices_partitionCmpFunc_AtomsOf_2_t2 at h
  split at h
  · rename_i hd
    rw [← dec_enc hd]
    exact row1 (f_slices_partitionCmpFunc_AtomsOf_2_l2 _ _ _) h
  · cases h
def f_slices_partitionCmpFunc_AtomsOf_2_h6 : List Sh := [.own 1000022, .p (.al 0), .p (.int .i64), .u, .u, .fn 46 [], .u, .u, .u, .u, .u, .u, .u, .p (.int .i64), .p (.int .i64), .u, .u, .u, .u, .u, .u, .u, .u, .u, .u, .u, .u, .u, .u, .u, .u, .u, .u, .u, .u, .u, .u, .u, .u, .u, .u, .u, .u, .u, .u, .u, .u, .u, .u, .u, .u, .u, .u, .u, .u, .u, .u, .u, .u, .u, .u, .u, .u, .u, .u, .u, .u, .u, .u, .u, .u, .u, .u, .u, .u, .u, .u, .u, .u, .u, .u, .u, .u, .u, .u, .u, .u, .u, .u, .u, .u, .u, .u, .u, .u, .u, .u, .u, .u, .u, .u, .u, .u, .u, .u, .u, .u, .u, .u, .u, .u, .u, .u, .u, .u, .u, .u, .u, .u, .u, .u, .u, .u, .u, .u, .u, .u, .u, .u, .u, .u, .u, .u, .u, .u, .u, .u, .u, .u, .u, .u, .u, .u, .u, .u, .u, .u, .u, .u, .u, .u, .u, .u, .u, .u, .u, .u, .u, .u, .u, .u, .u, .u, .u, .u, .u, .u, .u, .u, .u, .u, .u, .u, .u, .u, .u, .u, .u, .u]
def f_slices_partitionCmpFunc_AtomsOf_2_fr6 (t1 : Int) (t13 : Int) (s : List Sc × Int) : List AV := enc f_slices_partitionCmpFunc_AtomsOf_2_h6 [.l s.1, .i t1, .i s.2, .i t13]
def f_slices_partitionCmpFunc_AtomsOf_2_g6_1 : List Sh := [.own 1000022, .p (.al 0), .p (.int .i64), .u, .u, .fn 46 [], .u, .u, .u, .u, .u, .u, .u, .p (.int .i64), .p (.int .i64), .u, .u, .u, .u, .u, .u, .u, .u, .u, .u, .u, .u, .u, .u, .u, .u, .u, .u, .u, .u, .u, .u, .u, .u, .u, .u, .u, .u, .u, .u, .u, .u, .u, .u, .u, .u, .u, .u, .u, .u, .u, .u, .u, .u, .u, .u, .u, .u, .u, .u, .u, .u, .u, .u, .u, .u, .u, .u, .u, .u, .u, .u, .u, .u, .u, .u, .u, .u, .u, .u, .u, .u, .u, .u, .u, .u, .u, .u, .u, .u, .u, .u, .u, .u, .u, .u, .u, .u, .u, .u, .u, .u, .u, .u, .u, .u, .u, .u, .u, .u, .u, .u, .u, .u, .u, .u, .u, .u, .u, .u, .u, .u, .u, .u, .u, .u, .u, .u, .u, .u, .u, .u, .u, .u, .u, .u, .u, .u, .u, .u, .u, .u, .u, .u, .u, .u, .u, .u, .u, .u, .u, .u, .u, .u, .u, .u, .u, .u, .u, .u, .u, .u, .u, .u, .u, .u, .u, .u, .u, .u, .u, .u, .u, .u]
def f_slices_partitionCmpFunc_AtomsOf_2_x6_1 (t1 : Int) (t13 : Int) (e : List Sc × Int) : X × List AV := (.out 6, enc f_slices_partitionCmpFunc_AtomsOf_2_g6_1 [.l e.1, .i t1, .i e.2, .i t13])
def f_slices_partitionCmpFunc_AtomsOf_2_x6_2 (t1 : Int) (t13 : Int) (_e : Unit) : X × List AV := (.ret, [])
theorem f_slices_partitionCmpFunc_AtomsOf_2_p6 {R : Type} (t1 : Int) (t13 : Int) (s : List Sc × Int) (kN : List Sc × Int → Option R) (kA : List Sc × Int → Option R) (kB : Unit → Option R) : f_slices_partitionCmpFunc_AtomsOf_2_k6 t1 t13 s.1 s.2 kN kA = (f_slices_partitionCmpFunc_AtomsOf_2_r6 t1 t13 s).bind (Ro.el kN kA kB) := by
  simp only [f_slices_partitionCmpFunc_AtomsOf_2_k6, f_slices_partitionCmpFunc_AtomsOf_2_r6, brB, boB, someB, noneB, Ro.el]
theorem f_slices_partitionCmpFunc_AtomsOf_2_e6 (t1 : Int) (t13 : Int) (s : List Sc × Int) : EC E0 f_slices_partitionCmpFunc_AtomsOf_2_M H0 f_slices_partitionCmpFunc_AtomsOf_2_F (asL (addL 2 (f_slices_partitionCmpFunc_AtomsOf_2_t2) (addL 0 (f_slices_partitionCmpFunc_AtomsOf_2_t0) (noL)))) 6 (bodyOf Try.f86 6) (f_slices_partitionCmpFunc_AtomsOf_2_fr6 t1 t13 s) (done (klOf f_slices_partitionCmpFunc_AtomsOf_2_F 6)) = f_slices_partitionCmpFunc_AtomsOf_2_k6 t1 t13 s.1 s.2 (fun s => some (.norm, f_slices_partitionCmpFunc_AtomsOf_2_fr6 t1 t13 s)) (fun e => some (f_slices_partitionCmpFunc_AtomsOf_2_x6_1 t1 t13 e)) := by kernel_rfl
theorem f_slices_partitionCmpFunc_AtomsOf_2_l6 (t1 : Int) (t13 : Int) : ∀ s r, loopL (f_slices_partitionCmpFunc_AtomsOf_2_r6 t1 t13) s = some r → LS Try.prog f_slices_partitionCmpFunc_AtomsOf_2_F (bodyOf Try.f86 6) (f_slices_partitionCmpFunc_AtomsOf_2_fr6 t1 t13 s) (enX (f_slices_partitionCmpFunc_AtomsOf_2_x6_1 t1 t13) (f_slices_partitionCmpFunc_AtomsOf_2_x6_2 t1 t13) r) :=
  loop_true E0ok f_slices_partitionCmpFunc_AtomsOf_2_Mt (addL_true (f_slices_partitionCmpFunc_AtomsOf_2_tt2) (addL_true (f_slices_partitionCmpFunc_AtomsOf_2_tt0) (noL_true))) f_slices_partitionCmpFunc_AtomsOf_2_o (fun _ h => by cases h) (fun _ h => by cases h) (fun _ h => by cases h) (fun _ h => by cases h) (fun s => (f_slices_partitionCmpFunc_AtomsOf_2_e6 t1 t13 s).trans (f_slices_partitionCmpFunc_AtomsOf_2_p6 t1 t13 s _ _ (fun e => some (f_slices_partitionCmpFunc_AtomsOf_2_x6_2 t1 t13 e))))
def f_slices_partitionCmpFunc_AtomsOf_2_t6 (σ : List AV) : Option (Bool × Bool × (X × List AV) × (X × List AV)) := match dec f_slices_partitionCmpFunc_AtomsOf_2_h6 σ with
  | some [.l v0, .i t1, .i t12, .i t13] => some (isOne (loopL (f_slices_partitionCmpFunc_AtomsOf_2_r6 t1 t13) (v0, t12)), true, f_slices_partitionCmpFunc_AtomsOf_2_x6_1 t1 t13 (getOne ([], 0) (loopL (f_slices_partitionCmpFunc_AtomsOf_2_r6 t1 t13) (v0, t12))), (.ret, []))
  | _ => none
theorem f_slices_partitionCmpFunc_AtomsOf_2_tt6 : TTrue Try.prog f_slices_partitionCmpFunc_AtomsOf_2_F Try.f86 6 (f_slices_partitionCmpFunc_AtomsOf_2_t6) := by
  intro σ p r r' h
  unfold f_slices_partitionCmpFunc_AtomsOf_2_t6 at h
  split at h
  · rename_i hd
    rw [← dec_enc hd]
    exact row1 (f_slices_partitionCmpFunc_AtomsOf_2_l6 _ _ _) h
  · cases h
def f_slices_partitionCmpFunc_AtomsOf_2_h8 : List Sh := [.own 1000022, .p (.al 0), .p (.int .i64), .u, .u, .fn 46 [], .u, .u, .u, .u, .u, .u, .u, .p (.int .i64), .p (.int .i64), .u, .u, .u, .u, .u, .u, .u, .u, .u, .u, .u, .u, .u, .u, .u, .u, .u, .u, .u, .u, .u, .u, .u, .u, .u, .u, .u, .u, .u, .u, .u, .u, .u, .u, .u, .u, .u, .u, .u, .u, .u, .u, .u, .u, .u, .u, .u, .u, .u, .u, .u, .u, .u, .u, .u, .u, .u, .u, .u, .u, .u, .u, .u, .u, .u, .u, .u, .u, .u, .u, .u, .u, .u, .u, .u, .u, .u, .u, .u, .u, .u, .u, .u, .u, .u, .u, .u, .u, .u, .u, .u, .u, .u, .u, .u, .u, .u, .u, .u, .u, .u, .u, .u, .u, .u, .u, .u, .u, .u, .u, .u, .u, .u, .u, .u, .u, .u, .u, .u, .u, .u, .u, .u, .u, .u, .u, .u, .u, .u, .u, .u, .u, .u, .u, .u, .u, .u, .u, .u, .u, .u, .u, .u, .u, .u, .u, .u, .u, .u, .u, .u, .u, .u, .u, .u, .u, .u, .u, .u, .u, .u, .u, .u, .u]
def f_slices_partitionCmpFunc_AtomsOf_2_fr8 (t1 : Int) (t12 : Int) (s : List Sc × Int) : List AV := enc f_slices_partitionCmpFunc_AtomsOf_2_h8 [.l s.1, .i t1, .i t12, .i s.2]
def f_slices_partitionCmpFunc_AtomsOf_2_g8_1 : List Sh := [.own 1000022, .p (.al 0), .p (.int .i64), .u, .u, .fn 46 [], .u, .u, .u, .u, .u, .u, .u, .p (.int .i64), .p (.int .i64), .u, .u, .u, .u, .u, .u, .u, .u, .u, .u, .u, .u, .u, .u, .u, .u, .u, .u, .u, .u, .u, .u, .u, .u, .u, .u, .u, .u, .u, .u, .u, .u, .u, .u, .u, .u, .u, .u, .u, .u, .u, .u, .u, .u, .u, .u, .u, .u, .u, .u, .u, .u, .u, .u, .u, .u, .u, .u, .u, .u, .u, .u, .u, .u, .u, .u, .u, .u, .u, .u, .u, .u, .u, .u, .u, .u, .u, .u, .u, .u, .u, .u, .u, .u, .u, .u, .u, .u, .u, .u, .u, .u, .u, .u, .u, .u, .u, .u, .u, .u, .u, .u, .u, .u, .u, .u, .u, .u, .u, .u, .u, .u, .u, .u, .u, .u, .u, .u, .u, .u, .u, .u, .u, .u, .u, .u, .u, .u, .u, .u, .u, .u, .u, .u, .u, .u, .u, .u, .u, .u, .u, .u, .u, .u, .u, .u, .u, .u, .u, .u, .u, .u, .u, .u, .u, .u, .u, .u, .u, .u, .u, .u, .u, .u]
def f_slices_partitionCmpFunc_AtomsOf_2_x8_1 (t1 : Int) (t12 : Int) (e : List Sc × Int) : X × List AV := (.out 8, enc f_slices_partitionCmpFunc_AtomsOf_2_g8_1 [.l e.1, .i t1, .i t12, .i e.2])
def f_slices_partitionCmpFunc_AtomsOf_2_x8_2 (t1 : Int) (t12 : Int) (_e : Unit) : X × List AV := (.ret, [])
theorem f_slices_partitionCmpFunc_AtomsOf_2_p8 {R : Type} (t1 : Int) (t12 : Int) (s : List Sc × Int) (kN : List Sc × Int → Option R) (kA : List Sc × Int → Option R) (kB : Unit → Option R) : f_slices_partitionCmpFunc_AtomsOf_2_k8 t1 t12 s.1 s.2 kN kA = (f_slices_partitionCmpFunc_AtomsOf_2_r8 t1 t12 s).bind (Ro.el kN kA kB) := by
  simp only [f_slices_partitionCmpFunc_AtomsOf_2_k8, f_slices_partitionCmpFunc_AtomsOf_2_r8, brB, boB, someB, noneB, Ro.el]
theorem f_slices_partitionCmpFunc_AtomsOf_2_e8 (t1 : Int) (t12 : Int) (s : List Sc × Int) : EC E0 f_slices_partitionCmpFunc_AtomsOf_2_M H0 f_slices_partitionCmpFunc_AtomsOf_2_F (asL (addL 6 (f_slices_partitionCmpFunc_AtomsOf_2_t6) (addL 2 (f_slices_partitionCmpFunc_AtomsOf_2_t2) (addL 0 (f_slices_partitionCmpFunc_AtomsOf_2_t0) (noL))))) 8 (bodyOf Try.f86 8) (f_slices_partitionCmpFunc_AtomsOf_2_fr8 t1 t12 s) (done (klOf f_slices_partitionCmpFunc_AtomsOf_2_F 8)) = f_slices_partitionCmpFunc_AtomsOf_2_k8 t1 t12 s.1 s.2 (fun s => some (.norm, f_slices_partitionCmpFunc_AtomsOf_2_fr8 t1 t12 s)) (fun e => some (f_slices_partitionCmpFunc_AtomsOf_2_x8_1 t1 t12 e)) := by kernel_rfl
theorem f_slices_partitionCmpFunc_AtomsOf_2_l8 (t1 : Int) (t12 : Int) : ∀ s r, loopL (f_slices_partitionCmpFunc_AtomsOf_2_r8 t1 t12) s = some r → LS Try.prog f_slices_partitionCmpFunc_AtomsOf_2_F (bodyOf Try.f86 8) (f_slices_partitionCmpFunc_AtomsOf_2_fr8 t1 t12 s) (enX (f_slices_partitionCmpFunc_AtomsOf_2_x8_1 t1 t12) (f_slices_partitionCmpFunc_AtomsOf_2_x8_2 t1 t12) r) :=
  loop_true E0ok f_slices_partitionCmpFunc_AtomsOf_2_Mt (addL_true (f_slices_partitionCmpFunc_AtomsOf_2_tt6) (addL_true (f_slices_partitionCmpFunc_AtomsOf_2_tt2) (addL_true (f_slices_partitionCmpFunc_AtomsOf_2_tt0) (noL_true)))) f_slices_partitionCmpFunc_AtomsOf_2_o (fun _ h => by cases h) (fun _ h => by cases h) (fun _ h => by cases h) (fun _ h => by cases h) (fun s => (f_slices_partitionCmpFunc_AtomsOf_2_e8 t1 t12 s).trans (f_slices_partitionCmpFunc_AtomsOf_2_p8 t1 t12 s _ _ (fun e => some (f_slices_partitionCmpFunc_AtomsOf_2_x8_2 t1 t12 e))))
def f_slices_partitionCmpFunc_AtomsOf_2_t8 (σ : List AV) : Option (Bool × Bool × (X × List AV) × (X × List AV)) := match dec f_slices_partitionCmpFunc_AtomsOf_2_h8 σ with
  | some [.l v0, .i t1, .i t12, .i t13] => some (isOne (loopL (f_slices_partitionCmpFunc_AtomsOf_2_r8 t1 t12) (v0, t13)), true, f_slices_partitionCmpFunc_AtomsOf_2_x8_1 t1 t12 (getOne ([], 0) (loopL (f_slices_partitionCmpFunc_AtomsOf_2_r8 t1 t12) (v0, t13))), (.ret, []))
  | _ => none
theorem f_slices_partitionCmpFunc_AtomsOf_2_tt8 : TTrue Try.prog f_slices_partitionCmpFunc_AtomsOf_2_F Try.f86 8 (f_slices_partitionCmpFunc_AtomsOf_2_t8) := by
  intro σ p r r' h
  unfold f_slices_partitionCmpFunc_AtomsOf_2_t8 at h
  split at h
  · rename_i hd
    rw [← dec_enc hd]
    exact row1 (f_slices_partitionCmpFunc_AtomsOf_2_l8 _ _ _) h
  · cases h
def f_slices_partitionCmpFunc_AtomsOf_2_h4 : List Sh := [.own 1000022, .p (.al 0), .p (.int .i64), .u, .u, .fn 46 [], .u, .u, .u, .u, .u, .u, .u, .p (.int .i64), .p (.int .i64), .u, .u, .u, .u, .u, .u, .u, .u, .u, .u, .u, .u, .u, .u, .u, .u, .u, .u, .u, .u, .u, .u, .u, .u, .u, .u, .u, .u, .u, .u, .u, .u, .u, .u, .u, .u, .u, .u, .u, .u, .u, .u, .u, .u, .u, .u, .u, .u, .u, .u, .u, .u, .u, .u, .u, .u, .u, .u, .u, .u, .u, .u, .u, .u, .u, .u, .u, .u, .u, .u, .u, .u, .u, .u, .u, .u, .u, .u, .u, .u, .u, .u, .u, .u, .u, .u, .u, .u, .u, .u, .u, .u, .u, .u, .u, .u, .u, .u, .u, .u, .u, .u, .u, .u, .u, .u, .u, .u, .u, .u, .u, .u, .u, .u, .u, .u, .u, .u, .u, .u, .u, .u, .u, .u, .u, .u, .u, .u, .u, .u, .u, .u, .u, .u, .u, .u, .u, .u, .u, .u, .u, .u, .u, .u, .u, .u, .u, .u, .u, .u, .u, .u, .u, .u, .u, .u, .u, .u, .u, .u, .u, .u, .u, .u]
def f_slices_partitionCmpFunc_AtomsOf_2_fr4 (t1 : Int) (s : List Sc × Int × Int) : List AV := enc f_slices_partitionCmpFunc_AtomsOf_2_h4 [.l s.1, .i t1, .i s.2.1, .i s.2.2]
def f_slices_partitionCmpFunc_AtomsOf_2_g4_1 : List Sh := [.own 1000022, .p (.al 0), .p (.int .i64), .u, .u, .fn 46 [], .u, .u, .u, .u, .u, .u, .u, .p (.int .i64), .p (.int .i64), .u, .u, .u, .u, .u, .u, .u, .u, .u, .u, .u, .u, .u, .u, .u, .u, .u, .u, .u, .u, .u, .u, .u, .u, .u, .u, .u, .u, .u, .u, .u, .u, .u, .u, .u, .u, .u, .u, .u, .u, .u, .u, .u, .u, .u, .u, .u, .u, .u, .u, .u, .u, .u, .u, .u, .u, .u, .u, .u, .u, .u, .u, .u, .u, .u, .u, .u, .u, .u, .u, .u, .u, .u, .u, .u, .u, .u, .u, .u, .u, .u, .u, .u, .u, .u, .u, .u, .u, .u, .u, .u, .u, .u, .u, .u, .u, .u, .u, .u, .u, .u, .u, .u, .u, .u, .u, .u, .u, .u, .u, .u, .u, .u, .u, .u, .u, .u, .u, .u, .u, .u, .u, .u, .u, .u, .u, .u, .u, .u, .u, .u, .u, .u, .u, .u, .u, .u, .u, .u, .u, .u, .u, .u, .u, .u, .u, .u, .u, .u, .u, .u, .u, .u, .u, .u, .u, .u, .u, .u, .u, .u, .u, .u, .u]
def f_slices_partitionCmpFunc_AtomsOf_2_x4_1 (t1 : Int) (e : List Sc × Int × Int) : X × List AV := (.out 4, enc f_slices_partitionCmpFunc_AtomsOf_2_g4_1 [.l e.1, .i t1, .i e.2.1, .i e.2.2])
def f_slices_partitionCmpFunc_AtomsOf_2_x4_2 (t1 : Int) (_e : Unit) : X × List AV := (.ret, [])
theorem f_slices_partitionCmpFunc_AtomsOf_2_p4 {R : Type} (t1 : Int) (s : List Sc × Int × Int) (kN : List Sc × Int × Int → Option R) (kA : List Sc × Int × Int → Option R) (kB : Unit → Option R) : f_slices_partitionCmpFunc_AtomsOf_2_k4 t1 s.1 s.2.1 s.2.2 kN kA = (f_slices_partitionCmpFunc_AtomsOf_2_r4 t1 s).bind (Ro.el kN kA kB) := by
  simp only [f_slices_partitionCmpFunc_AtomsOf_2_k4, f_slices_partitionCmpFunc_AtomsOf_2_r4, brB, bl1B, someB, noneB, Ro.el]
theorem f_slices_partitionCmpFunc_AtomsOf_2_e4 (t1 : Int) (s : List Sc × Int × Int) : EC E0 f_slices_partitionCmpFunc_AtomsOf_2_M H0 f_slices_partitionCmpFunc_AtomsOf_2_F (asL (addL 8 (f_slices_partitionCmpFunc_AtomsOf_2_t8) (addL 6 (f_slices_partitionCmpFunc_AtomsOf_2_t6) (addL 2 (f_slices_partitionCmpFunc_AtomsOf_2_t2) (addL 0 (f_slices_partitionCmpFunc_AtomsOf_2_t0) (noL)))))) 4 (bodyOf Try.f86 4) (f_slices_partitionCmpFunc_AtomsOf_2_fr4 t1 s) (done (klOf f_slices_partitionCmpFunc_AtomsOf_2_F 4)) = f_slices_partitionCmpFunc_AtomsOf_2_k4 t1 s.1 s.2.1 s.2.2 (fun s => some (.norm, f_slices_partitionCmpFunc_AtomsOf_2_fr4 t1 s)) (fun e => some (f_slices_partitionCmpFunc_AtomsOf_2_x4_1 t1 e)) := by kernel_rfl
theorem f_slices_partitionCmpFunc_AtomsOf_2_l4 (t1 : Int) : ∀ s r, loopL (f_slices_partitionCmpFunc_AtomsOf_2_r4 t1) s = some r → LS Try.prog f_slices_partitionCmpFunc_AtomsOf_2_F (bodyOf Try.f86 4) (f_slices_partitionCmpFunc_AtomsOf_2_fr4 t1 s) (enX (f_slices_partitionCmpFunc_AtomsOf_2_x4_1 t1) (f_slices_partitionCmpFunc_AtomsOf_2_x4_2 t1) r) :=
  loop_true E0ok f_slices_partitionCmpFunc_AtomsOf_2_Mt (addL_true (f_slices_partitionCmpFunc_AtomsOf_2_tt8) (addL_true (f_slices_partitionCmpFunc_AtomsOf_2_tt6) (addL_true (f_slices_partitionCmpFunc_AtomsOf_2_tt2) (addL_true (f_slices_partitionCmpFunc_AtomsOf_2_tt0) (noL_true))))) f_slices_partitionCmpFunc_AtomsOf_2_o (fun _ h => by cases h) (fun _ h => by cases h) (fun _ h => by cases h) (fun _ h => by cases h) (fun s => (f_slices_partitionCmpFunc_AtomsOf_2_e4 t1 s).trans (f_slices_partitionCmpFunc_AtomsOf_2_p4 t1 s _ _ (fun e => some (f_slices_partitionCmpFunc_AtomsOf_2_x4_2 t1 e))))
def f_slices_partitionCmpFunc_AtomsOf_2_t4 (σ : List AV) : Option (Bool × Bool × (X × List AV) × (X × List AV)) := match dec f_slices_partitionCmpFunc_AtomsOf_2_h4 σ with
  | some [.l v0, .i t1, .i t12, .i t13] => some (isOne (loopL (f_slices_partitionCmpFunc_AtomsOf_2_r4 t1) (v0, t12, t13)), true, f_slices_partitionCmpFunc_AtomsOf_2_x4_1 t1 (getOne ([], 0, 0) (loopL (f_slices_partitionCmpFunc_AtomsOf_2_r4 t1) (v0, t12, t13))), (.ret, []))
  | _ => none
theorem f_slices_partitionCmpFunc_AtomsOf_2_tt4 : TTrue Try.prog f_slices_partitionCmpFunc_AtomsOf_2_F Try.f86 4 (f_slices_partitionCmpFunc_AtomsOf_2_t4) := by
  intro σ p r r' h
  unfold f_slices_partitionCmpFunc_AtomsOf_2_t4 at h
  split at h
  · rename_i hd
    rw [← dec_enc hd]
    exact row1 (f_slices_partitionCmpFunc_AtomsOf_2_l4 _ _) h
  · cases h
theorem f_slices_partitionCmpFunc_AtomsOf_2_p {R : Type} (p1 : Int) (p2 : Int) (p3 : Int) (h0 : List Sc) (kR : Int × Bool × List Sc → Option R) : f_slices_partitionCmpFunc_AtomsOf_2_k p1 p2 p3 h0 kR = (f_slices_partitionCmpFunc_AtomsOf_2_k p1 p2 p3 h0 some).bind kR := by
  simp only [f_slices_partitionCmpFunc_AtomsOf_2_k, brB, bl1B, someB, noneB]
theorem f_slices_partitionCmpFunc_AtomsOf_2_e (p1 : Int) (p2 : Int) (p3 : Int) (h0 : List Sc) : runFn E0 f_slices_partitionCmpFunc_AtomsOf_2_M H0 f_slices_partitionCmpFunc_AtomsOf_2_F (asL (addL 4 (f_slices_partitionCmpFunc_AtomsOf_2_t4) (addL 8 (f_slices_partitionCmpFunc_AtomsOf_2_t8) (addL 6 (f_slices_partitionCmpFunc_AtomsOf_2_t6) (addL 2 (f_slices_partitionCmpFunc_AtomsOf_2_t2) (addL 0 (f_slices_partitionCmpFunc_AtomsOf_2_t0) (noL))))))) Try.f86 (f_slices_partitionCmpFunc_AtomsOf_2_a p1 p2 p3 h0) (f_slices_partitionCmpFunc_AtomsOf_2_i p1 p2 p3 h0) = f_slices_partitionCmpFunc_AtomsOf_2_k p1 p2 p3 h0 (fun r => some (f_slices_partitionCmpFunc_AtomsOf_2_en r)) := by kernel_rfl
theorem f_slices_partitionCmpFunc_AtomsOf_2_ok (p1 : Int) (p2 : Int) (p3 : Int) (h0 : List Sc) (r : Int × Bool × List Sc) (h : f_slices_partitionCmpFunc_AtomsOf_2 p1 p2 p3 h0 = some r) : CS Try.prog 86 (f_slices_partitionCmpFunc_AtomsOf_2_a p1 p2 p3 h0) (f_slices_partitionCmpFunc_AtomsOf_2_i p1 p2 p3 h0) (f_slices_partitionCmpFunc_AtomsOf_2_en r).1 (f_slices_partitionCmpFunc_AtomsOf_2_en r).2 :=
  fn_true (Gk := fun k => f_slices_partitionCmpFunc_AtomsOf_2_k p1 p2 p3 h0 k) (en := f_slices_partitionCmpFunc_AtomsOf_2_en) Try.func86 E0ok f_slices_partitionCmpFunc_AtomsOf_2_Mt (addL_true (f_slices_partitionCmpFunc_AtomsOf_2_tt4) (addL_true (f_slices_partitionCmpFunc_AtomsOf_2_tt8) (addL_true (f_slices_partitionCmpFunc_AtomsOf_2_tt6) (addL_true (f_slices_partitionCmpFunc_AtomsOf_2_tt2) (addL_true (f_slices_partitionCmpFunc_AtomsOf_2_tt0) (noL_true)))))) f_slices_partitionCmpFunc_AtomsOf_2_o (f_slices_partitionCmpFunc_AtomsOf_2_e p1 p2 p3 h0) (f_slices_partitionCmpFunc_AtomsOf_2_p p1 p2 p3 h0) h
def f_slices_partitionCmpFunc_AtomsOf_2_c : CRow := fun args inh => match dec2 [.p (.al 0), .p (.int .i64), .p (.int .i64), .p (.int .i64), .fn 46 []] [.own 1000022] args inh with
  | some ([.i p1, .i p2, .i p3], [.l h0]) => some ((f_slices_partitionCmpFunc_AtomsOf_2 p1 p2 p3 h0).isSome, (f_slices_partitionCmpFunc_AtomsOf_2_en ((f_slices_partitionCmpFunc_AtomsOf_2 p1 p2 p3 h0).getD (0, false, []))).1, (f_slices_partitionCmpFunc_AtomsOf_2_en ((f_slices_partitionCmpFunc_AtomsOf_2 p1 p2 p3 h0).getD (0, false, []))).2)
  | _ => none
theorem f_slices_partitionCmpFunc_AtomsOf_2_cc : CTrue Try.prog 86 f_slices_partitionCmpFunc_AtomsOf_2_c := by
  intro args inh rs out h
  unfold f_slices_partitionCmpFunc_AtomsOf_2_c at h
  split at h
  · rename_i hd
    obtain ⟨h1, h2⟩ := dec2_enc hd
    rw [← h1, ← h2]
    exact rowC (f_slices_partitionCmpFunc_AtomsOf_2_ok _ _ _ _) h
  · cases h

def f_slices_pdqsortCmpFunc_AtomsOf_2_F : Fi := { nv := 1, nc := 1, m := 1, vt := [], kl := [(0, ([6, 7, 8, 9, 10, 13, 14, 15, 16, 17, 18, 19, 20, 21, 22, 23, 24, 25, 26, 27, 28, 29, 30, 31, 32, 33, 34, 35, 36, 37, 38, 39, 40, 41, 42, 43, 44, 45, 46, 47, 48, 49, 50, 51, 52, 53, 54, 55, 56, 57, 58, 59, 60, 61, 62, 63, 64, 65, 66, 67, 68, 69, 70, 71, 72, 73, 74, 75, 76, 77, 78, 79, 80, 81, 82, 83, 84, 85, 86, 87, 88, 89, 90, 91, 92, 93, 94, 95, 96, 97, 98, 99, 100, 101, 102, 103, 104, 105, 106, 107, 108, 109, 110, 111, 112, 113, 114, 115, 116, 117, 118, 119, 120, 121, 122, 123, 124, 125, 126, 127, 128, 129, 130, 131, 132, 133, 134, 135, 136, 137, 138, 139, 140, 141, 142, 143, 144, 145, 146, 147, 148], [6, 7, 8, 9, 10, 13, 14, 15, 16, 17, 18, 19, 20, 21, 22, 23, 24, 25, 26, 27, 28, 29, 30, 31, 32, 33, 34, 35, 36, 37, 38, 39, 40, 41, 42, 43, 44, 45, 46, 47, 48, 49, 50, 51, 52, 53, 54, 55, 56, 57, 58, 59, 60, 61, 62, 63, 64, 65, 66, 67, 68, 69, 70, 71, 72, 73, 74, 75, 76, 77, 78, 79, 80, 81, 82, 83, 84, 85, 86, 87, 88, 89, 90, 91, 92, 93, 94, 95, 96, 97, 98, 99, 100, 101, 102, 103, 104, 105, 106, 107, 108, 109, 110, 111, 112, 113, 114, 115, 116, 117, 118, 119, 120, 121, 122, 123, 124, 125, 126, 127, 128, 129, 130, 131, 132, 133, 134, 135, 136, 137, 138, 139, 140, 141, 142, 143, 144, 145, 146, 147, 148], [1, 2, 3, 4, 5, 6, 7, 8, 9, 10, 11, 12, 13, 14, 15, 16, 17, 18, 19, 20, 21, 22, 23, 24, 25, 26, 27, 28, 29, 30, 31, 32, 33, 34, 35, 36, 37, 38, 39, 40, 41, 42, 43, 44, 45, 46, 47, 48, 49, 50, 51, 52, 53, 54, 55, 56, 57, 58, 59, 60, 61, 62, 63, 64, 65, 66, 67, 68, 69, 70, 71, 72, 73, 74, 75, 76, 77, 78, 79, 80, 81, 82, 83, 84, 85, 86, 87, 88, 89, 90, 91, 92, 93, 94, 95, 96, 97, 98, 99, 100, 101, 102, 103, 104, 105, 106, 107, 108, 109, 110, 111, 112, 113, 114, 115, 116, 117, 118, 119, 120, 121, 122, 123, 124, 125, 126, 127, 128, 129, 130, 131, 132, 133, 134, 135, 136, 137, 138, 139, 140, 141, 142, 143, 144, 145, 146, 147, 148]))], sk := [], mvs := [], fz := [] }
def f_slices_pdqsortCmpFunc_AtomsOf_2_a (p1 : Int) (p2 : Int) (p3 : Int) (h0 : List Sc) : List AV := enc [.p (.al 0), .p (.int .i64), .p (.int .i64), .p (.int .i64), .fn 46 []] [.i p1, .i p2, .i p3]
def f_slices_pdqsortCmpFunc_AtomsOf_2_i (p1 : Int) (p2 : Int) (p3 : Int) (h0 : List Sc) : List AV := enc [.own 1000022] [.l h0]
def f_slices_pdqsortCmpFunc_AtomsOf_2_en (r : List Sc) : List AV × List AV := (enc [] [], enc [.own 1000022] [.l r])
def f_slices_pdqsortCmpFunc_AtomsOf_2_cs (self : (Int × Int × Int × List Sc) → Option (List Sc)) : CRow := fun args inh => match dec2 [.p (.al 0), .p (.int .i64), .p (.int .i64), .p (.int .i64), .fn 46 []] [.own 1000022] args inh with
  | some ([.i p1, .i p2, .i p3], [.l h0]) => some ((self (p1, p2, p3, h0)).isSome, (f_slices_pdqsortCmpFunc_AtomsOf_2_en ((self (p1, p2, p3, h0)).getD [])).1, (f_slices_pdqsortCmpFunc_AtomsOf_2_en ((self (p1, p2, p3, h0)).getD [])).2)
  | _ => none
theorem f_slices_pdqsortCmpFunc_AtomsOf_2_cst (self : (Int × Int × Int × List Sc) → Option (List Sc)) (hs : ∀ a r, self a = some r → CS Try.prog 68 (f_slices_pdqsortCmpFunc_AtomsOf_2_a a.1 a.2.1 a.2.2.1 a.2.2.2) (f_slices_pdqsortCmpFunc_AtomsOf_2_i a.1 a.2.1 a.2.2.1 a.2.2.2) (f_slices_pdqsortCmpFunc_AtomsOf_2_en r).1 (f_slices_pdqsortCmpFunc_AtomsOf_2_en r).2) : CTrue Try.prog 68 (f_slices_pdqsortCmpFunc_AtomsOf_2_cs self) := by
  intro args inh rs out h
  unfold f_slices_pdqsortCmpFunc_AtomsOf_2_cs at h
  split at h
  · rename_i hd
    obtain ⟨h1, h2⟩ := dec2_enc hd
    rw [← h1, ← h2]
    exact rowC (hs _) h
  · cases h
def f_slices_pdqsortCmpFunc_AtomsOf_2_M (self : (Int × Int × Int × List Sc) → Option (List Sc)) : Calling := addC 68 (f_slices_pdqsortCmpFunc_AtomsOf_2_cs self) (addC 79 f_slices_insertionSortCmpFunc_AtomsOf_2_c (addC 82 f_slices_choosePivotCmpFunc_AtomsOf_2_c (addC 84 f_slices_partialInsertionSortCmpFunc_AtomsOf_2_c (addC 46 f_i_AtomsOf_2_c (addC 86 f_slices_partitionCmpFunc_AtomsOf_2_c (noC))))))
theorem f_slices_pdqsortCmpFunc_AtomsOf_2_Mt (self : (Int × Int × Int × List Sc) → Option (List Sc)) (hs : ∀ a r, self a = some r → CS Try.prog 68 (f_slices_pdqsortCmpFunc_AtomsOf_2_a a.1 a.2.1 a.2.2.1 a.2.2.2) (f_slices_pdqsortCmpFunc_AtomsOf_2_i a.1 a.2.1 a.2.2.1 a.2.2.2) (f_slices_pdqsortCmpFunc_AtomsOf_2_en r).1 (f_slices_pdqsortCmpFunc_AtomsOf_2_en r).2) : CallOk Try.prog (f_slices_pdqsortCmpFunc_AtomsOf_2_M self) := addC_true (f_slices_pdqsortCmpFunc_AtomsOf_2_cst self hs) (addC_true f_slices_insertionSortCmpFunc_AtomsOf_2_cc (addC_true f_slices_choosePivotCmpFunc_AtomsOf_2_cc (addC_true f_slices_partialInsertionSortCmpFunc_AtomsOf_2_cc (addC_true f_i_AtomsOf_2_cc (addC_true f_slices_partitionCmpFunc_AtomsOf_2_cc (noC_true))))))
theorem f_slices_pdqsortCmpFunc_AtomsOf_2_o : loopsOnce Try.f68 = true := by kernel_rfl
def f_slices_pdqsortCmpFunc_AtomsOf_2_h0 : List Sh := [.own 1000022, .p (.al 0), .p (.int .i64), .p (.int .i64), .p (.int .i64), .fn 46 [], .u, .u, .u, .u, .u, .p .boo, .p .boo, .u, .u, .u, .u, .u, .u, .u, .u, .u, .u, .u, .u, .u, .u, .u, .u, .u, .u, .u, .u, .u, .u, .u, .u, .u, .u, .u, .u, .u, .u, .u, .u, .u, .u, .u, .u, .u, .u, .u, .u, .u, .u, .u, .u, .u, .u, .u, .u, .u, .u, .u, .u, .u, .u, .u, .u, .u, .u, .u, .u, .u, .u, .u, .u, .u, .u, .u, .u, .u, .u, .u, .u, .u, .u, .u, .u, .u, .u, .u, .u, .u, .u, .u, .u, .u, .u, .u, .u, .u, .u, .u, .u, .u, .u, .u, .u, .u, .u, .u, .u, .u, .u, .u, .u, .u, .u, .u, .u, .u, .u, .u, .u, .u, .u, .u, .u, .u, .u, .u, .u, .u, .u, .u, .u, .u, .u, .u, .u, .u, .u, .u, .u, .u, .u, .u, .u]
def f_slices_pdqsortCmpFunc_AtomsOf_2_fr0 (self : (Int × Int × Int × List Sc) → Option (List Sc)) (s : List Sc × Int × Int × Int × Bool × Bool) : List AV := enc f_slices_pdqsortCmpFunc_AtomsOf_2_h0 [.l s.1, .i s.2.1, .i s.2.2.1, .i s.2.2.2.1, .b s.2.2.2.2.1, .b s.2.2.2.2.2]
def f_slices_pdqsortCmpFunc_AtomsOf_2_g0_1 : List Sh := [.own 1000022, .u, .u, .u, .u, .u, .u, .u, .u, .u, .u, .u, .u, .u, .u, .u, .u, .u, .u, .u, .u, .u, .u, .u, .u, .u, .u, .u, .u, .u, .u, .u, .u, .u, .u, .u, .u, .u, .u, .u, .u, .u, .u, .u, .u, .u, .u, .u, .u, .u, .u, .u, .u, .u, .u, .u, .u, .u, .u, .u, .u, .u, .u, .u, .u, .u, .u, .u, .u, .u, .u, .u, .u, .u, .u, .u, .u, .u, .u, .u, .u, .u, .u, .u, .u, .u, .u, .u, .u, .u, .u, .u, .u, .u, .u, .u, .u, .u, .u, .u, .u, .u, .u, .u, .u, .u, .u, .u, .u, .u, .u, .u, .u, .u, .u, .u, .u, .u, .u, .u, .u, .u, .u, .u, .u, .u, .u, .u, .u, .u, .u, .u, .u, .u, .u, .u, .u, .u, .u, .u, .u, .u, .u, .u, .u, .u, .u, .u, .u]
def f_slices_pdqsortCmpFunc_AtomsOf_2_x0_1 (self : (Int × Int × Int × List Sc) → Option (List Sc)) (e : List Sc) : X × List AV := (.ret, enc f_slices_pdqsortCmpFunc_AtomsOf_2_g0_1 [.l e])
def f_slices_pdqsortCmpFunc_AtomsOf_2_x0_2 (self : (Int × Int × Int × List Sc) → Option (List Sc)) (_e : Unit) : X × List AV := (.ret, [])
theorem f_slices_pdqsortCmpFunc_AtomsOf_2_p0 {R : Type} (self : (Int × Int × Int × List Sc) → Option (List Sc)) (s : List Sc × Int × Int × Int × Bool × Bool) (kN : List Sc × Int × Int × Int × Bool × Bool → Option R) (kA : List Sc → Option R) (kB : Unit → Option R) : f_slices_pdqsortCmpFunc_AtomsOf_2_k0 self s.1 s.2.1 s.2.2.1 s.2.2.2.1 s.2.2.2.2.1 s.2.2.2.2.2 kN kA = (f_slices_pdqsortCmpFunc_AtomsOf_2_r0 self s).bind (Ro.el kN kA kB) := by
  simp only [f_slices_pdqsortCmpFunc_AtomsOf_2_k0, f_slices_pdqsortCmpFunc_AtomsOf_2_r0, brB, boB, someB, noneB, Ro.el]
theorem f_slices_pdqsortCmpFunc_AtomsOf_2_e0 (self : (Int × Int × Int × List Sc) → Option (List Sc)) (s : List Sc × Int × Int × Int × Bool × Bool) : EC E0 (f_slices_pdqsortCmpFunc_AtomsOf_2_M self) H0 f_slices_pdqsortCmpFunc_AtomsOf_2_F (asL (noL)) 0 (bodyOf Try.f68 0) (f_slices_pdqsortCmpFunc_AtomsOf_2_fr0 self s) (done (klOf f_slices_pdqsortCmpFunc_AtomsOf_2_F 0)) = f_slices_pdqsortCmpFunc_AtomsOf_2_k0 self s.1 s.2.1 s.2.2.1 s.2.2.2.1 s.2.2.2.2.1 s.2.2.2.2.2 (fun s => some (.norm, f_slices_pdqsortCmpFunc_AtomsOf_2_fr0 self s)) (fun e => some (f_slices_pdqsortCmpFunc_AtomsOf_2_x0_1 self e)) := by kernel_rfl
theorem f_slices_pdqsortCmpFunc_AtomsOf_2_l0 (self : (Int × Int × Int × List Sc) → Option (List Sc)) (hs : ∀ a r, self a = some r → CS Try.prog 68 (f_slices_pdqsortCmpFunc_AtomsOf_2_a a.1 a.2.1 a.2.2.1 a.2.2.2) (f_slices_pdqsortCmpFunc_AtomsOf_2_i a.1 a.2.1 a.2.2.1 a.2.2.2) (f_slices_pdqsortCmpFunc_AtomsOf_2_en r).1 (f_slices_pdqsortCmpFunc_AtomsOf_2_en r).2) : ∀ s r, loopL (f_slices_pdqsortCmpFunc_AtomsOf_2_r0 self) s = some r → LS Try.prog f_slices_pdqsortCmpFunc_AtomsOf_2_F (bodyOf Try.f68 0) (f_slices_pdqsortCmpFunc_AtomsOf_2_fr0 self s) (enX (f_slices_pdqsortCmpFunc_AtomsOf_2_x0_1 self) (f_slices_pdqsortCmpFunc_AtomsOf_2_x0_2 self) r) :=
  loop_true E0ok (f_slices_pdqsortCmpFunc_AtomsOf_2_Mt self hs) (noL_true) f_slices_pdqsortCmpFunc_AtomsOf_2_o (fun _ h => by cases h) (fun _ h => by cases h) (fun _ h => by cases h) (fun _ h => by cases h) (fun s => (f_slices_pdqsortCmpFunc_AtomsOf_2_e0 self s).trans (f_slices_pdqsortCmpFunc_AtomsOf_2_p0 self s _ _ (fun e => some (f_slices_pdqsortCmpFunc_AtomsOf_2_x0_2 self e))))
def f_slices_pdqsortCmpFunc_AtomsOf_2_t0 (self : (Int × Int × Int × List Sc) → Option (List Sc)) (σ : List AV) : Option (Bool × Bool × (X × List AV) × (X × List AV)) := match dec f_slices_pdqsortCmpFunc_AtomsOf_2_h0 σ with
  | some [.l v0, .i t1, .i t2, .i t3, .b t10, .b t11] => some (isOne (loopL (f_slices_pdqsortCmpFunc_AtomsOf_2_r0 self) (v0, t1, t2, t3, t10, t11)), true, f_slices_pdqsortCmpFunc_AtomsOf_2_x0_1 self (getOne [] (loopL (f_slices_pdqsortCmpFunc_AtomsOf_2_r0 self) (v0, t1, t2, t3, t10, t11))), (.ret, []))
  | _ => none
theorem f_slices_pdqsortCmpFunc_AtomsOf_2_tt0 (self : (Int × Int × Int × List Sc) → Option (List Sc)) (hs : ∀ a r, self a = some r → CS Try.prog 68 (f_slices_pdqsortCmpFunc_AtomsOf_2_a a.1 a.2.1 a.2.2.1 a.2.2.2) (f_slices_pdqsortCmpFunc_AtomsOf_2_i a.1 a.2.1 a.2.2.1 a.2.2.2) (f_slices_pdqsortCmpFunc_AtomsOf_2_en r).1 (f_slices_pdqsortCmpFunc_AtomsOf_2_en r).2) : TTrue Try.prog f_slices_pdqsortCmpFunc_AtomsOf_2_F Try.f68 0 (f_slices_pdqsortCmpFunc_AtomsOf_2_t0 self) := by
  intro σ p r r' h
  unfold f_slices_pdqsortCmpFunc_AtomsOf_2_t0 at h
  split at h
  · rename_i hd
    rw [← dec_enc hd]
    exact row1 (f_slices_pdqsortCmpFunc_AtomsOf_2_l0 self hs _) h
  · cases h
theorem f_slices_pdqsortCmpFunc_AtomsOf_2_p {R : Type} (self : (Int × Int × Int × List Sc) → Option (List Sc)) (p1 : Int) (p2 : Int) (p3 : Int) (h0 : List Sc) (kR : List Sc → Option R) : f_slices_pdqsortCmpFunc_AtomsOf_2_k self p1 p2 p3 h0 kR = (f_slices_pdqsortCmpFunc_AtomsOf_2_k self p1 p2 p3 h0 some).bind kR := by
  simp only [f_slices_pdqsortCmpFunc_AtomsOf_2_k, bl1B, someB]
theorem f_slices_pdqsortCmpFunc_AtomsOf_2_e (self : (Int × Int × Int × List Sc) → Option (List Sc)) (p1 : Int) (p2 : Int) (p3 : Int) (h0 : List Sc) : runFn E0 (f_slices_pdqsortCmpFunc_AtomsOf_2_M self) H0 f_slices_pdqsortCmpFunc_AtomsOf_2_F (asL (addL 0 (f_slices_pdqsortCmpFunc_AtomsOf_2_t0 self) (noL))) Try.f68 (f_slices_pdqsortCmpFunc_AtomsOf_2_a p1 p2 p3 h0) (f_slices_pdqsortCmpFunc_AtomsOf_2_i p1 p2 p3 h0) = f_slices_pdqsortCmpFunc_AtomsOf_2_k self p1 p2 p3 h0 (fun r => some (f_slices_pdqsortCmpFunc_AtomsOf_2_en r)) := by kernel_rfl
theorem f_slices_pdqsortCmpFunc_AtomsOf_2_ks (self : (Int × Int × Int × List Sc) → Option (List Sc)) (hs : ∀ a r, self a = some r → CS Try.prog 68 (f_slices_pdqsortCmpFunc_AtomsOf_2_a a.1 a.2.1 a.2.2.1 a.2.2.2) (f_slices_pdqsortCmpFunc_AtomsOf_2_i a.1 a.2.1 a.2.2.1 a.2.2.2) (f_slices_pdqsortCmpFunc_AtomsOf_2_en r).1 (f_slices_pdqsortCmpFunc_AtomsOf_2_en r).2) (p1 : Int) (p2 : Int) (p3 : Int) (h0 : List Sc) (r : List Sc) (h : f_slices_pdqsortCmpFunc_AtomsOf_2_k self p1 p2 p3 h0 some = some r) : CS Try.prog 68 (f_slices_pdqsortCmpFunc_AtomsOf_2_a p1 p2 p3 h0) (f_slices_pdqsortCmpFunc_AtomsOf_2_i p1 p2 p3 h0) (f_slices_pdqsortCmpFunc_AtomsOf_2_en r).1 (f_slices_pdqsortCmpFunc_AtomsOf_2_en r).2 :=
  fn_true (Gk := fun k => f_slices_pdqsortCmpFunc_AtomsOf_2_k self p1 p2 p3 h0 k) (en := f_slices_pdqsortCmpFunc_AtomsOf_2_en) Try.func68 E0ok (f_slices_pdqsortCmpFunc_AtomsOf_2_Mt self hs) (addL_true (f_slices_pdqsortCmpFunc_AtomsOf_2_tt0 self hs) (noL_true)) f_slices_pdqsortCmpFunc_AtomsOf_2_o (f_slices_pdqsortCmpFunc_AtomsOf_2_e self p1 p2 p3 h0) (f_slices_pdqsortCmpFunc_AtomsOf_2_p self p1 p2 p3 h0) h
theorem f_slices_pdqsortCmpFunc_AtomsOf_2_ns : ∀ n a r, f_slices_pdqsortCmpFunc_AtomsOf_2_n n a = some r → CS Try.prog 68 (f_slices_pdqsortCmpFunc_AtomsOf_2_a a.1 a.2.1 a.2.2.1 a.2.2.2) (f_slices_pdqsortCmpFunc_AtomsOf_2_i a.1 a.2.1 a.2.2.1 a.2.2.2) (f_slices_pdqsortCmpFunc_AtomsOf_2_en r).1 (f_slices_pdqsortCmpFunc_AtomsOf_2_en r).2
  | 0, _, _, h => by cases h
  | n + 1, a, r, h => f_slices_pdqsortCmpFunc_AtomsOf_2_ks (f_slices_pdqsortCmpFunc_AtomsOf_2_n n) (f_slices_pdqsortCmpFunc_AtomsOf_2_ns n) a.1 a.2.1 a.2.2.1 a.2.2.2 r h
theorem f_slices_pdqsortCmpFunc_AtomsOf_2_ok (p1 : Int) (p2 : Int) (p3 : Int) (h0 : List Sc) (r : List Sc) (h : f_slices_pdqsortCmpFunc_AtomsOf_2 p1 p2 p3 h0 = some r) : CS Try.prog 68 (f_slices_pdqsortCmpFunc_AtomsOf_2_a p1 p2 p3 h0) (f_slices_pdqsortCmpFunc_AtomsOf_2_i p1 p2 p3 h0) (f_slices_pdqsortCmpFunc_AtomsOf_2_en r).1 (f_slices_pdqsortCmpFunc_AtomsOf_2_en r).2 := by
  obtain ⟨n, hn⟩ := limF_some h
  exact f_slices_pdqsortCmpFunc_AtomsOf_2_ns n _ r hn
def f_slices_pdqsortCmpFunc_AtomsOf_2_c : CRow := fun args inh => match dec2 [.p (.al 0), .p (.int .i64), .p (.int .i64), .p (.int .i64), .fn 46 []] [.own 1000022] args inh with
  | some ([.i p1, .i p2, .i p3], [.l h0]) => some ((f_slices_pdqsortCmpFunc_AtomsOf_2 p1 p2 p3 h0).isSome, (f_slices_pdqsortCmpFunc_AtomsOf_2_en ((f_slices_pdqsortCmpFunc_AtomsOf_2 p1 p2 p3 h0).getD [])).1, (f_slices_pdqsortCmpFunc_AtomsOf_2_en ((f_slices_pdqsortCmpFunc_AtomsOf_2 p1 p2 p3 h0).getD [])).2)
  | _ => none
theorem f_slices_pdqsortCmpFunc_AtomsOf_2_cc : CTrue Try.prog 68 f_slices_pdqsortCmpFunc_AtomsOf_2_c := by
  intro args inh rs out h
  unfold f_slices_pdqsortCmpFunc_AtomsOf_2_c at h
  split at h
  · rename_i hd
    obtain ⟨h1, h2⟩ := dec2_enc hd
    rw [← h1, ← h2]
    exact rowC (f_slices_pdqsortCmpFunc_AtomsOf_2_ok _ _ _ _) h
  · cases h

def f_slices_SortFunc_AtomsOf_2_F : Fi := { nv := 1, nc := 1, m := 1, vt := [], kl := [], sk := [], mvs := [], fz := [] }
def f_slices_SortFunc_AtomsOf_2_a (h0 : List Sc) : List AV := enc [.p (.al 0), .fn 46 []] []
def f_slices_SortFunc_AtomsOf_2_i (h0 : List Sc) : List AV := enc [.own 1000022] [.l h0]
def f_slices_SortFunc_AtomsOf_2_en (r : List Sc) : List AV × List AV := (enc [] [], enc [.own 1000022] [.l r])
def f_slices_SortFunc_AtomsOf_2_M : Calling := addC 69 f_math_bits_Len_c (addC 68 f_slices_pdqsortCmpFunc_AtomsOf_2_c (noC))
theorem f_slices_SortFunc_AtomsOf_2_Mt : CallOk Try.prog (f_slices_SortFunc_AtomsOf_2_M) := addC_true f_math_bits_Len_cc (addC_true f_slices_pdqsortCmpFunc_AtomsOf_2_cc (noC_true))
theorem f_slices_SortFunc_AtomsOf_2_o : loopsOnce Try.f45 = true := by kernel_rfl
theorem f_slices_SortFunc_AtomsOf_2_p {R : Type} (h0 : List Sc) (kR : List Sc → Option R) : f_slices_SortFunc_AtomsOf_2_k h0 kR = (f_slices_SortFunc_AtomsOf_2_k h0 some).bind kR := by
  simp only [f_slices_SortFunc_AtomsOf_2_k, boB, someB]
theorem f_slices_SortFunc_AtomsOf_2_e (h0 : List Sc) : runFn E0 f_slices_SortFunc_AtomsOf_2_M H0 f_slices_SortFunc_AtomsOf_2_F (asL (noL)) Try.f45 (f_slices_SortFunc_AtomsOf_2_a h0) (f_slices_SortFunc_AtomsOf_2_i h0) = f_slices_SortFunc_AtomsOf_2_k h0 (fun r => some (f_slices_SortFunc_AtomsOf_2_en r)) := by kernel_rfl
theorem f_slices_SortFunc_AtomsOf_2_ok (h0 : List Sc) (r : List Sc) (h : f_slices_SortFunc_AtomsOf_2 h0 = some r) : CS Try.prog 45 (f_slices_SortFunc_AtomsOf_2_a h0) (f_slices_SortFunc_AtomsOf_2_i h0) (f_slices_SortFunc_AtomsOf_2_en r).1 (f_slices_SortFunc_AtomsOf_2_en r).2 :=
  fn_true (Gk := fun k => f_slices_SortFunc_AtomsOf_2_k h0 k) (en := f_slices_SortFunc_AtomsOf_2_en) Try.func45 E0ok f_slices_SortFunc_AtomsOf_2_Mt (noL_true) f_slices_SortFunc_AtomsOf_2_o (f_slices_SortFunc_AtomsOf_2_e h0) (f_slices_SortFunc_AtomsOf_2_p h0) h
def f_slices_SortFunc_AtomsOf_2_c : CRow := fun args inh => match dec2 [.p (.al 0), .fn 46 []] [.own 1000022] args inh with
  | some ([], [.l h0]) => some ((f_slices_SortFunc_AtomsOf_2 h0).isSome, (f_slices_SortFunc_AtomsOf_2_en ((f_slices_SortFunc_AtomsOf_2 h0).getD [])).1, (f_slices_SortFunc_AtomsOf_2_en ((f_slices_SortFunc_AtomsOf_2 h0).getD [])).2)
  | _ => none
theorem f_slices_SortFunc_AtomsOf_2_cc : CTrue Try.prog 45 f_slices_SortFunc_AtomsOf_2_c := by
  intro args inh rs out h
  unfold f_slices_SortFunc_AtomsOf_2_c at h
  split at h
  · rename_i hd
    obtain ⟨h1, h2⟩ := dec2_enc hd
    rw [← h1, ← h2]
    exact rowC (f_slices_SortFunc_AtomsOf_2_ok _) h
  · cases h

def f_i_AtomsOf_F : Fi := { nv := 1, nc := 1, m := 0, vt := [(4, 0)], kl := [], sk := [], mvs := [], fz := [] }
def f_i_AtomsOf_a (g0 : List Sc) : List AV := enc [.p .gr] [.l g0]
def f_i_AtomsOf_i (g0 : List Sc) : List AV := enc [] []
def f_i_AtomsOf_en (r : List Sc × Bool) : List AV × List AV := (enc [.p (.al 0), .p .boo] [.b r.2], enc [.own 1000022] [.l r.1])
def f_i_AtomsOf_M : Calling := addC 37 f_i_IsGroup_c (addC 38 f_i_OrderOf_c (addC 39 f_i_zeroFree_AtomsOf_1_c (addC 45 f_slices_SortFunc_AtomsOf_2_c (noC))))
theorem f_i_AtomsOf_Mt : CallOk Try.prog (f_i_AtomsOf_M) := addC_true f_i_IsGroup_cc (addC_true f_i_OrderOf_cc (addC_true f_i_zeroFree_AtomsOf_1_cc (addC_true f_slices_SortFunc_AtomsOf_2_cc (noC_true))))
theorem f_i_AtomsOf_o : loopsOnce Try.f14 = true := by kernel_rfl
theorem f_i_AtomsOf_p {R : Type} (g0 : List Sc) (kR : List Sc × Bool → Option R) : f_i_AtomsOf_k g0 kR = (f_i_AtomsOf_k g0 some).bind kR := by
  simp only [f_i_AtomsOf_k, brB, boB, someB]
theorem f_i_AtomsOf_e (g0 : List Sc) : runFn E0 f_i_AtomsOf_M H0 f_i_AtomsOf_F (asL (noL)) Try.f14 (f_i_AtomsOf_a g0) (f_i_AtomsOf_i g0) = f_i_AtomsOf_k g0 (fun r => some (f_i_AtomsOf_en r)) := by kernel_rfl
theorem f_i_AtomsOf_ok (g0 : List Sc) (r : List Sc × Bool) (h : f_i_AtomsOf g0 = some r) : CS Try.prog 14 (f_i_AtomsOf_a g0) (f_i_AtomsOf_i g0) (f_i_AtomsOf_en r).1 (f_i_AtomsOf_en r).2 :=
  fn_true (Gk := fun k => f_i_AtomsOf_k g0 k) (en := f_i_AtomsOf_en) Try.func14 E0ok f_i_AtomsOf_Mt (noL_true) f_i_AtomsOf_o (f_i_AtomsOf_e g0) (f_i_AtomsOf_p g0) h
def f_i_AtomsOf_c : CRow := fun args inh => match dec2 [.p .gr] [] args inh with
  | some ([.l g0], []) => some ((f_i_AtomsOf g0).isSome, (f_i_AtomsOf_en ((f_i_AtomsOf g0).getD ([], false))).1, (f_i_AtomsOf_en ((f_i_AtomsOf g0).getD ([], false))).2)
  | _ => none
theorem f_i_AtomsOf_cc : CTrue Try.prog 14 f_i_AtomsOf_c := by
  intro args inh rs out h
  unfold f_i_AtomsOf_c at h
  split at h
  · rename_i hd
    obtain ⟨h1, h2⟩ := dec2_enc hd
    rw [← h1, ← h2]
    exact rowC (f_i_AtomsOf_ok _) h
  · cases h

def f_i_FactorizationsOf_1_F : Fi := { nv := 1, nc := 1, m := 1, vt := [], kl := [(0, ([1, 4, 5, 6, 8, 9, 13, 14, 15, 16, 17, 18, 19, 20, 21, 22, 23, 24, 25, 26, 27, 28, 29, 30, 31, 32, 33, 34], [1, 2, 3, 4, 5, 6, 8, 9, 10, 11, 12, 13, 14, 15, 16, 17, 18, 19, 20, 21, 22, 23, 24, 25, 26, 27, 28, 29, 30, 31, 32, 33, 34], [1, 2, 3, 4, 5, 7, 8, 9, 10, 11, 12, 13, 14, 15, 16, 17, 18, 19, 20, 21, 22, 23, 24, 25, 26, 27, 28, 29, 30, 31, 32, 33, 34]))], sk := [], mvs := [], fz := [] }
def f_i_FactorizationsOf_1_a (a0 : List Sc) (k1 : Int) (h0 : List Sc) : List AV := enc [.p .sl, .p (.int .i64), .p (.pt 0 1)] [.l a0, .i k1]
def f_i_FactorizationsOf_1_i (a0 : List Sc) (k1 : Int) (h0 : List Sc) : List AV := enc [.own 3] [.l h0]
def f_i_FactorizationsOf_1_en (r : Bool × List Sc) : List AV × List AV := (enc [.p .boo] [.b r.1], enc [.own 3] [.l r.2])
def f_i_FactorizationsOf_1_M : Calling := noC
theorem f_i_FactorizationsOf_1_Mt : CallOk Try.prog (f_i_FactorizationsOf_1_M) := noC_true
theorem f_i_FactorizationsOf_1_o : loopsOnce Try.f51 = true := by kernel_rfl
def f_i_FactorizationsOf_1_h0 : List Sh := [.own 3, .u, .p (.int .i64), .p (.pt 0 1), .u, .u, .u, .p .boo, .u, .u, .p .sl, .p (.int .i64), .p (.int .i64), .u, .u, .u, .u, .u, .u, .u, .u, .u, .u, .u, .u, .u, .u, .u, .u, .u, .u, .u, .u, .u, .u]
def f_i_FactorizationsOf_1_fr0 (k1 : Int) (t9 : List Sc) (t10 : Int) (s : List Sc × Bool × Int) : List AV := enc f_i_FactorizationsOf_1_h0 [.l s.1, .i k1, .b s.2.1, .l t9, .i t10, .i s.2.2]
def f_i_FactorizationsOf_1_g0_1 : List Sh := [.own 3, .u, .u, .u, .u, .u, .u, .p .boo, .u, .u, .u, .u, .u, .u, .u, .u, .u, .u, .u, .u, .u, .u, .u, .u, .u, .u, .u, .u, .u, .u, .u, .u, .u, .u, .u]
def f_i_FactorizationsOf_1_x0_1 (k1 : Int) (t9 : List Sc) (t10 : Int) (e : List Sc × Bool) : X × List AV := (.out 0, enc f_i_FactorizationsOf_1_g0_1 [.l e.1, .b e.2])
def f_i_FactorizationsOf_1_x0_2 (k1 : Int) (t9 : List Sc) (t10 : Int) (_e : Unit) : X × List AV := (.ret, [])
theorem f_i_FactorizationsOf_1_p0 {R : Type} (k1 : Int) (t9 : List Sc) (t10 : Int) (s : List Sc × Bool × Int) (kN : List Sc × Bool × Int → Option R) (kA : List Sc × Bool → Option R) (kB : Unit → Option R) : f_i_FactorizationsOf_1_k0 k1 t9 t10 s.1 s.2.1 s.2.2 kN kA = (f_i_FactorizationsOf_1_r0 k1 t9 t10 s).bind (Ro.el kN kA kB) := by
  simp only [f_i_FactorizationsOf_1_k0, f_i_FactorizationsOf_1_r0, brB, someB, noneB, Ro.el]
theorem f_i_FactorizationsOf_1_e0 (k1 : Int) (t9 : List Sc) (t10 : Int) (s : List Sc × Bool × Int) : EC E0 f_i_FactorizationsOf_1_M H0 f_i_FactorizationsOf_1_F (asL (noL)) 0 (bodyOf Try.f51 0) (f_i_FactorizationsOf_1_fr0 k1 t9 t10 s) (done (klOf f_i_FactorizationsOf_1_F 0)) = f_i_FactorizationsOf_1_k0 k1 t9 t10 s.1 s.2.1 s.2.2 (fun s => some (.norm, f_i_FactorizationsOf_1_fr0 k1 t9 t10 s)) (fun e => some (f_i_FactorizationsOf_1_x0_1 k1 t9 t10 e)) := by kernel_rfl
theorem f_i_FactorizationsOf_1_l0 (k1 : Int) (t9 : List Sc) (t10 : Int) : ∀ s r, loopL (f_i_FactorizationsOf_1_r0 k1 t9 t10) s = some r → LS Try.prog f_i_FactorizationsOf_1_F (bodyOf Try.f51 0) (f_i_FactorizationsOf_1_fr0 k1 t9 t10 s) (enX (f_i_FactorizationsOf_1_x0_1 k1 t9 t10) (f_i_FactorizationsOf_1_x0_2 k1 t9 t10) r) :=
  loop_true E0ok f_i_FactorizationsOf_1_Mt (noL_true) f_i_FactorizationsOf_1_o (fun _ h => by cases h) (fun _ h => by cases h) (fun _ h => by cases h) (fun _ h => by cases h) (fun s => (f_i_FactorizationsOf_1_e0 k1 t9 t10 s).trans (f_i_FactorizationsOf_1_p0 k1 t9 t10 s _ _ (fun e => some (f_i_FactorizationsOf_1_x0_2 k1 t9 t10 e))))
def f_i_FactorizationsOf_1_t0 (σ : List AV) : Option (Bool × Bool × (X × List AV) × (X × List AV)) := match dec f_i_FactorizationsOf_1_h0 σ with
  | some [.l v0, .i k1, .b fits6, .l t9, .i t10, .i t11] => some (isOne (loopL (f_i_FactorizationsOf_1_r0 k1 t9 t10) (v0, fits6, t11)), true, f_i_FactorizationsOf_1_x0_1 k1 t9 t10 (getOne ([], false) (loopL (f_i_FactorizationsOf_1_r0 k1 t9 t10) (v0, fits6, t11))), (.ret, []))
  | _ => none
theorem f_i_FactorizationsOf_1_tt0 : TTrue Try.prog f_i_FactorizationsOf_1_F Try.f51 0 (f_i_FactorizationsOf_1_t0) := by
  intro σ p r r' h
  unfold f_i_FactorizationsOf_1_t0 at h
  split at h
  · rename_i hd
    rw [← dec_enc hd]
    exact row1 (f_i_FactorizationsOf_1_l0 _ _ _ _) h
  · cases h
theorem f_i_FactorizationsOf_1_p {R : Type} (a0 : List Sc) (k1 : Int) (h0 : List Sc) (kR : Bool × List Sc → Option R) : f_i_FactorizationsOf_1_k a0 k1 h0 kR = (f_i_FactorizationsOf_1_k a0 k1 h0 some).bind kR := by
  simp only [f_i_FactorizationsOf_1_k, bl1B, someB]
theorem f_i_FactorizationsOf_1_e (a0 : List Sc) (k1 : Int) (h0 : List Sc) : runFn E0 f_i_FactorizationsOf_1_M H0 f_i_FactorizationsOf_1_F (asL (addL 0 (f_i_FactorizationsOf_1_t0) (noL))) Try.f51 (f_i_FactorizationsOf_1_a a0 k1 h0) (f_i_FactorizationsOf_1_i a0 k1 h0) = f_i_FactorizationsOf_1_k a0 k1 h0 (fun r => some (f_i_FactorizationsOf_1_en r)) := by kernel_rfl
theorem f_i_FactorizationsOf_1_ok (a0 : List Sc) (k1 : Int) (h0 : List Sc) (r : Bool × List Sc) (h : f_i_FactorizationsOf_1 a0 k1 h0 = some r) : CS Try.prog 51 (f_i_FactorizationsOf_1_a a0 k1 h0) (f_i_FactorizationsOf_1_i a0 k1 h0) (f_i_FactorizationsOf_1_en r).1 (f_i_FactorizationsOf_1_en r).2 :=
  fn_true (Gk := fun k => f_i_FactorizationsOf_1_k a0 k1 h0 k) (en := f_i_FactorizationsOf_1_en) Try.func51 E0ok f_i_FactorizationsOf_1_Mt (addL_true (f_i_FactorizationsOf_1_tt0) (noL_true)) f_i_FactorizationsOf_1_o (f_i_FactorizationsOf_1_e a0 k1 h0) (f_i_FactorizationsOf_1_p a0 k1 h0) h
def f_i_FactorizationsOf_1_c : CRow := fun args inh => match dec2 [.p .sl, .p (.int .i64), .p (.pt 0 1)] [.own 3] args inh with
  | some ([.l a0, .i k1], [.l h0]) => some ((f_i_FactorizationsOf_1 a0 k1 h0).isSome, (f_i_FactorizationsOf_1_en ((f_i_FactorizationsOf_1 a0 k1 h0).getD (false, []))).1, (f_i_FactorizationsOf_1_en ((f_i_FactorizationsOf_1 a0 k1 h0).getD (false, []))).2)
  | _ => none
theorem f_i_FactorizationsOf_1_cc : CTrue Try.prog 51 f_i_FactorizationsOf_1_c := by
  intro args inh rs out h
  unfold f_i_FactorizationsOf_1_c at h
  split at h
  · rename_i hd
    obtain ⟨h1, h2⟩ := dec2_enc hd
    rw [← h1, ← h2]
    exact rowC (f_i_FactorizationsOf_1_ok _ _ _) h
  · cases h

def f_i_FactorizationsOf_2_F : Fi := { nv := 5, nc := 5, m := 5, vt := [], kl := [(2, ([5, 9, 12, 13, 14, 15, 16, 17, 19, 20, 21, 22, 23, 24, 25, 26, 27, 28, 29, 30, 31, 32, 33, 34, 35, 36, 37, 38, 39, 40, 41, 42, 43, 44, 45, 46, 47, 48, 49, 50, 51, 52, 53, 54, 55, 56, 57, 58, 59, 60, 61, 62, 63, 64, 65, 66, 67, 68, 69, 70, 71, 72, 73, 74], [5, 6, 7, 8, 9, 10, 11, 12, 13, 14, 15, 16, 17, 18, 19, 20, 21, 22, 23, 24, 25, 26, 27, 28, 29, 30, 31, 32, 33, 34, 35, 36, 37, 38, 39, 40, 41, 42, 43, 44, 45, 46, 47, 48, 49, 50, 51, 52, 53, 54, 55, 56, 57, 58, 59, 60, 61, 62, 63, 64, 65, 66, 67, 68, 69, 70, 71, 72, 73, 74], [5, 6, 7, 8, 9, 10, 11, 12, 13, 14, 15, 16, 17, 18, 19, 20, 21, 22, 23, 24, 25, 26, 27, 28, 29, 30, 31, 32, 33, 34, 35, 36, 37, 38, 39, 40, 41, 42, 43, 44, 45, 46, 47, 48, 49, 50, 51, 52, 53, 54, 55, 56, 57, 58, 59, 60, 61, 62, 63, 64, 65, 66, 67, 68, 69, 70, 71, 72, 73, 74])), (0, ([5, 6, 7, 10, 11, 12, 13, 14, 16, 17, 18, 19, 20, 21, 25, 26, 27, 28, 29, 30, 31, 32, 33, 34, 35, 36, 37, 38, 39, 40, 41, 42, 43, 44, 45, 46, 47, 48, 49, 50, 51, 52, 53, 54, 55, 56, 57, 58, 59, 60, 61, 62, 63, 64, 65, 66, 67, 68, 69, 70, 71, 72, 73, 74], [5, 6, 7, 8, 10, 11, 12, 13, 14, 16, 17, 18, 19, 20, 21, 22, 23, 24, 25, 26, 27, 28, 29, 30, 31, 32, 33, 34, 35, 36, 37, 38, 39, 40, 41, 42, 43, 44, 45, 46, 47, 48, 49, 50, 51, 52, 53, 54, 55, 56, 57, 58, 59, 60, 61, 62, 63, 64, 65, 66, 67, 68, 69, 70, 71, 72, 73, 74], [5, 6, 7, 8, 9, 10, 11, 12, 13, 14, 15, 16, 17, 18, 19, 20, 21, 22, 23, 24, 25, 26, 27, 28, 29, 30, 31, 32, 33, 34, 35, 36, 37, 38, 39, 40, 41, 42, 43, 44, 45, 46, 47, 48, 49, 50, 51, 52, 53, 54, 55, 56, 57, 58, 59, 60, 61, 62, 63, 64, 65, 66, 67, 68, 69, 70, 71, 72, 73, 74]))], sk := [], mvs := [], fz := [] }
def f_i_FactorizationsOf_2_a (L0 : Int) (p1 : Int) (p2 : List Sc) (h0 : List Sc) (h1 : List Sc) (h4 : List Sc) : List AV := enc [.p (.int .i64), .p (.int .i64), .p .sl, .p (.pt 0 1), .p (.pt 1 1), .p (.pt 2 1), .p (.pt 3 1)] [.i L0, .i p1, .l p2]
def f_i_FactorizationsOf_2_i (L0 : Int) (p1 : Int) (p2 : List Sc) (h0 : List Sc) (h1 : List Sc) (h4 : List Sc) : List AV := enc [.own 1000022, .own 2000031, .fn 51 [.pt 4 1], .fn 52 [.pt 0 1, .pt 1 1, .pt 2 1, .pt 3 1], .own 3] [.l h0, .l h1, .l h4]
def f_i_FactorizationsOf_2_en (r : List Sc × List Sc × List Sc) : List AV × List AV := (enc [] [], enc [.own 1000022, .own 2000031, .fn 51 [.pt 4 1], .fn 52 [.pt 0 1, .pt 1 1, .pt 2 1, .pt 3 1], .own 3] [.l r.1, .l r.2.1, .l r.2.2])
def f_i_FactorizationsOf_2_cs (self : (Int × Int × List Sc × List Sc × List Sc × List Sc) → Option (List Sc × List Sc × List Sc)) : CRow := fun args inh => match dec2 [.p (.int .i64), .p (.int .i64), .p .sl, .p (.pt 0 1), .p (.pt 1 1), .p (.pt 2 1), .p (.pt 3 1)] [.own 1000022, .own 2000031, .fn 51 [.pt 4 1], .fn 52 [.pt 0 1, .pt 1 1, .pt 2 1, .pt 3 1], .own 3] args inh with
  | some ([.i L0, .i p1, .l p2], [.l h0, .l h1, .l h4]) => some ((self (L0, p1, p2, h0, h1, h4)).isSome, (f_i_FactorizationsOf_2_en ((self (L0, p1, p2, h0, h1, h4)).getD ([], [], []))).1, (f_i_FactorizationsOf_2_en ((self (L0, p1, p2, h0, h1, h4)).getD ([], [], []))).2)
  | _ => none
theorem f_i_FactorizationsOf_2_cst (self : (Int × Int × List Sc × List Sc × List Sc × List Sc) → Option (List Sc × List Sc × List Sc)) (hs : ∀ a r, self a = some r → CS Try.prog 52 (f_i_FactorizationsOf_2_a a.1 a.2.1 a.2.2.1 a.2.2.2.1 a.2.2.2.2.1 a.2.2.2.2.2) (f_i_FactorizationsOf_2_i a.1 a.2.1 a.2.2.1 a.2.2.2.1 a.2.2.2.2.1 a.2.2.2.2.2) (f_i_FactorizationsOf_2_en r).1 (f_i_FactorizationsOf_2_en r).2) : CTrue Try.prog 52 (f_i_FactorizationsOf_2_cs self) := by
  intro args inh rs out h
  unfold f_i_FactorizationsOf_2_cs at h
  split at h
  · rename_i hd
    obtain ⟨h1, h2⟩ := dec2_enc hd
    rw [← h1, ← h2]
    exact rowC (hs _) h
  · cases h
def f_i_FactorizationsOf_2_M (self : (Int × Int × List Sc × List Sc × List Sc × List Sc) → Option (List Sc × List Sc × List Sc)) : Calling := addC 52 (f_i_FactorizationsOf_2_cs self) (addC 43 f_i_copyInts_c (addC 51 f_i_FactorizationsOf_1_c (noC)))
theorem f_i_FactorizationsOf_2_Mt (self : (Int × Int × List Sc × List Sc × List Sc × List Sc) → Option (List Sc × List Sc × List Sc)) (hs : ∀ a r, self a = some r → CS Try.prog 52 (f_i_FactorizationsOf_2_a a.1 a.2.1 a.2.2.1 a.2.2.2.1 a.2.2.2.2.1 a.2.2.2.2.2) (f_i_FactorizationsOf_2_i a.1 a.2.1 a.2.2.1 a.2.2.2.1 a.2.2.2.2.1 a.2.2.2.2.2) (f_i_FactorizationsOf_2_en r).1 (f_i_FactorizationsOf_2_en r).2) : CallOk Try.prog (f_i_FactorizationsOf_2_M self) := addC_true (f_i_FactorizationsOf_2_cst self hs) (addC_true f_i_copyInts_cc (addC_true f_i_FactorizationsOf_1_cc (noC_true)))
theorem f_i_FactorizationsOf_2_o : loopsOnce Try.f52 = true := by kernel_rfl
def f_i_FactorizationsOf_2_h0 : List Sh := [.own 1000022, .own 2000031, .fn 51 [.pt 4 1], .fn 52 [.pt 0 1, .pt 1 1, .pt 2 1, .pt 3 1], .own 3, .u, .u, .u, .p (.pt 0 1), .p (.pt 1 1), .u, .u, .u, .u, .u, .own 1000022, .u, .u, .u, .u, .u, .u, .p .sl, .p (.int .i64), .p (.int .i64), .u, .u, .u, .u, .u, .u, .u, .u, .u, .u, .u, .u, .u, .u, .u, .u, .u, .u, .u, .u, .u, .u, .u, .u, .u, .u, .u, .u, .u, .u, .u, .u, .u, .u, .u, .u, .u, .u, .u, .u, .u, .u, .u, .u, .u, .u, .u, .u, .u, .u]
def f_i_FactorizationsOf_2_fr0 (self : (Int × Int × List Sc × List Sc × List Sc × List Sc) → Option (List Sc × List Sc × List Sc)) (t17 : List Sc) (t18 : Int) (s : List Sc × List Sc × List Sc × List Sc × Int) : List AV := enc f_i_FactorizationsOf_2_h0 [.l s.1, .l s.2.1, .l s.2.2.1, .l s.2.2.2.1, .l t17, .i t18, .i s.2.2.2.2]
def f_i_FactorizationsOf_2_g0_1 : List Sh := [.own 1000022, .own 2000031, .fn 51 [.pt 4 1], .fn 52 [.pt 0 1, .pt 1 1, .pt 2 1, .pt 3 1], .own 3, .u, .u, .u, .u, .p (.pt 1 1), .u, .u, .u, .u, .u, .own 1000022, .u, .u, .u, .u, .u, .u, .u, .u, .u, .u, .u, .u, .u, .u, .u, .u, .u, .u, .u, .u, .u, .u, .u, .u, .u, .u, .u, .u, .u, .u, .u, .u, .u, .u, .u, .u, .u, .u, .u, .u, .u, .u, .u, .u, .u, .u, .u, .u, .u, .u, .u, .u, .u, .u, .u, .u, .u, .u, .u]
def f_i_FactorizationsOf_2_x0_1 (self : (Int × Int × List Sc × List Sc × List Sc × List Sc) → Option (List Sc × List Sc × List Sc)) (t17 : List Sc) (t18 : Int) (e : List Sc × List Sc × List Sc × List Sc) : X × List AV := (.out 0, enc f_i_FactorizationsOf_2_g0_1 [.l e.1, .l e.2.1, .l e.2.2.1, .l e.2.2.2])
def f_i_FactorizationsOf_2_x0_2 (self : (Int × Int × List Sc × List Sc × List Sc × List Sc) → Option (List Sc × List Sc × List Sc)) (t17 : List Sc) (t18 : Int) (_e : Unit) : X × List AV := (.ret, [])
theorem f_i_FactorizationsOf_2_p0 {R : Type} (self : (Int × Int × List Sc × List Sc × List Sc × List Sc) → Option (List Sc × List Sc × List Sc)) (t17 : List Sc) (t18 : Int) (s : List Sc × List Sc × List Sc × List Sc × Int) (kN : List Sc × List Sc × List Sc × List Sc × Int → Option R) (kA : List Sc × List Sc × List Sc × List Sc → Option R) (kB : Unit → Option R) : f_i_FactorizationsOf_2_k0 self t17 t18 s.1 s.2.1 s.2.2.1 s.2.2.2.1 s.2.2.2.2 kN kA = (f_i_FactorizationsOf_2_r0 self t17 t18 s).bind (Ro.el kN kA kB) := by
  simp only [f_i_FactorizationsOf_2_k0, f_i_FactorizationsOf_2_r0, brB, boB, someB, noneB, Ro.el]
theorem f_i_FactorizationsOf_2_e0 (self : (Int × Int × List Sc × List Sc × List Sc × List Sc) → Option (List Sc × List Sc × List Sc)) (t17 : List Sc) (t18 : Int) (s : List Sc × List Sc × List Sc × List Sc × Int) : EC E0 (f_i_FactorizationsOf_2_M self) H0 f_i_FactorizationsOf_2_F (asL (noL)) 0 (bodyOf Try.f52 0) (f_i_FactorizationsOf_2_fr0 self t17 t18 s) (done (klOf f_i_FactorizationsOf_2_F 0)) = f_i_FactorizationsOf_2_k0 self t17 t18 s.1 s.2.1 s.2.2.1 s.2.2.2.1 s.2.2.2.2 (fun s => some (.norm, f_i_FactorizationsOf_2_fr0 self t17 t18 s)) (fun e => some (f_i_FactorizationsOf_2_x0_1 self t17 t18 e)) := by kernel_rfl
theorem f_i_FactorizationsOf_2_l0 (self : (Int × Int × List Sc × List Sc × List Sc × List Sc) → Option (List Sc × List Sc × List Sc)) (hs : ∀ a r, self a = some r → CS Try.prog 52 (f_i_FactorizationsOf_2_a a.1 a.2.1 a.2.2.1 a.2.2.2.1 a.2.2.2.2.1 a.2.2.2.2.2) (f_i_FactorizationsOf_2_i a.1 a.2.1 a.2.2.1 a.2.2.2.1 a.2.2.2.2.1 a.2.2.2.2.2) (f_i_FactorizationsOf_2_en r).1 (f_i_FactorizationsOf_2_en r).2) (t17 : List Sc) (t18 : Int) : ∀ s r, loopL (f_i_FactorizationsOf_2_r0 self t17 t18) s = some r → LS Try.prog f_i_FactorizationsOf_2_F (bodyOf Try.f52 0) (f_i_FactorizationsOf_2_fr0 self t17 t18 s) (enX (f_i_FactorizationsOf_2_x0_1 self t17 t18) (f_i_FactorizationsOf_2_x0_2 self t17 t18) r) :=
  loop_true E0ok (f_i_FactorizationsOf_2_Mt self hs) (noL_true) f_i_FactorizationsOf_2_o (fun _ h => by cases h) (fun _ h => by cases h) (fun _ h => by cases h) (fun _ h => by cases h) (fun s => (f_i_FactorizationsOf_2_e0 self t17 t18 s).trans (f_i_FactorizationsOf_2_p0 self t17 t18 s _ _ (fun e => some (f_i_FactorizationsOf_2_x0_2 self t17 t18 e))))
def f_i_FactorizationsOf_2_t0 (self : (Int × Int × List Sc × List Sc × List Sc × List Sc) → Option (List Sc × List Sc × List Sc)) (σ : List AV) : Option (Bool × Bool × (X × List AV) × (X × List AV)) := match dec f_i_FactorizationsOf_2_h0 σ with
  | some [.l v0, .l v1, .l v4, .l t10, .l t17, .i t18, .i t19] => some (isOne (loopL (f_i_FactorizationsOf_2_r0 self t17 t18) (v0, v1, v4, t10, t19)), true, f_i_FactorizationsOf_2_x0_1 self t17 t18 (getOne ([], [], [], []) (loopL (f_i_FactorizationsOf_2_r0 self t17 t18) (v0, v1, v4, t10, t19))), (.ret, []))
  | _ => none
theorem f_i_FactorizationsOf_2_tt0 (self : (Int × Int × List Sc × List Sc × List Sc × List Sc) → Option (List Sc × List Sc × List Sc)) (hs : ∀ a r, self a = some r → CS Try.prog 52 (f_i_FactorizationsOf_2_a a.1 a.2.1 a.2.2.1 a.2.2.2.1 a.2.2.2.2.1 a.2.2.2.2.2) (f_i_FactorizationsOf_2_i a.1 a.2.1 a.2.2.1 a.2.2.2.1 a.2.2.2.2.1 a.2.2.2.2.2) (f_i_FactorizationsOf_2_en r).1 (f_i_FactorizationsOf_2_en r).2) : TTrue Try.prog f_i_FactorizationsOf_2_F Try.f52 0 (f_i_FactorizationsOf_2_t0 self) := by
  intro σ p r r' h
  unfold f_i_FactorizationsOf_2_t0 at h
  split at h
  · rename_i hd
    rw [← dec_enc hd]
    exact row1 (f_i_FactorizationsOf_2_l0 self hs _ _ _) h
  · cases h
def f_i_FactorizationsOf_2_h2 : List Sh := [.own 1000022, .own 2000031, .fn 51 [.pt 4 1], .fn 52 [.pt 0 1, .pt 1 1, .pt 2 1, .pt 3 1], .own 3, .u, .p (.int .i64), .p .sl, .p (.pt 0 1), .u, .p (.pt 2 1), .p (.pt 3 1), .u, .u, .u, .u, .u, .u, .p (.int .i64), .u, .u, .u, .u, .u, .u, .u, .u, .u, .u, .u, .u, .u, .u, .u, .u, .u, .u, .u, .u, .u, .u, .u, .u, .u, .u, .u, .u, .u, .u, .u, .u, .u, .u, .u, .u, .u, .u, .u, .u, .u, .u, .u, .u, .u, .u, .u, .u, .u, .u, .u, .u, .u, .u, .u, .u]
def f_i_FactorizationsOf_2_fr2 (self : (Int × Int × List Sc × List Sc × List Sc × List Sc) → Option (List Sc × List Sc × List Sc)) (t1 : Int) (t2 : List Sc) (s : List Sc × List Sc × List Sc × Int) : List AV := enc f_i_FactorizationsOf_2_h2 [.l s.1, .l s.2.1, .l s.2.2.1, .i t1, .l t2, .i s.2.2.2]
def f_i_FactorizationsOf_2_g2_1 : List Sh := [.own 1000022, .own 2000031, .fn 51 [.pt 4 1], .fn 52 [.pt 0 1, .pt 1 1, .pt 2 1, .pt 3 1], .own 3, .u, .u, .u, .u, .u, .u, .u, .u, .u, .u, .u, .u, .u, .u, .u, .u, .u, .u, .u, .u, .u, .u, .u, .u, .u, .u, .u, .u, .u, .u, .u, .u, .u, .u, .u, .u, .u, .u, .u, .u, .u, .u, .u, .u, .u, .u, .u, .u, .u, .u, .u, .u, .u, .u, .u, .u, .u, .u, .u, .u, .u, .u, .u, .u, .u, .u, .u, .u, .u, .u]
def f_i_FactorizationsOf_2_x2_1 (self : (Int × Int × List Sc × List Sc × List Sc × List Sc) → Option (List Sc × List Sc × List Sc)) (t1 : Int) (t2 : List Sc) (e : List Sc × List Sc × List Sc) : X × List AV := (.out 2, enc f_i_FactorizationsOf_2_g2_1 [.l e.1, .l e.2.1, .l e.2.2])
def f_i_FactorizationsOf_2_x2_2 (self : (Int × Int × List Sc × List Sc × List Sc × List Sc) → Option (List Sc × List Sc × List Sc)) (t1 : Int) (t2 : List Sc) (_e : Unit) : X × List AV := (.ret, [])
theorem f_i_FactorizationsOf_2_p2 {R : Type} (self : (Int × Int × List Sc × List Sc × List Sc × List Sc) → Option (List Sc × List Sc × List Sc)) (t1 : Int) (t2 : List Sc) (s : List Sc × List Sc × List Sc × Int) (kN : List Sc × List Sc × List Sc × Int → Option R) (kA : List Sc × List Sc × List Sc → Option R) (kB : Unit → Option R) : f_i_FactorizationsOf_2_k2 self t1 t2 s.1 s.2.1 s.2.2.1 s.2.2.2 kN kA = (f_i_FactorizationsOf_2_r2 self t1 t2 s).bind (Ro.el kN kA kB) := by
  simp only [f_i_FactorizationsOf_2_k2, f_i_FactorizationsOf_2_r2, brB, boB, someB, noneB, Ro.el]
theorem f_i_FactorizationsOf_2_e2 (self : (Int × Int × List Sc × List Sc × List Sc × List Sc) → Option (List Sc × List Sc × List Sc)) (t1 : Int) (t2 : List Sc) (s : List Sc × List Sc × List Sc × Int) : EC E0 (f_i_FactorizationsOf_2_M self) H0 f_i_FactorizationsOf_2_F (asL (addL 0 (f_i_FactorizationsOf_2_t0 self) (noL))) 2 (bodyOf Try.f52 2) (f_i_FactorizationsOf_2_fr2 self t1 t2 s) (done (klOf f_i_FactorizationsOf_2_F 2)) = f_i_FactorizationsOf_2_k2 self t1 t2 s.1 s.2.1 s.2.2.1 s.2.2.2 (fun s => some (.norm, f_i_FactorizationsOf_2_fr2 self t1 t2 s)) (fun e => some (f_i_FactorizationsOf_2_x2_1 self t1 t2 e)) := by kernel_rfl
theorem f_i_FactorizationsOf_2_l2 (self : (Int × Int × List Sc × List Sc × List Sc × List Sc) → Option (List Sc × List Sc × List Sc)) (hs : ∀ a r, self a = some r → CS Try.prog 52 (f_i_FactorizationsOf_2_a a.1 a.2.1 a.2.2.1 a.2.2.2.1 a.2.2.2.2.1 a.2.2.2.2.2) (f_i_FactorizationsOf_2_i a.1 a.2.1 a.2.2.1 a.2.2.2.1 a.2.2.2.2.1 a.2.2.2.2.2) (f_i_FactorizationsOf_2_en r).1 (f_i_FactorizationsOf_2_en r).2) (t1 : Int) (t2 : List Sc) : ∀ s r, loopL (f_i_FactorizationsOf_2_r2 self t1 t2) s = some r → LS Try.prog f_i_FactorizationsOf_2_F (bodyOf Try.f52 2) (f_i_FactorizationsOf_2_fr2 self t1 t2 s) (enX (f_i_FactorizationsOf_2_x2_1 self t1 t2) (f_i_FactorizationsOf_2_x2_2 self t1 t2) r) :=
  loop_true E0ok (f_i_FactorizationsOf_2_Mt self hs) (addL_true (f_i_FactorizationsOf_2_tt0 self hs) (noL_true)) f_i_FactorizationsOf_2_o (fun _ h => by cases h) (fun _ h => by cases h) (fun _ h => by cases h) (fun _ h => by cases h) (fun s => (f_i_FactorizationsOf_2_e2 self t1 t2 s).trans (f_i_FactorizationsOf_2_p2 self t1 t2 s _ _ (fun e => some (f_i_FactorizationsOf_2_x2_2 self t1 t2 e))))
def f_i_FactorizationsOf_2_t2 (self : (Int × Int × List Sc × List Sc × List Sc × List Sc) → Option (List Sc × List Sc × List Sc)) (σ : List AV) : Option (Bool × Bool × (X × List AV) × (X × List AV)) := match dec f_i_FactorizationsOf_2_h2 σ with
  | some [.l v0, .l v1, .l v4, .i t1, .l t2, .i t13] => some (isOne (loopL (f_i_FactorizationsOf_2_r2 self t1 t2) (v0, v1, v4, t13)), true, f_i_FactorizationsOf_2_x2_1 self t1 t2 (getOne ([], [], []) (loopL (f_i_FactorizationsOf_2_r2 self t1 t2) (v0, v1, v4, t13))), (.ret, []))
  | _ => none
theorem f_i_FactorizationsOf_2_tt2 (self : (Int × Int × List Sc × List Sc × List Sc × List Sc) → Option (List Sc × List Sc × List Sc)) (hs : ∀ a r, self a = some r → CS Try.prog 52 (f_i_FactorizationsOf_2_a a.1 a.2.1 a.2.2.1 a.2.2.2.1 a.2.2.2.2.1 a.2.2.2.2.2) (f_i_FactorizationsOf_2_i a.1 a.2.1 a.2.2.1 a.2.2.2.1 a.2.2.2.2.1 a.2.2.2.2.2) (f_i_FactorizationsOf_2_en r).1 (f_i_FactorizationsOf_2_en r).2) : TTrue Try.prog f_i_FactorizationsOf_2_F Try.f52 2 (f_i_FactorizationsOf_2_t2 self) := by
  intro σ p r r' h
  unfold f_i_FactorizationsOf_2_t2 at h
  split at h
  · rename_i hd
    rw [← dec_enc hd]
    exact row1 (f_i_FactorizationsOf_2_l2 self hs _ _ _) h
  · cases h
theorem f_i_FactorizationsOf_2_p {R : Type} (self : (Int × Int × List Sc × List Sc × List Sc × List Sc) → Option (List Sc × List Sc × List Sc)) (L0 : Int) (p1 : Int) (p2 : List Sc) (h0 : List Sc) (h1 : List Sc) (h4 : List Sc) (kR : List Sc × List Sc × List Sc → Option R) : f_i_FactorizationsOf_2_k self L0 p1 p2 h0 h1 h4 kR = (f_i_FactorizationsOf_2_k self L0 p1 p2 h0 h1 h4 some).bind kR := by
  simp only [f_i_FactorizationsOf_2_k, brB, bl1B, someB, noneB]
theorem f_i_FactorizationsOf_2_e (self : (Int × Int × List Sc × List Sc × List Sc × List Sc) → Option (List Sc × List Sc × List Sc)) (L0 : Int) (p1 : Int) (p2 : List Sc) (h0 : List Sc) (h1 : List Sc) (h4 : List Sc) : runFn E0 (f_i_FactorizationsOf_2_M self) H0 f_i_FactorizationsOf_2_F (asL (addL 2 (f_i_FactorizationsOf_2_t2 self) (addL 0 (f_i_FactorizationsOf_2_t0 self) (noL)))) Try.f52 (f_i_FactorizationsOf_2_a L0 p1 p2 h0 h1 h4) (f_i_FactorizationsOf_2_i L0 p1 p2 h0 h1 h4) = f_i_FactorizationsOf_2_k self L0 p1 p2 h0 h1 h4 (fun r => some (f_i_FactorizationsOf_2_en r)) := by kernel_rfl
theorem f_i_FactorizationsOf_2_ks (self : (Int × Int × List Sc × List Sc × List Sc × List Sc) → Option (List Sc × List Sc × List Sc)) (hs : ∀ a r, self a = some r → CS Try.prog 52 (f_i_FactorizationsOf_2_a a.1 a.2.1 a.2.2.1 a.2.2.2.1 a.2.2.2.2.1 a.2.2.2.2.2) (f_i_FactorizationsOf_2_i a.1 a.2.1 a.2.2.1 a.2.2.2.1 a.2.2.2.2.1 a.2.2.2.2.2) (f_i_FactorizationsOf_2_en r).1 (f_i_FactorizationsOf_2_en r).2) (L0 : Int) (p1 : Int) (p2 : List Sc) (h0 : List Sc) (h1 : List Sc) (h4 : List Sc) (r : List Sc × List Sc × List Sc) (h : f_i_FactorizationsOf_2_k self L0 p1 p2 h0 h1 h4 some = some r) : CS Try.prog 52 (f_i_FactorizationsOf_2_a L0 p1 p2 h0 h1 h4) (f_i_FactorizationsOf_2_i L0 p1 p2 h0 h1 h4) (f_i_FactorizationsOf_2_en r).1 (f_i_FactorizationsOf_2_en r).2 :=
  fn_true (Gk := fun k => f_i_FactorizationsOf_2_k self L0 p1 p2 h0 h1 h4 k) (en := f_i_FactorizationsOf_2_en) Try.func52 E0ok (f_i_FactorizationsOf_2_Mt self hs) (addL_true (f_i_FactorizationsOf_2_tt2 self hs) (addL_true (f_i_FactorizationsOf_2_tt0 self hs) (noL_true))) f_i_FactorizationsOf_2_o (f_i_FactorizationsOf_2_e self L0 p1 p2 h0 h1 h4) (f_i_FactorizationsOf_2_p self L0 p1 p2 h0 h1 h4) h
theorem f_i_FactorizationsOf_2_ns : ∀ n a r, f_i_FactorizationsOf_2_n n a = some r → CS Try.prog 52 (f_i_FactorizationsOf_2_a a.1 a.2.1 a.2.2.1 a.2.2.2.1 a.2.2.2.2.1 a.2.2.2.2.2) (f_i_FactorizationsOf_2_i a.1 a.2.1 a.2.2.1 a.2.2.2.1 a.2.2.2.2.1 a.2.2.2.2.2) (f_i_FactorizationsOf_2_en r).1 (f_i_FactorizationsOf_2_en r).2
  | 0, _, _, h => by cases h
  | n + 1, a, r, h => f_i_FactorizationsOf_2_ks (f_i_FactorizationsOf_2_n n) (f_i_FactorizationsOf_2_ns n) a.1 a.2.1 a.2.2.1 a.2.2.2.1 a.2.2.2.2.1 a.2.2.2.2.2 r h
theorem f_i_FactorizationsOf_2_ok (L0 : Int) (p1 : Int) (p2 : List Sc) (h0 : List Sc) (h1 : List Sc) (h4 : List Sc) (r : List Sc × List Sc × List Sc) (h : f_i_FactorizationsOf_2 L0 p1 p2 h0 h1 h4 = some r) : CS Try.prog 52 (f_i_FactorizationsOf_2_a L0 p1 p2 h0 h1 h4) (f_i_FactorizationsOf_2_i L0 p1 p2 h0 h1 h4) (f_i_FactorizationsOf_2_en r).1 (f_i_FactorizationsOf_2_en r).2 := by
  obtain ⟨n, hn⟩ := limF_some h
  exact f_i_FactorizationsOf_2_ns n _ r hn
def f_i_FactorizationsOf_2_c : CRow := fun args inh => match dec2 [.p (.int .i64), .p (.int .i64), .p .sl, .p (.pt 0 1), .p (.pt 1 1), .p (.pt 2 1), .p (.pt 3 1)] [.own 1000022, .own 2000031, .fn 51 [.pt 4 1], .fn 52 [.pt 0 1, .pt 1 1, .pt 2 1, .pt 3 1], .own 3] args inh with
  | some ([.i L0, .i p1, .l p2], [.l h0, .l h1, .l h4]) => some ((f_i_FactorizationsOf_2 L0 p1 p2 h0 h1 h4).isSome, (f_i_FactorizationsOf_2_en ((f_i_FactorizationsOf_2 L0 p1 p2 h0 h1 h4).getD ([], [], []))).1, (f_i_FactorizationsOf_2_en ((f_i_FactorizationsOf_2 L0 p1 p2 h0 h1 h4).getD ([], [], []))).2)
  | _ => none
theorem f_i_FactorizationsOf_2_cc : CTrue Try.prog 52 f_i_FactorizationsOf_2_c := by
  intro args inh rs out h
  unfold f_i_FactorizationsOf_2_c at h
  split at h
  · rename_i hd
    obtain ⟨h1, h2⟩ := dec2_enc hd
    rw [← h1, ← h2]
    exact rowC (f_i_FactorizationsOf_2_ok _ _ _ _ _ _) h
  · cases h

def f_i_FactorizationsOf_F : Fi := { nv := 6, nc := 5, m := 0, vt := [(6, 0), (7, 1), (9, 2), (12, 3), (13, 4), (17, 5)], kl := [(0, ([5, 6, 8, 9, 10, 11, 14, 16, 17, 18, 19, 20, 21, 22, 23, 24, 25, 26, 27, 28, 29, 30, 31, 32, 33, 34, 35, 36, 37, 38, 39, 40, 41, 42, 46, 47, 48, 49, 50, 51, 52, 53, 54, 55, 56, 57, 58, 59, 60, 61, 62, 63], [5, 6, 8, 9, 10, 11, 14, 16, 17, 18, 19, 20, 21, 22, 23, 24, 25, 26, 27, 28, 29, 30, 31, 32, 33, 34, 35, 36, 37, 38, 39, 40, 41, 42, 43, 44, 45, 46, 47, 48, 49, 50, 51, 52, 53, 54, 55, 56, 57, 58, 59, 60, 61, 62, 63], [0, 1, 2, 3, 4, 5, 6, 7, 8, 9, 12, 13, 14, 15, 16, 17, 18, 19, 20, 21, 22, 23, 24, 25, 26, 27, 28, 29, 30, 31, 32, 33, 34, 35, 36, 37, 38, 39, 40, 41, 42, 43, 44, 45, 46, 47, 48, 49, 50, 51, 52, 53, 54, 55, 56, 57, 58, 59, 60, 61, 62, 63]))], sk := [], mvs := [5], fz := [] }
def f_i_FactorizationsOf_a (g0 : List Sc) (l1 : List Sc) : List AV := enc [.p .gr, .p .sl] [.l g0, .l l1]
def f_i_FactorizationsOf_i (g0 : List Sc) (l1 : List Sc) : List AV := enc [] []
def f_i_FactorizationsOf_en (r : List Sc × Bool) : List AV × List AV := (enc [.p (.al 0), .p .boo] [.b r.2], enc [.own 2000031] [.l r.1])
def f_i_FactorizationsOf_M : Calling := addC 14 f_i_AtomsOf_c (addC 50 f_i_IsZeroSum_c (addC 38 f_i_OrderOf_c (addC 52 f_i_FactorizationsOf_2_c (noC))))
theorem f_i_FactorizationsOf_Mt : CallOk Try.prog (f_i_FactorizationsOf_M) := addC_true f_i_AtomsOf_cc (addC_true f_i_IsZeroSum_cc (addC_true f_i_OrderOf_cc (addC_true f_i_FactorizationsOf_2_cc (noC_true))))
theorem f_i_FactorizationsOf_o : loopsOnce Try.f21 = true := by kernel_rfl
def f_i_FactorizationsOf_h0 : List Sh := [.own 2000031, .own 1000022, .own 3, .u, .u, .u, .u, .p .sl, .u, .u, .u, .u, .p (.pt 0 1), .p (.pt 1 1), .u, .p (.pt 2 1), .u, .u, .u, .u, .u, .u, .u, .u, .u, .u, .u, .u, .u, .u, .u, .u, .u, .u, .u, .u, .u, .u, .u, .u, .u, .u, .u, .p .sl, .p (.int .i64), .p (.int .i64), .u, .u, .u, .u, .u, .u, .u, .u, .u, .u, .u, .u, .u, .u, .u, .u, .u, .u]
def f_i_FactorizationsOf_fr0 (l1 : List Sc) (t37 : List Sc) (t38 : Int) (s : List Sc × List Sc × List Sc × Int) : List AV := enc f_i_FactorizationsOf_h0 [.l s.1, .l s.2.1, .l s.2.2.1, .l l1, .l t37, .i t38, .i s.2.2.2]
def f_i_FactorizationsOf_g0_1 : List Sh := [.own 2000031, .own 1000022, .own 3, .u, .u, .u, .u, .p .sl, .u, .u, .u, .u, .p (.pt 0 1), .p (.pt 1 1), .u, .p (.pt 2 1), .u, .u, .u, .u, .u, .u, .u, .u, .u, .u, .u, .u, .u, .u, .u, .u, .u, .u, .u, .u, .u, .u, .u, .u, .u, .u, .u, .u, .u, .u, .u, .u, .u, .u, .u, .u, .u, .u, .u, .u, .u, .u, .u, .u, .u, .u, .u, .u]
def f_i_FactorizationsOf_x0_1 (l1 : List Sc) (t37 : List Sc) (t38 : Int) (e : List Sc × List Sc × List Sc) : X × List AV := (.out 0, enc f_i_FactorizationsOf_g0_1 [.l e.1, .l e.2.1, .l e.2.2, .l l1])
def f_i_FactorizationsOf_x0_2 (l1 : List Sc) (t37 : List Sc) (t38 : Int) (_e : Unit) : X × List AV := (.ret, [])
theorem f_i_FactorizationsOf_p0 {R : Type} (l1 : List Sc) (t37 : List Sc) (t38 : Int) (s : List Sc × List Sc × List Sc × Int) (kN : List Sc × List Sc × List Sc × Int → Option R) (kA : List Sc × List Sc × List Sc → Option R) (kB : Unit → Option R) : f_i_FactorizationsOf_k0 l1 t37 t38 s.1 s.2.1 s.2.2.1 s.2.2.2 kN kA = (f_i_FactorizationsOf_r0 l1 t37 t38 s).bind (Ro.el kN kA kB) := by
  simp only [f_i_FactorizationsOf_k0, f_i_FactorizationsOf_r0, brB, someB, noneB, Ro.el]
theorem f_i_FactorizationsOf_e0 (l1 : List Sc) (t37 : List Sc) (t38 : Int) (s : List Sc × List Sc × List Sc × Int) : EC E0 f_i_FactorizationsOf_M H0 f_i_FactorizationsOf_F (asL (noL)) 0 (bodyOf Try.f21 0) (f_i_FactorizationsOf_fr0 l1 t37 t38 s) (done (klOf f_i_FactorizationsOf_F 0)) = f_i_FactorizationsOf_k0 l1 t37 t38 s.1 s.2.1 s.2.2.1 s.2.2.2 (fun s => some (.norm, f_i_FactorizationsOf_fr0 l1 t37 t38 s)) (fun e => some (f_i_FactorizationsOf_x0_1 l1 t37 t38 e)) := by kernel_rfl
theorem f_i_FactorizationsOf_l0 (l1 : List Sc) (t37 : List Sc) (t38 : Int) : ∀ s r, loopL (f_i_FactorizationsOf_r0 l1 t37 t38) s = some r → LS Try.prog f_i_FactorizationsOf_F (bodyOf Try.f21 0) (f_i_FactorizationsOf_fr0 l1 t37 t38 s) (enX (f_i_FactorizationsOf_x0_1 l1 t37 t38) (f_i_FactorizationsOf_x0_2 l1 t37 t38) r) :=
  loop_true E0ok f_i_FactorizationsOf_Mt (noL_true) f_i_FactorizationsOf_o (fun _ h => by cases h) (fun _ h => by cases h) (fun _ h => by cases h) (fun _ h => by cases h) (fun s => (f_i_FactorizationsOf_e0 l1 t37 t38 s).trans (f_i_FactorizationsOf_p0 l1 t37 t38 s _ _ (fun e => some (f_i_FactorizationsOf_x0_2 l1 t37 t38 e))))
def f_i_FactorizationsOf_t0 (σ : List AV) : Option (Bool × Bool × (X × List AV) × (X × List AV)) := match dec f_i_FactorizationsOf_h0 σ with
  | some [.l v0, .l v1, .l v2, .l l1, .l t37, .i t38, .i t39] => some (isOne (loopL (f_i_FactorizationsOf_r0 l1 t37 t38) (v0, v1, v2, t39)), true, f_i_FactorizationsOf_x0_1 l1 t37 t38 (getOne ([], [], []) (loopL (f_i_FactorizationsOf_r0 l1 t37 t38) (v0, v1, v2, t39))), (.ret, []))
  | _ => none
theorem f_i_FactorizationsOf_tt0 : TTrue Try.prog f_i_FactorizationsOf_F Try.f21 0 (f_i_FactorizationsOf_t0) := by
  intro σ p r r' h
  unfold f_i_FactorizationsOf_t0 at h
  split at h
  · rename_i hd
    rw [← dec_enc hd]
    exact row1 (f_i_FactorizationsOf_l0 _ _ _ _) h
  · cases h
theorem f_i_FactorizationsOf_p {R : Type} (g0 : List Sc) (l1 : List Sc) (kR : List Sc × Bool → Option R) : f_i_FactorizationsOf_k g0 l1 kR = (f_i_FactorizationsOf_k g0 l1 some).bind kR := by
  simp only [f_i_FactorizationsOf_k, brB, boB, bl1B, someB, noneB]
theorem f_i_FactorizationsOf_e (g0 : List Sc) (l1 : List Sc) : runFn E0 f_i_FactorizationsOf_M H0 f_i_FactorizationsOf_F (asL (addL 0 (f_i_FactorizationsOf_t0) (noL))) Try.f21 (f_i_FactorizationsOf_a g0 l1) (f_i_FactorizationsOf_i g0 l1) = f_i_FactorizationsOf_k g0 l1 (fun r => some (f_i_FactorizationsOf_en r)) := by kernel_rfl
theorem f_i_FactorizationsOf_ok (g0 : List Sc) (l1 : List Sc) (r : List Sc × Bool) (h : f_i_FactorizationsOf g0 l1 = some r) : CS Try.prog 21 (f_i_FactorizationsOf_a g0 l1) (f_i_FactorizationsOf_i g0 l1) (f_i_FactorizationsOf_en r).1 (f_i_FactorizationsOf_en r).2 :=
  fn_true (Gk := fun k => f_i_FactorizationsOf_k g0 l1 k) (en := f_i_FactorizationsOf_en) Try.func21 E0ok f_i_FactorizationsOf_Mt (addL_true (f_i_FactorizationsOf_tt0) (noL_true)) f_i_FactorizationsOf_o (f_i_FactorizationsOf_e g0 l1) (f_i_FactorizationsOf_p g0 l1) h
def f_i_FactorizationsOf_c : CRow := fun args inh => match dec2 [.p .gr, .p .sl] [] args inh with
  | some ([.l g0, .l l1], []) => some ((f_i_FactorizationsOf g0 l1).isSome, (f_i_FactorizationsOf_en ((f_i_FactorizationsOf g0 l1).getD ([], false))).1, (f_i_FactorizationsOf_en ((f_i_FactorizationsOf g0 l1).getD ([], false))).2)
  | _ => none
theorem f_i_FactorizationsOf_cc : CTrue Try.prog 21 f_i_FactorizationsOf_c := by
  intro args inh rs out h
  unfold f_i_FactorizationsOf_c at h
  split at h
  · rename_i hd
    obtain ⟨h1, h2⟩ := dec2_enc hd
    rw [← h1, ← h2]
    exact rowC (f_i_FactorizationsOf_ok _ _) h
  · cases h

def f_slices_Sort_a (h0 : List Sc) : List AV := enc [.p (.al 0)] []
def f_slices_Sort_i (h0 : List Sc) : List AV := enc [.own 3] [.l h0]
def f_slices_Sort_en (r : List Sc) : List AV × List AV := (enc [] [], enc [.own 3] [.l r])
theorem f_slices_Sort_ok (h0 : List Sc) (r : List Sc) (h : f_slices_Sort h0 = some r) : CS Try.prog 54 (f_slices_Sort_a h0) (f_slices_Sort_i h0) (f_slices_Sort_en r).1 (f_slices_Sort_en r).2 :=
  sort_CS (e := 3) ⟨_, Try.func54, by kernel_rfl⟩ Try.slices_Sort_int Try.slices_Sort_int_none h
def f_slices_Sort_c : CRow := fun args inh => match dec2 [.p (.al 0)] [.own 3] args inh with
  | some ([], [.l h0]) => some ((f_slices_Sort h0).isSome, (f_slices_Sort_en ((f_slices_Sort h0).getD [])).1, (f_slices_Sort_en ((f_slices_Sort h0).getD [])).2)
  | _ => none
theorem f_slices_Sort_cc : CTrue Try.prog 54 f_slices_Sort_c := by
  intro args inh rs out h
  unfold f_slices_Sort_c at h
  split at h
  · rename_i hd
    obtain ⟨h1, h2⟩ := dec2_enc hd
    rw [← h1, ← h2]
    exact rowC (f_slices_Sort_ok _) h
  · cases h

def f_slices_Compact_a (h0 : List Sc) : List AV := enc [.p (.al 0)] []
def f_slices_Compact_i (h0 : List Sc) : List AV := enc [.own 3] [.l h0]
def f_slices_Compact_en (r : List Sc) : List AV × List AV := (enc [.p (.al 1)] [], enc [.u, .own 3] [.l r])
theorem f_slices_Compact_ok (h0 : List Sc) (r : List Sc) (h : f_slices_Compact h0 = some r) : CS Try.prog 55 (f_slices_Compact_a h0) (f_slices_Compact_i h0) (f_slices_Compact_en r).1 (f_slices_Compact_en r).2 :=
  compact_CS (e := 3) ⟨_, Try.func55, by kernel_rfl⟩ Try.slices_Compact_int Try.slices_Compact_int_empty h
def f_slices_Compact_c : CRow := fun args inh => match dec2 [.p (.al 0)] [.own 3] args inh with
  | some ([], [.l h0]) => some ((f_slices_Compact h0).isSome, (f_slices_Compact_en ((f_slices_Compact h0).getD [])).1, (f_slices_Compact_en ((f_slices_Compact h0).getD [])).2)
  | _ => none
theorem f_slices_Compact_cc : CTrue Try.prog 55 f_slices_Compact_c := by
  intro args inh rs out h
  unfold f_slices_Compact_c at h
  split at h
  · rename_i hd
    obtain ⟨h1, h2⟩ := dec2_enc hd
    rw [← h1, ← h2]
    exact rowC (f_slices_Compact_ok _) h
  · cases h

def f_i_LengthsOf_F : Fi := { nv := 1, nc := 0, m := 0, vt := [(14, 0)], kl := [(0, ([0, 1, 2, 3, 4, 5, 8, 9, 10, 11, 12, 13, 14, 15, 16, 17, 21, 22, 23, 24, 25, 26, 27, 28, 29, 30, 31, 32, 33], [0, 1, 2, 3, 4, 5, 8, 9, 10, 11, 12, 13, 14, 15, 16, 17, 18, 19, 20, 21, 22, 23, 24, 25, 26, 27, 28, 29, 30, 31, 32, 33], [0, 1, 2, 3, 4, 6, 8, 9, 10, 11, 12, 13, 14, 15, 16, 17, 18, 19, 20, 21, 22, 23, 24, 25, 26, 27, 28, 29, 30, 31, 32, 33]))], sk := [], mvs := [0], fz := [] }
def f_i_LengthsOf_a (g0 : List Sc) (l1 : List Sc) : List AV := enc [.p .gr, .p .sl] [.l g0, .l l1]
def f_i_LengthsOf_i (g0 : List Sc) (l1 : List Sc) : List AV := enc [] []
def f_i_LengthsOf_en (r : List Sc) : List AV × List AV := (enc [.p (.al 0)] [], enc [.own 3] [.l r])
def f_i_LengthsOf_M : Calling := addC 21 f_i_FactorizationsOf_c (addC 54 f_slices_Sort_c (addC 55 f_slices_Compact_c (noC)))
theorem f_i_LengthsOf_Mt : CallOk Try.prog (f_i_LengthsOf_M) := addC_true f_i_FactorizationsOf_cc (addC_true f_slices_Sort_cc (addC_true f_slices_Compact_cc (noC_true)))
theorem f_i_LengthsOf_o : loopsOnce Try.f28 = true := by kernel_rfl
def f_i_LengthsOf_h0 : List Sh := [.u, .u, .u, .u, .u, .u, .own 3, .own 2000031, .u, .u, .u, .u, .u, .u, .u, .u, .u, .u, .p (.al 7), .p (.int .i64), .p (.int .i64), .u, .u, .u, .u, .u, .u, .u, .u, .u, .u, .u, .u, .u]
def f_i_LengthsOf_fr0 (t18 : Int) (s : List Sc × List Sc × Int) : List AV := enc f_i_LengthsOf_h0 [.l s.1, .l s.2.1, .i t18, .i s.2.2]
def f_i_LengthsOf_g0_1 : List Sh := [.u, .u, .u, .u, .u, .u, .own 3, .own 2000031, .u, .u, .u, .u, .u, .u, .u, .u, .u, .u, .u, .u, .u, .u, .u, .u, .u, .u, .u, .u, .u, .u, .u, .u, .u, .u]
def f_i_LengthsOf_x0_1 (t18 : Int) (e : List Sc × List Sc) : X × List AV := (.out 0, enc f_i_LengthsOf_g0_1 [.l e.1, .l e.2])
def f_i_LengthsOf_x0_2 (t18 : Int) (_e : Unit) : X × List AV := (.ret, [])
theorem f_i_LengthsOf_p0 {R : Type} (t18 : Int) (s : List Sc × List Sc × Int) (kN : List Sc × List Sc × Int → Option R) (kA : List Sc × List Sc → Option R) (kB : Unit → Option R) : f_i_LengthsOf_k0 t18 s.1 s.2.1 s.2.2 kN kA = (f_i_LengthsOf_r0 t18 s).bind (Ro.el kN kA kB) := by
  simp only [f_i_LengthsOf_k0, f_i_LengthsOf_r0, brB, someB, noneB, Ro.el]
theorem f_i_LengthsOf_e0 (t18 : Int) (s : List Sc × List Sc × Int) : EC E0 f_i_LengthsOf_M H0 f_i_LengthsOf_F (asL (noL)) 0 (bodyOf Try.f28 0) (f_i_LengthsOf_fr0 t18 s) (done (klOf f_i_LengthsOf_F 0)) = f_i_LengthsOf_k0 t18 s.1 s.2.1 s.2.2 (fun s => some (.norm, f_i_LengthsOf_fr0 t18 s)) (fun e => some (f_i_LengthsOf_x0_1 t18 e)) := by kernel_rfl
theorem f_i_LengthsOf_l0 (t18 : Int) : ∀ s r, loopL (f_i_LengthsOf_r0 t18) s = some r → LS Try.prog f_i_LengthsOf_F (bodyOf Try.f28 0) (f_i_LengthsOf_fr0 t18 s) (enX (f_i_LengthsOf_x0_1 t18) (f_i_LengthsOf_x0_2 t18) r) :=
  loop_true E0ok f_i_LengthsOf_Mt (noL_true) f_i_LengthsOf_o (fun _ h => by cases h) (fun _ h => by cases h) (fun _ h => by cases h) (fun _ h => by cases h) (fun s => (f_i_LengthsOf_e0 t18 s).trans (f_i_LengthsOf_p0 t18 s _ _ (fun e => some (f_i_LengthsOf_x0_2 t18 e))))
def f_i_LengthsOf_t0 (σ : List AV) : Option (Bool × Bool × (X × List AV) × (X × List AV)) := match dec f_i_LengthsOf_h0 σ with
  | some [.l out5, .l f6, .i t18, .i t19] => some (isOne (loopL (f_i_LengthsOf_r0 t18) (out5, f6, t19)), true, f_i_LengthsOf_x0_1 t18 (getOne ([], []) (loopL (f_i_LengthsOf_r0 t18) (out5, f6, t19))), (.ret, []))
  | _ => none
theorem f_i_LengthsOf_tt0 : TTrue Try.prog f_i_LengthsOf_F Try.f28 0 (f_i_LengthsOf_t0) := by
  intro σ p r r' h
  unfold f_i_LengthsOf_t0 at h
  split at h
  · rename_i hd
    rw [← dec_enc hd]
    exact row1 (f_i_LengthsOf_l0 _ _) h
  · cases h
theorem f_i_LengthsOf_p {R : Type} (g0 : List Sc) (l1 : List Sc) (kR : List Sc → Option R) : f_i_LengthsOf_k g0 l1 kR = (f_i_LengthsOf_k g0 l1 some).bind kR := by
  simp only [f_i_LengthsOf_k, boB, bl1B, someB]
theorem f_i_LengthsOf_e (g0 : List Sc) (l1 : List Sc) : runFn E0 f_i_LengthsOf_M H0 f_i_LengthsOf_F (asL (addL 0 (f_i_LengthsOf_t0) (noL))) Try.f28 (f_i_LengthsOf_a g0 l1) (f_i_LengthsOf_i g0 l1) = f_i_LengthsOf_k g0 l1 (fun r => some (f_i_LengthsOf_en r)) := by kernel_rfl
theorem f_i_LengthsOf_ok (g0 : List Sc) (l1 : List Sc) (r : List Sc) (h : f_i_LengthsOf g0 l1 = some r) : CS Try.prog 28 (f_i_LengthsOf_a g0 l1) (f_i_LengthsOf_i g0 l1) (f_i_LengthsOf_en r).1 (f_i_LengthsOf_en r).2 :=
  fn_true (Gk := fun k => f_i_LengthsOf_k g0 l1 k) (en := f_i_LengthsOf_en) Try.func28 E0ok f_i_LengthsOf_Mt (addL_true (f_i_LengthsOf_tt0) (noL_true)) f_i_LengthsOf_o (f_i_LengthsOf_e g0 l1) (f_i_LengthsOf_p g0 l1) h
def f_i_LengthsOf_c : CRow := fun args inh => match dec2 [.p .gr, .p .sl] [] args inh with
  | some ([.l g0, .l l1], []) => some ((f_i_LengthsOf g0 l1).isSome, (f_i_LengthsOf_en ((f_i_LengthsOf g0 l1).getD [])).1, (f_i_LengthsOf_en ((f_i_LengthsOf g0 l1).getD [])).2)
  | _ => none
theorem f_i_LengthsOf_cc : CTrue Try.prog 28 f_i_LengthsOf_c := by
  intro args inh rs out h
  unfold f_i_LengthsOf_c at h
  split at h
  · rename_i hd
    obtain ⟨h1, h2⟩ := dec2_enc hd
    rw [← h1, ← h2]
    exact rowC (f_i_LengthsOf_ok _ _) h
  · cases h

def f_l_eqIntS_F : Fi := { nv := 0, nc := 0, m := 0, vt := [], kl := [(0, ([2, 3, 4, 6, 7, 8, 9, 10, 11, 12, 13, 14, 15, 16, 17, 18, 19, 20, 21, 22, 23, 24, 25], [0, 1, 2, 3, 4, 5, 6, 7, 8, 9, 10, 11, 12, 13, 14, 15, 16, 17, 18, 19, 20, 21, 22, 23, 24, 25], [0, 1, 2, 3, 5, 6, 7, 8, 9, 10, 11, 12, 13, 14, 15, 16, 17, 18, 19, 20, 21, 22, 23, 24, 25]))], sk := [], mvs := [], fz := [] }
def f_l_eqIntS_a (a0 : List Sc) (b1 : List Sc) : List AV := enc [.p .sl, .p .sl] [.l a0, .l b1]
def f_l_eqIntS_i (a0 : List Sc) (b1 : List Sc) : List AV := enc [] []
def f_l_eqIntS_en (r : Bool) : List AV × List AV := (enc [.p .boo] [.b r], enc [] [])
def f_l_eqIntS_M : Calling := noC
theorem f_l_eqIntS_Mt : CallOk Try.prog (f_l_eqIntS_M) := noC_true
theorem f_l_eqIntS_o : loopsOnce Try.f23 = true := by kernel_rfl
def f_l_eqIntS_h0 : List Sh := [.p .sl, .p .sl, .u, .u, .u, .p (.int .i64), .u, .u, .u, .u, .u, .u, .u, .u, .u, .u, .u, .u, .u, .u, .u, .u, .u, .u, .u, .u]
def f_l_eqIntS_fr0 (a0 : List Sc) (b1 : List Sc) (s : Int) : List AV := enc f_l_eqIntS_h0 [.l a0, .l b1, .i s]
def f_l_eqIntS_g0_1 : List Sh := [.u, .u, .u, .u, .u, .u, .u, .u, .u, .u, .u, .u, .u, .u, .u, .u, .u, .u, .u, .u, .u, .u, .u, .u, .u, .u]
def f_l_eqIntS_x0_1 (a0 : List Sc) (b1 : List Sc) (e : Unit) : X × List AV := (.out 0, enc f_l_eqIntS_g0_1 [])
def f_l_eqIntS_g0_2 : List Sh := [.u, .u, .u, .u, .p .boo, .u, .u, .u, .u, .u, .u, .u, .u, .u, .u, .u, .u, .u, .u, .u, .u, .u, .u, .u, .u, .u]
def f_l_eqIntS_x0_2 (a0 : List Sc) (b1 : List Sc) (e : Unit) : X × List AV := (.ret, enc f_l_eqIntS_g0_2 [.b false])
theorem f_l_eqIntS_p0 {R : Type} (a0 : List Sc) (b1 : List Sc) (s : Int) (kN : Int → Option R) (kA : Unit → Option R) (kB : Unit → Option R) : f_l_eqIntS_k0 a0 b1 s kN kA kB = (f_l_eqIntS_r0 a0 b1 s).bind (Ro.el kN kA kB) := by
  simp only [f_l_eqIntS_k0, f_l_eqIntS_r0, brB, someB, noneB, Ro.el]
theorem f_l_eqIntS_e0 (a0 : List Sc) (b1 : List Sc) (s : Int) : EC E0 f_l_eqIntS_M H0 f_l_eqIntS_F (asL (noL)) 0 (bodyOf Try.f23 0) (f_l_eqIntS_fr0 a0 b1 s) (done (klOf f_l_eqIntS_F 0)) = f_l_eqIntS_k0 a0 b1 s (fun s => some (.norm, f_l_eqIntS_fr0 a0 b1 s)) (fun e => some (f_l_eqIntS_x0_1 a0 b1 e)) (fun e => some (f_l_eqIntS_x0_2 a0 b1 e)) := by kernel_rfl
theorem f_l_eqIntS_l0 (a0 : List Sc) (b1 : List Sc) : ∀ s r, loopL (f_l_eqIntS_r0 a0 b1) s = some r → LS Try.prog f_l_eqIntS_F (bodyOf Try.f23 0) (f_l_eqIntS_fr0 a0 b1 s) (enX (f_l_eqIntS_x0_1 a0 b1) (f_l_eqIntS_x0_2 a0 b1) r) :=
  loop_true E0ok f_l_eqIntS_Mt (noL_true) f_l_eqIntS_o (fun _ h => by cases h) (fun _ h => by cases h) (fun _ h => by cases h) (fun _ h => by cases h) (fun s => (f_l_eqIntS_e0 a0 b1 s).trans (f_l_eqIntS_p0 a0 b1 s _ _ (fun e => some (f_l_eqIntS_x0_2 a0 b1 e))))
def f_l_eqIntS_t0 (σ : List AV) : Option (Bool × Bool × (X × List AV) × (X × List AV)) := match dec f_l_eqIntS_h0 σ with
  | some [.l a0, .l b1, .i i5] => some ((loopL (f_l_eqIntS_r0 a0 b1) i5).isSome, isOne (loopL (f_l_eqIntS_r0 a0 b1) i5), f_l_eqIntS_x0_1 a0 b1 (getOne () (loopL (f_l_eqIntS_r0 a0 b1) i5)), f_l_eqIntS_x0_2 a0 b1 (getTwo () (loopL (f_l_eqIntS_r0 a0 b1) i5)))
  | _ => none
theorem f_l_eqIntS_tt0 : TTrue Try.prog f_l_eqIntS_F Try.f23 0 (f_l_eqIntS_t0) := by
  intro σ p r r' h
  unfold f_l_eqIntS_t0 at h
  split at h
  · rename_i hd
    rw [← dec_enc hd]
    exact row2 (f_l_eqIntS_l0 _ _ _) h
  · cases h
theorem f_l_eqIntS_p {R : Type} (a0 : List Sc) (b1 : List Sc) (kR : Bool → Option R) : f_l_eqIntS_k a0 b1 kR = (f_l_eqIntS_k a0 b1 some).bind kR := by
  simp only [f_l_eqIntS_k, brB, blB, someB]
theorem f_l_eqIntS_e (a0 : List Sc) (b1 : List Sc) : runFn E0 f_l_eqIntS_M H0 f_l_eqIntS_F (asL (addL 0 (f_l_eqIntS_t0) (noL))) Try.f23 (f_l_eqIntS_a a0 b1) (f_l_eqIntS_i a0 b1) = f_l_eqIntS_k a0 b1 (fun r => some (f_l_eqIntS_en r)) := by kernel_rfl
theorem f_l_eqIntS_ok (a0 : List Sc) (b1 : List Sc) (r : Bool) (h : f_l_eqIntS a0 b1 = some r) : CS Try.prog 23 (f_l_eqIntS_a a0 b1) (f_l_eqIntS_i a0 b1) (f_l_eqIntS_en r).1 (f_l_eqIntS_en r).2 :=
  fn_true (Gk := fun k => f_l_eqIntS_k a0 b1 k) (en := f_l_eqIntS_en) Try.func23 E0ok f_l_eqIntS_Mt (addL_true (f_l_eqIntS_tt0) (noL_true)) f_l_eqIntS_o (f_l_eqIntS_e a0 b1) (f_l_eqIntS_p a0 b1) h
def f_l_eqIntS_c : CRow := fun args inh => match dec2 [.p .sl, .p .sl] [] args inh with
  | some ([.l a0, .l b1], []) => some ((f_l_eqIntS a0 b1).isSome, (f_l_eqIntS_en ((f_l_eqIntS a0 b1).getD false)).1, (f_l_eqIntS_en ((f_l_eqIntS a0 b1).getD false)).2)
  | _ => none
theorem f_l_eqIntS_cc : CTrue Try.prog 23 f_l_eqIntS_c := by
  intro args inh rs out h
  unfold f_l_eqIntS_c at h
  split at h
  · rename_i hd
    obtain ⟨h1, h2⟩ := dec2_enc hd
    rw [← h1, ← h2]
    exact rowC (f_l_eqIntS_ok _ _) h
  · cases h

def f_l_eqGroup_F : Fi := { nv := 0, nc := 0, m := 0, vt := [], kl := [], sk := [], mvs := [], fz := [] }
def f_l_eqGroup_a (a0 : List Sc) (b1 : List Sc) : List AV := enc [.p .gr, .p .gr] [.l a0, .l b1]
def f_l_eqGroup_i (a0 : List Sc) (b1 : List Sc) : List AV := enc [] []
def f_l_eqGroup_en (r : Bool) : List AV × List AV := (enc [.p .boo] [.b r], enc [] [])
def f_l_eqGroup_M : Calling := addC 23 f_l_eqIntS_c (noC)
theorem f_l_eqGroup_Mt : CallOk Try.prog (f_l_eqGroup_M) := addC_true f_l_eqIntS_cc (noC_true)
theorem f_l_eqGroup_o : loopsOnce Try.f12 = true := by kernel_rfl
theorem f_l_eqGroup_p {R : Type} (a0 : List Sc) (b1 : List Sc) (kR : Bool → Option R) : f_l_eqGroup_k a0 b1 kR = (f_l_eqGroup_k a0 b1 some).bind kR := by
  simp only [f_l_eqGroup_k, brB, boB, someB]
theorem f_l_eqGroup_e (a0 : List Sc) (b1 : List Sc) : runFn E0 f_l_eqGroup_M H0 f_l_eqGroup_F (asL (noL)) Try.f12 (f_l_eqGroup_a a0 b1) (f_l_eqGroup_i a0 b1) = f_l_eqGroup_k a0 b1 (fun r => some (f_l_eqGroup_en r)) := by kernel_rfl
theorem f_l_eqGroup_ok (a0 : List Sc) (b1 : List Sc) (r : Bool) (h : f_l_eqGroup a0 b1 = some r) : CS Try.prog 12 (f_l_eqGroup_a a0 b1) (f_l_eqGroup_i a0 b1) (f_l_eqGroup_en r).1 (f_l_eqGroup_en r).2 :=
  fn_true (Gk := fun k => f_l_eqGroup_k a0 b1 k) (en := f_l_eqGroup_en) Try.func12 E0ok f_l_eqGroup_Mt (noL_true) f_l_eqGroup_o (f_l_eqGroup_e a0 b1) (f_l_eqGroup_p a0 b1) h
def f_l_eqGroup_c : CRow := fun args inh => match dec2 [.p .gr, .p .gr] [] args inh with
  | some ([.l a0, .l b1], []) => some ((f_l_eqGroup a0 b1).isSome, (f_l_eqGroup_en ((f_l_eqGroup a0 b1).getD false)).1, (f_l_eqGroup_en ((f_l_eqGroup a0 b1).getD false)).2)
  | _ => none
theorem f_l_eqGroup_cc : CTrue Try.prog 12 f_l_eqGroup_c := by
  intro args inh rs out h
  unfold f_l_eqGroup_c at h
  split at h
  · rename_i hd
    obtain ⟨h1, h2⟩ := dec2_enc hd
    rw [← h1, ← h2]
    exact rowC (f_l_eqGroup_ok _ _) h
  · cases h

def f_l_markIntS_io_F : Fi := { nv := 1, nc := 1, m := 1, vt := [], kl := [(0, ([3, 4, 5, 7, 8, 9, 10, 11, 12, 13, 14, 15, 16, 17, 18, 19], [1, 3, 4, 5, 6, 7, 8, 9, 10, 11, 12, 13, 14, 15, 16, 17, 18, 19], [1, 2, 3, 4, 6, 7, 8, 9, 10, 11, 12, 13, 14, 15, 16, 17, 18, 19]))], sk := [], mvs := [], fz := [] }
def f_l_markIntS_io_a (k1 : Int) (h0 : List Sc) : List AV := enc [.p (.al 0), .p (.int .i64)] [.i k1]
def f_l_markIntS_io_i (k1 : Int) (h0 : List Sc) : List AV := enc [.own 3] [.l h0]
def f_l_markIntS_io_en (r : Int × List Sc) : List AV × List AV := (enc [.p (.int .i64)] [.i r.1], enc [.own 3] [.l r.2])
def f_l_markIntS_io_M : Calling := noC
theorem f_l_markIntS_io_Mt : CallOk Try.prog (f_l_markIntS_io_M) := noC_true
theorem f_l_markIntS_io_o : loopsOnce Try.f24 = true := by kernel_rfl
def f_l_markIntS_io_h0 : List Sh := [.own 3, .p (.al 0), .p (.int .i64), .u, .u, .u, .p (.int .i64), .u, .u, .u, .u, .u, .u, .u, .u, .u, .u, .u, .u, .u]
def f_l_markIntS_io_fr0 (s : List Sc × Int × Int) : List AV := enc f_l_markIntS_io_h0 [.l s.1, .i s.2.1, .i s.2.2]
def f_l_markIntS_io_g0_1 : List Sh := [.own 3, .u, .p (.int .i64), .u, .u, .u, .u, .u, .u, .u, .u, .u, .u, .u, .u, .u, .u, .u, .u, .u]
def f_l_markIntS_io_x0_1 (e : List Sc × Int) : X × List AV := (.out 0, enc f_l_markIntS_io_g0_1 [.l e.1, .i e.2])
def f_l_markIntS_io_x0_2 (_e : Unit) : X × List AV := (.ret, [])
theorem f_l_markIntS_io_p0 {R : Type} (s : List Sc × Int × Int) (kN : List Sc × Int × Int → Option R) (kA : List Sc × Int → Option R) (kB : Unit → Option R) : f_l_markIntS_io_k0 s.1 s.2.1 s.2.2 kN kA = (f_l_markIntS_io_r0 s).bind (Ro.el kN kA kB) := by
  simp only [f_l_markIntS_io_k0, f_l_markIntS_io_r0, brB, someB, noneB, Ro.el]
theorem f_l_markIntS_io_e0 (s : List Sc × Int × Int) : EC E0 f_l_markIntS_io_M H0 f_l_markIntS_io_F (asL (noL)) 0 (bodyOf Try.f24 0) (f_l_markIntS_io_fr0 s) (done (klOf f_l_markIntS_io_F 0)) = f_l_markIntS_io_k0 s.1 s.2.1 s.2.2 (fun s => some (.norm, f_l_markIntS_io_fr0 s)) (fun e => some (f_l_markIntS_io_x0_1 e)) := by kernel_rfl
theorem f_l_markIntS_io_l0 : ∀ s r, loopL (f_l_markIntS_io_r0) s = some r → LS Try.prog f_l_markIntS_io_F (bodyOf Try.f24 0) (f_l_markIntS_io_fr0 s) (enX (f_l_markIntS_io_x0_1) (f_l_markIntS_io_x0_2) r) :=
  loop_true E0ok f_l_markIntS_io_Mt (noL_true) f_l_markIntS_io_o (fun _ h => by cases h) (fun _ h => by cases h) (fun _ h => by cases h) (fun _ h => by cases h) (fun s => (f_l_markIntS_io_e0 s).trans (f_l_markIntS_io_p0 s _ _ (fun e => some (f_l_markIntS_io_x0_2 e))))
def f_l_markIntS_io_t0 (σ : List AV) : Option (Bool × Bool × (X × List AV) × (X × List AV)) := match dec f_l_markIntS_io_h0 σ with
  | some [.l v0, .i k1, .i i5] => some (isOne (loopL (f_l_markIntS_io_r0) (v0, k1, i5)), true, f_l_markIntS_io_x0_1 (getOne ([], 0) (loopL (f_l_markIntS_io_r0) (v0, k1, i5))), (.ret, []))
  | _ => none
theorem f_l_markIntS_io_tt0 : TTrue Try.prog f_l_markIntS_io_F Try.f24 0 (f_l_markIntS_io_t0) := by
  intro σ p r r' h
  unfold f_l_markIntS_io_t0 at h
  split at h
  · rename_i hd
    rw [← dec_enc hd]
    exact row1 (f_l_markIntS_io_l0 _) h
  · cases h
theorem f_l_markIntS_io_p {R : Type} (k1 : Int) (h0 : List Sc) (kR : Int × List Sc → Option R) : f_l_markIntS_io_k k1 h0 kR = (f_l_markIntS_io_k k1 h0 some).bind kR := by
  simp only [f_l_markIntS_io_k, bl1B, someB]
theorem f_l_markIntS_io_e (k1 : Int) (h0 : List Sc) : runFn E0 f_l_markIntS_io_M H0 f_l_markIntS_io_F (asL (addL 0 (f_l_markIntS_io_t0) (noL))) Try.f24 (f_l_markIntS_io_a k1 h0) (f_l_markIntS_io_i k1 h0) = f_l_markIntS_io_k k1 h0 (fun r => some (f_l_markIntS_io_en r)) := by kernel_rfl
theorem f_l_markIntS_io_ok (k1 : Int) (h0 : List Sc) (r : Int × List Sc) (h : f_l_markIntS_io k1 h0 = some r) : CS Try.prog 24 (f_l_markIntS_io_a k1 h0) (f_l_markIntS_io_i k1 h0) (f_l_markIntS_io_en r).1 (f_l_markIntS_io_en r).2 :=
  fn_true (Gk := fun k => f_l_markIntS_io_k k1 h0 k) (en := f_l_markIntS_io_en) Try.func24 E0ok f_l_markIntS_io_Mt (addL_true (f_l_markIntS_io_tt0) (noL_true)) f_l_markIntS_io_o (f_l_markIntS_io_e k1 h0) (f_l_markIntS_io_p k1 h0) h
def f_l_markIntS_io_c : CRow := fun args inh => match dec2 [.p (.al 0), .p (.int .i64)] [.own 3] args inh with
  | some ([.i k1], [.l h0]) => some ((f_l_markIntS_io k1 h0).isSome, (f_l_markIntS_io_en ((f_l_markIntS_io k1 h0).getD (0, []))).1, (f_l_markIntS_io_en ((f_l_markIntS_io k1 h0).getD (0, []))).2)
  | _ => none
theorem f_l_markIntS_io_cc : CTrue Try.prog 24 f_l_markIntS_io_c := by
  intro args inh rs out h
  unfold f_l_markIntS_io_c at h
  split at h
  · rename_i hd
    obtain ⟨h1, h2⟩ := dec2_enc hd
    rw [← h1, ← h2]
    exact rowC (f_l_markIntS_io_ok _ _) h
  · cases h

def f_l_markGroup_io_F : Fi := { nv := 2, nc := 2, m := 1, vt := [(2, 1)], kl := [], sk := [], mvs := [], fz := [] }
def f_l_markGroup_io_a (k1 : Int) (h0 : List Sc) : List AV := enc [.p (.go 0), .p (.int .i64)] [.i k1]
def f_l_markGroup_io_i (k1 : Int) (h0 : List Sc) : List AV := enc [.own 3] [.l h0]
def f_l_markGroup_io_en (r : Int × List Sc) : List AV × List AV := (enc [.p (.int .i64)] [.i r.1], enc [.own 3] [.l r.2])
def f_l_markGroup_io_M : Calling := addC 24 f_l_markIntS_io_c (noC)
theorem f_l_markGroup_io_Mt : CallOk Try.prog (f_l_markGroup_io_M) := addC_true f_l_markIntS_io_cc (noC_true)
theorem f_l_markGroup_io_o : loopsOnce Try.f16 = true := by kernel_rfl
theorem f_l_markGroup_io_p {R : Type} (k1 : Int) (h0 : List Sc) (kR : Int × List Sc → Option R) : f_l_markGroup_io_k k1 h0 kR = (f_l_markGroup_io_k k1 h0 some).bind kR := by
  simp only [f_l_markGroup_io_k, boB, someB]
theorem f_l_markGroup_io_e (k1 : Int) (h0 : List Sc) : runFn E0 f_l_markGroup_io_M H0 f_l_markGroup_io_F (asL (noL)) Try.f16 (f_l_markGroup_io_a k1 h0) (f_l_markGroup_io_i k1 h0) = f_l_markGroup_io_k k1 h0 (fun r => some (f_l_markGroup_io_en r)) := by kernel_rfl
theorem f_l_markGroup_io_ok (k1 : Int) (h0 : List Sc) (r : Int × List Sc) (h : f_l_markGroup_io k1 h0 = some r) : CS Try.prog 16 (f_l_markGroup_io_a k1 h0) (f_l_markGroup_io_i k1 h0) (f_l_markGroup_io_en r).1 (f_l_markGroup_io_en r).2 :=
  fn_true (Gk := fun k => f_l_markGroup_io_k k1 h0 k) (en := f_l_markGroup_io_en) Try.func16 E0ok f_l_markGroup_io_Mt (noL_true) f_l_markGroup_io_o (f_l_markGroup_io_e k1 h0) (f_l_markGroup_io_p k1 h0) h
def f_l_markGroup_io_c : CRow := fun args inh => match dec2 [.p (.go 0), .p (.int .i64)] [.own 3] args inh with
  | some ([.i k1], [.l h0]) => some ((f_l_markGroup_io k1 h0).isSome, (f_l_markGroup_io_en ((f_l_markGroup_io k1 h0).getD (0, []))).1, (f_l_markGroup_io_en ((f_l_markGroup_io k1 h0).getD (0, []))).2)
  | _ => none
theorem f_l_markGroup_io_cc : CTrue Try.prog 16 f_l_markGroup_io_c := by
  intro args inh rs out h
  unfold f_l_markGroup_io_c at h
  split at h
  · rename_i hd
    obtain ⟨h1, h2⟩ := dec2_enc hd
    rw [← h1, ← h2]
    exact rowC (f_l_markGroup_io_ok _ _) h
  · cases h

def f_l_heldIntS_F : Fi := { nv := 0, nc := 0, m := 0, vt := [], kl := [(0, ([2, 3, 4, 6, 7, 8, 9, 10, 11, 12, 13, 14, 15, 16, 17, 18, 19, 20], [0, 2, 3, 4, 5, 6, 7, 8, 9, 10, 11, 12, 13, 14, 15, 16, 17, 18, 19, 20], [0, 1, 2, 3, 5, 6, 7, 8, 9, 10, 11, 12, 13, 14, 15, 16, 17, 18, 19, 20]))], sk := [], mvs := [], fz := [] }
def f_l_heldIntS_a (a0 : List Sc) (k1 : Int) : List AV := enc [.p .sl, .p (.int .i64)] [.l a0, .i k1]
def f_l_heldIntS_i (a0 : List Sc) (k1 : Int) : List AV := enc [] []
def f_l_heldIntS_en (r : Int) : List AV × List AV := (enc [.p (.int .i64)] [.i r], enc [] [])
def f_l_heldIntS_M : Calling := noC
theorem f_l_heldIntS_Mt : CallOk Try.prog (f_l_heldIntS_M) := noC_true
theorem f_l_heldIntS_o : loopsOnce Try.f29 = true := by kernel_rfl
def f_l_heldIntS_h0 : List Sh := [.p .sl, .p (.int .i64), .u, .u, .u, .p (.int .i64), .u, .u, .u, .u, .u, .u, .u, .u, .u, .u, .u, .u, .u, .u, .u]
def f_l_heldIntS_fr0 (a0 : List Sc) (s : Int × Int) : List AV := enc f_l_heldIntS_h0 [.l a0, .i s.1, .i s.2]
def f_l_heldIntS_g0_1 : List Sh := [.u, .p (.int .i64), .u, .u, .u, .u, .u, .u, .u, .u, .u, .u, .u, .u, .u, .u, .u, .u, .u, .u, .u]
def f_l_heldIntS_x0_1 (a0 : List Sc) (e : Int) : X × List AV := (.out 0, enc f_l_heldIntS_g0_1 [.i e])
def f_l_heldIntS_g0_2 : List Sh := [.u, .u, .u, .u, .p (.int .i64), .u, .u, .u, .u, .u, .u, .u, .u, .u, .u, .u, .u, .u, .u, .u, .u]
def f_l_heldIntS_x0_2 (a0 : List Sc) (e : Unit) : X × List AV := (.ret, enc f_l_heldIntS_g0_2 [.i (-1)])
theorem f_l_heldIntS_p0 {R : Type} (a0 : List Sc) (s : Int × Int) (kN : Int × Int → Option R) (kA : Int → Option R) (kB : Unit → Option R) : f_l_heldIntS_k0 a0 s.1 s.2 kN kA kB = (f_l_heldIntS_r0 a0 s).bind (Ro.el kN kA kB) := by
  simp only [f_l_heldIntS_k0, f_l_heldIntS_r0, brB, someB, noneB, Ro.el]
theorem f_l_heldIntS_e0 (a0 : List Sc) (s : Int × Int) : EC E0 f_l_heldIntS_M H0 f_l_heldIntS_F (asL (noL)) 0 (bodyOf Try.f29 0) (f_l_heldIntS_fr0 a0 s) (done (klOf f_l_heldIntS_F 0)) = f_l_heldIntS_k0 a0 s.1 s.2 (fun s => some (.norm, f_l_heldIntS_fr0 a0 s)) (fun e => some (f_l_heldIntS_x0_1 a0 e)) (fun e => some (f_l_heldIntS_x0_2 a0 e)) := by kernel_rfl
theorem f_l_heldIntS_l0 (a0 : List Sc) : ∀ s r, loopL (f_l_heldIntS_r0 a0) s = some r → LS Try.prog f_l_heldIntS_F (bodyOf Try.f29 0) (f_l_heldIntS_fr0 a0 s) (enX (f_l_heldIntS_x0_1 a0) (f_l_heldIntS_x0_2 a0) r) :=
  loop_true E0ok f_l_heldIntS_Mt (noL_true) f_l_heldIntS_o (fun _ h => by cases h) (fun _ h => by cases h) (fun _ h => by cases h) (fun _ h => by cases h) (fun s => (f_l_heldIntS_e0 a0 s).trans (f_l_heldIntS_p0 a0 s _ _ (fun e => some (f_l_heldIntS_x0_2 a0 e))))
def f_l_heldIntS_t0 (σ : List AV) : Option (Bool × Bool × (X × List AV) × (X × List AV)) := match dec f_l_heldIntS_h0 σ with
  | some [.l a0, .i k1, .i i5] => some ((loopL (f_l_heldIntS_r0 a0) (k1, i5)).isSome, isOne (loopL (f_l_heldIntS_r0 a0) (k1, i5)), f_l_heldIntS_x0_1 a0 (getOne 0 (loopL (f_l_heldIntS_r0 a0) (k1, i5))), f_l_heldIntS_x0_2 a0 (getTwo () (loopL (f_l_heldIntS_r0 a0) (k1, i5))))
  | _ => none
theorem f_l_heldIntS_tt0 : TTrue Try.prog f_l_heldIntS_F Try.f29 0 (f_l_heldIntS_t0) := by
  intro σ p r r' h
  unfold f_l_heldIntS_t0 at h
  split at h
  · rename_i hd
    rw [← dec_enc hd]
    exact row2 (f_l_heldIntS_l0 _ _) h
  · cases h
theorem f_l_heldIntS_p {R : Type} (a0 : List Sc) (k1 : Int) (kR : Int → Option R) : f_l_heldIntS_k a0 k1 kR = (f_l_heldIntS_k a0 k1 some).bind kR := by
  simp only [f_l_heldIntS_k, blB, someB]
theorem f_l_heldIntS_e (a0 : List Sc) (k1 : Int) : runFn E0 f_l_heldIntS_M H0 f_l_heldIntS_F (asL (addL 0 (f_l_heldIntS_t0) (noL))) Try.f29 (f_l_heldIntS_a a0 k1) (f_l_heldIntS_i a0 k1) = f_l_heldIntS_k a0 k1 (fun r => some (f_l_heldIntS_en r)) := by kernel_rfl
theorem f_l_heldIntS_ok (a0 : List Sc) (k1 : Int) (r : Int) (h : f_l_heldIntS a0 k1 = some r) : CS Try.prog 29 (f_l_heldIntS_a a0 k1) (f_l_heldIntS_i a0 k1) (f_l_heldIntS_en r).1 (f_l_heldIntS_en r).2 :=
  fn_true (Gk := fun k => f_l_heldIntS_k a0 k1 k) (en := f_l_heldIntS_en) Try.func29 E0ok f_l_heldIntS_Mt (addL_true (f_l_heldIntS_tt0) (noL_true)) f_l_heldIntS_o (f_l_heldIntS_e a0 k1) (f_l_heldIntS_p a0 k1) h
def f_l_heldIntS_c : CRow := fun args inh => match dec2 [.p .sl, .p (.int .i64)] [] args inh with
  | some ([.l a0, .i k1], []) => some ((f_l_heldIntS a0 k1).isSome, (f_l_heldIntS_en ((f_l_heldIntS a0 k1).getD 0)).1, (f_l_heldIntS_en ((f_l_heldIntS a0 k1).getD 0)).2)
  | _ => none
theorem f_l_heldIntS_cc : CTrue Try.prog 29 f_l_heldIntS_c := by
  intro args inh rs out h
  unfold f_l_heldIntS_c at h
  split at h
  · rename_i hd
    obtain ⟨h1, h2⟩ := dec2_enc hd
    rw [← h1, ← h2]
    exact rowC (f_l_heldIntS_ok _ _) h
  · cases h
end
end Go.Proofs.Ytdocbpiocinllaa
