/-
  That the program computes just that (printed by gen2.py).
-/
import Derived.Test.YtphbclogflflmaaRunb
set_option linter.unusedVariables false
set_option linter.unusedSimpArgs false
namespace Go.Proofs.Ytphbclogflflmaa
open Go Ev
noncomputable section
def f_s_l14Cube_F : Fi := { nv := 0, nc := 0, m := 0, vt := [], kl := [(0, ([0, 4, 5, 6, 8, 9, 10, 11, 12, 13, 14, 15, 16, 17, 18, 19, 20, 21, 22, 23, 24, 25, 26, 27, 28, 29, 30, 31, 32, 33], [0, 1, 2, 3, 4, 5, 6, 7, 8, 9, 10, 11, 12, 13, 14, 15, 16, 17, 18, 19, 20, 21, 22, 23, 24, 25, 26, 27, 28, 29, 30, 31, 32, 33], [0, 1, 2, 3, 4, 5, 7, 8, 9, 10, 11, 12, 13, 14, 15, 16, 17, 18, 19, 20, 21, 22, 23, 24, 25, 26, 27, 28, 29, 30, 31, 32, 33]))], sk := [], mvs := [], fz := [] }
def f_s_l14Cube_a (g0 : List Sc) (a1 : Int) (d2 : Int) : List AV := enc [.p .gr, .p (.int .i64), .p (.int .i64)] [.l g0, .i a1, .i d2]
def f_s_l14Cube_i (g0 : List Sc) (a1 : Int) (d2 : Int) : List AV := enc [] []
def f_s_l14Cube_en (r : Bool) : List AV × List AV := (enc [.p .boo] [.b r], enc [] [])
def f_s_l14Cube_cs (self : (List Sc × Int × Int) → Option (Bool)) : CRow := fun args inh => match dec2 [.p .gr, .p (.int .i64), .p (.int .i64)] [] args inh with
  | some ([.l g0, .i a1, .i d2], []) => some ((self (g0, a1, d2)).isSome, (f_s_l14Cube_en ((self (g0, a1, d2)).getD false)).1, (f_s_l14Cube_en ((self (g0, a1, d2)).getD false)).2)
  | _ => none
theorem f_s_l14Cube_cst (self : (List Sc × Int × Int) → Option (Bool)) (hs : ∀ a r, self a = some r → CS Try.prog 151 (f_s_l14Cube_a a.1 a.2.1 a.2.2) (f_s_l14Cube_i a.1 a.2.1 a.2.2) (f_s_l14Cube_en r).1 (f_s_l14Cube_en r).2) : CTrue Try.prog 151 (f_s_l14Cube_cs self) := by
  intro args inh rs out h
  unfold f_s_l14Cube_cs at h
  split at h
  · rename_i hd
    obtain ⟨h1, h2⟩ := dec2_enc hd
    rw [← h1, ← h2]
    exact rowC (hs _) h
  · cases h
def f_s_l14Cube_M (self : (List Sc × Int × Int) → Option (Bool)) : Calling := addC 151 (f_s_l14Cube_cs self) (addC 139 f_s_l2Order_c (addC 141 f_s_l3Shift_c (noC)))
theorem f_s_l14Cube_Mt (self : (List Sc × Int × Int) → Option (Bool)) (hs : ∀ a r, self a = some r → CS Try.prog 151 (f_s_l14Cube_a a.1 a.2.1 a.2.2) (f_s_l14Cube_i a.1 a.2.1 a.2.2) (f_s_l14Cube_en r).1 (f_s_l14Cube_en r).2) : CallOk Try.prog (f_s_l14Cube_M self) := addC_true (f_s_l14Cube_cst self hs) (addC_true f_s_l2Order_cc (addC_true f_s_l3Shift_cc (noC_true)))
theorem f_s_l14Cube_o : loopsOnce Try.f151 = true := by kernel_rfl
def f_s_l14Cube_h0 : List Sh := [.u, .p (.int .i64), .p (.int .i64), .p .el, .u, .u, .u, .p (.int .i64), .u, .u, .u, .u, .u, .u, .u, .u, .u, .u, .u, .u, .u, .u, .u, .u, .u, .u, .u, .u, .u, .u, .u, .u, .u, .u]
def f_s_l14Cube_fr0 (self : (List Sc × Int × Int) → Option (Bool)) (a1 : Int) (d2 : Int) (g3 : List Sc) (s : Int) : List AV := enc f_s_l14Cube_h0 [.i a1, .i d2, .l g3, .i s]
def f_s_l14Cube_g0_1 : List Sh := [.u, .u, .u, .u, .u, .u, .u, .u, .u, .u, .u, .u, .u, .u, .u, .u, .u, .u, .u, .u, .u, .u, .u, .u, .u, .u, .u, .u, .u, .u, .u, .u, .u, .u]
def f_s_l14Cube_x0_1 (self : (List Sc × Int × Int) → Option (Bool)) (a1 : Int) (d2 : Int) (g3 : List Sc) (e : Unit) : X × List AV := (.out 0, enc f_s_l14Cube_g0_1 [])
def f_s_l14Cube_g0_2 : List Sh := [.u, .u, .u, .u, .u, .u, .p .boo, .u, .u, .u, .u, .u, .u, .u, .u, .u, .u, .u, .u, .u, .u, .u, .u, .u, .u, .u, .u, .u, .u, .u, .u, .u, .u, .u]
def f_s_l14Cube_x0_2 (self : (List Sc × Int × Int) → Option (Bool)) (a1 : Int) (d2 : Int) (g3 : List Sc) (e : Unit) : X × List AV := (.ret, enc f_s_l14Cube_g0_2 [.b true])
theorem f_s_l14Cube_p0 {R : Type} (self : (List Sc × Int × Int) → Option (Bool)) (a1 : Int) (d2 : Int) (g3 : List Sc) (s : Int) (kN : Int → Option R) (kA : Unit → Option R) (kB : Unit → Option R) : f_s_l14Cube_k0 self a1 d2 g3 s kN kA kB = (f_s_l14Cube_r0 self a1 d2 g3 s).bind (Ro.el kN kA kB) := by
  simp only [f_s_l14Cube_k0, f_s_l14Cube_r0, brB, boB, someB, Ro.el]
theorem f_s_l14Cube_e0 (self : (List Sc × Int × Int) → Option (Bool)) (a1 : Int) (d2 : Int) (g3 : List Sc) (s : Int) : EC E0 (f_s_l14Cube_M self) H0 f_s_l14Cube_F (asL (noL)) 0 (bodyOf Try.f151 0) (f_s_l14Cube_fr0 self a1 d2 g3 s) (done (klOf f_s_l14Cube_F 0)) = f_s_l14Cube_k0 self a1 d2 g3 s (fun s => some (.norm, f_s_l14Cube_fr0 self a1 d2 g3 s)) (fun e => some (f_s_l14Cube_x0_1 self a1 d2 g3 e)) (fun e => some (f_s_l14Cube_x0_2 self a1 d2 g3 e)) := by kernel_rfl
theorem f_s_l14Cube_l0 (self : (List Sc × Int × Int) → Option (Bool)) (hs : ∀ a r, self a = some r → CS Try.prog 151 (f_s_l14Cube_a a.1 a.2.1 a.2.2) (f_s_l14Cube_i a.1 a.2.1 a.2.2) (f_s_l14Cube_en r).1 (f_s_l14Cube_en r).2) (a1 : Int) (d2 : Int) (g3 : List Sc) : ∀ s r, loopL (f_s_l14Cube_r0 self a1 d2 g3) s = some r → LS Try.prog f_s_l14Cube_F (bodyOf Try.f151 0) (f_s_l14Cube_fr0 self a1 d2 g3 s) (enX (f_s_l14Cube_x0_1 self a1 d2 g3) (f_s_l14Cube_x0_2 self a1 d2 g3) r) :=
  loop_true E0ok (f_s_l14Cube_Mt self hs) (noL_true) f_s_l14Cube_o (fun _ h => by cases h) (fun _ h => by cases h) (fun s => (f_s_l14Cube_e0 self a1 d2 g3 s).trans (f_s_l14Cube_p0 self a1 d2 g3 s _ _ (fun e => some (f_s_l14Cube_x0_2 self a1 d2 g3 e))))
def f_s_l14Cube_t0 (self : (List Sc × Int × Int) → Option (Bool)) (σ : List AV) : Option (Bool × Bool × (X × List AV) × (X × List AV)) := match dec f_s_l14Cube_h0 σ with
  | some [.i a1, .i d2, .l g3, .i x7] => some ((loopL (f_s_l14Cube_r0 self a1 d2 g3) x7).isSome, isOne (loopL (f_s_l14Cube_r0 self a1 d2 g3) x7), f_s_l14Cube_x0_1 self a1 d2 g3 (getOne () (loopL (f_s_l14Cube_r0 self a1 d2 g3) x7)), f_s_l14Cube_x0_2 self a1 d2 g3 (getTwo () (loopL (f_s_l14Cube_r0 self a1 d2 g3) x7)))
  | _ => none
theorem f_s_l14Cube_tt0 (self : (List Sc × Int × Int) → Option (Bool)) (hs : ∀ a r, self a = some r → CS Try.prog 151 (f_s_l14Cube_a a.1 a.2.1 a.2.2) (f_s_l14Cube_i a.1 a.2.1 a.2.2) (f_s_l14Cube_en r).1 (f_s_l14Cube_en r).2) : TTrue Try.prog f_s_l14Cube_F Try.f151 0 (f_s_l14Cube_t0 self) := by
  intro σ p r r' h
  unfold f_s_l14Cube_t0 at h
  split at h
  · rename_i hd
    rw [← dec_enc hd]
    exact row2 (f_s_l14Cube_l0 self hs _ _ _ _) h
  · cases h
theorem f_s_l14Cube_p {R : Type} (self : (List Sc × Int × Int) → Option (Bool)) (g0 : List Sc) (a1 : Int) (d2 : Int) (kR : Bool → Option R) : f_s_l14Cube_k self g0 a1 d2 kR = (f_s_l14Cube_k self g0 a1 d2 some).bind kR := by
  simp only [f_s_l14Cube_k, brB, blB, someB]
theorem f_s_l14Cube_e (self : (List Sc × Int × Int) → Option (Bool)) (g0 : List Sc) (a1 : Int) (d2 : Int) : runFn E0 (f_s_l14Cube_M self) H0 f_s_l14Cube_F (asL (addL 0 (f_s_l14Cube_t0 self) (noL))) Try.f151 (f_s_l14Cube_a g0 a1 d2) (f_s_l14Cube_i g0 a1 d2) = f_s_l14Cube_k self g0 a1 d2 (fun r => some (f_s_l14Cube_en r)) := by kernel_rfl
theorem f_s_l14Cube_ks (self : (List Sc × Int × Int) → Option (Bool)) (hs : ∀ a r, self a = some r → CS Try.prog 151 (f_s_l14Cube_a a.1 a.2.1 a.2.2) (f_s_l14Cube_i a.1 a.2.1 a.2.2) (f_s_l14Cube_en r).1 (f_s_l14Cube_en r).2) (g0 : List Sc) (a1 : Int) (d2 : Int) (r : Bool) (h : f_s_l14Cube_k self g0 a1 d2 some = some r) : CS Try.prog 151 (f_s_l14Cube_a g0 a1 d2) (f_s_l14Cube_i g0 a1 d2) (f_s_l14Cube_en r).1 (f_s_l14Cube_en r).2 :=
  fn_true (Gk := fun k => f_s_l14Cube_k self g0 a1 d2 k) (en := f_s_l14Cube_en) Try.func151 E0ok (f_s_l14Cube_Mt self hs) (addL_true (f_s_l14Cube_tt0 self hs) (noL_true)) f_s_l14Cube_o (f_s_l14Cube_e self g0 a1 d2) (f_s_l14Cube_p self g0 a1 d2) h
theorem f_s_l14Cube_ns : ∀ n a r, f_s_l14Cube_n n a = some r → CS Try.prog 151 (f_s_l14Cube_a a.1 a.2.1 a.2.2) (f_s_l14Cube_i a.1 a.2.1 a.2.2) (f_s_l14Cube_en r).1 (f_s_l14Cube_en r).2
  | 0, _, _, h => by cases h
  | n + 1, a, r, h => f_s_l14Cube_ks (f_s_l14Cube_n n) (f_s_l14Cube_ns n) a.1 a.2.1 a.2.2 r h
theorem f_s_l14Cube_ok (g0 : List Sc) (a1 : Int) (d2 : Int) (r : Bool) (h : f_s_l14Cube g0 a1 d2 = some r) : CS Try.prog 151 (f_s_l14Cube_a g0 a1 d2) (f_s_l14Cube_i g0 a1 d2) (f_s_l14Cube_en r).1 (f_s_l14Cube_en r).2 := by
  obtain ⟨n, hn⟩ := limF_some h
  exact f_s_l14Cube_ns n _ r hn
def f_s_l14Cube_c : CRow := fun args inh => match dec2 [.p .gr, .p (.int .i64), .p (.int .i64)] [] args inh with
  | some ([.l g0, .i a1, .i d2], []) => some ((f_s_l14Cube g0 a1 d2).isSome, (f_s_l14Cube_en ((f_s_l14Cube g0 a1 d2).getD false)).1, (f_s_l14Cube_en ((f_s_l14Cube g0 a1 d2).getD false)).2)
  | _ => none
theorem f_s_l14Cube_cc : CTrue Try.prog 151 f_s_l14Cube_c := by
  intro args inh rs out h
  unfold f_s_l14Cube_c at h
  split at h
  · rename_i hd
    obtain ⟨h1, h2⟩ := dec2_enc hd
    rw [← h1, ← h2]
    exact rowC (f_s_l14Cube_ok _ _ _) h
  · cases h

def f_s_HasCube_F : Fi := { nv := 0, nc := 0, m := 0, vt := [], kl := [], sk := [], mvs := [], fz := [] }
def f_s_HasCube_a (g0 : List Sc) (a1 : Int) (d2 : Int) : List AV := enc [.p .gr, .p (.int .i64), .p (.int .i64)] [.l g0, .i a1, .i d2]
def f_s_HasCube_i (g0 : List Sc) (a1 : Int) (d2 : Int) : List AV := enc [] []
def f_s_HasCube_en (r : Bool) : List AV × List AV := (enc [.p .boo] [.b r], enc [] [])
def f_s_HasCube_M : Calling := addC 124 f_s_IsSet_c (addC 150 f_s_l1In_c (addC 151 f_s_l14Cube_c (noC)))
theorem f_s_HasCube_Mt : CallOk Try.prog (f_s_HasCube_M) := addC_true f_s_IsSet_cc (addC_true f_s_l1In_cc (addC_true f_s_l14Cube_cc (noC_true)))
theorem f_s_HasCube_o : loopsOnce Try.f41 = true := by kernel_rfl
theorem f_s_HasCube_p {R : Type} (g0 : List Sc) (a1 : Int) (d2 : Int) (kR : Bool → Option R) : f_s_HasCube_k g0 a1 d2 kR = (f_s_HasCube_k g0 a1 d2 some).bind kR := by
  simp only [f_s_HasCube_k, brB, boB, someB]
theorem f_s_HasCube_e (g0 : List Sc) (a1 : Int) (d2 : Int) : runFn E0 f_s_HasCube_M H0 f_s_HasCube_F (asL (noL)) Try.f41 (f_s_HasCube_a g0 a1 d2) (f_s_HasCube_i g0 a1 d2) = f_s_HasCube_k g0 a1 d2 (fun r => some (f_s_HasCube_en r)) := by kernel_rfl
theorem f_s_HasCube_ok (g0 : List Sc) (a1 : Int) (d2 : Int) (r : Bool) (h : f_s_HasCube g0 a1 d2 = some r) : CS Try.prog 41 (f_s_HasCube_a g0 a1 d2) (f_s_HasCube_i g0 a1 d2) (f_s_HasCube_en r).1 (f_s_HasCube_en r).2 :=
  fn_true (Gk := fun k => f_s_HasCube_k g0 a1 d2 k) (en := f_s_HasCube_en) Try.func41 E0ok f_s_HasCube_Mt (noL_true) f_s_HasCube_o (f_s_HasCube_e g0 a1 d2) (f_s_HasCube_p g0 a1 d2) h
def f_s_HasCube_c : CRow := fun args inh => match dec2 [.p .gr, .p (.int .i64), .p (.int .i64)] [] args inh with
  | some ([.l g0, .i a1, .i d2], []) => some ((f_s_HasCube g0 a1 d2).isSome, (f_s_HasCube_en ((f_s_HasCube g0 a1 d2).getD false)).1, (f_s_HasCube_en ((f_s_HasCube g0 a1 d2).getD false)).2)
  | _ => none
theorem f_s_HasCube_cc : CTrue Try.prog 41 f_s_HasCube_c := by
  intro args inh rs out h
  unfold f_s_HasCube_c at h
  split at h
  · rename_i hd
    obtain ⟨h1, h2⟩ := dec2_enc hd
    rw [← h1, ← h2]
    exact rowC (f_s_HasCube_ok _ _ _) h
  · cases h

def f_s_IsProperBox_F : Fi := { nv := 0, nc := 0, m := 0, vt := [], kl := [(0, ([0, 4, 5, 6, 9, 10, 11, 12, 13, 14, 15, 16, 17, 18, 19, 20, 21, 22, 23, 24, 25, 26, 27, 28, 29, 30, 31, 32, 33], [0, 4, 5, 6, 8, 9, 10, 11, 12, 13, 14, 15, 16, 17, 18, 19, 20, 21, 22, 23, 24, 25, 26, 27, 28, 29, 30, 31, 32, 33], [0, 1, 2, 3, 4, 5, 7, 8, 9, 10, 11, 12, 13, 14, 15, 16, 17, 18, 19, 20, 21, 22, 23, 24, 25, 26, 27, 28, 29, 30, 31, 32, 33]))], sk := [], mvs := [], fz := [] }
def f_s_IsProperBox_a (g0 : List Sc) (steps1 : List Sc) (sizes2 : List Sc) : List AV := enc [.p .gr, .p .sl, .p .sl] [.l g0, .l steps1, .l sizes2]
def f_s_IsProperBox_i (g0 : List Sc) (steps1 : List Sc) (sizes2 : List Sc) : List AV := enc [] []
def f_s_IsProperBox_en (r : Bool) : List AV × List AV := (enc [.p .boo] [.b r], enc [] [])
def f_s_IsProperBox_M : Calling := addC 146 f_s_l14Fine_c (addC 147 f_s_l14Box_c (addC 131 f_s_l3Bits_c (noC)))
theorem f_s_IsProperBox_Mt : CallOk Try.prog (f_s_IsProperBox_M) := addC_true f_s_l14Fine_cc (addC_true f_s_l14Box_cc (addC_true f_s_l3Bits_cc (noC_true)))
theorem f_s_IsProperBox_o : loopsOnce Try.f42 = true := by kernel_rfl
def f_s_IsProperBox_h0 : List Sh := [.u, .p .sl, .p .sl, .p .el, .u, .u, .u, .p (.int .i64), .p (.int .i64), .u, .u, .u, .u, .u, .u, .u, .u, .u, .u, .u, .u, .u, .u, .u, .u, .u, .u, .u, .u, .u, .u, .u, .u, .u]
def f_s_IsProperBox_fr0 (steps1 : List Sc) (sizes2 : List Sc) (g3 : List Sc) (s : Int × Int) : List AV := enc f_s_IsProperBox_h0 [.l steps1, .l sizes2, .l g3, .i s.1, .i s.2]
def f_s_IsProperBox_g0_1 : List Sh := [.u, .p .sl, .p .sl, .p .el, .u, .u, .u, .p (.int .i64), .u, .u, .u, .u, .u, .u, .u, .u, .u, .u, .u, .u, .u, .u, .u, .u, .u, .u, .u, .u, .u, .u, .u, .u, .u, .u]
def f_s_IsProperBox_x0_1 (steps1 : List Sc) (sizes2 : List Sc) (g3 : List Sc) (e : Int) : X × List AV := (.out 0, enc f_s_IsProperBox_g0_1 [.l steps1, .l sizes2, .l g3, .i e])
def f_s_IsProperBox_x0_2 (steps1 : List Sc) (sizes2 : List Sc) (g3 : List Sc) (_e : Unit) : X × List AV := (.ret, [])
theorem f_s_IsProperBox_p0 {R : Type} (steps1 : List Sc) (sizes2 : List Sc) (g3 : List Sc) (s : Int × Int) (kN : Int × Int → Option R) (kA : Int → Option R) (kB : Unit → Option R) : f_s_IsProperBox_k0 steps1 sizes2 g3 s.1 s.2 kN kA = (f_s_IsProperBox_r0 steps1 sizes2 g3 s).bind (Ro.el kN kA kB) := by
  simp only [f_s_IsProperBox_k0, f_s_IsProperBox_r0, brB, someB, noneB, Ro.el]
theorem f_s_IsProperBox_e0 (steps1 : List Sc) (sizes2 : List Sc) (g3 : List Sc) (s : Int × Int) : EC E0 f_s_IsProperBox_M H0 f_s_IsProperBox_F (asL (noL)) 0 (bodyOf Try.f42 0) (f_s_IsProperBox_fr0 steps1 sizes2 g3 s) (done (klOf f_s_IsProperBox_F 0)) = f_s_IsProperBox_k0 steps1 sizes2 g3 s.1 s.2 (fun s => some (.norm, f_s_IsProperBox_fr0 steps1 sizes2 g3 s)) (fun e => some (f_s_IsProperBox_x0_1 steps1 sizes2 g3 e)) := by kernel_rfl
theorem f_s_IsProperBox_l0 (steps1 : List Sc) (sizes2 : List Sc) (g3 : List Sc) : ∀ s r, loopL (f_s_IsProperBox_r0 steps1 sizes2 g3) s = some r → LS Try.prog f_s_IsProperBox_F (bodyOf Try.f42 0) (f_s_IsProperBox_fr0 steps1 sizes2 g3 s) (enX (f_s_IsProperBox_x0_1 steps1 sizes2 g3) (f_s_IsProperBox_x0_2 steps1 sizes2 g3) r) :=
  loop_true E0ok f_s_IsProperBox_Mt (noL_true) f_s_IsProperBox_o (fun _ h => by cases h) (fun _ h => by cases h) (fun s => (f_s_IsProperBox_e0 steps1 sizes2 g3 s).trans (f_s_IsProperBox_p0 steps1 sizes2 g3 s _ _ (fun e => some (f_s_IsProperBox_x0_2 steps1 sizes2 g3 e))))
def f_s_IsProperBox_t0 (σ : List AV) : Option (Bool × Bool × (X × List AV) × (X × List AV)) := match dec f_s_IsProperBox_h0 σ with
  | some [.l steps1, .l sizes2, .l g3, .i n7, .i i8] => some (isOne (loopL (f_s_IsProperBox_r0 steps1 sizes2 g3) (n7, i8)), true, f_s_IsProperBox_x0_1 steps1 sizes2 g3 (getOne 0 (loopL (f_s_IsProperBox_r0 steps1 sizes2 g3) (n7, i8))), (.ret, []))
  | _ => none
theorem f_s_IsProperBox_tt0 : TTrue Try.prog f_s_IsProperBox_F Try.f42 0 (f_s_IsProperBox_t0) := by
  intro σ p r r' h
  unfold f_s_IsProperBox_t0 at h
  split at h
  · rename_i hd
    rw [← dec_enc hd]
    exact row1 (f_s_IsProperBox_l0 _ _ _ _) h
  · cases h
theorem f_s_IsProperBox_p {R : Type} (g0 : List Sc) (steps1 : List Sc) (sizes2 : List Sc) (kR : Bool → Option R) : f_s_IsProperBox_k g0 steps1 sizes2 kR = (f_s_IsProperBox_k g0 steps1 sizes2 some).bind kR := by
  simp only [f_s_IsProperBox_k, brB, boB, bl1B, someB]
theorem f_s_IsProperBox_e (g0 : List Sc) (steps1 : List Sc) (sizes2 : List Sc) : runFn E0 f_s_IsProperBox_M H0 f_s_IsProperBox_F (asL (addL 0 (f_s_IsProperBox_t0) (noL))) Try.f42 (f_s_IsProperBox_a g0 steps1 sizes2) (f_s_IsProperBox_i g0 steps1 sizes2) = f_s_IsProperBox_k g0 steps1 sizes2 (fun r => some (f_s_IsProperBox_en r)) := by kernel_rfl
theorem f_s_IsProperBox_ok (g0 : List Sc) (steps1 : List Sc) (sizes2 : List Sc) (r : Bool) (h : f_s_IsProperBox g0 steps1 sizes2 = some r) : CS Try.prog 42 (f_s_IsProperBox_a g0 steps1 sizes2) (f_s_IsProperBox_i g0 steps1 sizes2) (f_s_IsProperBox_en r).1 (f_s_IsProperBox_en r).2 :=
  fn_true (Gk := fun k => f_s_IsProperBox_k g0 steps1 sizes2 k) (en := f_s_IsProperBox_en) Try.func42 E0ok f_s_IsProperBox_Mt (addL_true (f_s_IsProperBox_tt0) (noL_true)) f_s_IsProperBox_o (f_s_IsProperBox_e g0 steps1 sizes2) (f_s_IsProperBox_p g0 steps1 sizes2) h
def f_s_IsProperBox_c : CRow := fun args inh => match dec2 [.p .gr, .p .sl, .p .sl] [] args inh with
  | some ([.l g0, .l steps1, .l sizes2], []) => some ((f_s_IsProperBox g0 steps1 sizes2).isSome, (f_s_IsProperBox_en ((f_s_IsProperBox g0 steps1 sizes2).getD false)).1, (f_s_IsProperBox_en ((f_s_IsProperBox g0 steps1 sizes2).getD false)).2)
  | _ => none
theorem f_s_IsProperBox_cc : CTrue Try.prog 42 f_s_IsProperBox_c := by
  intro args inh rs out h
  unfold f_s_IsProperBox_c at h
  split at h
  · rename_i hd
    obtain ⟨h1, h2⟩ := dec2_enc hd
    rw [← h1, ← h2]
    exact rowC (f_s_IsProperBox_ok _ _ _) h
  · cases h

def f_l_FnBoxes_F : Fi := { nv := 15, nc := 4, m := 0, vt := [(3, 0), (13, 1), (20, 2), (27, 3), (35, 4), (41, 5), (48, 7), (115, 9), (135, 12), (155, 14)], kl := [(200008, ([1, 2, 3, 4, 5, 6, 7, 8, 9, 10, 11, 12, 13, 14, 16, 17, 20, 21, 25, 26, 27, 28, 29, 30, 31, 32, 33, 34, 35, 36, 37, 38, 39, 40, 41, 42, 43, 44, 45, 46, 47, 48, 49, 50, 51, 52, 53, 54, 55, 56, 57, 58, 59, 60, 61, 62, 63, 64, 65, 66, 67, 68, 69, 70, 71, 72, 73, 74, 75, 76, 77, 78, 79, 80, 81, 82, 83, 84, 85, 86, 87, 88, 89, 90, 91, 92, 93, 94, 95, 96, 97, 98, 99, 100, 101, 102, 103, 104, 105, 106, 107, 108, 109, 110, 111, 112, 113, 114, 115, 116, 117, 118, 119, 120, 121, 122, 123, 124, 125, 126, 127, 128, 129, 130, 131, 132, 133, 134, 135, 136, 137, 138, 139, 140, 141, 142, 143, 144, 145, 146, 147, 148, 149, 150, 151, 152, 153, 154, 155, 156, 157, 158, 159, 160, 161, 162, 163, 164, 165, 166, 167, 168, 169, 170, 171, 172, 173, 174, 175, 176, 177, 178, 179, 180, 181, 182, 183, 184, 185, 186, 187, 188, 189, 190, 191, 192, 193, 194, 195, 196, 197, 198, 199, 200, 201, 202, 203, 204, 205, 206, 207, 208, 209, 210, 211, 212, 213, 214, 215, 216, 217, 218, 219, 220, 221, 222, 223, 224, 225, 226, 227], [], [0, 1, 2, 3, 4, 5, 6, 7, 8, 9, 10, 11, 12, 13, 14, 15, 16, 18, 19, 20, 21, 22, 23, 24, 25, 26, 27, 28, 29, 30, 31, 32, 33, 34, 35, 36, 37, 38, 39, 40, 41, 42, 43, 44, 45, 46, 47, 48, 49, 50, 51, 52, 53, 54, 55, 56, 57, 58, 59, 60, 61, 62, 63, 64, 65, 66, 67, 68, 69, 70, 71, 72, 73, 74, 75, 76, 77, 78, 79, 80, 81, 82, 83, 84, 85, 86, 87, 88, 89, 90, 91, 92, 93, 94, 95, 96, 97, 98, 99, 100, 101, 102, 103, 104, 105, 106, 107, 108, 109, 110, 111, 112, 113, 114, 115, 116, 117, 118, 119, 120, 121, 122, 123, 124, 125, 126, 127, 128, 129, 130, 131, 132, 133, 134, 135, 136, 137, 138, 139, 140, 141, 142, 143, 144, 145, 146, 147, 148, 149, 150, 151, 152, 153, 154, 155, 156, 157, 158, 159, 160, 161, 162, 163, 164, 165, 166, 167, 168, 169, 170, 171, 172, 173, 174, 175, 176, 177, 178, 179, 180, 181, 182, 183, 184, 185, 186, 187, 188, 189, 190, 191, 192, 193, 194, 195, 196, 197, 198, 199, 200, 201, 202, 203, 204, 205, 206, 207, 208, 209, 210, 211, 212, 213, 214, 215, 216, 217, 218, 219, 220, 221, 222, 223, 224, 225, 226, 227])), (200003, ([0, 1, 2, 3, 4, 5, 6, 7, 8, 9, 10, 11, 12, 13, 14, 16, 17, 18, 19, 20, 21, 22, 23, 24, 25, 26, 27, 28, 29, 30, 31, 32, 33, 34, 35, 36, 37, 38, 39, 40, 41, 42, 43, 44, 45, 46, 47, 48, 49, 50, 51, 52, 53, 54, 55, 56, 57, 58, 59, 60, 61, 62, 63, 64, 65, 66, 67, 68, 69, 70, 71, 72, 73, 74, 75, 76, 77, 78, 79, 80, 81, 82, 83, 84, 85, 86, 87, 88, 89, 90, 91, 92, 93, 94, 95, 96, 97, 98, 99, 100, 101, 102, 103, 104, 105, 106, 107, 108, 109, 110, 111, 112, 113, 114, 115, 116, 117, 118, 119, 120, 121, 122, 123, 124, 125, 126, 127, 128, 129, 130, 131, 132, 133, 134, 135, 136, 137, 138, 139, 140, 141, 142, 143, 144, 145, 146, 147, 148, 149, 150, 151, 152, 153, 154, 155, 156, 157, 158, 159, 160, 161, 162, 163, 164, 165, 166, 167, 168, 169, 170, 171, 172, 173, 174, 175, 176, 177, 178, 179, 180, 181, 182, 183, 184, 185, 186, 187, 188, 189, 190, 191, 192, 193, 194, 195, 196, 197, 198, 199, 200, 201, 202, 203, 204, 205, 206, 207, 208, 209, 210, 211, 212, 213, 214, 215, 216, 217, 218, 219, 220, 221, 222, 223, 224, 225, 226, 227], [], [0, 1, 2, 3, 4, 5, 6, 7, 8, 9, 10, 11, 12, 13, 14, 15, 16, 18, 19, 20, 21, 22, 23, 24, 25, 26, 27, 28, 29, 30, 31, 32, 33, 34, 35, 36, 37, 38, 39, 40, 41, 42, 43, 44, 45, 46, 47, 48, 49, 50, 51, 52, 53, 54, 55, 56, 57, 58, 59, 60, 61, 62, 63, 64, 65, 66, 67, 68, 69, 70, 71, 72, 73, 74, 75, 76, 77, 78, 79, 80, 81, 82, 83, 84, 85, 86, 87, 88, 89, 90, 91, 92, 93, 94, 95, 96, 97, 98, 99, 100, 101, 102, 103, 104, 105, 106, 107, 108, 109, 110, 111, 112, 113, 114, 115, 116, 117, 118, 119, 120, 121, 122, 123, 124, 125, 126, 127, 128, 129, 130, 131, 132, 133, 134, 135, 136, 137, 138, 139, 140, 141, 142, 143, 144, 145, 146, 147, 148, 149, 150, 151, 152, 153, 154, 155, 156, 157, 158, 159, 160, 161, 162, 163, 164, 165, 166, 167, 168, 169, 170, 171, 172, 173, 174, 175, 176, 177, 178, 179, 180, 181, 182, 183, 184, 185, 186, 187, 188, 189, 190, 191, 192, 193, 194, 195, 196, 197, 198, 199, 200, 201, 202, 203, 204, 205, 206, 207, 208, 209, 210, 211, 212, 213, 214, 215, 216, 217, 218, 219, 220, 221, 222, 223, 224, 225, 226, 227])), (200012, ([0, 1, 2, 3, 4, 5, 6, 7, 8, 9, 10, 11, 12, 13, 14, 16, 17, 18, 19, 20, 21, 22, 23, 24, 25, 26, 27, 28, 29, 30, 31, 32, 33, 34, 35, 36, 37, 38, 39, 40, 41, 42, 43, 44, 45, 46, 47, 48, 49, 50, 51, 52, 53, 54, 55, 56, 57, 58, 59, 60, 61, 62, 63, 64, 65, 66, 67, 68, 69, 70, 71, 72, 73, 74, 75, 76, 77, 78, 79, 80, 81, 82, 83, 84, 85, 86, 87, 88, 89, 90, 91, 92, 93, 94, 95, 96, 97, 98, 99, 100, 101, 102, 103, 104, 105, 106, 107, 108, 109, 110, 111, 112, 113, 114, 115, 116, 117, 118, 119, 120, 121, 122, 123, 124, 125, 126, 127, 128, 129, 130, 131, 132, 133, 134, 135, 136, 137, 138, 139, 140, 141, 142, 143, 144, 145, 146, 147, 148, 149, 150, 151, 152, 153, 154, 155, 156, 157, 158, 159, 160, 161, 162, 163, 164, 165, 166, 167, 168, 169, 170, 171, 172, 173, 174, 175, 176, 177, 178, 179, 180, 181, 182, 183, 184, 185, 186, 187, 188, 189, 190, 191, 192, 193, 194, 195, 196, 197, 198, 199, 200, 201, 202, 203, 204, 205, 206, 207, 208, 209, 210, 211, 212, 213, 214, 215, 216, 217, 218, 219, 220, 221, 222, 223, 224, 225, 226, 227], [], [0, 1, 2, 3, 4, 5, 6, 7, 8, 9, 10, 11, 12, 13, 14, 15, 16, 18, 19, 20, 21, 22, 23, 24, 25, 26, 27, 28, 29, 30, 31, 32, 33, 34, 35, 36, 37, 38, 39, 40, 41, 42, 43, 44, 45, 46, 47, 48, 49, 50, 51, 52, 53, 54, 55, 56, 57, 58, 59, 60, 61, 62, 63, 64, 65, 66, 67, 68, 69, 70, 71, 72, 73, 74, 75, 76, 77, 78, 79, 80, 81, 82, 83, 84, 85, 86, 87, 88, 89, 90, 91, 92, 93, 94, 95, 96, 97, 98, 99, 100, 101, 102, 103, 104, 105, 106, 107, 108, 109, 110, 111, 112, 113, 114, 115, 116, 117, 118, 119, 120, 121, 122, 123, 124, 125, 126, 127, 128, 129, 130, 131, 132, 133, 134, 135, 136, 137, 138, 139, 140, 141, 142, 143, 144, 145, 146, 147, 148, 149, 150, 151, 152, 153, 154, 155, 156, 157, 158, 159, 160, 161, 162, 163, 164, 165, 166, 167, 168, 169, 170, 171, 172, 173, 174, 175, 176, 177, 178, 179, 180, 181, 182, 183, 184, 185, 186, 187, 188, 189, 190, 191, 192, 193, 194, 195, 196, 197, 198, 199, 200, 201, 202, 203, 204, 205, 206, 207, 208, 209, 210, 211, 212, 213, 214, 215, 216, 217, 218, 219, 220, 221, 222, 223, 224, 225, 226, 227])), (200022, ([0, 2, 3, 4, 5, 6, 7, 8, 9, 10, 11, 12, 13, 14, 15, 16, 17, 18, 19, 20, 21, 22, 23, 24, 25, 26, 27, 35, 36, 37, 42, 43, 44, 45, 46, 47, 48, 49, 50, 51, 52, 53, 54, 55, 56, 57, 58, 59, 60, 61, 62, 63, 64, 65, 66, 67, 68, 69, 70, 71, 72, 73, 74, 75, 76, 77, 78, 79, 80, 81, 82, 83, 84, 85, 86, 87, 88, 89, 90, 91, 92, 93, 94, 95, 96, 97, 98, 99, 100, 101, 102, 103, 104, 105, 106, 107, 108, 109, 110, 111, 112, 113, 114, 115, 116, 117, 118, 119, 120, 121, 122, 123, 124, 125, 126, 127, 128, 129, 130, 131, 132, 133, 134, 135, 136, 137, 138, 139, 140, 141, 142, 143, 144, 145, 146, 147, 148, 149, 150, 151, 152, 153, 154, 155, 156, 157, 158, 159, 160, 161, 162, 163, 164, 165, 166, 167, 168, 169, 170, 171, 172, 173, 174, 175, 176, 177, 178, 179, 180, 181, 182, 183, 184, 185, 186, 187, 188, 189, 190, 191, 192, 193, 194, 195, 196, 197, 198, 199, 200, 201, 202, 203, 204, 205, 206, 207, 208, 209, 210, 211, 212, 213, 214, 215, 216, 217, 218, 219, 220, 221, 222, 223, 224, 225, 226, 227], [], [0, 1, 2, 3, 4, 5, 6, 7, 8, 9, 10, 11, 12, 13, 14, 15, 16, 18, 19, 20, 21, 22, 23, 24, 25, 26, 27, 28, 29, 30, 31, 32, 33, 34, 35, 36, 37, 38, 39, 40, 41, 42, 43, 44, 45, 46, 47, 48, 49, 50, 51, 52, 53, 54, 55, 56, 57, 58, 59, 60, 61, 62, 63, 64, 65, 66, 67, 68, 69, 70, 71, 72, 73, 74, 75, 76, 77, 78, 79, 80, 81, 82, 83, 84, 85, 86, 87, 88, 89, 90, 91, 92, 93, 94, 95, 96, 97, 98, 99, 100, 101, 102, 103, 104, 105, 106, 107, 108, 109, 110, 111, 112, 113, 114, 115, 116, 117, 118, 119, 120, 121, 122, 123, 124, 125, 126, 127, 128, 129, 130, 131, 132, 133, 134, 135, 136, 137, 138, 139, 140, 141, 142, 143, 144, 145, 146, 147, 148, 149, 150, 151, 152, 153, 154, 155, 156, 157, 158, 159, 160, 161, 162, 163, 164, 165, 166, 167, 168, 169, 170, 171, 172, 173, 174, 175, 176, 177, 178, 179, 180, 181, 182, 183, 184, 185, 186, 187, 188, 189, 190, 191, 192, 193, 194, 195, 196, 197, 198, 199, 200, 201, 202, 203, 204, 205, 206, 207, 208, 209, 210, 211, 212, 213, 214, 215, 216, 217, 218, 219, 220, 221, 222, 223, 224, 225, 226, 227]))], sk := [], mvs := [4, 5, 6, 7, 8, 9, 10, 11, 12, 13, 14], fz := [], tl := [3, 8, 12, 22] }
def f_l_FnBoxes_a (L0 : List Sc) : List AV := enc [.p .sl] [.l L0]
def f_l_FnBoxes_i (L0 : List Sc) : List AV := enc [] []
def f_l_FnBoxes_en (r : Bool) : List AV × List AV := (enc [.p .boo] [.b r], enc [] [])
def f_l_FnBoxes_M : Calling := addC 9 f_l_big_c (addC 28 f_s_DrawFindBox_c (addC 29 f_i_FindBox_c (addC 30 f_s_FindBox_c (addC 24 f_l_sameInts_c (addC 31 f_i_IsBox_c (addC 32 f_i_BoxOf_c (addC 33 f_i_IsProperBox_c (addC 18 f_s_CountSet_c (addC 34 f_s_DrawBoxOf_c (addC 35 f_s_BoxOf_c (addC 36 f_s_DrawCubeOf_c (addC 37 f_i_CubeOf_c (addC 38 f_s_CubeOf_c (addC 39 f_s_DrawHasCube_c (addC 40 f_i_HasCube_c (addC 41 f_s_HasCube_c (addC 42 f_s_IsProperBox_c (noC))))))))))))))))))
theorem f_l_FnBoxes_Mt : CallOk Try.prog (f_l_FnBoxes_M) := addC_true f_l_big_cc (addC_true f_s_DrawFindBox_cc (addC_true f_i_FindBox_cc (addC_true f_s_FindBox_cc (addC_true f_l_sameInts_cc (addC_true f_i_IsBox_cc (addC_true f_i_BoxOf_cc (addC_true f_i_IsProperBox_cc (addC_true f_s_CountSet_cc (addC_true f_s_DrawBoxOf_cc (addC_true f_s_BoxOf_cc (addC_true f_s_DrawCubeOf_cc (addC_true f_i_CubeOf_cc (addC_true f_s_CubeOf_cc (addC_true f_s_DrawHasCube_cc (addC_true f_i_HasCube_cc (addC_true f_s_HasCube_cc (addC_true f_s_IsProperBox_cc (noC_true))))))))))))))))))
theorem f_l_FnBoxes_o : loopsOnce Try.f4 = true := by kernel_rfl
def f_l_FnBoxes_hw22 : List Sh := [.u, .own 3, .u, .u, .u, .u, .u, .u, .u, .u, .u, .u, .u, .u, .u, .u, .u, .u, .u, .u, .u, .u, .u, .u, .u, .u, .u, .u, .p (.pt 1 1), .own 3, .own 3, .p (.int .i64), .p .boo, .p (.int .i64), .p .boo, .u, .u, .u, .p (.int .i64), .p .boo, .p (.int .i64), .p .boo, .u, .u, .u, .u, .u, .u, .u, .u, .u, .u, .u, .u, .u, .u, .u, .u, .u, .u, .u, .u, .u, .u, .u, .u, .u, .u, .u, .u, .u, .u, .u, .u, .u, .u, .u, .u, .u, .u, .u, .u, .u, .u, .u, .u, .u, .u, .u, .u, .u, .u, .u, .u, .u, .u, .u, .u, .u, .u, .u, .u, .u, .u, .u, .u, .u, .u, .u, .u, .u, .u, .u, .u, .u, .u, .u, .u, .u, .u, .u, .u, .u, .u, .u, .u, .u, .u, .u, .u, .u, .u, .u, .u, .u, .u, .u, .u, .u, .u, .u, .u, .u, .u, .u, .u, .u, .u, .u, .u, .u, .u, .u, .u, .u, .u, .u, .u, .u, .u, .u, .u, .u, .u, .u, .u, .u, .u, .u, .u, .u, .u, .u, .u, .u, .u, .u, .u, .u, .u, .u, .u, .u, .u, .u, .u, .u, .u, .u, .u, .u, .u, .u, .u, .u, .u, .u, .u, .u, .u, .u, .u, .u, .u, .u, .u, .u, .u, .u, .u, .u, .u, .u, .u, .u, .u, .u, .u, .u, .u, .u, .u, .u, .u, .u, .u, .u, .u]
def f_l_FnBoxes_frw22 (v1 : List Sc) (t14 : List Sc) (t15 : List Sc) (t16 : Int) (t17 : Bool) (t18 : Int) (t19 : Bool) (t23 : Int) (t24 : Bool) (t25 : Int) (t26 : Bool) : List AV := enc f_l_FnBoxes_hw22 [.l v1, .l t14, .l t15, .i t16, .b t17, .i t18, .b t19, .i t23, .b t24, .i t25, .b t26]
def f_l_FnBoxes_xw22 (v1 : List Sc) (t14 : List Sc) (t15 : List Sc) (t16 : Int) (t17 : Bool) (t18 : Int) (t19 : Bool) (t23 : Int) (t24 : Bool) (t25 : Int) (t26 : Bool) (e : Bool) : X × List AV := (.norm, enc [.u, .u, .u, .u, .u, .u, .u, .u, .u, .u, .u, .u, .u, .u, .u, .u, .u, .p .boo, .u, .u, .u, .u, .u, .u, .u, .u, .u, .u, .u, .u, .u, .u, .u, .u, .u, .u, .u, .u, .u, .u, .u, .u, .u, .u, .u, .u, .u, .u, .u, .u, .u, .u, .u, .u, .u, .u, .u, .u, .u, .u, .u, .u, .u, .u, .u, .u, .u, .u, .u, .u, .u, .u, .u, .u, .u, .u, .u, .u, .u, .u, .u, .u, .u, .u, .u, .u, .u, .u, .u, .u, .u, .u, .u, .u, .u, .u, .u, .u, .u, .u, .u, .u, .u, .u, .u, .u, .u, .u, .u, .u, .u, .u, .u, .u, .u, .u, .u, .u, .u, .u, .u, .u, .u, .u, .u, .u, .u, .u, .u, .u, .u, .u, .u, .u, .u, .u, .u, .u, .u, .u, .u, .u, .u, .u, .u, .u, .u, .u, .u, .u, .u, .u, .u, .u, .u, .u, .u, .u, .u, .u, .u, .u, .u, .u, .u, .u, .u, .u, .u, .u, .u, .u, .u, .u, .u, .u, .u, .u, .u, .u, .u, .u, .u, .u, .u, .u, .u, .u, .u, .u, .u, .u, .u, .u, .u, .u, .u, .u, .u, .u, .u, .u, .u, .u, .u, .u, .u, .u, .u, .u, .u, .u, .u, .u, .u, .u, .u, .u, .u, .u, .u, .u, .u, .u, .u, .u, .u, .u] [.b e])
theorem f_l_FnBoxes_pw22 {R : Type} (v1 : List Sc) (t14 : List Sc) (t15 : List Sc) (t16 : Int) (t17 : Bool) (t18 : Int) (t19 : Bool) (t23 : Int) (t24 : Bool) (t25 : Int) (t26 : Bool) (kA : Bool → Option R) : f_l_FnBoxes_w22_k v1 t14 t15 t16 t17 t18 t19 t23 t24 t25 t26 kA = (f_l_FnBoxes_w22 v1 t14 t15 t16 t17 t18 t19 t23 t24 t25 t26).bind kA := by
  simp only [f_l_FnBoxes_w22_k, f_l_FnBoxes_w22, brB, boB, someB]
theorem f_l_FnBoxes_bw22 : bodyOf Try.f4 200022 = .block 0 (codeIn (bodyOf Try.f4 200022)) := by kernel_rfl
theorem f_l_FnBoxes_ew22 (v1 : List Sc) (t14 : List Sc) (t15 : List Sc) (t16 : Int) (t17 : Bool) (t18 : Int) (t19 : Bool) (t23 : Int) (t24 : Bool) (t25 : Int) (t26 : Bool) : EC E0 f_l_FnBoxes_M H0 f_l_FnBoxes_F (asL (noL)) 0 (codeIn (bodyOf Try.f4 200022)) (f_l_FnBoxes_frw22 v1 t14 t15 t16 t17 t18 t19 t23 t24 t25 t26) (doneT (klOf f_l_FnBoxes_F 200022).2.2) = f_l_FnBoxes_w22_k v1 t14 t15 t16 t17 t18 t19 t23 t24 t25 t26 (fun e => some (f_l_FnBoxes_xw22 v1 t14 t15 t16 t17 t18 t19 t23 t24 t25 t26 e)) := by kernel_rfl
theorem f_l_FnBoxes_lw22 (v1 : List Sc) (t14 : List Sc) (t15 : List Sc) (t16 : Int) (t17 : Bool) (t18 : Int) (t19 : Bool) (t23 : Int) (t24 : Bool) (t25 : Int) (t26 : Bool) (r : Bool) (h : f_l_FnBoxes_w22 v1 t14 t15 t16 t17 t18 t19 t23 t24 t25 t26 = some r) : LS Try.prog f_l_FnBoxes_F (bodyOf Try.f4 200022) (f_l_FnBoxes_frw22 v1 t14 t15 t16 t17 t18 t19 t23 t24 t25 t26) (f_l_FnBoxes_xw22 v1 t14 t15 t16 t17 t18 t19 t23 t24 t25 t26 r) :=
  tail_true (S := Unit) (id := 22) (G := fun _ => f_l_FnBoxes_w22 v1 t14 t15 t16 t17 t18 t19 t23 t24 t25 t26) (Gk := fun _ k => f_l_FnBoxes_w22_k v1 t14 t15 t16 t17 t18 t19 t23 t24 t25 t26 k) (fr := fun _ => f_l_FnBoxes_frw22 v1 t14 t15 t16 t17 t18 t19 t23 t24 t25 t26) (f1 := fun e => f_l_FnBoxes_xw22 v1 t14 t15 t16 t17 t18 t19 t23 t24 t25 t26 e) E0ok f_l_FnBoxes_Mt (noL_true) f_l_FnBoxes_o f_l_FnBoxes_bw22 (fun _ => rfl) (fun _ => f_l_FnBoxes_ew22 v1 t14 t15 t16 t17 t18 t19 t23 t24 t25 t26) (fun _ k => f_l_FnBoxes_pw22 v1 t14 t15 t16 t17 t18 t19 t23 t24 t25 t26 k) () r h
def f_l_FnBoxes_tw22 (σ : List AV) : Option (Bool × Bool × (X × List AV) × (X × List AV)) := match dec f_l_FnBoxes_hw22 σ with
  | some [.l v1, .l t14, .l t15, .i t16, .b t17, .i t18, .b t19, .i t23, .b t24, .i t25, .b t26] => some ((f_l_FnBoxes_w22 v1 t14 t15 t16 t17 t18 t19 t23 t24 t25 t26).isSome, true, f_l_FnBoxes_xw22 v1 t14 t15 t16 t17 t18 t19 t23 t24 t25 t26 ((f_l_FnBoxes_w22 v1 t14 t15 t16 t17 t18 t19 t23 t24 t25 t26).getD false), (.ret, []))
  | _ => none
theorem f_l_FnBoxes_ttw22 : TTrue Try.prog f_l_FnBoxes_F Try.f4 200022 f_l_FnBoxes_tw22 := by
  intro σ p r r' h
  unfold f_l_FnBoxes_tw22 at h
  split at h
  · rename_i hd
    rw [← dec_enc hd]
    exact rowR (f_l_FnBoxes_lw22 _ _ _ _ _ _ _ _ _ _ _) h
  · cases h
def f_l_FnBoxes_hw12 : List Sh := [.u, .u, .u, .u, .u, .u, .u, .u, .u, .u, .u, .u, .u, .u, .u, .p .sl, .u, .u, .u, .u, .u, .u, .u, .u, .u, .u, .u, .u, .u, .u, .u, .u, .u, .u, .u, .u, .u, .u, .u, .u, .u, .u, .u, .u, .u, .u, .u, .u, .u, .u, .u, .u, .u, .u, .u, .u, .u, .u, .u, .u, .u, .u, .u, .u, .u, .u, .u, .u, .u, .u, .u, .u, .u, .u, .u, .u, .u, .u, .u, .u, .u, .u, .u, .u, .u, .u, .u, .u, .u, .u, .u, .u, .u, .u, .u, .u, .u, .u, .u, .u, .u, .u, .u, .u, .u, .u, .u, .u, .u, .u, .u, .u, .u, .u, .u, .u, .u, .u, .u, .u, .u, .u, .u, .u, .u, .u, .u, .u, .u, .u, .u, .u, .u, .u, .u, .u, .u, .u, .u, .u, .u, .u, .u, .u, .u, .u, .u, .u, .u, .u, .u, .u, .u, .u, .u, .u, .u, .u, .u, .u, .u, .u, .u, .u, .u, .u, .u, .u, .u, .u, .u, .u, .u, .u, .u, .u, .u, .u, .u, .u, .u, .u, .u, .u, .u, .u, .u, .u, .u, .u, .u, .u, .u, .u, .u, .u, .u, .u, .u, .u, .u, .u, .u, .u, .u, .u, .u, .u, .u, .u, .u, .u, .u, .u, .u, .u, .u, .u, .u, .u, .u, .u, .u, .u, .u, .u, .u, .u]
def f_l_FnBoxes_frw12 (t0 : List Sc) : List AV := enc f_l_FnBoxes_hw12 [.l t0]
def f_l_FnBoxes_xw12 (t0 : List Sc) (e : Bool) : X × List AV := (.norm, enc [.u, .u, .u, .u, .u, .u, .u, .u, .u, .u, .u, .u, .u, .u, .u, .u, .u, .p .boo, .u, .u, .u, .u, .u, .u, .u, .u, .u, .u, .u, .u, .u, .u, .u, .u, .u, .u, .u, .u, .u, .u, .u, .u, .u, .u, .u, .u, .u, .u, .u, .u, .u, .u, .u, .u, .u, .u, .u, .u, .u, .u, .u, .u, .u, .u, .u, .u, .u, .u, .u, .u, .u, .u, .u, .u, .u, .u, .u, .u, .u, .u, .u, .u, .u, .u, .u, .u, .u, .u, .u, .u, .u, .u, .u, .u, .u, .u, .u, .u, .u, .u, .u, .u, .u, .u, .u, .u, .u, .u, .u, .u, .u, .u, .u, .u, .u, .u, .u, .u, .u, .u, .u, .u, .u, .u, .u, .u, .u, .u, .u, .u, .u, .u, .u, .u, .u, .u, .u, .u, .u, .u, .u, .u, .u, .u, .u, .u, .u, .u, .u, .u, .u, .u, .u, .u, .u, .u, .u, .u, .u, .u, .u, .u, .u, .u, .u, .u, .u, .u, .u, .u, .u, .u, .u, .u, .u, .u, .u, .u, .u, .u, .u, .u, .u, .u, .u, .u, .u, .u, .u, .u, .u, .u, .u, .u, .u, .u, .u, .u, .u, .u, .u, .u, .u, .u, .u, .u, .u, .u, .u, .u, .u, .u, .u, .u, .u, .u, .u, .u, .u, .u, .u, .u, .u, .u, .u, .u, .u, .u] [.b e])
theorem f_l_FnBoxes_pw12 {R : Type} (t0 : List Sc) (kA : Bool → Option R) : f_l_FnBoxes_w12_k t0 kA = (f_l_FnBoxes_w12 t0).bind kA := by
  simp only [f_l_FnBoxes_w12_k, f_l_FnBoxes_w12, brB, boB, someB]
theorem f_l_FnBoxes_bw12 : bodyOf Try.f4 200012 = .block 0 (codeIn (bodyOf Try.f4 200012)) := by kernel_rfl
theorem f_l_FnBoxes_ew12 (t0 : List Sc) : EC E0 f_l_FnBoxes_M H0 f_l_FnBoxes_F (asL (addL 200022 f_l_FnBoxes_tw22 (noL))) 0 (codeIn (bodyOf Try.f4 200012)) (f_l_FnBoxes_frw12 t0) (doneT (klOf f_l_FnBoxes_F 200012).2.2) = f_l_FnBoxes_w12_k t0 (fun e => some (f_l_FnBoxes_xw12 t0 e)) := by kernel_rfl
theorem f_l_FnBoxes_lw12 (t0 : List Sc) (r : Bool) (h : f_l_FnBoxes_w12 t0 = some r) : LS Try.prog f_l_FnBoxes_F (bodyOf Try.f4 200012) (f_l_FnBoxes_frw12 t0) (f_l_FnBoxes_xw12 t0 r) :=
  tail_true (S := Unit) (id := 12) (G := fun _ => f_l_FnBoxes_w12 t0) (Gk := fun _ k => f_l_FnBoxes_w12_k t0 k) (fr := fun _ => f_l_FnBoxes_frw12 t0) (f1 := fun e => f_l_FnBoxes_xw12 t0 e) E0ok f_l_FnBoxes_Mt (addL_true f_l_FnBoxes_ttw22 (noL_true)) f_l_FnBoxes_o f_l_FnBoxes_bw12 (fun _ => rfl) (fun _ => f_l_FnBoxes_ew12 t0) (fun _ k => f_l_FnBoxes_pw12 t0 k) () r h
def f_l_FnBoxes_tw12 (σ : List AV) : Option (Bool × Bool × (X × List AV) × (X × List AV)) := match dec f_l_FnBoxes_hw12 σ with
  | some [.l t0] => some ((f_l_FnBoxes_w12 t0).isSome, true, f_l_FnBoxes_xw12 t0 ((f_l_FnBoxes_w12 t0).getD false), (.ret, []))
  | _ => none
theorem f_l_FnBoxes_ttw12 : TTrue Try.prog f_l_FnBoxes_F Try.f4 200012 f_l_FnBoxes_tw12 := by
  intro σ p r r' h
  unfold f_l_FnBoxes_tw12 at h
  split at h
  · rename_i hd
    rw [← dec_enc hd]
    exact rowR (f_l_FnBoxes_lw12 _) h
  · cases h
def f_l_FnBoxes_hw8 : List Sh := [.own 3, .u, .u, .u, .u, .u, .u, .u, .u, .u, .u, .u, .u, .u, .u, .p .sl, .u, .u, .p (.pt 0 1), .p (.int .i64), .u, .u, .p .boo, .own 3, .own 3, .u, .u, .u, .u, .u, .u, .u, .u, .u, .u, .u, .u, .u, .u, .u, .u, .u, .u, .u, .u, .u, .u, .u, .u, .u, .u, .u, .u, .u, .u, .u, .u, .u, .u, .u, .u, .u, .u, .u, .u, .u, .u, .u, .u, .u, .u, .u, .u, .u, .u, .u, .u, .u, .u, .u, .u, .u, .u, .u, .u, .u, .u, .u, .u, .u, .u, .u, .u, .u, .u, .u, .u, .u, .u, .u, .u, .u, .u, .u, .u, .u, .u, .u, .u, .u, .u, .u, .u, .u, .u, .u, .u, .u, .u, .u, .u, .u, .u, .u, .u, .u, .u, .u, .u, .u, .u, .u, .u, .u, .u, .u, .u, .u, .u, .u, .u, .u, .u, .u, .u, .u, .u, .u, .u, .u, .u, .u, .u, .u, .u, .u, .u, .u, .u, .u, .u, .u, .u, .u, .u, .u, .u, .u, .u, .u, .u, .u, .u, .u, .u, .u, .u, .u, .u, .u, .u, .u, .u, .u, .u, .u, .u, .u, .u, .u, .u, .u, .u, .u, .u, .u, .u, .u, .u, .u, .u, .u, .u, .u, .u, .u, .u, .u, .u, .u, .u, .u, .u, .u, .u, .u, .u, .u, .u, .u, .u, .u, .u, .u, .u, .u, .u, .u]
def f_l_FnBoxes_frw8 (v0 : List Sc) (t0 : List Sc) (t4 : Int) (t7 : Bool) (t8 : List Sc) (t9 : List Sc) : List AV := enc f_l_FnBoxes_hw8 [.l v0, .l t0, .i t4, .b t7, .l t8, .l t9]
def f_l_FnBoxes_xw8 (v0 : List Sc) (t0 : List Sc) (t4 : Int) (t7 : Bool) (t8 : List Sc) (t9 : List Sc) (e : Bool) : X × List AV := (.norm, enc [.u, .u, .u, .u, .u, .u, .u, .u, .u, .u, .u, .u, .u, .u, .u, .u, .u, .p .boo, .u, .u, .u, .u, .u, .u, .u, .u, .u, .u, .u, .u, .u, .u, .u, .u, .u, .u, .u, .u, .u, .u, .u, .u, .u, .u, .u, .u, .u, .u, .u, .u, .u, .u, .u, .u, .u, .u, .u, .u, .u, .u, .u, .u, .u, .u, .u, .u, .u, .u, .u, .u, .u, .u, .u, .u, .u, .u, .u, .u, .u, .u, .u, .u, .u, .u, .u, .u, .u, .u, .u, .u, .u, .u, .u, .u, .u, .u, .u, .u, .u, .u, .u, .u, .u, .u, .u, .u, .u, .u, .u, .u, .u, .u, .u, .u, .u, .u, .u, .u, .u, .u, .u, .u, .u, .u, .u, .u, .u, .u, .u, .u, .u, .u, .u, .u, .u, .u, .u, .u, .u, .u, .u, .u, .u, .u, .u, .u, .u, .u, .u, .u, .u, .u, .u, .u, .u, .u, .u, .u, .u, .u, .u, .u, .u, .u, .u, .u, .u, .u, .u, .u, .u, .u, .u, .u, .u, .u, .u, .u, .u, .u, .u, .u, .u, .u, .u, .u, .u, .u, .u, .u, .u, .u, .u, .u, .u, .u, .u, .u, .u, .u, .u, .u, .u, .u, .u, .u, .u, .u, .u, .u, .u, .u, .u, .u, .u, .u, .u, .u, .u, .u, .u, .u, .u, .u, .u, .u, .u, .u] [.b e])
theorem f_l_FnBoxes_pw8 {R : Type} (v0 : List Sc) (t0 : List Sc) (t4 : Int) (t7 : Bool) (t8 : List Sc) (t9 : List Sc) (kA : Bool → Option R) : f_l_FnBoxes_w8_k v0 t0 t4 t7 t8 t9 kA = (f_l_FnBoxes_w8 v0 t0 t4 t7 t8 t9).bind kA := by
  simp only [f_l_FnBoxes_w8_k, f_l_FnBoxes_w8, brB, boB, someB, noneB]
theorem f_l_FnBoxes_bw8 : bodyOf Try.f4 200008 = .block 0 (codeIn (bodyOf Try.f4 200008)) := by kernel_rfl
theorem f_l_FnBoxes_ew8 (v0 : List Sc) (t0 : List Sc) (t4 : Int) (t7 : Bool) (t8 : List Sc) (t9 : List Sc) : EC E0 f_l_FnBoxes_M H0 f_l_FnBoxes_F (asL (addL 200012 f_l_FnBoxes_tw12 (addL 200022 f_l_FnBoxes_tw22 (noL)))) 0 (codeIn (bodyOf Try.f4 200008)) (f_l_FnBoxes_frw8 v0 t0 t4 t7 t8 t9) (doneT (klOf f_l_FnBoxes_F 200008).2.2) = f_l_FnBoxes_w8_k v0 t0 t4 t7 t8 t9 (fun e => some (f_l_FnBoxes_xw8 v0 t0 t4 t7 t8 t9 e)) := by kernel_rfl
theorem f_l_FnBoxes_lw8 (v0 : List Sc) (t0 : List Sc) (t4 : Int) (t7 : Bool) (t8 : List Sc) (t9 : List Sc) (r : Bool) (h : f_l_FnBoxes_w8 v0 t0 t4 t7 t8 t9 = some r) : LS Try.prog f_l_FnBoxes_F (bodyOf Try.f4 200008) (f_l_FnBoxes_frw8 v0 t0 t4 t7 t8 t9) (f_l_FnBoxes_xw8 v0 t0 t4 t7 t8 t9 r) :=
  tail_true (S := Unit) (id := 8) (G := fun _ => f_l_FnBoxes_w8 v0 t0 t4 t7 t8 t9) (Gk := fun _ k => f_l_FnBoxes_w8_k v0 t0 t4 t7 t8 t9 k) (fr := fun _ => f_l_FnBoxes_frw8 v0 t0 t4 t7 t8 t9) (f1 := fun e => f_l_FnBoxes_xw8 v0 t0 t4 t7 t8 t9 e) E0ok f_l_FnBoxes_Mt (addL_true f_l_FnBoxes_ttw12 (addL_true f_l_FnBoxes_ttw22 (noL_true))) f_l_FnBoxes_o f_l_FnBoxes_bw8 (fun _ => rfl) (fun _ => f_l_FnBoxes_ew8 v0 t0 t4 t7 t8 t9) (fun _ k => f_l_FnBoxes_pw8 v0 t0 t4 t7 t8 t9 k) () r h
def f_l_FnBoxes_tw8 (σ : List AV) : Option (Bool × Bool × (X × List AV) × (X × List AV)) := match dec f_l_FnBoxes_hw8 σ with
  | some [.l v0, .l t0, .i t4, .b t7, .l t8, .l t9] => some ((f_l_FnBoxes_w8 v0 t0 t4 t7 t8 t9).isSome, true, f_l_FnBoxes_xw8 v0 t0 t4 t7 t8 t9 ((f_l_FnBoxes_w8 v0 t0 t4 t7 t8 t9).getD false), (.ret, []))
  | _ => none
theorem f_l_FnBoxes_ttw8 : TTrue Try.prog f_l_FnBoxes_F Try.f4 200008 f_l_FnBoxes_tw8 := by
  intro σ p r r' h
  unfold f_l_FnBoxes_tw8 at h
  split at h
  · rename_i hd
    rw [← dec_enc hd]
    exact rowR (f_l_FnBoxes_lw8 _ _ _ _ _ _) h
  · cases h
def f_l_FnBoxes_hw3 : List Sh := [.u, .u, .u, .u, .u, .u, .u, .u, .u, .u, .u, .u, .u, .u, .u, .p .sl, .u, .u, .u, .u, .u, .u, .u, .u, .u, .u, .u, .u, .u, .u, .u, .u, .u, .u, .u, .u, .u, .u, .u, .u, .u, .u, .u, .u, .u, .u, .u, .u, .u, .u, .u, .u, .u, .u, .u, .u, .u, .u, .u, .u, .u, .u, .u, .u, .u, .u, .u, .u, .u, .u, .u, .u, .u, .u, .u, .u, .u, .u, .u, .u, .u, .u, .u, .u, .u, .u, .u, .u, .u, .u, .u, .u, .u, .u, .u, .u, .u, .u, .u, .u, .u, .u, .u, .u, .u, .u, .u, .u, .u, .u, .u, .u, .u, .u, .u, .u, .u, .u, .u, .u, .u, .u, .u, .u, .u, .u, .u, .u, .u, .u, .u, .u, .u, .u, .u, .u, .u, .u, .u, .u, .u, .u, .u, .u, .u, .u, .u, .u, .u, .u, .u, .u, .u, .u, .u, .u, .u, .u, .u, .u, .u, .u, .u, .u, .u, .u, .u, .u, .u, .u, .u, .u, .u, .u, .u, .u, .u, .u, .u, .u, .u, .u, .u, .u, .u, .u, .u, .u, .u, .u, .u, .u, .u, .u, .u, .u, .u, .u, .u, .u, .u, .u, .u, .u, .u, .u, .u, .u, .u, .u, .u, .u, .u, .u, .u, .u, .u, .u, .u, .u, .u, .u, .u, .u, .u, .u, .u, .u]
def f_l_FnBoxes_frw3 (t0 : List Sc) : List AV := enc f_l_FnBoxes_hw3 [.l t0]
def f_l_FnBoxes_xw3 (t0 : List Sc) (e : Bool) : X × List AV := (.norm, enc [.u, .u, .u, .u, .u, .u, .u, .u, .u, .u, .u, .u, .u, .u, .u, .u, .u, .p .boo, .u, .u, .u, .u, .u, .u, .u, .u, .u, .u, .u, .u, .u, .u, .u, .u, .u, .u, .u, .u, .u, .u, .u, .u, .u, .u, .u, .u, .u, .u, .u, .u, .u, .u, .u, .u, .u, .u, .u, .u, .u, .u, .u, .u, .u, .u, .u, .u, .u, .u, .u, .u, .u, .u, .u, .u, .u, .u, .u, .u, .u, .u, .u, .u, .u, .u, .u, .u, .u, .u, .u, .u, .u, .u, .u, .u, .u, .u, .u, .u, .u, .u, .u, .u, .u, .u, .u, .u, .u, .u, .u, .u, .u, .u, .u, .u, .u, .u, .u, .u, .u, .u, .u, .u, .u, .u, .u, .u, .u, .u, .u, .u, .u, .u, .u, .u, .u, .u, .u, .u, .u, .u, .u, .u, .u, .u, .u, .u, .u, .u, .u, .u, .u, .u, .u, .u, .u, .u, .u, .u, .u, .u, .u, .u, .u, .u, .u, .u, .u, .u, .u, .u, .u, .u, .u, .u, .u, .u, .u, .u, .u, .u, .u, .u, .u, .u, .u, .u, .u, .u, .u, .u, .u, .u, .u, .u, .u, .u, .u, .u, .u, .u, .u, .u, .u, .u, .u, .u, .u, .u, .u, .u, .u, .u, .u, .u, .u, .u, .u, .u, .u, .u, .u, .u, .u, .u, .u, .u, .u, .u] [.b e])
theorem f_l_FnBoxes_pw3 {R : Type} (t0 : List Sc) (kA : Bool → Option R) : f_l_FnBoxes_w3_k t0 kA = (f_l_FnBoxes_w3 t0).bind kA := by
  simp only [f_l_FnBoxes_w3_k, f_l_FnBoxes_w3, brB, boB, someB]
theorem f_l_FnBoxes_bw3 : bodyOf Try.f4 200003 = .block 0 (codeIn (bodyOf Try.f4 200003)) := by kernel_rfl
theorem f_l_FnBoxes_ew3 (t0 : List Sc) : EC E0 f_l_FnBoxes_M H0 f_l_FnBoxes_F (asL (addL 200008 f_l_FnBoxes_tw8 (addL 200012 f_l_FnBoxes_tw12 (addL 200022 f_l_FnBoxes_tw22 (noL))))) 0 (codeIn (bodyOf Try.f4 200003)) (f_l_FnBoxes_frw3 t0) (doneT (klOf f_l_FnBoxes_F 200003).2.2) = f_l_FnBoxes_w3_k t0 (fun e => some (f_l_FnBoxes_xw3 t0 e)) := by kernel_rfl
theorem f_l_FnBoxes_lw3 (t0 : List Sc) (r : Bool) (h : f_l_FnBoxes_w3 t0 = some r) : LS Try.prog f_l_FnBoxes_F (bodyOf Try.f4 200003) (f_l_FnBoxes_frw3 t0) (f_l_FnBoxes_xw3 t0 r) :=
  tail_true (S := Unit) (id := 3) (G := fun _ => f_l_FnBoxes_w3 t0) (Gk := fun _ k => f_l_FnBoxes_w3_k t0 k) (fr := fun _ => f_l_FnBoxes_frw3 t0) (f1 := fun e => f_l_FnBoxes_xw3 t0 e) E0ok f_l_FnBoxes_Mt (addL_true f_l_FnBoxes_ttw8 (addL_true f_l_FnBoxes_ttw12 (addL_true f_l_FnBoxes_ttw22 (noL_true)))) f_l_FnBoxes_o f_l_FnBoxes_bw3 (fun _ => rfl) (fun _ => f_l_FnBoxes_ew3 t0) (fun _ k => f_l_FnBoxes_pw3 t0 k) () r h
def f_l_FnBoxes_tw3 (σ : List AV) : Option (Bool × Bool × (X × List AV) × (X × List AV)) := match dec f_l_FnBoxes_hw3 σ with
  | some [.l t0] => some ((f_l_FnBoxes_w3 t0).isSome, true, f_l_FnBoxes_xw3 t0 ((f_l_FnBoxes_w3 t0).getD false), (.ret, []))
  | _ => none
theorem f_l_FnBoxes_ttw3 : TTrue Try.prog f_l_FnBoxes_F Try.f4 200003 f_l_FnBoxes_tw3 := by
  intro σ p r r' h
  unfold f_l_FnBoxes_tw3 at h
  split at h
  · rename_i hd
    rw [← dec_enc hd]
    exact rowR (f_l_FnBoxes_lw3 _) h
  · cases h
theorem f_l_FnBoxes_p {R : Type} (L0 : List Sc) (kR : Bool → Option R) : f_l_FnBoxes_k L0 kR = (f_l_FnBoxes_k L0 some).bind kR := by
  simp only [f_l_FnBoxes_k, brB, boB, someB]
theorem f_l_FnBoxes_e (L0 : List Sc) : runFn E0 f_l_FnBoxes_M H0 f_l_FnBoxes_F (asL (addL 200003 f_l_FnBoxes_tw3 (addL 200008 f_l_FnBoxes_tw8 (addL 200012 f_l_FnBoxes_tw12 (addL 200022 f_l_FnBoxes_tw22 (noL)))))) Try.f4 (f_l_FnBoxes_a L0) (f_l_FnBoxes_i L0) = f_l_FnBoxes_k L0 (fun r => some (f_l_FnBoxes_en r)) := by kernel_rfl
theorem f_l_FnBoxes_ok (L0 : List Sc) (r : Bool) (h : f_l_FnBoxes L0 = some r) : CS Try.prog 4 (f_l_FnBoxes_a L0) (f_l_FnBoxes_i L0) (f_l_FnBoxes_en r).1 (f_l_FnBoxes_en r).2 :=
  fn_true (Gk := fun k => f_l_FnBoxes_k L0 k) (en := f_l_FnBoxes_en) Try.func4 E0ok f_l_FnBoxes_Mt (addL_true f_l_FnBoxes_ttw3 (addL_true f_l_FnBoxes_ttw8 (addL_true f_l_FnBoxes_ttw12 (addL_true f_l_FnBoxes_ttw22 (noL_true))))) f_l_FnBoxes_o (f_l_FnBoxes_e L0) (f_l_FnBoxes_p L0) h
def f_l_FnBoxes_c : CRow := fun args inh => match dec2 [.p .sl] [] args inh with
  | some ([.l L0], []) => some ((f_l_FnBoxes L0).isSome, (f_l_FnBoxes_en ((f_l_FnBoxes L0).getD false)).1, (f_l_FnBoxes_en ((f_l_FnBoxes L0).getD false)).2)
  | _ => none
theorem f_l_FnBoxes_cc : CTrue Try.prog 4 f_l_FnBoxes_c := by
  intro args inh rs out h
  unfold f_l_FnBoxes_c at h
  split at h
  · rename_i hd
    obtain ⟨h1, h2⟩ := dec2_enc hd
    rw [← h1, ← h2]
    exact rowC (f_l_FnBoxes_ok _) h
  · cases h
end
end Go.Proofs.Ytphbclogflflmaa
