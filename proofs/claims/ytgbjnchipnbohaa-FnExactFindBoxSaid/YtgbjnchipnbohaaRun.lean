/-
  That the program computes just that (printed by gen2.py).
-/
import Derived.Test.YtgbjnchipnbohaaRunb
set_option linter.unusedVariables false
namespace Go.Proofs.Ytgbjnchipnbohaa
open Go Ev
noncomputable section
def f_i_Group_times_F : Fi := { nv := 0, nc := 0, m := 0, vt := [], kl := [(0, ([0, 2, 4, 5, 6, 8, 9, 10, 11, 12, 13, 14, 17, 18, 19, 20, 21, 22, 23], [0, 1, 2, 3, 4, 5, 6, 8, 9, 10, 11, 12, 13, 14, 15, 16, 17, 18, 19, 20, 21, 22, 23], [0, 1, 2, 3, 4, 5, 7, 8, 9, 10, 11, 12, 13, 14, 15, 16, 17, 18, 19, 20, 21, 22, 23]))], sk := [], mvs := [], fz := [] }
def f_i_Group_times_a (g0 : List Sc) (x1 : Int) (n2 : Int) : List AV := enc [.p .gr, .p (.int .i64), .p (.int .i64)] [.l g0, .i x1, .i n2]
def f_i_Group_times_i (g0 : List Sc) (x1 : Int) (n2 : Int) : List AV := enc [] []
def f_i_Group_times_en (r : Int) : List AV × List AV := (enc [.p (.int .i64)] [.i r], enc [] [])
def f_i_Group_times_M : Calling := addC 112 f_i_Group_negate_c (addC 95 f_i_Group_add_c (noC))
theorem f_i_Group_times_Mt : CallOk Try.prog (f_i_Group_times_M) := addC_true f_i_Group_negate_cc (addC_true f_i_Group_add_cc (noC_true))
theorem f_i_Group_times_o : loopsOnce Try.f105 = true := by kernel_rfl
def f_i_Group_times_h0 : List Sh := [.u, .p (.int .i64), .u, .p .el, .u, .u, .u, .p (.int .i64), .u, .u, .u, .u, .u, .u, .u, .p (.int .i64), .p (.int .i64), .u, .u, .u, .u, .u, .u, .u]
def f_i_Group_times_fr0 (x1 : Int) (g3 : List Sc) (t15 : Int) (s : Int × Int) : List AV := enc f_i_Group_times_h0 [.i x1, .l g3, .i s.1, .i t15, .i s.2]
def f_i_Group_times_g0_1 : List Sh := [.u, .u, .u, .u, .u, .u, .u, .p (.int .i64), .u, .u, .u, .u, .u, .u, .u, .u, .u, .u, .u, .u, .u, .u, .u, .u]
def f_i_Group_times_x0_1 (x1 : Int) (g3 : List Sc) (t15 : Int) (e : Int) : X × List AV := (.out 0, enc f_i_Group_times_g0_1 [.i e])
def f_i_Group_times_x0_2 (x1 : Int) (g3 : List Sc) (t15 : Int) (_e : Unit) : X × List AV := (.ret, [])
theorem f_i_Group_times_p0 {R : Type} (x1 : Int) (g3 : List Sc) (t15 : Int) (s : Int × Int) (kN : Int × Int → Option R) (kA : Int → Option R) (kB : Unit → Option R) : f_i_Group_times_k0 x1 g3 t15 s.1 s.2 kN kA = (f_i_Group_times_r0 x1 g3 t15 s).bind (Ro.el kN kA kB) := by
  simp only [f_i_Group_times_k0, f_i_Group_times_r0, brB, boB, someB, Ro.el]
theorem f_i_Group_times_e0 (x1 : Int) (g3 : List Sc) (t15 : Int) (s : Int × Int) : EC E0 f_i_Group_times_M H0 f_i_Group_times_F (asL (noL)) 0 (bodyOf Try.f105 0) (f_i_Group_times_fr0 x1 g3 t15 s) (done (klOf f_i_Group_times_F 0)) = f_i_Group_times_k0 x1 g3 t15 s.1 s.2 (fun s => some (.norm, f_i_Group_times_fr0 x1 g3 t15 s)) (fun e => some (f_i_Group_times_x0_1 x1 g3 t15 e)) := by kernel_rfl
theorem f_i_Group_times_l0 (x1 : Int) (g3 : List Sc) (t15 : Int) : ∀ s r, loopL (f_i_Group_times_r0 x1 g3 t15) s = some r → LS Try.prog f_i_Group_times_F (bodyOf Try.f105 0) (f_i_Group_times_fr0 x1 g3 t15 s) (enX (f_i_Group_times_x0_1 x1 g3 t15) (f_i_Group_times_x0_2 x1 g3 t15) r) :=
  loop_true E0ok f_i_Group_times_Mt (noL_true) f_i_Group_times_o (fun _ h => by cases h) (fun _ h => by cases h) (fun s => (f_i_Group_times_e0 x1 g3 t15 s).trans (f_i_Group_times_p0 x1 g3 t15 s _ _ (fun e => some (f_i_Group_times_x0_2 x1 g3 t15 e))))
def f_i_Group_times_t0 (σ : List AV) : Option (Bool × Bool × (X × List AV) × (X × List AV)) := match dec f_i_Group_times_h0 σ with
  | some [.i x1, .l g3, .i sum7, .i t15, .i t16] => some (isOne (loopL (f_i_Group_times_r0 x1 g3 t15) (sum7, t16)), true, f_i_Group_times_x0_1 x1 g3 t15 (getOne 0 (loopL (f_i_Group_times_r0 x1 g3 t15) (sum7, t16))), (.ret, []))
  | _ => none
theorem f_i_Group_times_tt0 : TTrue Try.prog f_i_Group_times_F Try.f105 0 (f_i_Group_times_t0) := by
  intro σ p r r' h
  unfold f_i_Group_times_t0 at h
  split at h
  · rename_i hd
    rw [← dec_enc hd]
    exact row1 (f_i_Group_times_l0 _ _ _ _) h
  · cases h
theorem f_i_Group_times_p {R : Type} (g0 : List Sc) (x1 : Int) (n2 : Int) (kR : Int → Option R) : f_i_Group_times_k g0 x1 n2 kR = (f_i_Group_times_k g0 x1 n2 some).bind kR := by
  simp only [f_i_Group_times_k, brB, boB, bl1B, someB]
theorem f_i_Group_times_e (g0 : List Sc) (x1 : Int) (n2 : Int) : runFn E0 f_i_Group_times_M H0 f_i_Group_times_F (asL (addL 0 (f_i_Group_times_t0) (noL))) Try.f105 (f_i_Group_times_a g0 x1 n2) (f_i_Group_times_i g0 x1 n2) = f_i_Group_times_k g0 x1 n2 (fun r => some (f_i_Group_times_en r)) := by kernel_rfl
theorem f_i_Group_times_ok (g0 : List Sc) (x1 : Int) (n2 : Int) (r : Int) (h : f_i_Group_times g0 x1 n2 = some r) : CS Try.prog 105 (f_i_Group_times_a g0 x1 n2) (f_i_Group_times_i g0 x1 n2) (f_i_Group_times_en r).1 (f_i_Group_times_en r).2 :=
  fn_true (Gk := fun k => f_i_Group_times_k g0 x1 n2 k) (en := f_i_Group_times_en) Try.func105 E0ok f_i_Group_times_Mt (addL_true (f_i_Group_times_tt0) (noL_true)) f_i_Group_times_o (f_i_Group_times_e g0 x1 n2) (f_i_Group_times_p g0 x1 n2) h
def f_i_Group_times_c : CRow := fun args inh => match dec2 [.p .gr, .p (.int .i64), .p (.int .i64)] [] args inh with
  | some ([.l g0, .i x1, .i n2], []) => some ((f_i_Group_times g0 x1 n2).isSome, (f_i_Group_times_en ((f_i_Group_times g0 x1 n2).getD 0)).1, (f_i_Group_times_en ((f_i_Group_times g0 x1 n2).getD 0)).2)
  | _ => none
theorem f_i_Group_times_cc : CTrue Try.prog 105 f_i_Group_times_c := by
  intro args inh rs out h
  unfold f_i_Group_times_c at h
  split at h
  · rename_i hd
    obtain ⟨h1, h2⟩ := dec2_enc hd
    rw [← h1, ← h2]
    exact rowC (f_i_Group_times_ok _ _ _) h
  · cases h

def f_i_DilateSet_F : Fi := { nv := 0, nc := 0, m := 0, vt := [], kl := [(0, ([0, 1, 4, 5, 6, 8, 9, 10, 11, 12, 13, 14, 15, 16, 17, 18, 19, 23, 24, 25, 26, 27, 28, 29, 30, 31, 32, 33, 34], [0, 1, 2, 3, 4, 5, 6, 8, 9, 10, 11, 12, 13, 14, 15, 16, 17, 18, 19, 20, 21, 22, 23, 24, 25, 26, 27, 28, 29, 30, 31, 32, 33, 34], [0, 1, 2, 3, 4, 5, 7, 8, 9, 10, 11, 12, 13, 14, 15, 16, 17, 18, 19, 20, 21, 22, 23, 24, 25, 26, 27, 28, 29, 30, 31, 32, 33, 34]))], sk := [], mvs := [], fz := [] }
def f_i_DilateSet_a (g0 : List Sc) (a1 : Int) (n2 : Int) : List AV := enc [.p .gr, .p (.int .i64), .p (.int .i64)] [.l g0, .i a1, .i n2]
def f_i_DilateSet_i (g0 : List Sc) (a1 : Int) (n2 : Int) : List AV := enc [] []
def f_i_DilateSet_en (r : Int) : List AV × List AV := (enc [.p (.int .i64)] [.i r], enc [] [])
def f_i_DilateSet_M : Calling := addC 79 f_i_IsSet_c (addC 70 f_i_within_c (addC 103 f_i_members_c (addC 105 f_i_Group_times_c (noC))))
theorem f_i_DilateSet_Mt : CallOk Try.prog (f_i_DilateSet_M) := addC_true f_i_IsSet_cc (addC_true f_i_within_cc (addC_true f_i_members_cc (addC_true f_i_Group_times_cc (noC_true))))
theorem f_i_DilateSet_o : loopsOnce Try.f84 = true := by kernel_rfl
def f_i_DilateSet_h0 : List Sh := [.u, .u, .p (.int .i64), .p .el, .u, .u, .u, .p (.int .i64), .u, .u, .u, .u, .u, .u, .u, .u, .u, .u, .u, .u, .own 3, .p (.int .i64), .p (.int .i64), .u, .u, .u, .u, .u, .u, .u, .u, .u, .u, .u, .u]
def f_i_DilateSet_fr0 (n2 : Int) (g3 : List Sc) (t21 : Int) (s : Int × List Sc × Int) : List AV := enc f_i_DilateSet_h0 [.i n2, .l g3, .i s.1, .l s.2.1, .i t21, .i s.2.2]
def f_i_DilateSet_g0_1 : List Sh := [.u, .u, .u, .u, .u, .u, .u, .p (.int .i64), .u, .u, .u, .u, .u, .u, .u, .u, .u, .u, .u, .u, .u, .u, .u, .u, .u, .u, .u, .u, .u, .u, .u, .u, .u, .u, .u]
def f_i_DilateSet_x0_1 (n2 : Int) (g3 : List Sc) (t21 : Int) (e : Int) : X × List AV := (.out 0, enc f_i_DilateSet_g0_1 [.i e])
def f_i_DilateSet_x0_2 (n2 : Int) (g3 : List Sc) (t21 : Int) (_e : Unit) : X × List AV := (.ret, [])
theorem f_i_DilateSet_p0 {R : Type} (n2 : Int) (g3 : List Sc) (t21 : Int) (s : Int × List Sc × Int) (kN : Int × List Sc × Int → Option R) (kA : Int → Option R) (kB : Unit → Option R) : f_i_DilateSet_k0 n2 g3 t21 s.1 s.2.1 s.2.2 kN kA = (f_i_DilateSet_r0 n2 g3 t21 s).bind (Ro.el kN kA kB) := by
  simp only [f_i_DilateSet_k0, f_i_DilateSet_r0, brB, boB, someB, noneB, Ro.el]
theorem f_i_DilateSet_e0 (n2 : Int) (g3 : List Sc) (t21 : Int) (s : Int × List Sc × Int) : EC E0 f_i_DilateSet_M H0 f_i_DilateSet_F (asL (noL)) 0 (bodyOf Try.f84 0) (f_i_DilateSet_fr0 n2 g3 t21 s) (done (klOf f_i_DilateSet_F 0)) = f_i_DilateSet_k0 n2 g3 t21 s.1 s.2.1 s.2.2 (fun s => some (.norm, f_i_DilateSet_fr0 n2 g3 t21 s)) (fun e => some (f_i_DilateSet_x0_1 n2 g3 t21 e)) := by kernel_rfl
theorem f_i_DilateSet_l0 (n2 : Int) (g3 : List Sc) (t21 : Int) : ∀ s r, loopL (f_i_DilateSet_r0 n2 g3 t21) s = some r → LS Try.prog f_i_DilateSet_F (bodyOf Try.f84 0) (f_i_DilateSet_fr0 n2 g3 t21 s) (enX (f_i_DilateSet_x0_1 n2 g3 t21) (f_i_DilateSet_x0_2 n2 g3 t21) r) :=
  loop_true E0ok f_i_DilateSet_Mt (noL_true) f_i_DilateSet_o (fun _ h => by cases h) (fun _ h => by cases h) (fun s => (f_i_DilateSet_e0 n2 g3 t21 s).trans (f_i_DilateSet_p0 n2 g3 t21 s _ _ (fun e => some (f_i_DilateSet_x0_2 n2 g3 t21 e))))
def f_i_DilateSet_t0 (σ : List AV) : Option (Bool × Bool × (X × List AV) × (X × List AV)) := match dec f_i_DilateSet_h0 σ with
  | some [.i n2, .l g3, .i out7, .l t20, .i t21, .i t22] => some (isOne (loopL (f_i_DilateSet_r0 n2 g3 t21) (out7, t20, t22)), true, f_i_DilateSet_x0_1 n2 g3 t21 (getOne 0 (loopL (f_i_DilateSet_r0 n2 g3 t21) (out7, t20, t22))), (.ret, []))
  | _ => none
theorem f_i_DilateSet_tt0 : TTrue Try.prog f_i_DilateSet_F Try.f84 0 (f_i_DilateSet_t0) := by
  intro σ p r r' h
  unfold f_i_DilateSet_t0 at h
  split at h
  · rename_i hd
    rw [← dec_enc hd]
    exact row1 (f_i_DilateSet_l0 _ _ _ _) h
  · cases h
theorem f_i_DilateSet_p {R : Type} (g0 : List Sc) (a1 : Int) (n2 : Int) (kR : Int → Option R) : f_i_DilateSet_k g0 a1 n2 kR = (f_i_DilateSet_k g0 a1 n2 some).bind kR := by
  simp only [f_i_DilateSet_k, brB, boB, bl1B, someB]
theorem f_i_DilateSet_e (g0 : List Sc) (a1 : Int) (n2 : Int) : runFn E0 f_i_DilateSet_M H0 f_i_DilateSet_F (asL (addL 0 (f_i_DilateSet_t0) (noL))) Try.f84 (f_i_DilateSet_a g0 a1 n2) (f_i_DilateSet_i g0 a1 n2) = f_i_DilateSet_k g0 a1 n2 (fun r => some (f_i_DilateSet_en r)) := by kernel_rfl
theorem f_i_DilateSet_ok (g0 : List Sc) (a1 : Int) (n2 : Int) (r : Int) (h : f_i_DilateSet g0 a1 n2 = some r) : CS Try.prog 84 (f_i_DilateSet_a g0 a1 n2) (f_i_DilateSet_i g0 a1 n2) (f_i_DilateSet_en r).1 (f_i_DilateSet_en r).2 :=
  fn_true (Gk := fun k => f_i_DilateSet_k g0 a1 n2 k) (en := f_i_DilateSet_en) Try.func84 E0ok f_i_DilateSet_Mt (addL_true (f_i_DilateSet_tt0) (noL_true)) f_i_DilateSet_o (f_i_DilateSet_e g0 a1 n2) (f_i_DilateSet_p g0 a1 n2) h
def f_i_DilateSet_c : CRow := fun args inh => match dec2 [.p .gr, .p (.int .i64), .p (.int .i64)] [] args inh with
  | some ([.l g0, .i a1, .i n2], []) => some ((f_i_DilateSet g0 a1 n2).isSome, (f_i_DilateSet_en ((f_i_DilateSet g0 a1 n2).getD 0)).1, (f_i_DilateSet_en ((f_i_DilateSet g0 a1 n2).getD 0)).2)
  | _ => none
theorem f_i_DilateSet_cc : CTrue Try.prog 84 f_i_DilateSet_c := by
  intro args inh rs out h
  unfold f_i_DilateSet_c at h
  split at h
  · rename_i hd
    obtain ⟨h1, h2⟩ := dec2_enc hd
    rw [← h1, ← h2]
    exact rowC (f_i_DilateSet_ok _ _ _) h
  · cases h

def f_i_ReplaceFactor_F : Fi := { nv := 0, nc := 0, m := 0, vt := [], kl := [], sk := [], mvs := [], fz := [] }
def f_i_ReplaceFactor_a (g0 : List Sc) (a1 : Int) (b2 : Int) (n3 : Int) : List AV := enc [.p .gr, .p (.int .i64), .p (.int .i64), .p (.int .i64)] [.l g0, .i a1, .i b2, .i n3]
def f_i_ReplaceFactor_i (g0 : List Sc) (a1 : Int) (b2 : Int) (n3 : Int) : List AV := enc [] []
def f_i_ReplaceFactor_en (r : Bool) : List AV × List AV := (enc [.p .boo] [.b r], enc [] [])
def f_i_ReplaceFactor_M : Calling := addC 84 f_i_DilateSet_c (addC 64 f_i_IsTiling_c (addC 71 f_i_bits_c (noC)))
theorem f_i_ReplaceFactor_Mt : CallOk Try.prog (f_i_ReplaceFactor_M) := addC_true f_i_DilateSet_cc (addC_true f_i_IsTiling_cc (addC_true f_i_bits_cc (noC_true)))
theorem f_i_ReplaceFactor_o : loopsOnce Try.f41 = true := by kernel_rfl
theorem f_i_ReplaceFactor_p {R : Type} (g0 : List Sc) (a1 : Int) (b2 : Int) (n3 : Int) (kR : Bool → Option R) : f_i_ReplaceFactor_k g0 a1 b2 n3 kR = (f_i_ReplaceFactor_k g0 a1 b2 n3 some).bind kR := by
  simp only [f_i_ReplaceFactor_k, brB, boB, someB]
theorem f_i_ReplaceFactor_e (g0 : List Sc) (a1 : Int) (b2 : Int) (n3 : Int) : runFn E0 f_i_ReplaceFactor_M H0 f_i_ReplaceFactor_F (asL (noL)) Try.f41 (f_i_ReplaceFactor_a g0 a1 b2 n3) (f_i_ReplaceFactor_i g0 a1 b2 n3) = f_i_ReplaceFactor_k g0 a1 b2 n3 (fun r => some (f_i_ReplaceFactor_en r)) := by kernel_rfl
theorem f_i_ReplaceFactor_ok (g0 : List Sc) (a1 : Int) (b2 : Int) (n3 : Int) (r : Bool) (h : f_i_ReplaceFactor g0 a1 b2 n3 = some r) : CS Try.prog 41 (f_i_ReplaceFactor_a g0 a1 b2 n3) (f_i_ReplaceFactor_i g0 a1 b2 n3) (f_i_ReplaceFactor_en r).1 (f_i_ReplaceFactor_en r).2 :=
  fn_true (Gk := fun k => f_i_ReplaceFactor_k g0 a1 b2 n3 k) (en := f_i_ReplaceFactor_en) Try.func41 E0ok f_i_ReplaceFactor_Mt (noL_true) f_i_ReplaceFactor_o (f_i_ReplaceFactor_e g0 a1 b2 n3) (f_i_ReplaceFactor_p g0 a1 b2 n3) h
def f_i_ReplaceFactor_c : CRow := fun args inh => match dec2 [.p .gr, .p (.int .i64), .p (.int .i64), .p (.int .i64)] [] args inh with
  | some ([.l g0, .i a1, .i b2, .i n3], []) => some ((f_i_ReplaceFactor g0 a1 b2 n3).isSome, (f_i_ReplaceFactor_en ((f_i_ReplaceFactor g0 a1 b2 n3).getD false)).1, (f_i_ReplaceFactor_en ((f_i_ReplaceFactor g0 a1 b2 n3).getD false)).2)
  | _ => none
theorem f_i_ReplaceFactor_cc : CTrue Try.prog 41 f_i_ReplaceFactor_c := by
  intro args inh rs out h
  unfold f_i_ReplaceFactor_c at h
  split at h
  · rename_i hd
    obtain ⟨h1, h2⟩ := dec2_enc hd
    rw [← h1, ← h2]
    exact rowC (f_i_ReplaceFactor_ok _ _ _ _) h
  · cases h

def f_l_FnExactReplaceFactor_F : Fi := { nv := 3, nc := 1, m := 0, vt := [(11, 0), (19, 1), (25, 2)], kl := [], sk := [], mvs := [1, 2], fz := [] }
def f_l_FnExactReplaceFactor_a (aG0 : List Sc) (aA1 : Int) (aB2 : Int) (aN3 : Int) : List AV := enc [.p .gr, .p (.int .i64), .p (.int .i64), .p (.int .i64)] [.l aG0, .i aA1, .i aB2, .i aN3]
def f_l_FnExactReplaceFactor_i (aG0 : List Sc) (aA1 : Int) (aB2 : Int) (aN3 : Int) : List AV := enc [] []
def f_l_FnExactReplaceFactor_en (r : Bool) : List AV × List AV := (enc [.p .boo] [.b r], enc [] [])
def f_l_FnExactReplaceFactor_M : Calling := addC 14 f_l_szGroup_c (addC 16 f_l_toGroup_c (addC 40 f_s_ReplaceFactor_c (addC 41 f_i_ReplaceFactor_c (addC 19 f_l_eqGroup_c (noC)))))
theorem f_l_FnExactReplaceFactor_Mt : CallOk Try.prog (f_l_FnExactReplaceFactor_M) := addC_true f_l_szGroup_cc (addC_true f_l_toGroup_cc (addC_true f_s_ReplaceFactor_cc (addC_true f_i_ReplaceFactor_cc (addC_true f_l_eqGroup_cc (noC_true)))))
theorem f_l_FnExactReplaceFactor_o : loopsOnce Try.f12 = true := by kernel_rfl
theorem f_l_FnExactReplaceFactor_p {R : Type} (aG0 : List Sc) (aA1 : Int) (aB2 : Int) (aN3 : Int) (kR : Bool → Option R) : f_l_FnExactReplaceFactor_k aG0 aA1 aB2 aN3 kR = (f_l_FnExactReplaceFactor_k aG0 aA1 aB2 aN3 some).bind kR := by
  simp only [f_l_FnExactReplaceFactor_k, brB, boB, someB]
theorem f_l_FnExactReplaceFactor_e (aG0 : List Sc) (aA1 : Int) (aB2 : Int) (aN3 : Int) : runFn E0 f_l_FnExactReplaceFactor_M H0 f_l_FnExactReplaceFactor_F (asL (noL)) Try.f12 (f_l_FnExactReplaceFactor_a aG0 aA1 aB2 aN3) (f_l_FnExactReplaceFactor_i aG0 aA1 aB2 aN3) = f_l_FnExactReplaceFactor_k aG0 aA1 aB2 aN3 (fun r => some (f_l_FnExactReplaceFactor_en r)) := by kernel_rfl
theorem f_l_FnExactReplaceFactor_ok (aG0 : List Sc) (aA1 : Int) (aB2 : Int) (aN3 : Int) (r : Bool) (h : f_l_FnExactReplaceFactor aG0 aA1 aB2 aN3 = some r) : CS Try.prog 12 (f_l_FnExactReplaceFactor_a aG0 aA1 aB2 aN3) (f_l_FnExactReplaceFactor_i aG0 aA1 aB2 aN3) (f_l_FnExactReplaceFactor_en r).1 (f_l_FnExactReplaceFactor_en r).2 :=
  fn_true (Gk := fun k => f_l_FnExactReplaceFactor_k aG0 aA1 aB2 aN3 k) (en := f_l_FnExactReplaceFactor_en) Try.func12 E0ok f_l_FnExactReplaceFactor_Mt (noL_true) f_l_FnExactReplaceFactor_o (f_l_FnExactReplaceFactor_e aG0 aA1 aB2 aN3) (f_l_FnExactReplaceFactor_p aG0 aA1 aB2 aN3) h
def f_l_FnExactReplaceFactor_c : CRow := fun args inh => match dec2 [.p .gr, .p (.int .i64), .p (.int .i64), .p (.int .i64)] [] args inh with
  | some ([.l aG0, .i aA1, .i aB2, .i aN3], []) => some ((f_l_FnExactReplaceFactor aG0 aA1 aB2 aN3).isSome, (f_l_FnExactReplaceFactor_en ((f_l_FnExactReplaceFactor aG0 aA1 aB2 aN3).getD false)).1, (f_l_FnExactReplaceFactor_en ((f_l_FnExactReplaceFactor aG0 aA1 aB2 aN3).getD false)).2)
  | _ => none
theorem f_l_FnExactReplaceFactor_cc : CTrue Try.prog 12 f_l_FnExactReplaceFactor_c := by
  intro args inh rs out h
  unfold f_l_FnExactReplaceFactor_c at h
  split at h
  · rename_i hd
    obtain ⟨h1, h2⟩ := dec2_enc hd
    rw [← h1, ← h2]
    exact rowC (f_l_FnExactReplaceFactor_ok _ _ _ _) h
  · cases h
end
end Go.Proofs.Ytgbjnchipnbohaa
