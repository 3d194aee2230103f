/-
  That the program computes just that (printed by gen2.py).
-/
import Derived.Test.YtdocbpiocinllaaRunb
set_option linter.unusedVariables false
set_option linter.unusedSimpArgs false
namespace Go.Proofs.Ytdocbpiocinllaa
open Go Ev
noncomputable section
def f_l_FnExactLengthsOf_F : Fi := { nv := 4, nc := 1, m := 0, vt := [(7, 0), (23, 1), (28, 2), (74, 3)], kl := [], sk := [], mvs := [1, 2, 3], fz := [] }
def f_l_FnExactLengthsOf_a (L0 : List Sc) (p1 : List Sc) : List AV := enc [.p .gr, .p .sl] [.l L0, .l p1]
def f_l_FnExactLengthsOf_i (L0 : List Sc) (p1 : List Sc) : List AV := enc [] []
def f_l_FnExactLengthsOf_en (r : Bool) : List AV × List AV := (enc [.p .boo] [.b r], enc [] [])
def f_l_FnExactLengthsOf_M : Calling := addC 8 f_l_szGroup_c (addC 10 f_l_toGroup_c (addC 20 f_l_toIntS_c (addC 27 f_s_LengthsOf_c (addC 28 f_i_LengthsOf_c (addC 23 f_l_eqIntS_c (addC 12 f_l_eqGroup_c (addC 16 f_l_markGroup_io_c (addC 24 f_l_markIntS_io_c (addC 29 f_l_heldIntS_c (noC))))))))))
theorem f_l_FnExactLengthsOf_Mt : CallOk Try.prog (f_l_FnExactLengthsOf_M) := addC_true f_l_szGroup_cc (addC_true f_l_toGroup_cc (addC_true f_l_toIntS_cc (addC_true f_s_LengthsOf_cc (addC_true f_i_LengthsOf_cc (addC_true f_l_eqIntS_cc (addC_true f_l_eqGroup_cc (addC_true f_l_markGroup_io_cc (addC_true f_l_markIntS_io_cc (addC_true f_l_heldIntS_cc (noC_true))))))))))
theorem f_l_FnExactLengthsOf_o : loopsOnce Try.f6 = true := by kernel_rfl
theorem f_l_FnExactLengthsOf_p {R : Type} (L0 : List Sc) (p1 : List Sc) (kR : Bool → Option R) : f_l_FnExactLengthsOf_k L0 p1 kR = (f_l_FnExactLengthsOf_k L0 p1 some).bind kR := by
  simp only [f_l_FnExactLengthsOf_k, brB, boB, someB]
theorem f_l_FnExactLengthsOf_e (L0 : List Sc) (p1 : List Sc) : runFn E0 f_l_FnExactLengthsOf_M H0 f_l_FnExactLengthsOf_F (asL (noL)) Try.f6 (f_l_FnExactLengthsOf_a L0 p1) (f_l_FnExactLengthsOf_i L0 p1) = f_l_FnExactLengthsOf_k L0 p1 (fun r => some (f_l_FnExactLengthsOf_en r)) := by kernel_rfl
theorem f_l_FnExactLengthsOf_ok (L0 : List Sc) (p1 : List Sc) (r : Bool) (h : f_l_FnExactLengthsOf L0 p1 = some r) : CS Try.prog 6 (f_l_FnExactLengthsOf_a L0 p1) (f_l_FnExactLengthsOf_i L0 p1) (f_l_FnExactLengthsOf_en r).1 (f_l_FnExactLengthsOf_en r).2 :=
  fn_true (Gk := fun k => f_l_FnExactLengthsOf_k L0 p1 k) (en := f_l_FnExactLengthsOf_en) Try.func6 E0ok f_l_FnExactLengthsOf_Mt (noL_true) f_l_FnExactLengthsOf_o (f_l_FnExactLengthsOf_e L0 p1) (f_l_FnExactLengthsOf_p L0 p1) h
def f_l_FnExactLengthsOf_c : CRow := fun args inh => match dec2 [.p .gr, .p .sl] [] args inh with
  | some ([.l L0, .l p1], []) => some ((f_l_FnExactLengthsOf L0 p1).isSome, (f_l_FnExactLengthsOf_en ((f_l_FnExactLengthsOf L0 p1).getD false)).1, (f_l_FnExactLengthsOf_en ((f_l_FnExactLengthsOf L0 p1).getD false)).2)
  | _ => none
theorem f_l_FnExactLengthsOf_cc : CTrue Try.prog 6 f_l_FnExactLengthsOf_c := by
  intro args inh rs out h
  unfold f_l_FnExactLengthsOf_c at h
  split at h
  · rename_i hd
    obtain ⟨h1, h2⟩ := dec2_enc hd
    rw [← h1, ← h2]
    exact rowC (f_l_FnExactLengthsOf_ok _ _) h
  · cases h

def f_s_l11Divisor_F : Fi := { nv := 0, nc := 0, m := 0, vt := [], kl := [(0, ([2, 3, 4, 5, 6, 7, 8, 9, 10, 11, 12, 13], [1, 2, 3, 4, 5, 6, 7, 8, 9, 10, 11, 12, 13], [0, 1, 2, 3, 5, 6, 7, 8, 9, 10, 11, 12, 13]))], sk := [], mvs := [], fz := [] }
def f_s_l11Divisor_a (x0 : Int) (y1 : Int) : List AV := enc [.p (.int .i64), .p (.int .i64)] [.i x0, .i y1]
def f_s_l11Divisor_i (x0 : Int) (y1 : Int) : List AV := enc [] []
def f_s_l11Divisor_en (r : Int) : List AV × List AV := (enc [.p (.int .i64)] [.i r], enc [] [])
def f_s_l11Divisor_M : Calling := noC
theorem f_s_l11Divisor_Mt : CallOk Try.prog (f_s_l11Divisor_M) := noC_true
theorem f_s_l11Divisor_o : loopsOnce Try.f56 = true := by kernel_rfl
def f_s_l11Divisor_h0 : List Sh := [.p (.int .i64), .p (.int .i64), .u, .u, .u, .u, .u, .u, .u, .u, .u, .u, .u, .u]
def f_s_l11Divisor_fr0 (s : Int × Int) : List AV := enc f_s_l11Divisor_h0 [.i s.1, .i s.2]
def f_s_l11Divisor_g0_1 : List Sh := [.p (.int .i64), .u, .u, .u, .u, .u, .u, .u, .u, .u, .u, .u, .u, .u]
def f_s_l11Divisor_x0_1 (e : Int) : X × List AV := (.out 0, enc f_s_l11Divisor_g0_1 [.i e])
def f_s_l11Divisor_x0_2 (_e : Unit) : X × List AV := (.ret, [])
theorem f_s_l11Divisor_p0 {R : Type} (s : Int × Int) (kN : Int × Int → Option R) (kA : Int → Option R) (kB : Unit → Option R) : f_s_l11Divisor_k0 s.1 s.2 kN kA = (f_s_l11Divisor_r0 s).bind (Ro.el kN kA kB) := by
  simp only [f_s_l11Divisor_k0, f_s_l11Divisor_r0, brB, someB, noneB, Ro.el]
theorem f_s_l11Divisor_e0 (s : Int × Int) : EC E0 f_s_l11Divisor_M H0 f_s_l11Divisor_F (asL (noL)) 0 (bodyOf Try.f56 0) (f_s_l11Divisor_fr0 s) (done (klOf f_s_l11Divisor_F 0)) = f_s_l11Divisor_k0 s.1 s.2 (fun s => some (.norm, f_s_l11Divisor_fr0 s)) (fun e => some (f_s_l11Divisor_x0_1 e)) := by kernel_rfl
theorem f_s_l11Divisor_l0 : ∀ s r, loopL (f_s_l11Divisor_r0) s = some r → LS Try.prog f_s_l11Divisor_F (bodyOf Try.f56 0) (f_s_l11Divisor_fr0 s) (enX (f_s_l11Divisor_x0_1) (f_s_l11Divisor_x0_2) r) :=
  loop_true E0ok f_s_l11Divisor_Mt (noL_true) f_s_l11Divisor_o (fun _ h => by cases h) (fun _ h => by cases h) (fun _ h => by cases h) (fun _ h => by cases h) (fun s => (f_s_l11Divisor_e0 s).trans (f_s_l11Divisor_p0 s _ _ (fun e => some (f_s_l11Divisor_x0_2 e))))
def f_s_l11Divisor_t0 (σ : List AV) : Option (Bool × Bool × (X × List AV) × (X × List AV)) := match dec f_s_l11Divisor_h0 σ with
  | some [.i x0, .i y1] => some (isOne (loopL (f_s_l11Divisor_r0) (x0, y1)), true, f_s_l11Divisor_x0_1 (getOne 0 (loopL (f_s_l11Divisor_r0) (x0, y1))), (.ret, []))
  | _ => none
theorem f_s_l11Divisor_tt0 : TTrue Try.prog f_s_l11Divisor_F Try.f56 0 (f_s_l11Divisor_t0) := by
  intro σ p r r' h
  unfold f_s_l11Divisor_t0 at h
  split at h
  · rename_i hd
    rw [← dec_enc hd]
    exact row1 (f_s_l11Divisor_l0 _) h
  · cases h
theorem f_s_l11Divisor_p {R : Type} (x0 : Int) (y1 : Int) (kR : Int → Option R) : f_s_l11Divisor_k x0 y1 kR = (f_s_l11Divisor_k x0 y1 some).bind kR := by
  simp only [f_s_l11Divisor_k, bl1B, someB]
theorem f_s_l11Divisor_e (x0 : Int) (y1 : Int) : runFn E0 f_s_l11Divisor_M H0 f_s_l11Divisor_F (asL (addL 0 (f_s_l11Divisor_t0) (noL))) Try.f56 (f_s_l11Divisor_a x0 y1) (f_s_l11Divisor_i x0 y1) = f_s_l11Divisor_k x0 y1 (fun r => some (f_s_l11Divisor_en r)) := by kernel_rfl
theorem f_s_l11Divisor_ok (x0 : Int) (y1 : Int) (r : Int) (h : f_s_l11Divisor x0 y1 = some r) : CS Try.prog 56 (f_s_l11Divisor_a x0 y1) (f_s_l11Divisor_i x0 y1) (f_s_l11Divisor_en r).1 (f_s_l11Divisor_en r).2 :=
  fn_true (Gk := fun k => f_s_l11Divisor_k x0 y1 k) (en := f_s_l11Divisor_en) Try.func56 E0ok f_s_l11Divisor_Mt (addL_true (f_s_l11Divisor_tt0) (noL_true)) f_s_l11Divisor_o (f_s_l11Divisor_e x0 y1) (f_s_l11Divisor_p x0 y1) h
def f_s_l11Divisor_c : CRow := fun args inh => match dec2 [.p (.int .i64), .p (.int .i64)] [] args inh with
  | some ([.i x0, .i y1], []) => some ((f_s_l11Divisor x0 y1).isSome, (f_s_l11Divisor_en ((f_s_l11Divisor x0 y1).getD 0)).1, (f_s_l11Divisor_en ((f_s_l11Divisor x0 y1).getD 0)).2)
  | _ => none
theorem f_s_l11Divisor_cc : CTrue Try.prog 56 f_s_l11Divisor_c := by
  intro args inh rs out h
  unfold f_s_l11Divisor_c at h
  split at h
  · rename_i hd
    obtain ⟨h1, h2⟩ := dec2_enc hd
    rw [← h1, ← h2]
    exact rowC (f_s_l11Divisor_ok _ _) h
  · cases h

def f_s_ElasticityOf_F : Fi := { nv := 0, nc := 0, m := 0, vt := [], kl := [], sk := [], mvs := [], fz := [] }
def f_s_ElasticityOf_a (g0 : List Sc) (l1 : List Sc) : List AV := enc [.p .gr, .p .sl] [.l g0, .l l1]
def f_s_ElasticityOf_i (g0 : List Sc) (l1 : List Sc) : List AV := enc [] []
def f_s_ElasticityOf_en (r : Int × Int) : List AV × List AV := (enc [.p (.int .i64), .p (.int .i64)] [.i r.1, .i r.2], enc [] [])
def f_s_ElasticityOf_M : Calling := addC 27 f_s_LengthsOf_c (addC 56 f_s_l11Divisor_c (noC))
theorem f_s_ElasticityOf_Mt : CallOk Try.prog (f_s_ElasticityOf_M) := addC_true f_s_LengthsOf_cc (addC_true f_s_l11Divisor_cc (noC_true))
theorem f_s_ElasticityOf_o : loopsOnce Try.f30 = true := by kernel_rfl
theorem f_s_ElasticityOf_p {R : Type} (g0 : List Sc) (l1 : List Sc) (kR : Int × Int → Option R) : f_s_ElasticityOf_k g0 l1 kR = (f_s_ElasticityOf_k g0 l1 some).bind kR := by
  simp only [f_s_ElasticityOf_k, brB, boB, someB, noneB]
theorem f_s_ElasticityOf_e (g0 : List Sc) (l1 : List Sc) : runFn E0 f_s_ElasticityOf_M H0 f_s_ElasticityOf_F (asL (noL)) Try.f30 (f_s_ElasticityOf_a g0 l1) (f_s_ElasticityOf_i g0 l1) = f_s_ElasticityOf_k g0 l1 (fun r => some (f_s_ElasticityOf_en r)) := by kernel_rfl
theorem f_s_ElasticityOf_ok (g0 : List Sc) (l1 : List Sc) (r : Int × Int) (h : f_s_ElasticityOf g0 l1 = some r) : CS Try.prog 30 (f_s_ElasticityOf_a g0 l1) (f_s_ElasticityOf_i g0 l1) (f_s_ElasticityOf_en r).1 (f_s_ElasticityOf_en r).2 :=
  fn_true (Gk := fun k => f_s_ElasticityOf_k g0 l1 k) (en := f_s_ElasticityOf_en) Try.func30 E0ok f_s_ElasticityOf_Mt (noL_true) f_s_ElasticityOf_o (f_s_ElasticityOf_e g0 l1) (f_s_ElasticityOf_p g0 l1) h
def f_s_ElasticityOf_c : CRow := fun args inh => match dec2 [.p .gr, .p .sl] [] args inh with
  | some ([.l g0, .l l1], []) => some ((f_s_ElasticityOf g0 l1).isSome, (f_s_ElasticityOf_en ((f_s_ElasticityOf g0 l1).getD (0, 0))).1, (f_s_ElasticityOf_en ((f_s_ElasticityOf g0 l1).getD (0, 0))).2)
  | _ => none
theorem f_s_ElasticityOf_cc : CTrue Try.prog 30 f_s_ElasticityOf_c := by
  intro args inh rs out h
  unfold f_s_ElasticityOf_c at h
  split at h
  · rename_i hd
    obtain ⟨h1, h2⟩ := dec2_enc hd
    rw [← h1, ← h2]
    exact rowC (f_s_ElasticityOf_ok _ _) h
  · cases h

def f_i_gcd_F : Fi := { nv := 0, nc := 0, m := 0, vt := [], kl := [(0, ([2, 3, 4, 5, 6, 7, 8, 9, 10, 11], [1, 2, 3, 4, 5, 6, 7, 8, 9, 10, 11], [0, 1, 2, 3, 5, 6, 7, 8, 9, 10, 11]))], sk := [], mvs := [], fz := [] }
def f_i_gcd_a (a0 : Int) (b1 : Int) : List AV := enc [.p (.int .i64), .p (.int .i64)] [.i a0, .i b1]
def f_i_gcd_i (a0 : Int) (b1 : Int) : List AV := enc [] []
def f_i_gcd_en (r : Int) : List AV × List AV := (enc [.p (.int .i64)] [.i r], enc [] [])
def f_i_gcd_M : Calling := noC
theorem f_i_gcd_Mt : CallOk Try.prog (f_i_gcd_M) := noC_true
theorem f_i_gcd_o : loopsOnce Try.f75 = true := by kernel_rfl
def f_i_gcd_h0 : List Sh := [.p (.int .i64), .p (.int .i64), .u, .u, .u, .u, .u, .u, .u, .u, .u, .u]
def f_i_gcd_fr0 (s : Int × Int) : List AV := enc f_i_gcd_h0 [.i s.1, .i s.2]
def f_i_gcd_g0_1 : List Sh := [.p (.int .i64), .u, .u, .u, .u, .u, .u, .u, .u, .u, .u, .u]
def f_i_gcd_x0_1 (e : Int) : X × List AV := (.out 0, enc f_i_gcd_g0_1 [.i e])
def f_i_gcd_x0_2 (_e : Unit) : X × List AV := (.ret, [])
theorem f_i_gcd_p0 {R : Type} (s : Int × Int) (kN : Int × Int → Option R) (kA : Int → Option R) (kB : Unit → Option R) : f_i_gcd_k0 s.1 s.2 kN kA = (f_i_gcd_r0 s).bind (Ro.el kN kA kB) := by
  simp only [f_i_gcd_k0, f_i_gcd_r0, brB, someB, noneB, Ro.el]
theorem f_i_gcd_e0 (s : Int × Int) : EC E0 f_i_gcd_M H0 f_i_gcd_F (asL (noL)) 0 (bodyOf Try.f75 0) (f_i_gcd_fr0 s) (done (klOf f_i_gcd_F 0)) = f_i_gcd_k0 s.1 s.2 (fun s => some (.norm, f_i_gcd_fr0 s)) (fun e => some (f_i_gcd_x0_1 e)) := by kernel_rfl
theorem f_i_gcd_l0 : ∀ s r, loopL (f_i_gcd_r0) s = some r → LS Try.prog f_i_gcd_F (bodyOf Try.f75 0) (f_i_gcd_fr0 s) (enX (f_i_gcd_x0_1) (f_i_gcd_x0_2) r) :=
  loop_true E0ok f_i_gcd_Mt (noL_true) f_i_gcd_o (fun _ h => by cases h) (fun _ h => by cases h) (fun _ h => by cases h) (fun _ h => by cases h) (fun s => (f_i_gcd_e0 s).trans (f_i_gcd_p0 s _ _ (fun e => some (f_i_gcd_x0_2 e))))
def f_i_gcd_t0 (σ : List AV) : Option (Bool × Bool × (X × List AV) × (X × List AV)) := match dec f_i_gcd_h0 σ with
  | some [.i a0, .i b1] => some (isOne (loopL (f_i_gcd_r0) (a0, b1)), true, f_i_gcd_x0_1 (getOne 0 (loopL (f_i_gcd_r0) (a0, b1))), (.ret, []))
  | _ => none
theorem f_i_gcd_tt0 : TTrue Try.prog f_i_gcd_F Try.f75 0 (f_i_gcd_t0) := by
  intro σ p r r' h
  unfold f_i_gcd_t0 at h
  split at h
  · rename_i hd
    rw [← dec_enc hd]
    exact row1 (f_i_gcd_l0 _) h
  · cases h
theorem f_i_gcd_p {R : Type} (a0 : Int) (b1 : Int) (kR : Int → Option R) : f_i_gcd_k a0 b1 kR = (f_i_gcd_k a0 b1 some).bind kR := by
  simp only [f_i_gcd_k, bl1B, someB]
theorem f_i_gcd_e (a0 : Int) (b1 : Int) : runFn E0 f_i_gcd_M H0 f_i_gcd_F (asL (addL 0 (f_i_gcd_t0) (noL))) Try.f75 (f_i_gcd_a a0 b1) (f_i_gcd_i a0 b1) = f_i_gcd_k a0 b1 (fun r => some (f_i_gcd_en r)) := by kernel_rfl
theorem f_i_gcd_ok (a0 : Int) (b1 : Int) (r : Int) (h : f_i_gcd a0 b1 = some r) : CS Try.prog 75 (f_i_gcd_a a0 b1) (f_i_gcd_i a0 b1) (f_i_gcd_en r).1 (f_i_gcd_en r).2 :=
  fn_true (Gk := fun k => f_i_gcd_k a0 b1 k) (en := f_i_gcd_en) Try.func75 E0ok f_i_gcd_Mt (addL_true (f_i_gcd_tt0) (noL_true)) f_i_gcd_o (f_i_gcd_e a0 b1) (f_i_gcd_p a0 b1) h
def f_i_gcd_c : CRow := fun args inh => match dec2 [.p (.int .i64), .p (.int .i64)] [] args inh with
  | some ([.i a0, .i b1], []) => some ((f_i_gcd a0 b1).isSome, (f_i_gcd_en ((f_i_gcd a0 b1).getD 0)).1, (f_i_gcd_en ((f_i_gcd a0 b1).getD 0)).2)
  | _ => none
theorem f_i_gcd_cc : CTrue Try.prog 75 f_i_gcd_c := by
  intro args inh rs out h
  unfold f_i_gcd_c at h
  split at h
  · rename_i hd
    obtain ⟨h1, h2⟩ := dec2_enc hd
    rw [← h1, ← h2]
    exact rowC (f_i_gcd_ok _ _) h
  · cases h

def f_i_lowest_F : Fi := { nv := 0, nc := 0, m := 0, vt := [], kl := [], sk := [], mvs := [], fz := [] }
def f_i_lowest_a (a0 : Int) (b1 : Int) : List AV := enc [.p (.int .i64), .p (.int .i64)] [.i a0, .i b1]
def f_i_lowest_i (a0 : Int) (b1 : Int) : List AV := enc [] []
def f_i_lowest_en (r : Int × Int) : List AV × List AV := (enc [.p (.int .i64), .p (.int .i64)] [.i r.1, .i r.2], enc [] [])
def f_i_lowest_M : Calling := addC 75 f_i_gcd_c (noC)
theorem f_i_lowest_Mt : CallOk Try.prog (f_i_lowest_M) := addC_true f_i_gcd_cc (noC_true)
theorem f_i_lowest_o : loopsOnce Try.f57 = true := by kernel_rfl
theorem f_i_lowest_p {R : Type} (a0 : Int) (b1 : Int) (kR : Int × Int → Option R) : f_i_lowest_k a0 b1 kR = (f_i_lowest_k a0 b1 some).bind kR := by
  simp only [f_i_lowest_k, brB, boB, someB, noneB]
theorem f_i_lowest_e (a0 : Int) (b1 : Int) : runFn E0 f_i_lowest_M H0 f_i_lowest_F (asL (noL)) Try.f57 (f_i_lowest_a a0 b1) (f_i_lowest_i a0 b1) = f_i_lowest_k a0 b1 (fun r => some (f_i_lowest_en r)) := by kernel_rfl
theorem f_i_lowest_ok (a0 : Int) (b1 : Int) (r : Int × Int) (h : f_i_lowest a0 b1 = some r) : CS Try.prog 57 (f_i_lowest_a a0 b1) (f_i_lowest_i a0 b1) (f_i_lowest_en r).1 (f_i_lowest_en r).2 :=
  fn_true (Gk := fun k => f_i_lowest_k a0 b1 k) (en := f_i_lowest_en) Try.func57 E0ok f_i_lowest_Mt (noL_true) f_i_lowest_o (f_i_lowest_e a0 b1) (f_i_lowest_p a0 b1) h
def f_i_lowest_c : CRow := fun args inh => match dec2 [.p (.int .i64), .p (.int .i64)] [] args inh with
  | some ([.i a0, .i b1], []) => some ((f_i_lowest a0 b1).isSome, (f_i_lowest_en ((f_i_lowest a0 b1).getD (0, 0))).1, (f_i_lowest_en ((f_i_lowest a0 b1).getD (0, 0))).2)
  | _ => none
theorem f_i_lowest_cc : CTrue Try.prog 57 f_i_lowest_c := by
  intro args inh rs out h
  unfold f_i_lowest_c at h
  split at h
  · rename_i hd
    obtain ⟨h1, h2⟩ := dec2_enc hd
    rw [← h1, ← h2]
    exact rowC (f_i_lowest_ok _ _) h
  · cases h

def f_i_ElasticityOf_F : Fi := { nv := 0, nc := 0, m := 0, vt := [], kl := [], sk := [], mvs := [], fz := [] }
def f_i_ElasticityOf_a (g0 : List Sc) (l1 : List Sc) : List AV := enc [.p .gr, .p .sl] [.l g0, .l l1]
def f_i_ElasticityOf_i (g0 : List Sc) (l1 : List Sc) : List AV := enc [] []
def f_i_ElasticityOf_en (r : Int × Int) : List AV × List AV := (enc [.p (.int .i64), .p (.int .i64)] [.i r.1, .i r.2], enc [] [])
def f_i_ElasticityOf_M : Calling := addC 28 f_i_LengthsOf_c (addC 57 f_i_lowest_c (noC))
theorem f_i_ElasticityOf_Mt : CallOk Try.prog (f_i_ElasticityOf_M) := addC_true f_i_LengthsOf_cc (addC_true f_i_lowest_cc (noC_true))
theorem f_i_ElasticityOf_o : loopsOnce Try.f31 = true := by kernel_rfl
theorem f_i_ElasticityOf_p {R : Type} (g0 : List Sc) (l1 : List Sc) (kR : Int × Int → Option R) : f_i_ElasticityOf_k g0 l1 kR = (f_i_ElasticityOf_k g0 l1 some).bind kR := by
  simp only [f_i_ElasticityOf_k, brB, boB, someB, noneB]
theorem f_i_ElasticityOf_e (g0 : List Sc) (l1 : List Sc) : runFn E0 f_i_ElasticityOf_M H0 f_i_ElasticityOf_F (asL (noL)) Try.f31 (f_i_ElasticityOf_a g0 l1) (f_i_ElasticityOf_i g0 l1) = f_i_ElasticityOf_k g0 l1 (fun r => some (f_i_ElasticityOf_en r)) := by kernel_rfl
theorem f_i_ElasticityOf_ok (g0 : List Sc) (l1 : List Sc) (r : Int × Int) (h : f_i_ElasticityOf g0 l1 = some r) : CS Try.prog 31 (f_i_ElasticityOf_a g0 l1) (f_i_ElasticityOf_i g0 l1) (f_i_ElasticityOf_en r).1 (f_i_ElasticityOf_en r).2 :=
  fn_true (Gk := fun k => f_i_ElasticityOf_k g0 l1 k) (en := f_i_ElasticityOf_en) Try.func31 E0ok f_i_ElasticityOf_Mt (noL_true) f_i_ElasticityOf_o (f_i_ElasticityOf_e g0 l1) (f_i_ElasticityOf_p g0 l1) h
def f_i_ElasticityOf_c : CRow := fun args inh => match dec2 [.p .gr, .p .sl] [] args inh with
  | some ([.l g0, .l l1], []) => some ((f_i_ElasticityOf g0 l1).isSome, (f_i_ElasticityOf_en ((f_i_ElasticityOf g0 l1).getD (0, 0))).1, (f_i_ElasticityOf_en ((f_i_ElasticityOf g0 l1).getD (0, 0))).2)
  | _ => none
theorem f_i_ElasticityOf_cc : CTrue Try.prog 31 f_i_ElasticityOf_c := by
  intro args inh rs out h
  unfold f_i_ElasticityOf_c at h
  split at h
  · rename_i hd
    obtain ⟨h1, h2⟩ := dec2_enc hd
    rw [← h1, ← h2]
    exact rowC (f_i_ElasticityOf_ok _ _) h
  · cases h

def f_l_FnExactElasticityOf_F : Fi := { nv := 3, nc := 1, m := 0, vt := [(8, 0), (22, 1), (29, 2)], kl := [], sk := [], mvs := [1, 2], fz := [] }
def f_l_FnExactElasticityOf_a (aG0 : List Sc) (aL1 : List Sc) : List AV := enc [.p .gr, .p .sl] [.l aG0, .l aL1]
def f_l_FnExactElasticityOf_i (aG0 : List Sc) (aL1 : List Sc) : List AV := enc [] []
def f_l_FnExactElasticityOf_en (r : Bool) : List AV × List AV := (enc [.p .boo] [.b r], enc [] [])
def f_l_FnExactElasticityOf_M : Calling := addC 8 f_l_szGroup_c (addC 10 f_l_toGroup_c (addC 20 f_l_toIntS_c (addC 30 f_s_ElasticityOf_c (addC 31 f_i_ElasticityOf_c (addC 12 f_l_eqGroup_c (addC 23 f_l_eqIntS_c (noC)))))))
theorem f_l_FnExactElasticityOf_Mt : CallOk Try.prog (f_l_FnExactElasticityOf_M) := addC_true f_l_szGroup_cc (addC_true f_l_toGroup_cc (addC_true f_l_toIntS_cc (addC_true f_s_ElasticityOf_cc (addC_true f_i_ElasticityOf_cc (addC_true f_l_eqGroup_cc (addC_true f_l_eqIntS_cc (noC_true)))))))
theorem f_l_FnExactElasticityOf_o : loopsOnce Try.f7 = true := by kernel_rfl
theorem f_l_FnExactElasticityOf_p {R : Type} (aG0 : List Sc) (aL1 : List Sc) (kR : Bool → Option R) : f_l_FnExactElasticityOf_k aG0 aL1 kR = (f_l_FnExactElasticityOf_k aG0 aL1 some).bind kR := by
  simp only [f_l_FnExactElasticityOf_k, brB, boB, someB]
theorem f_l_FnExactElasticityOf_e (aG0 : List Sc) (aL1 : List Sc) : runFn E0 f_l_FnExactElasticityOf_M H0 f_l_FnExactElasticityOf_F (asL (noL)) Try.f7 (f_l_FnExactElasticityOf_a aG0 aL1) (f_l_FnExactElasticityOf_i aG0 aL1) = f_l_FnExactElasticityOf_k aG0 aL1 (fun r => some (f_l_FnExactElasticityOf_en r)) := by kernel_rfl
theorem f_l_FnExactElasticityOf_ok (aG0 : List Sc) (aL1 : List Sc) (r : Bool) (h : f_l_FnExactElasticityOf aG0 aL1 = some r) : CS Try.prog 7 (f_l_FnExactElasticityOf_a aG0 aL1) (f_l_FnExactElasticityOf_i aG0 aL1) (f_l_FnExactElasticityOf_en r).1 (f_l_FnExactElasticityOf_en r).2 :=
  fn_true (Gk := fun k => f_l_FnExactElasticityOf_k aG0 aL1 k) (en := f_l_FnExactElasticityOf_en) Try.func7 E0ok f_l_FnExactElasticityOf_Mt (noL_true) f_l_FnExactElasticityOf_o (f_l_FnExactElasticityOf_e aG0 aL1) (f_l_FnExactElasticityOf_p aG0 aL1) h
def f_l_FnExactElasticityOf_c : CRow := fun args inh => match dec2 [.p .gr, .p .sl] [] args inh with
  | some ([.l aG0, .l aL1], []) => some ((f_l_FnExactElasticityOf aG0 aL1).isSome, (f_l_FnExactElasticityOf_en ((f_l_FnExactElasticityOf aG0 aL1).getD false)).1, (f_l_FnExactElasticityOf_en ((f_l_FnExactElasticityOf aG0 aL1).getD false)).2)
  | _ => none
theorem f_l_FnExactElasticityOf_cc : CTrue Try.prog 7 f_l_FnExactElasticityOf_c := by
  intro args inh rs out h
  unfold f_l_FnExactElasticityOf_c at h
  split at h
  · rename_i hd
    obtain ⟨h1, h2⟩ := dec2_enc hd
    rw [← h1, ← h2]
    exact rowC (f_l_FnExactElasticityOf_ok _ _) h
  · cases h
end
end Go.Proofs.Ytdocbpiocinllaa
