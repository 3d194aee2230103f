/-
  That the program computes just that (printed by gen2.py).
-/
import Derived.Test.YtlnhommmmajllaaGreatRuna
set_option linter.unusedVariables false
set_option linter.unusedSimpArgs false
namespace Go.Proofs.YtlnhommmmajllaaGreat
open Go Ev
noncomputable section
def fAg_F : Fi := { nv := 0, nc := 0, m := 0, vt := [], kl := [(4, ([0, 1, 2, 4, 5, 6, 8, 9, 10, 11, 12, 13, 14, 15, 16, 17, 18, 19, 20, 21, 22, 23, 24, 25, 26, 27, 28, 29, 30, 31, 32, 33, 34, 35, 36, 37, 38, 39, 40, 41, 42, 43, 44, 45, 46, 47, 48, 49, 50, 51, 52, 53, 54, 55, 56, 60, 61, 62, 63, 64, 65, 66, 67, 68], [0, 1, 2, 4, 5, 6, 8, 9, 10, 11, 12, 13, 14, 15, 16, 17, 18, 19, 20, 21, 22, 23, 24, 25, 26, 27, 28, 29, 30, 31, 32, 33, 34, 35, 36, 37, 38, 39, 40, 41, 42, 43, 44, 45, 46, 47, 48, 49, 50, 51, 52, 53, 54, 55, 56, 57, 58, 59, 60, 61, 62, 63, 64, 65, 66, 67, 68], [0, 1, 4, 5, 6, 7, 8, 9, 10, 11, 12, 13, 14, 15, 16, 17, 18, 19, 20, 21, 22, 23, 24, 25, 26, 27, 28, 29, 30, 31, 32, 33, 34, 35, 36, 37, 38, 39, 40, 41, 42, 43, 44, 45, 46, 47, 48, 49, 50, 51, 52, 53, 54, 55, 56, 57, 58, 59, 60, 61, 62, 63, 64, 65, 66, 67, 68])), (2, ([0, 1, 2, 6, 7, 8, 9, 10, 11, 12, 13, 14, 15, 16, 19, 20, 21, 22, 23, 24, 25, 26, 27, 28, 29, 30, 31, 32, 33, 34, 35, 36, 37, 38, 39, 40, 41, 42, 43, 44, 45, 46, 47, 48, 49, 50, 51, 52, 53, 54, 55, 56, 57, 58, 59, 60, 61, 62, 63, 64, 65, 66, 67, 68], [0, 1, 2, 4, 5, 6, 7, 8, 9, 10, 11, 12, 13, 14, 15, 16, 19, 20, 21, 22, 23, 24, 25, 26, 27, 28, 29, 30, 31, 32, 33, 34, 35, 36, 37, 38, 39, 40, 41, 42, 43, 44, 45, 46, 47, 48, 49, 50, 51, 52, 53, 54, 55, 56, 57, 58, 59, 60, 61, 62, 63, 64, 65, 66, 67, 68], [0, 1, 3, 4, 5, 6, 7, 8, 9, 10, 11, 12, 13, 14, 15, 16, 17, 18, 19, 20, 21, 22, 23, 24, 25, 26, 27, 28, 29, 30, 31, 32, 33, 34, 35, 36, 37, 38, 39, 40, 41, 42, 43, 44, 45, 46, 47, 48, 49, 50, 51, 52, 53, 54, 55, 56, 57, 58, 59, 60, 61, 62, 63, 64, 65, 66, 67, 68])), (0, ([0, 1, 2, 4, 5, 6, 7, 8, 9, 10, 11, 12, 13, 14, 15, 16, 19, 20, 21, 22, 23, 24, 25, 26, 27, 28, 29, 30, 31, 32, 33, 34, 35, 36, 37, 38, 39, 40, 41, 42, 43, 44, 45, 46, 47, 48, 49, 50, 51, 52, 53, 54, 55, 56, 57, 58, 59, 60, 61, 62, 63, 64, 65, 66, 67, 68], [0, 1, 2, 4, 5, 6, 7, 8, 9, 10, 11, 12, 13, 14, 15, 16, 19, 20, 21, 22, 23, 24, 25, 26, 27, 28, 29, 30, 31, 32, 33, 34, 35, 36, 37, 38, 39, 40, 41, 42, 43, 44, 45, 46, 47, 48, 49, 50, 51, 52, 53, 54, 55, 56, 57, 58, 59, 60, 61, 62, 63, 64, 65, 66, 67, 68], [0, 1, 3, 4, 5, 6, 7, 8, 9, 10, 11, 12, 13, 14, 15, 16, 17, 18, 19, 20, 21, 22, 23, 24, 25, 26, 27, 28, 29, 30, 31, 32, 33, 34, 35, 36, 37, 38, 39, 40, 41, 42, 43, 44, 45, 46, 47, 48, 49, 50, 51, 52, 53, 54, 55, 56, 57, 58, 59, 60, 61, 62, 63, 64, 65, 66, 67, 68]))], sk := [], mvs := [], fz := [] }
def fAg_a (L0 : List Sc) : List AV := enc [.p .gr] [.l L0]
def fAg_i (L0 : List Sc) : List AV := enc [] []
def fAg_en (r : Int) : List AV × List AV := (enc [.p (.int .i64)] [.i r], enc [] [])
def fAg_M : Calling := addC 33 fBz_c (addC 39 fBs_c (addC 48 fCw_c (noC)))
theorem fAg_Mt : CallOk Tryz.prog (fAg_M) := addC_true fBz_cc (addC_true fBs_cc (addC_true fCw_cc (noC_true)))
theorem fAg_o : loopsOnce Tryz.f10 = true := by kernel_rfl
def fAg_h2 : List Sh := [.u, .u, .u, .own 3, .p (.int .i64), .p (.int .i64), .u, .u, .u, .u, .u, .u, .u, .u, .u, .u, .u, .p (.int .i64), .p (.int .i64), .u, .u, .u, .u, .u, .u, .u, .u, .u, .u, .u, .u, .u, .u, .u, .u, .u, .u, .u, .u, .u, .u, .u, .u, .u, .u, .u, .u, .u, .u, .u, .u, .u, .u, .u, .u, .u, .u, .u, .u, .u, .u, .u, .u, .u, .u, .u, .u, .u, .u]
def fAg_fr2 (t4 t17 t18 : Int) (s : List Sc × Int) : List AV := enc fAg_h2 [.l s.1, .i t4, .i s.2, .i t17, .i t18]
def fAg_g2_1 : List Sh := [.u, .u, .u, .own 3, .u, .u, .u, .u, .u, .u, .u, .u, .u, .u, .u, .u, .u, .p (.int .i64), .p (.int .i64), .u, .u, .u, .u, .u, .u, .u, .u, .u, .u, .u, .u, .u, .u, .u, .u, .u, .u, .u, .u, .u, .u, .u, .u, .u, .u, .u, .u, .u, .u, .u, .u, .u, .u, .u, .u, .u, .u, .u, .u, .u, .u, .u, .u, .u, .u, .u, .u, .u, .u]
def fAg_x2_1 (t4 t17 t18 : Int) (e : List Sc) : X × List AV := (.out 2, enc fAg_g2_1 [.l e, .i t17, .i t18])
def fAg_x2_2 (t4 t17 t18 : Int) (_e : Unit) : X × List AV := (.ret, [])
theorem fAg_p2 {R : Type} (t4 t17 t18 : Int) (s : List Sc × Int) (kN : List Sc × Int → Option R) (kA : List Sc → Option R) (kB : Unit → Option R) : fAg_k2 t4 t17 t18 s.1 s.2 kN kA = (fAg_r2 t4 t17 t18 s).bind (Ro.el kN kA kB) := by
  simp only [fAg_k2, fAg_r2, brB, boB, someB, noneB, Ro.el]
theorem fAg_e2 (t4 t17 t18 : Int) (s : List Sc × Int) : EC E0 fAg_M H0 fAg_F (asL (noL)) 2 (bodyOf Tryz.f10 2) (fAg_fr2 t4 t17 t18 s) (done (klOf fAg_F 2)) = fAg_k2 t4 t17 t18 s.1 s.2 (fun s => some (.norm, fAg_fr2 t4 t17 t18 s)) (fun e => some (fAg_x2_1 t4 t17 t18 e)) := by kernel_rfl
theorem fAg_l2 (t4 t17 t18 : Int) : ∀ s r, loopL (fAg_r2 t4 t17 t18) s = some r → LS Tryz.prog fAg_F (bodyOf Tryz.f10 2) (fAg_fr2 t4 t17 t18 s) (enX (fAg_x2_1 t4 t17 t18) (fAg_x2_2 t4 t17 t18) r) :=
  loop_true E0ok fAg_Mt (noL_true) fAg_o (fun _ h => by cases h) (fun _ h => by cases h) (fun _ h => by cases h) (fun _ h => by cases h) (fun s => (fAg_e2 t4 t17 t18 s).trans (fAg_p2 t4 t17 t18 s _ _ (fun e => some (fAg_x2_2 t4 t17 t18 e))))
def fAg_t2 (σ : List AV) : Option (Bool × Bool × (X × List AV) × (X × List AV)) := match dec fAg_h2 σ with | some [.l t3, .i t4, .i t5, .i t17, .i t18] => some (isOne (loopL (fAg_r2 t4 t17 t18) (t3, t5)), true, fAg_x2_1 t4 t17 t18 (getOne [] (loopL (fAg_r2 t4 t17 t18) (t3, t5))), (.ret, [])) | _ => none
theorem fAg_tt2 : TTrue Tryz.prog fAg_F Tryz.f10 2 (fAg_t2) := by
  intro σ p r r' h
  unfold fAg_t2 at h
  split at h
  · rename_i hd
    rw [← dec_enc hd]
    exact row1 (fAg_l2 _ _ _ _) h
  · cases h
def fAg_h0 : List Sh := [.u, .u, .u, .own 3, .u, .u, .u, .u, .u, .u, .u, .u, .u, .u, .u, .u, .u, .p (.int .i64), .p (.int .i64), .u, .u, .u, .u, .u, .u, .u, .u, .u, .u, .u, .u, .u, .u, .u, .u, .u, .u, .u, .u, .u, .u, .u, .u, .u, .u, .u, .u, .u, .u, .u, .u, .u, .u, .u, .u, .u, .u, .u, .u, .u, .u, .u, .u, .u, .u, .u, .u, .u, .u]
def fAg_fr0 (t17 : Int) (s : List Sc × Int) : List AV := enc fAg_h0 [.l s.1, .i t17, .i s.2]
def fAg_g0_1 : List Sh := [.u, .u, .u, .own 3, .u, .u, .u, .u, .u, .u, .u, .u, .u, .u, .u, .u, .u, .p (.int .i64), .p (.int .i64), .u, .u, .u, .u, .u, .u, .u, .u, .u, .u, .u, .u, .u, .u, .u, .u, .u, .u, .u, .u, .u, .u, .u, .u, .u, .u, .u, .u, .u, .u, .u, .u, .u, .u, .u, .u, .u, .u, .u, .u, .u, .u, .u, .u, .u, .u, .u, .u, .u, .u]
def fAg_x0_1 (t17 : Int) (e : List Sc × Int) : X × List AV := (.out 0, enc fAg_g0_1 [.l e.1, .i t17, .i e.2])
def fAg_x0_2 (t17 : Int) (_e : Unit) : X × List AV := (.ret, [])
theorem fAg_p0 {R : Type} (t17 : Int) (s : List Sc × Int) (kN kA : List Sc × Int → Option R) (kB : Unit → Option R) : fAg_k0 t17 s.1 s.2 kN kA = (fAg_r0 t17 s).bind (Ro.el kN kA kB) := by
  simp only [fAg_k0, fAg_r0, brB, bl1B, someB, Ro.el]
theorem fAg_e0 (t17 : Int) (s : List Sc × Int) : EC E0 fAg_M H0 fAg_F (asL (addL 2 (fAg_t2) (noL))) 0 (bodyOf Tryz.f10 0) (fAg_fr0 t17 s) (done (klOf fAg_F 0)) = fAg_k0 t17 s.1 s.2 (fun s => some (.norm, fAg_fr0 t17 s)) (fun e => some (fAg_x0_1 t17 e)) := by kernel_rfl
theorem fAg_l0 (t17 : Int) : ∀ s r, loopL (fAg_r0 t17) s = some r → LS Tryz.prog fAg_F (bodyOf Tryz.f10 0) (fAg_fr0 t17 s) (enX (fAg_x0_1 t17) (fAg_x0_2 t17) r) :=
  loop_true E0ok fAg_Mt (addL_true (fAg_tt2) (noL_true)) fAg_o (fun _ h => by cases h) (fun _ h => by cases h) (fun _ h => by cases h) (fun _ h => by cases h) (fun s => (fAg_e0 t17 s).trans (fAg_p0 t17 s _ _ (fun e => some (fAg_x0_2 t17 e))))
def fAg_t0 (σ : List AV) : Option (Bool × Bool × (X × List AV) × (X × List AV)) := match dec fAg_h0 σ with | some [.l t3, .i t17, .i t18] => some (isOne (loopL (fAg_r0 t17) (t3, t18)), true, fAg_x0_1 t17 (getOne ([], 0) (loopL (fAg_r0 t17) (t3, t18))), (.ret, [])) | _ => none
theorem fAg_tt0 : TTrue Tryz.prog fAg_F Tryz.f10 0 (fAg_t0) := by
  intro σ p r r' h
  unfold fAg_t0 at h
  split at h
  · rename_i hd
    rw [← dec_enc hd]
    exact row1 (fAg_l0 _ _) h
  · cases h
def fAg_h4 : List Sh := [.u, .u, .u, .own 3, .u, .u, .u, .p (.int .i64), .u, .u, .u, .u, .u, .u, .u, .u, .u, .u, .u, .u, .u, .u, .u, .u, .u, .u, .u, .u, .u, .u, .u, .u, .u, .u, .u, .u, .u, .u, .u, .u, .u, .u, .u, .u, .u, .u, .u, .u, .u, .u, .u, .u, .u, .u, .u, .u, .u, .p (.al 3), .p (.int .i64), .p (.int .i64), .u, .u, .u, .u, .u, .u, .u, .u, .u]
def fAg_fr4 (t58 : Int) (s : List Sc × Int × Int) : List AV := enc fAg_h4 [.l s.1, .i s.2.1, .i t58, .i s.2.2]
def fAg_g4_1 : List Sh := [.u, .u, .u, .own 3, .u, .u, .u, .p (.int .i64), .u, .u, .u, .u, .u, .u, .u, .u, .u, .u, .u, .u, .u, .u, .u, .u, .u, .u, .u, .u, .u, .u, .u, .u, .u, .u, .u, .u, .u, .u, .u, .u, .u, .u, .u, .u, .u, .u, .u, .u, .u, .u, .u, .u, .u, .u, .u, .u, .u, .u, .u, .u, .u, .u, .u, .u, .u, .u, .u, .u, .u]
def fAg_x4_1 (t58 : Int) (e : List Sc × Int) : X × List AV := (.out 4, enc fAg_g4_1 [.l e.1, .i e.2])
def fAg_x4_2 (t58 : Int) (_e : Unit) : X × List AV := (.ret, [])
theorem fAg_p4 {R : Type} (t58 : Int) (s : List Sc × Int × Int) (kN : List Sc × Int × Int → Option R) (kA : List Sc × Int → Option R) (kB : Unit → Option R) : fAg_k4 t58 s.1 s.2.1 s.2.2 kN kA = (fAg_r4 t58 s).bind (Ro.el kN kA kB) := by
  simp only [fAg_k4, fAg_r4, brB, someB, noneB, Ro.el]
theorem fAg_e4 (t58 : Int) (s : List Sc × Int × Int) : EC E0 fAg_M H0 fAg_F (asL (addL 0 (fAg_t0) (addL 2 (fAg_t2) (noL)))) 4 (bodyOf Tryz.f10 4) (fAg_fr4 t58 s) (done (klOf fAg_F 4)) = fAg_k4 t58 s.1 s.2.1 s.2.2 (fun s => some (.norm, fAg_fr4 t58 s)) (fun e => some (fAg_x4_1 t58 e)) := by kernel_rfl
theorem fAg_l4 (t58 : Int) : ∀ s r, loopL (fAg_r4 t58) s = some r → LS Tryz.prog fAg_F (bodyOf Tryz.f10 4) (fAg_fr4 t58 s) (enX (fAg_x4_1 t58) (fAg_x4_2 t58) r) :=
  loop_true E0ok fAg_Mt (addL_true (fAg_tt0) (addL_true (fAg_tt2) (noL_true))) fAg_o (fun _ h => by cases h) (fun _ h => by cases h) (fun _ h => by cases h) (fun _ h => by cases h) (fun s => (fAg_e4 t58 s).trans (fAg_p4 t58 s _ _ (fun e => some (fAg_x4_2 t58 e))))
def fAg_t4 (σ : List AV) : Option (Bool × Bool × (X × List AV) × (X × List AV)) := match dec fAg_h4 σ with | some [.l t3, .i t7, .i t58, .i t59] => some (isOne (loopL (fAg_r4 t58) (t3, t7, t59)), true, fAg_x4_1 t58 (getOne ([], 0) (loopL (fAg_r4 t58) (t3, t7, t59))), (.ret, [])) | _ => none
theorem fAg_tt4 : TTrue Tryz.prog fAg_F Tryz.f10 4 (fAg_t4) := by
  intro σ p r r' h
  unfold fAg_t4 at h
  split at h
  · rename_i hd
    rw [← dec_enc hd]
    exact row1 (fAg_l4 _ _) h
  · cases h
theorem fAg_p {R : Type} (L0 : List Sc) (kR : Int → Option R) : fAg_k L0 kR = (fAg_k L0 some).bind kR := by
  simp only [fAg_k, brB, boB, bl1B, someB]
theorem fAg_e (L0 : List Sc) : runFn E0 fAg_M H0 fAg_F (asL (addL 4 (fAg_t4) (addL 0 (fAg_t0) (addL 2 (fAg_t2) (noL))))) Tryz.f10 (fAg_a L0) (fAg_i L0) = fAg_k L0 (fun r => some (fAg_en r)) := by kernel_rfl
theorem fAg_ok (L0 : List Sc) (r : Int) (h : fAg L0 = some r) : CS Tryz.prog 10 (fAg_a L0) (fAg_i L0) (fAg_en r).1 (fAg_en r).2 :=
  fn_true (Gk := fun k => fAg_k L0 k) (en := fAg_en) Tryz.func10 E0ok fAg_Mt (addL_true (fAg_tt4) (addL_true (fAg_tt0) (addL_true (fAg_tt2) (noL_true)))) fAg_o (fAg_e L0) (fAg_p L0) h
def fAg_c : CRow := fun args inh => match dec2 [.p .gr] [] args inh with | some ([.l L0], []) => some ((fAg L0).isSome, (fAg_en ((fAg L0).getD 0)).1, (fAg_en ((fAg L0).getD 0)).2) | _ => none
theorem fAg_cc : CTrue Tryz.prog 10 fAg_c := by
  intro args inh rs out h
  unfold fAg_c at h
  split at h
  · rename_i hd
    obtain ⟨h1, h2⟩ := dec2_enc hd
    rw [← h1, ← h2]
    exact rowC (fAg_ok _) h
  · cases h
def fAv_F : Fi := { nv := 1, nc := 0, m := 0, vt := [(12, 0)], kl := [(0, ([0, 1, 3, 4, 5, 7, 9, 10, 11, 12, 13, 14, 15, 16, 17, 21, 22, 23, 24, 25, 26, 27, 28, 29, 30, 31], [0, 1, 2, 3, 4, 5, 7, 9, 10, 11, 12, 13, 14, 15, 16, 17, 18, 19, 20, 21, 22, 23, 24, 25, 26, 27, 28, 29, 30, 31], [0, 1, 2, 3, 4, 7, 8, 9, 10, 11, 12, 13, 14, 15, 16, 17, 18, 19, 20, 21, 22, 23, 24, 25, 26, 27, 28, 29, 30, 31]))], sk := [], mvs := [0], fz := [] }
def fAv_a (g0 : List Sc) (n1 : Int) : List AV := enc [.p .gr, .p (.int .i64)] [.l g0, .i n1]
def fAv_i (g0 : List Sc) (n1 : Int) : List AV := enc [] []
def fAv_en (r : Int) : List AV × List AV := (enc [.p (.int .i64)] [.i r], enc [] [])
def fAv_M : Calling := addC 6 fBy_c (noC)
theorem fAv_Mt : CallOk Tryz.prog (fAv_M) := addC_true fBy_cc (noC_true)
theorem fAv_o : loopsOnce Tryz.f11 = true := by kernel_rfl
def fAv_h0 : List Sh := [.u, .u, .p (.int .i64), .u, .u, .u, .own 1000024, .u, .p (.int .i64), .u, .u, .u, .u, .u, .u, .u, .u, .u, .p (.al 6), .p (.int .i64), .p (.int .i64), .u, .u, .u, .u, .u, .u, .u, .u, .u, .u, .u]
def fAv_fr0 (n1 t18 : Int) (s : List Sc × Int × Int) : List AV := enc fAv_h0 [.i n1, .l s.1, .i s.2.1, .i t18, .i s.2.2]
def fAv_g0_1 : List Sh := [.u, .u, .u, .u, .u, .u, .own 1000024, .u, .p (.int .i64), .u, .u, .u, .u, .u, .u, .u, .u, .u, .u, .u, .u, .u, .u, .u, .u, .u, .u, .u, .u, .u, .u, .u]
def fAv_x0_1 (n1 t18 : Int) (e : List Sc × Int) : X × List AV := (.out 0, enc fAv_g0_1 [.l e.1, .i e.2])
def fAv_x0_2 (n1 t18 : Int) (_e : Unit) : X × List AV := (.ret, [])
theorem fAv_p0 {R : Type} (n1 t18 : Int) (s : List Sc × Int × Int) (kN : List Sc × Int × Int → Option R) (kA : List Sc × Int → Option R) (kB : Unit → Option R) : fAv_k0 n1 t18 s.1 s.2.1 s.2.2 kN kA = (fAv_r0 n1 t18 s).bind (Ro.el kN kA kB) := by
  simp only [fAv_k0, fAv_r0, brB, someB, noneB, Ro.el]
theorem fAv_e0 (n1 t18 : Int) (s : List Sc × Int × Int) : EC E0 fAv_M H0 fAv_F (asL (noL)) 0 (bodyOf Tryz.f11 0) (fAv_fr0 n1 t18 s) (done (klOf fAv_F 0)) = fAv_k0 n1 t18 s.1 s.2.1 s.2.2 (fun s => some (.norm, fAv_fr0 n1 t18 s)) (fun e => some (fAv_x0_1 n1 t18 e)) := by kernel_rfl
theorem fAv_l0 (n1 t18 : Int) : ∀ s r, loopL (fAv_r0 n1 t18) s = some r → LS Tryz.prog fAv_F (bodyOf Tryz.f11 0) (fAv_fr0 n1 t18 s) (enX (fAv_x0_1 n1 t18) (fAv_x0_2 n1 t18) r) :=
  loop_true E0ok fAv_Mt (noL_true) fAv_o (fun _ h => by cases h) (fun _ h => by cases h) (fun _ h => by cases h) (fun _ h => by cases h) (fun s => (fAv_e0 n1 t18 s).trans (fAv_p0 n1 t18 s _ _ (fun e => some (fAv_x0_2 n1 t18 e))))
def fAv_t0 (σ : List AV) : Option (Bool × Bool × (X × List AV) × (X × List AV)) := match dec fAv_h0 σ with | some [.i n1, .l l5, .i k7, .i t18, .i t19] => some (isOne (loopL (fAv_r0 n1 t18) (l5, k7, t19)), true, fAv_x0_1 n1 t18 (getOne ([], 0) (loopL (fAv_r0 n1 t18) (l5, k7, t19))), (.ret, [])) | _ => none
theorem fAv_tt0 : TTrue Tryz.prog fAv_F Tryz.f11 0 (fAv_t0) := by
  intro σ p r r' h
  unfold fAv_t0 at h
  split at h
  · rename_i hd
    rw [← dec_enc hd]
    exact row1 (fAv_l0 _ _ _) h
  · cases h
theorem fAv_p {R : Type} (g0 : List Sc) (n1 : Int) (kR : Int → Option R) : fAv_k g0 n1 kR = (fAv_k g0 n1 some).bind kR := by
  simp only [fAv_k, brB, boB, bl1B, someB]
theorem fAv_e (g0 : List Sc) (n1 : Int) : runFn E0 fAv_M H0 fAv_F (asL (addL 0 (fAv_t0) (noL))) Tryz.f11 (fAv_a g0 n1) (fAv_i g0 n1) = fAv_k g0 n1 (fun r => some (fAv_en r)) := by kernel_rfl
theorem fAv_ok (g0 : List Sc) (n1 r : Int) (h : fAv g0 n1 = some r) : CS Tryz.prog 11 (fAv_a g0 n1) (fAv_i g0 n1) (fAv_en r).1 (fAv_en r).2 :=
  fn_true (Gk := fun k => fAv_k g0 n1 k) (en := fAv_en) Tryz.func11 E0ok fAv_Mt (addL_true (fAv_tt0) (noL_true)) fAv_o (fAv_e g0 n1) (fAv_p g0 n1) h
def fAv_c : CRow := fun args inh => match dec2 [.p .gr, .p (.int .i64)] [] args inh with | some ([.l g0, .i n1], []) => some ((fAv g0 n1).isSome, (fAv_en ((fAv g0 n1).getD 0)).1, (fAv_en ((fAv g0 n1).getD 0)).2) | _ => none
theorem fAv_cc : CTrue Tryz.prog 11 fAv_c := by
  intro args inh rs out h
  unfold fAv_c at h
  split at h
  · rename_i hd
    obtain ⟨h1, h2⟩ := dec2_enc hd
    rw [← h1, ← h2]
    exact rowC (fAv_ok _ _) h
  · cases h
def fCf_F : Fi := { nv := 0, nc := 0, m := 0, vt := [], kl := [(2, ([1, 2, 6, 7, 8, 9, 10, 11, 12, 13, 14, 15, 16, 17, 18, 19, 20, 21, 22, 23, 24, 25, 26, 27, 28, 29, 30, 31, 32, 33, 34, 35, 36, 37, 38, 39, 40, 41, 42, 43, 44, 45, 46], [1, 2, 6, 7, 8, 9, 10, 11, 12, 13, 14, 15, 16, 17, 18, 19, 20, 21, 22, 23, 24, 25, 26, 27, 28, 29, 30, 31, 32, 33, 34, 35, 36, 37, 38, 39, 40, 41, 42, 43, 44, 45, 46], [0, 1, 3, 4, 5, 6, 7, 8, 9, 10, 11, 12, 13, 14, 15, 16, 17, 18, 19, 20, 21, 22, 23, 24, 25, 26, 27, 28, 29, 30, 31, 32, 33, 34, 35, 36, 37, 38, 39, 40, 41, 42, 43, 44, 45, 46])), (0, ([1, 2, 5, 6, 7, 8, 9, 10, 11, 12, 13, 14, 15, 16, 17, 18, 19, 20, 21, 22, 23, 24, 25, 26, 27, 28, 29, 30, 31, 32, 33, 34, 35, 36, 37, 38, 39, 40, 41, 42, 43, 44, 45, 46], [1, 2, 6, 7, 8, 9, 10, 11, 12, 13, 14, 15, 16, 17, 18, 19, 20, 21, 22, 23, 24, 25, 26, 27, 28, 29, 30, 31, 32, 33, 34, 35, 36, 37, 38, 39, 40, 41, 42, 43, 44, 45, 46], [0, 1, 3, 4, 5, 6, 7, 8, 9, 10, 11, 12, 13, 14, 15, 16, 17, 18, 19, 20, 21, 22, 23, 24, 25, 26, 27, 28, 29, 30, 31, 32, 33, 34, 35, 36, 37, 38, 39, 40, 41, 42, 43, 44, 45, 46]))], sk := [], mvs := [], fz := [], fa := [3] }
def fCf_a (l0 : List Sc) : List AV := enc [.p .sl] [.l l0]
def fCf_i (l0 : List Sc) : List AV := enc [] []
def fCf_en (r : List Sc) : List AV × List AV := (enc [.p (.al 0)] [], enc [.own 3] [.l r])
def fCf_M : Calling := noC
theorem fCf_Mt : CallOk Tryz.prog (fCf_M) := noC_true
theorem fCf_o : loopsOnce Tryz.f55 = true := by kernel_rfl
def fCf_h2 : List Sh := [.p .sl, .u, .u, .fr 3, .p (.int .i64), .p (.int .i64), .u, .u, .u, .u, .u, .u, .u, .u, .u, .u, .u, .u, .u, .u, .u, .u, .u, .u, .u, .u, .u, .u, .u, .u, .u, .u, .u, .u, .u, .u, .u, .u, .u, .u, .u, .u, .u, .u, .u, .u, .u]
def fCf_fr2 (l0 out3 : List Sc) (i4 s : Int) : List AV := enc fCf_h2 [.l l0, .l out3, .i i4, .i s]
def fCf_g2_1 : List Sh := [.p .sl, .u, .u, .fr 3, .p (.int .i64), .p (.int .i64), .u, .u, .u, .u, .u, .u, .u, .u, .u, .u, .u, .u, .u, .u, .u, .u, .u, .u, .u, .u, .u, .u, .u, .u, .u, .u, .u, .u, .u, .u, .u, .u, .u, .u, .u, .u, .u, .u, .u, .u, .u]
def fCf_x2_1 (l0 out3 : List Sc) (i4 e : Int) : X × List AV := (.out 2, enc fCf_g2_1 [.l l0, .l out3, .i i4, .i e])
def fCf_x2_2 (l0 out3 : List Sc) (i4 : Int) (_e : Unit) : X × List AV := (.ret, [])
theorem fCf_p2 {R : Type} (l0 out3 : List Sc) (i4 s : Int) (kN kA : Int → Option R) (kB : Unit → Option R) : fCf_k2 l0 out3 i4 s kN kA = (fCf_r2 l0 out3 i4 s).bind (Ro.el kN kA kB) := by
  simp only [fCf_k2, fCf_r2, brB, someB, noneB, Ro.el]
theorem fCf_e2 (l0 out3 : List Sc) (i4 s : Int) : EC E0 fCf_M H0 fCf_F (asL (noL)) 2 (bodyOf Tryz.f55 2) (fCf_fr2 l0 out3 i4 s) (done (klOf fCf_F 2)) = fCf_k2 l0 out3 i4 s (fun s => some (.norm, fCf_fr2 l0 out3 i4 s)) (fun e => some (fCf_x2_1 l0 out3 i4 e)) := by kernel_rfl
theorem fCf_l2 (l0 out3 : List Sc) (i4 : Int) : ∀ s r, loopL (fCf_r2 l0 out3 i4) s = some r → LS Tryz.prog fCf_F (bodyOf Tryz.f55 2) (fCf_fr2 l0 out3 i4 s) (enX (fCf_x2_1 l0 out3 i4) (fCf_x2_2 l0 out3 i4) r) :=
  loop_true E0ok fCf_Mt (noL_true) fCf_o (fun _ h => by cases h) (fun _ h => by cases h) (fun _ h => by cases h) (fun _ h => by cases h) (fun s => (fCf_e2 l0 out3 i4 s).trans (fCf_p2 l0 out3 i4 s _ _ (fun e => some (fCf_x2_2 l0 out3 i4 e))))
def fCf_t2 (σ : List AV) : Option (Bool × Bool × (X × List AV) × (X × List AV)) := match dec fCf_h2 σ with | some [.l l0, .l out3, .i i4, .i k5] => some (isOne (loopL (fCf_r2 l0 out3 i4) k5), true, fCf_x2_1 l0 out3 i4 (getOne 0 (loopL (fCf_r2 l0 out3 i4) k5)), (.ret, [])) | _ => none
theorem fCf_tt2 : TTrue Tryz.prog fCf_F Tryz.f55 2 (fCf_t2) := by
  intro σ p r r' h
  unfold fCf_t2 at h
  split at h
  · rename_i hd
    rw [← dec_enc hd]
    exact row1 (fCf_l2 _ _ _ _) h
  · cases h
def fCf_h0 : List Sh := [.p .sl, .u, .u, .fr 3, .p (.int .i64), .u, .u, .u, .u, .u, .u, .u, .u, .u, .u, .u, .u, .u, .u, .u, .u, .u, .u, .u, .u, .u, .u, .u, .u, .u, .u, .u, .u, .u, .u, .u, .u, .u, .u, .u, .u, .u, .u, .u, .u, .u, .u]
def fCf_fr0 (l0 : List Sc) (s : List Sc × Int) : List AV := enc fCf_h0 [.l l0, .l s.1, .i s.2]
def fCf_g0_1 : List Sh := [.p .sl, .u, .u, .fr 3, .p (.int .i64), .u, .u, .u, .u, .u, .u, .u, .u, .u, .u, .u, .u, .u, .u, .u, .u, .u, .u, .u, .u, .u, .u, .u, .u, .u, .u, .u, .u, .u, .u, .u, .u, .u, .u, .u, .u, .u, .u, .u, .u, .u, .u]
def fCf_x0_1 (l0 : List Sc) (e : List Sc × Int) : X × List AV := (.out 0, enc fCf_g0_1 [.l l0, .l e.1, .i e.2])
def fCf_x0_2 (l0 : List Sc) (_e : Unit) : X × List AV := (.ret, [])
theorem fCf_p0 {R : Type} (l0 : List Sc) (s : List Sc × Int) (kN kA : List Sc × Int → Option R) (kB : Unit → Option R) : fCf_k0 l0 s.1 s.2 kN kA = (fCf_r0 l0 s).bind (Ro.el kN kA kB) := by
  simp only [fCf_k0, fCf_r0, brB, bl1B, someB, noneB, Ro.el]
theorem fCf_e0 (l0 : List Sc) (s : List Sc × Int) : EC E0 fCf_M H0 fCf_F (asL (addL 2 (fCf_t2) (noL))) 0 (bodyOf Tryz.f55 0) (fCf_fr0 l0 s) (done (klOf fCf_F 0)) = fCf_k0 l0 s.1 s.2 (fun s => some (.norm, fCf_fr0 l0 s)) (fun e => some (fCf_x0_1 l0 e)) := by kernel_rfl
theorem fCf_l0 (l0 : List Sc) : ∀ s r, loopL (fCf_r0 l0) s = some r → LS Tryz.prog fCf_F (bodyOf Tryz.f55 0) (fCf_fr0 l0 s) (enX (fCf_x0_1 l0) (fCf_x0_2 l0) r) :=
  loop_true E0ok fCf_Mt (addL_true (fCf_tt2) (noL_true)) fCf_o (fun _ h => by cases h) (fun _ h => by cases h) (fun _ h => by cases h) (fun _ h => by cases h) (fun s => (fCf_e0 l0 s).trans (fCf_p0 l0 s _ _ (fun e => some (fCf_x0_2 l0 e))))
def fCf_t0 (σ : List AV) : Option (Bool × Bool × (X × List AV) × (X × List AV)) := match dec fCf_h0 σ with | some [.l l0, .l out3, .i i4] => some (isOne (loopL (fCf_r0 l0) (out3, i4)), true, fCf_x0_1 l0 (getOne ([], 0) (loopL (fCf_r0 l0) (out3, i4))), (.ret, [])) | _ => none
theorem fCf_tt0 : TTrue Tryz.prog fCf_F Tryz.f55 0 (fCf_t0) := by
  intro σ p r r' h
  unfold fCf_t0 at h
  split at h
  · rename_i hd
    rw [← dec_enc hd]
    exact row1 (fCf_l0 _ _) h
  · cases h
theorem fCf_p {R : Type} (l0 : List Sc) (kR : List Sc → Option R) : fCf_k l0 kR = (fCf_k l0 some).bind kR := by
  simp only [fCf_k, bl1B, someB]
theorem fCf_e (l0 : List Sc) : runFn E0 fCf_M H0 fCf_F (asL (addL 0 (fCf_t0) (addL 2 (fCf_t2) (noL)))) Tryz.f55 (fCf_a l0) (fCf_i l0) = fCf_k l0 (fun r => some (fCf_en r)) := by kernel_rfl
theorem fCf_ok (l0 r : List Sc) (h : fCf l0 = some r) : CS Tryz.prog 55 (fCf_a l0) (fCf_i l0) (fCf_en r).1 (fCf_en r).2 :=
  fn_true (Gk := fun k => fCf_k l0 k) (en := fCf_en) Tryz.func55 E0ok fCf_Mt (addL_true (fCf_tt0) (addL_true (fCf_tt2) (noL_true))) fCf_o (fCf_e l0) (fCf_p l0) h
def fCf_c : CRow := fun args inh => match dec2 [.p .sl] [] args inh with | some ([.l l0], []) => some ((fCf l0).isSome, (fCf_en ((fCf l0).getD [])).1, (fCf_en ((fCf l0).getD [])).2) | _ => none
theorem fCf_cc : CTrue Tryz.prog 55 fCf_c := by
  intro args inh rs out h
  unfold fCf_c at h
  split at h
  · rename_i hd
    obtain ⟨h1, h2⟩ := dec2_enc hd
    rw [← h1, ← h2]
    exact rowC (fCf_ok _) h
  · cases h
def fCg_F : Fi := { nv := 7, nc := 5, m := 0, vt := [(2, 0), (5, 1), (11, 2), (13, 5), (63, 6)], kl := [(0, ([5, 6, 7, 8, 10, 16, 17, 18, 19, 20, 21, 22, 23, 24, 25, 26, 27, 28, 29, 30, 31, 32, 33, 34, 35, 36, 37, 38, 39, 40, 41, 42, 43, 44, 45, 46, 47, 48, 49, 50, 51, 52, 53, 54, 55, 56, 57, 58, 59, 60, 61, 62, 63, 64, 65, 66, 67, 68, 69, 70, 71, 72, 73, 74, 75], [5, 6, 7, 8, 10, 14, 15, 16, 17, 18, 19, 20, 21, 22, 23, 24, 25, 26, 27, 28, 29, 30, 31, 32, 33, 34, 35, 36, 37, 38, 39, 40, 41, 42, 43, 44, 45, 46, 47, 48, 49, 50, 51, 52, 53, 54, 55, 56, 57, 58, 59, 60, 61, 62, 63, 64, 65, 66, 67, 68, 69, 70, 71, 72, 73, 74, 75], [1, 2, 3, 4, 5, 6, 7, 8, 11, 12, 13, 14, 15, 16, 17, 18, 19, 20, 21, 22, 23, 24, 25, 26, 27, 28, 29, 30, 31, 32, 33, 34, 35, 36, 37, 38, 39, 40, 41, 42, 43, 44, 45, 46, 47, 48, 49, 50, 51, 52, 53, 54, 55, 56, 57, 58, 59, 60, 61, 62, 63, 64, 65, 66, 67, 68, 69, 70, 71, 72, 73, 74, 75]))], sk := [], mvs := [5, 6], fz := [] }
def fCg_a (L0 : List Sc) : List AV := enc [.p .sl] [.l L0]
def fCg_i (L0 : List Sc) : List AV := enc [] []
def fCg_en (r : List Sc × List Sc) : List AV × List AV := (enc [.p (.go 0), .p (.al 1)] [], enc [.own 3, .own 3] [.l r.1, .l r.2])
def fCg_M : Calling := addC 29 fCq_c (addC 32 fBq_c (addC 44 fCh_c (addC 59 fBd_c (addC 30 fBp_c (addC 74 fBw_c (addC 64 fCo_c (addC 65 fAp_c (addC 55 fCf_c (addC 31 fBv_c (noC))))))))))
theorem fCg_Mt : CallOk Tryz.prog (fCg_M) := addC_true fCq_cc (addC_true fBq_cc (addC_true fCh_cc (addC_true fBd_cc (addC_true fBp_cc (addC_true fBw_cc (addC_true fCo_cc (addC_true fAp_cc (addC_true fCf_cc (addC_true fBv_cc (noC_true))))))))))
theorem fCg_o : loopsOnce Tryz.f49 = true := by kernel_rfl
def fCg_h0 : List Sh := [.p .sl, .own 3, .p .sl, .p (.int .i64), .p (.int .i64), .u, .u, .u, .u, .p (.pt 0 1), .u, .p (.pt 2 3), .p (.pt 1 1), .own 3, .p (.int .i64), .p (.int .i64), .u, .u, .u, .u, .u, .u, .u, .u, .u, .u, .u, .u, .u, .u, .u, .u, .u, .u, .u, .u, .u, .u, .u, .u, .u, .u, .u, .u, .u, .u, .u, .u, .u, .u, .u, .u, .u, .u, .u, .u, .u, .u, .u, .u, .u, .u, .u, .u, .u, .u, .u, .u, .u, .u, .u, .u, .u, .u, .u, .u]
def fCg_fr0 (t7 : Int) (s : List Sc × List Sc × List Sc × Int × Int × List Sc × Int) : List AV := enc fCg_h0 [.l s.1, .l s.2.1, .l s.2.2.1, .i s.2.2.2.1, .i s.2.2.2.2.1, .l s.2.2.2.2.2.1, .i t7, .i s.2.2.2.2.2.2]
def fCg_g0_1 : List Sh := [.p .sl, .own 3, .p .sl, .p (.int .i64), .p (.int .i64), .u, .u, .u, .u, .p (.pt 0 1), .u, .p (.pt 2 3), .p (.pt 1 1), .own 3, .u, .u, .u, .u, .u, .u, .u, .u, .u, .u, .u, .u, .u, .u, .u, .u, .u, .u, .u, .u, .u, .u, .u, .u, .u, .u, .u, .u, .u, .u, .u, .u, .u, .u, .u, .u, .u, .u, .u, .u, .u, .u, .u, .u, .u, .u, .u, .u, .u, .u, .u, .u, .u, .u, .u, .u, .u, .u, .u, .u, .u, .u]
def fCg_x0_1 (t7 : Int) (e : List Sc × List Sc × List Sc × Int × Int × List Sc) : X × List AV := (.out 0, enc fCg_g0_1 [.l e.1, .l e.2.1, .l e.2.2.1, .i e.2.2.2.1, .i e.2.2.2.2.1, .l e.2.2.2.2.2])
def fCg_x0_2 (t7 : Int) (_e : Unit) : X × List AV := (.ret, [])
theorem fCg_p0 {R : Type} (t7 : Int) (s : List Sc × List Sc × List Sc × Int × Int × List Sc × Int) (kN : List Sc × List Sc × List Sc × Int × Int × List Sc × Int → Option R) (kA : List Sc × List Sc × List Sc × Int × Int × List Sc → Option R) (kB : Unit → Option R) : fCg_k0 t7 s.1 s.2.1 s.2.2.1 s.2.2.2.1 s.2.2.2.2.1 s.2.2.2.2.2.1 s.2.2.2.2.2.2 kN kA = (fCg_r0 t7 s).bind (Ro.el kN kA kB) := by
  simp only [fCg_k0, fCg_r0, brB, boB, someB, noneB, Ro.el]
theorem fCg_e0 (t7 : Int) (s : List Sc × List Sc × List Sc × Int × Int × List Sc × Int) : EC E0 fCg_M H0 fCg_F (asL (noL)) 0 (bodyOf Tryz.f49 0) (fCg_fr0 t7 s) (done (klOf fCg_F 0)) = fCg_k0 t7 s.1 s.2.1 s.2.2.1 s.2.2.2.1 s.2.2.2.2.1 s.2.2.2.2.2.1 s.2.2.2.2.2.2 (fun s => some (.norm, fCg_fr0 t7 s)) (fun e => some (fCg_x0_1 t7 e)) := by kernel_rfl
theorem fCg_l0 (t7 : Int) : ∀ s r, loopL (fCg_r0 t7) s = some r → LS Tryz.prog fCg_F (bodyOf Tryz.f49 0) (fCg_fr0 t7 s) (enX (fCg_x0_1 t7) (fCg_x0_2 t7) r) :=
  loop_true E0ok fCg_Mt (noL_true) fCg_o (fun _ h => by cases h) (fun _ h => by cases h) (fun _ h => by cases h) (fun _ h => by cases h) (fun s => (fCg_e0 t7 s).trans (fCg_p0 t7 s _ _ (fun e => some (fCg_x0_2 t7 e))))
def fCg_t0 (σ : List AV) : Option (Bool × Bool × (X × List AV) × (X × List AV)) := match dec fCg_h0 σ with | some [.l v0, .l v1, .l v2, .i v3, .i v4, .l t6, .i t7, .i t8] => some (isOne (loopL (fCg_r0 t7) (v0, v1, v2, v3, v4, t6, t8)), true, fCg_x0_1 t7 (getOne ([], [], [], 0, 0, []) (loopL (fCg_r0 t7) (v0, v1, v2, v3, v4, t6, t8))), (.ret, [])) | _ => none
theorem fCg_tt0 : TTrue Tryz.prog fCg_F Tryz.f49 0 (fCg_t0) := by
  intro σ p r r' h
  unfold fCg_t0 at h
  split at h
  · rename_i hd
    rw [← dec_enc hd]
    exact row1 (fCg_l0 _ _) h
  · cases h
theorem fCg_p {R : Type} (L0 : List Sc) (kR : List Sc × List Sc → Option R) : fCg_k L0 kR = (fCg_k L0 some).bind kR := by
  simp only [fCg_k, brB, boB, bl1B, someB, noneB]
theorem fCg_e (L0 : List Sc) : runFn E0 fCg_M H0 fCg_F (asL (addL 0 (fCg_t0) (noL))) Tryz.f49 (fCg_a L0) (fCg_i L0) = fCg_k L0 (fun r => some (fCg_en r)) := by kernel_rfl
theorem fCg_ok (L0 : List Sc) (r : List Sc × List Sc) (h : fCg L0 = some r) : CS Tryz.prog 49 (fCg_a L0) (fCg_i L0) (fCg_en r).1 (fCg_en r).2 :=
  fn_true (Gk := fun k => fCg_k L0 k) (en := fCg_en) Tryz.func49 E0ok fCg_Mt (addL_true (fCg_tt0) (noL_true)) fCg_o (fCg_e L0) (fCg_p L0) h
def fCg_c : CRow := fun args inh => match dec2 [.p .sl] [] args inh with | some ([.l L0], []) => some ((fCg L0).isSome, (fCg_en ((fCg L0).getD ([], []))).1, (fCg_en ((fCg L0).getD ([], []))).2) | _ => none
theorem fCg_cc : CTrue Tryz.prog 49 fCg_c := by
  intro args inh rs out h
  unfold fCg_c at h
  split at h
  · rename_i hd
    obtain ⟨h1, h2⟩ := dec2_enc hd
    rw [← h1, ← h2]
    exact rowC (fCg_ok _) h
  · cases h
def fAa_F : Fi := { nv := 4, nc := 2, m := 0, vt := [(2, 0), (4, 1), (8, 2)], kl := [], sk := [], mvs := [2, 3], fz := [] }
def fAa_a (code0 : List Sc) : List AV := enc [.p .sl] [.l code0]
def fAa_i (code0 : List Sc) : List AV := enc [] []
def fAa_en (r : List Sc × List Sc) : List AV × List AV := (enc [.p (.go 0), .p (.al 1)] [], enc [.own 3, .own 3] [.l r.1, .l r.2])
def fAa_M : Calling := addC 49 fCg_c (noC)
theorem fAa_Mt : CallOk Tryz.prog (fAa_M) := addC_true fCg_cc (noC_true)
theorem fAa_o : loopsOnce Tryz.f12 = true := by kernel_rfl
theorem fAa_p {R : Type} (code0 : List Sc) (kR : List Sc × List Sc → Option R) : fAa_k code0 kR = (fAa_k code0 some).bind kR := by
  simp only [fAa_k, boB, someB]
theorem fAa_e (code0 : List Sc) : runFn E0 fAa_M H0 fAa_F (asL (noL)) Tryz.f12 (fAa_a code0) (fAa_i code0) = fAa_k code0 (fun r => some (fAa_en r)) := by kernel_rfl
theorem fAa_ok (code0 : List Sc) (r : List Sc × List Sc) (h : fAa code0 = some r) : CS Tryz.prog 12 (fAa_a code0) (fAa_i code0) (fAa_en r).1 (fAa_en r).2 :=
  fn_true (Gk := fun k => fAa_k code0 k) (en := fAa_en) Tryz.func12 E0ok fAa_Mt (noL_true) fAa_o (fAa_e code0) (fAa_p code0) h
def fAa_c : CRow := fun args inh => match dec2 [.p .sl] [] args inh with | some ([.l code0], []) => some ((fAa code0).isSome, (fAa_en ((fAa code0).getD ([], []))).1, (fAa_en ((fAa code0).getD ([], []))).2) | _ => none
theorem fAa_cc : CTrue Tryz.prog 12 fAa_c := by
  intro args inh rs out h
  unfold fAa_c at h
  split at h
  · rename_i hd
    obtain ⟨h1, h2⟩ := dec2_enc hd
    rw [← h1, ← h2]
    exact rowC (fAa_ok _) h
  · cases h
def fAb_F : Fi := { nv := 1, nc := 1, m := 1, vt := [], kl := [(0, ([1, 4, 5, 6, 8, 9, 13, 14, 15, 16, 17, 18, 19, 20, 21, 22, 23, 24, 25, 26, 27, 28, 29, 30, 31, 32, 33, 34], [1, 2, 3, 4, 5, 6, 8, 9, 10, 11, 12, 13, 14, 15, 16, 17, 18, 19, 20, 21, 22, 23, 24, 25, 26, 27, 28, 29, 30, 31, 32, 33, 34], [1, 2, 3, 4, 5, 7, 8, 9, 10, 11, 12, 13, 14, 15, 16, 17, 18, 19, 20, 21, 22, 23, 24, 25, 26, 27, 28, 29, 30, 31, 32, 33, 34]))], sk := [], mvs := [], fz := [] }
def fAb_a (a0 : List Sc) (k1 : Int) (h0 : List Sc) : List AV := enc [.p .sl, .p (.int .i64), .p (.pt 0 1)] [.l a0, .i k1]
def fAb_i (a0 : List Sc) (k1 : Int) (h0 : List Sc) : List AV := enc [.own 3] [.l h0]
def fAb_en (r : Bool × List Sc) : List AV × List AV := (enc [.p .boo] [.b r.1], enc [.own 3] [.l r.2])
def fAb_M : Calling := noC
theorem fAb_Mt : CallOk Tryz.prog (fAb_M) := noC_true
theorem fAb_o : loopsOnce Tryz.f50 = true := by kernel_rfl
def fAb_h0 : List Sh := [.own 3, .u, .p (.int .i64), .p (.pt 0 1), .u, .u, .u, .p .boo, .u, .u, .p .sl, .p (.int .i64), .p (.int .i64), .u, .u, .u, .u, .u, .u, .u, .u, .u, .u, .u, .u, .u, .u, .u, .u, .u, .u, .u, .u, .u, .u]
def fAb_fr0 (k1 : Int) (t9 : List Sc) (t10 : Int) (s : List Sc × Bool × Int) : List AV := enc fAb_h0 [.l s.1, .i k1, .b s.2.1, .l t9, .i t10, .i s.2.2]
def fAb_g0_1 : List Sh := [.own 3, .u, .u, .u, .u, .u, .u, .p .boo, .u, .u, .u, .u, .u, .u, .u, .u, .u, .u, .u, .u, .u, .u, .u, .u, .u, .u, .u, .u, .u, .u, .u, .u, .u, .u, .u]
def fAb_x0_1 (k1 : Int) (t9 : List Sc) (t10 : Int) (e : List Sc × Bool) : X × List AV := (.out 0, enc fAb_g0_1 [.l e.1, .b e.2])
def fAb_x0_2 (k1 : Int) (t9 : List Sc) (t10 : Int) (_e : Unit) : X × List AV := (.ret, [])
theorem fAb_p0 {R : Type} (k1 : Int) (t9 : List Sc) (t10 : Int) (s : List Sc × Bool × Int) (kN : List Sc × Bool × Int → Option R) (kA : List Sc × Bool → Option R) (kB : Unit → Option R) : fAb_k0 k1 t9 t10 s.1 s.2.1 s.2.2 kN kA = (fAb_r0 k1 t9 t10 s).bind (Ro.el kN kA kB) := by
  simp only [fAb_k0, fAb_r0, brB, someB, noneB, Ro.el]
theorem fAb_e0 (k1 : Int) (t9 : List Sc) (t10 : Int) (s : List Sc × Bool × Int) : EC E0 fAb_M H0 fAb_F (asL (noL)) 0 (bodyOf Tryz.f50 0) (fAb_fr0 k1 t9 t10 s) (done (klOf fAb_F 0)) = fAb_k0 k1 t9 t10 s.1 s.2.1 s.2.2 (fun s => some (.norm, fAb_fr0 k1 t9 t10 s)) (fun e => some (fAb_x0_1 k1 t9 t10 e)) := by kernel_rfl
theorem fAb_l0 (k1 : Int) (t9 : List Sc) (t10 : Int) : ∀ s r, loopL (fAb_r0 k1 t9 t10) s = some r → LS Tryz.prog fAb_F (bodyOf Tryz.f50 0) (fAb_fr0 k1 t9 t10 s) (enX (fAb_x0_1 k1 t9 t10) (fAb_x0_2 k1 t9 t10) r) :=
  loop_true E0ok fAb_Mt (noL_true) fAb_o (fun _ h => by cases h) (fun _ h => by cases h) (fun _ h => by cases h) (fun _ h => by cases h) (fun s => (fAb_e0 k1 t9 t10 s).trans (fAb_p0 k1 t9 t10 s _ _ (fun e => some (fAb_x0_2 k1 t9 t10 e))))
def fAb_t0 (σ : List AV) : Option (Bool × Bool × (X × List AV) × (X × List AV)) := match dec fAb_h0 σ with | some [.l v0, .i k1, .b fits6, .l t9, .i t10, .i t11] => some (isOne (loopL (fAb_r0 k1 t9 t10) (v0, fits6, t11)), true, fAb_x0_1 k1 t9 t10 (getOne ([], false) (loopL (fAb_r0 k1 t9 t10) (v0, fits6, t11))), (.ret, [])) | _ => none
theorem fAb_tt0 : TTrue Tryz.prog fAb_F Tryz.f50 0 (fAb_t0) := by
  intro σ p r r' h
  unfold fAb_t0 at h
  split at h
  · rename_i hd
    rw [← dec_enc hd]
    exact row1 (fAb_l0 _ _ _ _) h
  · cases h
theorem fAb_p {R : Type} (a0 : List Sc) (k1 : Int) (h0 : List Sc) (kR : Bool × List Sc → Option R) : fAb_k a0 k1 h0 kR = (fAb_k a0 k1 h0 some).bind kR := by
  simp only [fAb_k, bl1B, someB]
theorem fAb_e (a0 : List Sc) (k1 : Int) (h0 : List Sc) : runFn E0 fAb_M H0 fAb_F (asL (addL 0 (fAb_t0) (noL))) Tryz.f50 (fAb_a a0 k1 h0) (fAb_i a0 k1 h0) = fAb_k a0 k1 h0 (fun r => some (fAb_en r)) := by kernel_rfl
theorem fAb_ok (a0 : List Sc) (k1 : Int) (h0 : List Sc) (r : Bool × List Sc) (h : fAb a0 k1 h0 = some r) : CS Tryz.prog 50 (fAb_a a0 k1 h0) (fAb_i a0 k1 h0) (fAb_en r).1 (fAb_en r).2 :=
  fn_true (Gk := fun k => fAb_k a0 k1 h0 k) (en := fAb_en) Tryz.func50 E0ok fAb_Mt (addL_true (fAb_tt0) (noL_true)) fAb_o (fAb_e a0 k1 h0) (fAb_p a0 k1 h0) h
def fAb_c : CRow := fun args inh => match dec2 [.p .sl, .p (.int .i64), .p (.pt 0 1)] [.own 3] args inh with | some ([.l a0, .i k1], [.l h0]) => some ((fAb a0 k1 h0).isSome, (fAb_en ((fAb a0 k1 h0).getD (false, []))).1, (fAb_en ((fAb a0 k1 h0).getD (false, []))).2) | _ => none
theorem fAb_cc : CTrue Tryz.prog 50 fAb_c := by
  intro args inh rs out h
  unfold fAb_c at h
  split at h
  · rename_i hd
    obtain ⟨h1, h2⟩ := dec2_enc hd
    rw [← h1, ← h2]
    exact rowC (fAb_ok _ _ _) h
  · cases h
def fAc_F : Fi := { nv := 5, nc := 5, m := 5, vt := [], kl := [(2, ([5, 9, 12, 13, 14, 15, 16, 17, 19, 20, 21, 22, 23, 24, 25, 26, 27, 28, 29, 30, 31, 32, 33, 34, 35, 36, 37, 38, 39, 40, 41, 42, 43, 44, 45, 46, 47, 48, 49, 50, 51, 52, 53, 54, 55, 56, 57, 58, 59, 60, 61, 62, 63, 64, 65, 66, 67, 68, 69, 70, 71, 72, 73, 74], [5, 6, 7, 8, 9, 10, 11, 12, 13, 14, 15, 16, 17, 18, 19, 20, 21, 22, 23, 24, 25, 26, 27, 28, 29, 30, 31, 32, 33, 34, 35, 36, 37, 38, 39, 40, 41, 42, 43, 44, 45, 46, 47, 48, 49, 50, 51, 52, 53, 54, 55, 56, 57, 58, 59, 60, 61, 62, 63, 64, 65, 66, 67, 68, 69, 70, 71, 72, 73, 74], [5, 6, 7, 8, 9, 10, 11, 12, 13, 14, 15, 16, 17, 18, 19, 20, 21, 22, 23, 24, 25, 26, 27, 28, 29, 30, 31, 32, 33, 34, 35, 36, 37, 38, 39, 40, 41, 42, 43, 44, 45, 46, 47, 48, 49, 50, 51, 52, 53, 54, 55, 56, 57, 58, 59, 60, 61, 62, 63, 64, 65, 66, 67, 68, 69, 70, 71, 72, 73, 74])), (0, ([5, 6, 7, 10, 11, 12, 13, 14, 16, 17, 18, 19, 20, 21, 25, 26, 27, 28, 29, 30, 31, 32, 33, 34, 35, 36, 37, 38, 39, 40, 41, 42, 43, 44, 45, 46, 47, 48, 49, 50, 51, 52, 53, 54, 55, 56, 57, 58, 59, 60, 61, 62, 63, 64, 65, 66, 67, 68, 69, 70, 71, 72, 73, 74], [5, 6, 7, 8, 10, 11, 12, 13, 14, 16, 17, 18, 19, 20, 21, 22, 23, 24, 25, 26, 27, 28, 29, 30, 31, 32, 33, 34, 35, 36, 37, 38, 39, 40, 41, 42, 43, 44, 45, 46, 47, 48, 49, 50, 51, 52, 53, 54, 55, 56, 57, 58, 59, 60, 61, 62, 63, 64, 65, 66, 67, 68, 69, 70, 71, 72, 73, 74], [5, 6, 7, 8, 9, 10, 11, 12, 13, 14, 15, 16, 17, 18, 19, 20, 21, 22, 23, 24, 25, 26, 27, 28, 29, 30, 31, 32, 33, 34, 35, 36, 37, 38, 39, 40, 41, 42, 43, 44, 45, 46, 47, 48, 49, 50, 51, 52, 53, 54, 55, 56, 57, 58, 59, 60, 61, 62, 63, 64, 65, 66, 67, 68, 69, 70, 71, 72, 73, 74]))], sk := [], mvs := [], fz := [] }
def fAc_a (L0 p1 : Int) (p2 h0 h1 h4 : List Sc) : List AV := enc [.p (.int .i64), .p (.int .i64), .p .sl, .p (.pt 0 1), .p (.pt 1 1), .p (.pt 2 1), .p (.pt 3 1)] [.i L0, .i p1, .l p2]
def fAc_i (L0 p1 : Int) (p2 h0 h1 h4 : List Sc) : List AV := enc [.own 1000024, .own 2000028, .fn 50 [.pt 4 1], .fn 51 [.pt 0 1, .pt 1 1, .pt 2 1, .pt 3 1], .own 3] [.l h0, .l h1, .l h4]
def fAc_en (r : List Sc × List Sc × List Sc) : List AV × List AV := (enc [] [], enc [.own 1000024, .own 2000028, .fn 50 [.pt 4 1], .fn 51 [.pt 0 1, .pt 1 1, .pt 2 1, .pt 3 1], .own 3] [.l r.1, .l r.2.1, .l r.2.2])
def fAc_cs (self : (Int × Int × List Sc × List Sc × List Sc × List Sc) → Option (List Sc × List Sc × List Sc)) : CRow := fun args inh => match dec2 [.p (.int .i64), .p (.int .i64), .p .sl, .p (.pt 0 1), .p (.pt 1 1), .p (.pt 2 1), .p (.pt 3 1)] [.own 1000024, .own 2000028, .fn 50 [.pt 4 1], .fn 51 [.pt 0 1, .pt 1 1, .pt 2 1, .pt 3 1], .own 3] args inh with | some ([.i L0, .i p1, .l p2], [.l h0, .l h1, .l h4]) => some ((self (L0, p1, p2, h0, h1, h4)).isSome, (fAc_en ((self (L0, p1, p2, h0, h1, h4)).getD ([], [], []))).1, (fAc_en ((self (L0, p1, p2, h0, h1, h4)).getD ([], [], []))).2) | _ => none
theorem fAc_cst (self : (Int × Int × List Sc × List Sc × List Sc × List Sc) → Option (List Sc × List Sc × List Sc)) (hs : ∀ a r, self a = some r → CS Tryz.prog 51 (fAc_a a.1 a.2.1 a.2.2.1 a.2.2.2.1 a.2.2.2.2.1 a.2.2.2.2.2) (fAc_i a.1 a.2.1 a.2.2.1 a.2.2.2.1 a.2.2.2.2.1 a.2.2.2.2.2) (fAc_en r).1 (fAc_en r).2) : CTrue Tryz.prog 51 (fAc_cs self) := by
  intro args inh rs out h
  unfold fAc_cs at h
  split at h
  · rename_i hd
    obtain ⟨h1, h2⟩ := dec2_enc hd
    rw [← h1, ← h2]
    exact rowC (hs _) h
  · cases h
def fAc_M (self : (Int × Int × List Sc × List Sc × List Sc × List Sc) → Option (List Sc × List Sc × List Sc)) : Calling := addC 51 (fAc_cs self) (addC 39 fBs_c (addC 50 fAb_c (noC)))
theorem fAc_Mt (self : (Int × Int × List Sc × List Sc × List Sc × List Sc) → Option (List Sc × List Sc × List Sc)) (hs : ∀ a r, self a = some r → CS Tryz.prog 51 (fAc_a a.1 a.2.1 a.2.2.1 a.2.2.2.1 a.2.2.2.2.1 a.2.2.2.2.2) (fAc_i a.1 a.2.1 a.2.2.1 a.2.2.2.1 a.2.2.2.2.1 a.2.2.2.2.2) (fAc_en r).1 (fAc_en r).2) : CallOk Tryz.prog (fAc_M self) := addC_true (fAc_cst self hs) (addC_true fBs_cc (addC_true fAb_cc (noC_true)))
theorem fAc_o : loopsOnce Tryz.f51 = true := by kernel_rfl
def fAc_h0 : List Sh := [.own 1000024, .own 2000028, .fn 50 [.pt 4 1], .fn 51 [.pt 0 1, .pt 1 1, .pt 2 1, .pt 3 1], .own 3, .u, .u, .u, .p (.pt 0 1), .p (.pt 1 1), .u, .u, .u, .u, .u, .own 1000024, .u, .u, .u, .u, .u, .u, .p .sl, .p (.int .i64), .p (.int .i64), .u, .u, .u, .u, .u, .u, .u, .u, .u, .u, .u, .u, .u, .u, .u, .u, .u, .u, .u, .u, .u, .u, .u, .u, .u, .u, .u, .u, .u, .u, .u, .u, .u, .u, .u, .u, .u, .u, .u, .u, .u, .u, .u, .u, .u, .u, .u, .u, .u, .u]
def fAc_fr0 (self : (Int × Int × List Sc × List Sc × List Sc × List Sc) → Option (List Sc × List Sc × List Sc)) (t17 : List Sc) (t18 : Int) (s : List Sc × List Sc × List Sc × List Sc × Int) : List AV := enc fAc_h0 [.l s.1, .l s.2.1, .l s.2.2.1, .l s.2.2.2.1, .l t17, .i t18, .i s.2.2.2.2]
def fAc_g0_1 : List Sh := [.own 1000024, .own 2000028, .fn 50 [.pt 4 1], .fn 51 [.pt 0 1, .pt 1 1, .pt 2 1, .pt 3 1], .own 3, .u, .u, .u, .u, .p (.pt 1 1), .u, .u, .u, .u, .u, .own 1000024, .u, .u, .u, .u, .u, .u, .u, .u, .u, .u, .u, .u, .u, .u, .u, .u, .u, .u, .u, .u, .u, .u, .u, .u, .u, .u, .u, .u, .u, .u, .u, .u, .u, .u, .u, .u, .u, .u, .u, .u, .u, .u, .u, .u, .u, .u, .u, .u, .u, .u, .u, .u, .u, .u, .u, .u, .u, .u, .u]
def fAc_x0_1 (self : (Int × Int × List Sc × List Sc × List Sc × List Sc) → Option (List Sc × List Sc × List Sc)) (t17 : List Sc) (t18 : Int) (e : List Sc × List Sc × List Sc × List Sc) : X × List AV := (.out 0, enc fAc_g0_1 [.l e.1, .l e.2.1, .l e.2.2.1, .l e.2.2.2])
def fAc_x0_2 (self : (Int × Int × List Sc × List Sc × List Sc × List Sc) → Option (List Sc × List Sc × List Sc)) (t17 : List Sc) (t18 : Int) (_e : Unit) : X × List AV := (.ret, [])
theorem fAc_p0 {R : Type} (self : (Int × Int × List Sc × List Sc × List Sc × List Sc) → Option (List Sc × List Sc × List Sc)) (t17 : List Sc) (t18 : Int) (s : List Sc × List Sc × List Sc × List Sc × Int) (kN : List Sc × List Sc × List Sc × List Sc × Int → Option R) (kA : List Sc × List Sc × List Sc × List Sc → Option R) (kB : Unit → Option R) : fAc_k0 self t17 t18 s.1 s.2.1 s.2.2.1 s.2.2.2.1 s.2.2.2.2 kN kA = (fAc_r0 self t17 t18 s).bind (Ro.el kN kA kB) := by
  simp only [fAc_k0, fAc_r0, brB, boB, someB, noneB, Ro.el]
theorem fAc_e0 (self : (Int × Int × List Sc × List Sc × List Sc × List Sc) → Option (List Sc × List Sc × List Sc)) (t17 : List Sc) (t18 : Int) (s : List Sc × List Sc × List Sc × List Sc × Int) : EC E0 (fAc_M self) H0 fAc_F (asL (noL)) 0 (bodyOf Tryz.f51 0) (fAc_fr0 self t17 t18 s) (done (klOf fAc_F 0)) = fAc_k0 self t17 t18 s.1 s.2.1 s.2.2.1 s.2.2.2.1 s.2.2.2.2 (fun s => some (.norm, fAc_fr0 self t17 t18 s)) (fun e => some (fAc_x0_1 self t17 t18 e)) := by kernel_rfl
theorem fAc_l0 (self : (Int × Int × List Sc × List Sc × List Sc × List Sc) → Option (List Sc × List Sc × List Sc)) (hs : ∀ a r, self a = some r → CS Tryz.prog 51 (fAc_a a.1 a.2.1 a.2.2.1 a.2.2.2.1 a.2.2.2.2.1 a.2.2.2.2.2) (fAc_i a.1 a.2.1 a.2.2.1 a.2.2.2.1 a.2.2.2.2.1 a.2.2.2.2.2) (fAc_en r).1 (fAc_en r).2) (t17 : List Sc) (t18 : Int) : ∀ s r, loopL (fAc_r0 self t17 t18) s = some r → LS Tryz.prog fAc_F (bodyOf Tryz.f51 0) (fAc_fr0 self t17 t18 s) (enX (fAc_x0_1 self t17 t18) (fAc_x0_2 self t17 t18) r) :=
  loop_true E0ok (fAc_Mt self hs) (noL_true) fAc_o (fun _ h => by cases h) (fun _ h => by cases h) (fun _ h => by cases h) (fun _ h => by cases h) (fun s => (fAc_e0 self t17 t18 s).trans (fAc_p0 self t17 t18 s _ _ (fun e => some (fAc_x0_2 self t17 t18 e))))
def fAc_t0 (self : (Int × Int × List Sc × List Sc × List Sc × List Sc) → Option (List Sc × List Sc × List Sc)) (σ : List AV) : Option (Bool × Bool × (X × List AV) × (X × List AV)) := match dec fAc_h0 σ with | some [.l v0, .l v1, .l v4, .l t10, .l t17, .i t18, .i t19] => some (isOne (loopL (fAc_r0 self t17 t18) (v0, v1, v4, t10, t19)), true, fAc_x0_1 self t17 t18 (getOne ([], [], [], []) (loopL (fAc_r0 self t17 t18) (v0, v1, v4, t10, t19))), (.ret, [])) | _ => none
theorem fAc_tt0 (self : (Int × Int × List Sc × List Sc × List Sc × List Sc) → Option (List Sc × List Sc × List Sc)) (hs : ∀ a r, self a = some r → CS Tryz.prog 51 (fAc_a a.1 a.2.1 a.2.2.1 a.2.2.2.1 a.2.2.2.2.1 a.2.2.2.2.2) (fAc_i a.1 a.2.1 a.2.2.1 a.2.2.2.1 a.2.2.2.2.1 a.2.2.2.2.2) (fAc_en r).1 (fAc_en r).2) : TTrue Tryz.prog fAc_F Tryz.f51 0 (fAc_t0 self) := by
  intro σ p r r' h
  unfold fAc_t0 at h
  split at h
  · rename_i hd
    rw [← dec_enc hd]
    exact row1 (fAc_l0 self hs _ _ _) h
  · cases h
def fAc_h2 : List Sh := [.own 1000024, .own 2000028, .fn 50 [.pt 4 1], .fn 51 [.pt 0 1, .pt 1 1, .pt 2 1, .pt 3 1], .own 3, .u, .p (.int .i64), .p .sl, .p (.pt 0 1), .u, .p (.pt 2 1), .p (.pt 3 1), .u, .u, .u, .u, .u, .u, .p (.int .i64), .u, .u, .u, .u, .u, .u, .u, .u, .u, .u, .u, .u, .u, .u, .u, .u, .u, .u, .u, .u, .u, .u, .u, .u, .u, .u, .u, .u, .u, .u, .u, .u, .u, .u, .u, .u, .u, .u, .u, .u, .u, .u, .u, .u, .u, .u, .u, .u, .u, .u, .u, .u, .u, .u, .u, .u]
def fAc_fr2 (self : (Int × Int × List Sc × List Sc × List Sc × List Sc) → Option (List Sc × List Sc × List Sc)) (t1 : Int) (t2 : List Sc) (s : List Sc × List Sc × List Sc × Int) : List AV := enc fAc_h2 [.l s.1, .l s.2.1, .l s.2.2.1, .i t1, .l t2, .i s.2.2.2]
def fAc_g2_1 : List Sh := [.own 1000024, .own 2000028, .fn 50 [.pt 4 1], .fn 51 [.pt 0 1, .pt 1 1, .pt 2 1, .pt 3 1], .own 3, .u, .u, .u, .u, .u, .u, .u, .u, .u, .u, .u, .u, .u, .u, .u, .u, .u, .u, .u, .u, .u, .u, .u, .u, .u, .u, .u, .u, .u, .u, .u, .u, .u, .u, .u, .u, .u, .u, .u, .u, .u, .u, .u, .u, .u, .u, .u, .u, .u, .u, .u, .u, .u, .u, .u, .u, .u, .u, .u, .u, .u, .u, .u, .u, .u, .u, .u, .u, .u, .u]
def fAc_x2_1 (self : (Int × Int × List Sc × List Sc × List Sc × List Sc) → Option (List Sc × List Sc × List Sc)) (t1 : Int) (t2 : List Sc) (e : List Sc × List Sc × List Sc) : X × List AV := (.out 2, enc fAc_g2_1 [.l e.1, .l e.2.1, .l e.2.2])
def fAc_x2_2 (self : (Int × Int × List Sc × List Sc × List Sc × List Sc) → Option (List Sc × List Sc × List Sc)) (t1 : Int) (t2 : List Sc) (_e : Unit) : X × List AV := (.ret, [])
theorem fAc_p2 {R : Type} (self : (Int × Int × List Sc × List Sc × List Sc × List Sc) → Option (List Sc × List Sc × List Sc)) (t1 : Int) (t2 : List Sc) (s : List Sc × List Sc × List Sc × Int) (kN : List Sc × List Sc × List Sc × Int → Option R) (kA : List Sc × List Sc × List Sc → Option R) (kB : Unit → Option R) : fAc_k2 self t1 t2 s.1 s.2.1 s.2.2.1 s.2.2.2 kN kA = (fAc_r2 self t1 t2 s).bind (Ro.el kN kA kB) := by
  simp only [fAc_k2, fAc_r2, brB, boB, someB, noneB, Ro.el]
theorem fAc_e2 (self : (Int × Int × List Sc × List Sc × List Sc × List Sc) → Option (List Sc × List Sc × List Sc)) (t1 : Int) (t2 : List Sc) (s : List Sc × List Sc × List Sc × Int) : EC E0 (fAc_M self) H0 fAc_F (asL (addL 0 (fAc_t0 self) (noL))) 2 (bodyOf Tryz.f51 2) (fAc_fr2 self t1 t2 s) (done (klOf fAc_F 2)) = fAc_k2 self t1 t2 s.1 s.2.1 s.2.2.1 s.2.2.2 (fun s => some (.norm, fAc_fr2 self t1 t2 s)) (fun e => some (fAc_x2_1 self t1 t2 e)) := by kernel_rfl
theorem fAc_l2 (self : (Int × Int × List Sc × List Sc × List Sc × List Sc) → Option (List Sc × List Sc × List Sc)) (hs : ∀ a r, self a = some r → CS Tryz.prog 51 (fAc_a a.1 a.2.1 a.2.2.1 a.2.2.2.1 a.2.2.2.2.1 a.2.2.2.2.2) (fAc_i a.1 a.2.1 a.2.2.1 a.2.2.2.1 a.2.2.2.2.1 a.2.2.2.2.2) (fAc_en r).1 (fAc_en r).2) (t1 : Int) (t2 : List Sc) : ∀ s r, loopL (fAc_r2 self t1 t2) s = some r → LS Tryz.prog fAc_F (bodyOf Tryz.f51 2) (fAc_fr2 self t1 t2 s) (enX (fAc_x2_1 self t1 t2) (fAc_x2_2 self t1 t2) r) :=
  loop_true E0ok (fAc_Mt self hs) (addL_true (fAc_tt0 self hs) (noL_true)) fAc_o (fun _ h => by cases h) (fun _ h => by cases h) (fun _ h => by cases h) (fun _ h => by cases h) (fun s => (fAc_e2 self t1 t2 s).trans (fAc_p2 self t1 t2 s _ _ (fun e => some (fAc_x2_2 self t1 t2 e))))
def fAc_t2 (self : (Int × Int × List Sc × List Sc × List Sc × List Sc) → Option (List Sc × List Sc × List Sc)) (σ : List AV) : Option (Bool × Bool × (X × List AV) × (X × List AV)) := match dec fAc_h2 σ with | some [.l v0, .l v1, .l v4, .i t1, .l t2, .i t13] => some (isOne (loopL (fAc_r2 self t1 t2) (v0, v1, v4, t13)), true, fAc_x2_1 self t1 t2 (getOne ([], [], []) (loopL (fAc_r2 self t1 t2) (v0, v1, v4, t13))), (.ret, [])) | _ => none
theorem fAc_tt2 (self : (Int × Int × List Sc × List Sc × List Sc × List Sc) → Option (List Sc × List Sc × List Sc)) (hs : ∀ a r, self a = some r → CS Tryz.prog 51 (fAc_a a.1 a.2.1 a.2.2.1 a.2.2.2.1 a.2.2.2.2.1 a.2.2.2.2.2) (fAc_i a.1 a.2.1 a.2.2.1 a.2.2.2.1 a.2.2.2.2.1 a.2.2.2.2.2) (fAc_en r).1 (fAc_en r).2) : TTrue Tryz.prog fAc_F Tryz.f51 2 (fAc_t2 self) := by
  intro σ p r r' h
  unfold fAc_t2 at h
  split at h
  · rename_i hd
    rw [← dec_enc hd]
    exact row1 (fAc_l2 self hs _ _ _) h
  · cases h
theorem fAc_p {R : Type} (self : (Int × Int × List Sc × List Sc × List Sc × List Sc) → Option (List Sc × List Sc × List Sc)) (L0 p1 : Int) (p2 h0 h1 h4 : List Sc) (kR : List Sc × List Sc × List Sc → Option R) : fAc_k self L0 p1 p2 h0 h1 h4 kR = (fAc_k self L0 p1 p2 h0 h1 h4 some).bind kR := by
  simp only [fAc_k, brB, bl1B, someB, noneB]
theorem fAc_e (self : (Int × Int × List Sc × List Sc × List Sc × List Sc) → Option (List Sc × List Sc × List Sc)) (L0 p1 : Int) (p2 h0 h1 h4 : List Sc) : runFn E0 (fAc_M self) H0 fAc_F (asL (addL 2 (fAc_t2 self) (addL 0 (fAc_t0 self) (noL)))) Tryz.f51 (fAc_a L0 p1 p2 h0 h1 h4) (fAc_i L0 p1 p2 h0 h1 h4) = fAc_k self L0 p1 p2 h0 h1 h4 (fun r => some (fAc_en r)) := by kernel_rfl
theorem fAc_ks (self : (Int × Int × List Sc × List Sc × List Sc × List Sc) → Option (List Sc × List Sc × List Sc)) (hs : ∀ a r, self a = some r → CS Tryz.prog 51 (fAc_a a.1 a.2.1 a.2.2.1 a.2.2.2.1 a.2.2.2.2.1 a.2.2.2.2.2) (fAc_i a.1 a.2.1 a.2.2.1 a.2.2.2.1 a.2.2.2.2.1 a.2.2.2.2.2) (fAc_en r).1 (fAc_en r).2) (L0 p1 : Int) (p2 h0 h1 h4 : List Sc) (r : List Sc × List Sc × List Sc) (h : fAc_k self L0 p1 p2 h0 h1 h4 some = some r) : CS Tryz.prog 51 (fAc_a L0 p1 p2 h0 h1 h4) (fAc_i L0 p1 p2 h0 h1 h4) (fAc_en r).1 (fAc_en r).2 :=
  fn_true (Gk := fun k => fAc_k self L0 p1 p2 h0 h1 h4 k) (en := fAc_en) Tryz.func51 E0ok (fAc_Mt self hs) (addL_true (fAc_tt2 self hs) (addL_true (fAc_tt0 self hs) (noL_true))) fAc_o (fAc_e self L0 p1 p2 h0 h1 h4) (fAc_p self L0 p1 p2 h0 h1 h4) h
theorem fAc_ns : ∀ n a r, fAc_n n a = some r → CS Tryz.prog 51 (fAc_a a.1 a.2.1 a.2.2.1 a.2.2.2.1 a.2.2.2.2.1 a.2.2.2.2.2) (fAc_i a.1 a.2.1 a.2.2.1 a.2.2.2.1 a.2.2.2.2.1 a.2.2.2.2.2) (fAc_en r).1 (fAc_en r).2
  | 0, _, _, h => by cases h
  | n + 1, a, r, h => fAc_ks (fAc_n n) (fAc_ns n) a.1 a.2.1 a.2.2.1 a.2.2.2.1 a.2.2.2.2.1 a.2.2.2.2.2 r h
theorem fAc_ok (L0 p1 : Int) (p2 h0 h1 h4 : List Sc) (r : List Sc × List Sc × List Sc) (h : fAc L0 p1 p2 h0 h1 h4 = some r) : CS Tryz.prog 51 (fAc_a L0 p1 p2 h0 h1 h4) (fAc_i L0 p1 p2 h0 h1 h4) (fAc_en r).1 (fAc_en r).2 := by
  obtain ⟨n, hn⟩ := limF_some h
  exact fAc_ns n _ r hn
def fAc_c : CRow := fun args inh => match dec2 [.p (.int .i64), .p (.int .i64), .p .sl, .p (.pt 0 1), .p (.pt 1 1), .p (.pt 2 1), .p (.pt 3 1)] [.own 1000024, .own 2000028, .fn 50 [.pt 4 1], .fn 51 [.pt 0 1, .pt 1 1, .pt 2 1, .pt 3 1], .own 3] args inh with | some ([.i L0, .i p1, .l p2], [.l h0, .l h1, .l h4]) => some ((fAc L0 p1 p2 h0 h1 h4).isSome, (fAc_en ((fAc L0 p1 p2 h0 h1 h4).getD ([], [], []))).1, (fAc_en ((fAc L0 p1 p2 h0 h1 h4).getD ([], [], []))).2) | _ => none
theorem fAc_cc : CTrue Tryz.prog 51 fAc_c := by
  intro args inh rs out h
  unfold fAc_c at h
  split at h
  · rename_i hd
    obtain ⟨h1, h2⟩ := dec2_enc hd
    rw [← h1, ← h2]
    exact rowC (fAc_ok _ _ _ _ _ _) h
  · cases h
def fAe_F : Fi := { nv := 6, nc := 5, m := 0, vt := [(6, 0), (7, 1), (9, 2), (12, 3), (13, 4), (17, 5)], kl := [(0, ([5, 6, 8, 9, 10, 11, 14, 16, 17, 18, 19, 20, 21, 22, 23, 24, 25, 26, 27, 28, 29, 30, 31, 32, 33, 34, 35, 36, 37, 38, 39, 40, 41, 42, 46, 47, 48, 49, 50, 51, 52, 53, 54, 55, 56, 57, 58, 59, 60, 61, 62, 63], [5, 6, 8, 9, 10, 11, 14, 16, 17, 18, 19, 20, 21, 22, 23, 24, 25, 26, 27, 28, 29, 30, 31, 32, 33, 34, 35, 36, 37, 38, 39, 40, 41, 42, 43, 44, 45, 46, 47, 48, 49, 50, 51, 52, 53, 54, 55, 56, 57, 58, 59, 60, 61, 62, 63], [0, 1, 2, 3, 4, 5, 6, 7, 8, 9, 12, 13, 14, 15, 16, 17, 18, 19, 20, 21, 22, 23, 24, 25, 26, 27, 28, 29, 30, 31, 32, 33, 34, 35, 36, 37, 38, 39, 40, 41, 42, 43, 44, 45, 46, 47, 48, 49, 50, 51, 52, 53, 54, 55, 56, 57, 58, 59, 60, 61, 62, 63]))], sk := [], mvs := [5], fz := [] }
def fAe_a (g0 l1 : List Sc) : List AV := enc [.p .gr, .p .sl] [.l g0, .l l1]
def fAe_i (g0 l1 : List Sc) : List AV := enc [] []
def fAe_en (r : List Sc × Bool) : List AV × List AV := (enc [.p (.al 0), .p .boo] [.b r.2], enc [.own 2000028] [.l r.1])
def fAe_M : Calling := addC 6 fBy_c (addC 26 fBh_c (addC 34 fCa_c (addC 51 fAc_c (noC))))
theorem fAe_Mt : CallOk Tryz.prog (fAe_M) := addC_true fBy_cc (addC_true fBh_cc (addC_true fCa_cc (addC_true fAc_cc (noC_true))))
theorem fAe_o : loopsOnce Tryz.f13 = true := by kernel_rfl
def fAe_h0 : List Sh := [.own 2000028, .own 1000024, .own 3, .u, .u, .u, .u, .p .sl, .u, .u, .u, .u, .p (.pt 0 1), .p (.pt 1 1), .u, .p (.pt 2 1), .u, .u, .u, .u, .u, .u, .u, .u, .u, .u, .u, .u, .u, .u, .u, .u, .u, .u, .u, .u, .u, .u, .u, .u, .u, .u, .u, .p .sl, .p (.int .i64), .p (.int .i64), .u, .u, .u, .u, .u, .u, .u, .u, .u, .u, .u, .u, .u, .u, .u, .u, .u, .u]
def fAe_fr0 (l1 t37 : List Sc) (t38 : Int) (s : List Sc × List Sc × List Sc × Int) : List AV := enc fAe_h0 [.l s.1, .l s.2.1, .l s.2.2.1, .l l1, .l t37, .i t38, .i s.2.2.2]
def fAe_g0_1 : List Sh := [.own 2000028, .own 1000024, .own 3, .u, .u, .u, .u, .p .sl, .u, .u, .u, .u, .p (.pt 0 1), .p (.pt 1 1), .u, .p (.pt 2 1), .u, .u, .u, .u, .u, .u, .u, .u, .u, .u, .u, .u, .u, .u, .u, .u, .u, .u, .u, .u, .u, .u, .u, .u, .u, .u, .u, .u, .u, .u, .u, .u, .u, .u, .u, .u, .u, .u, .u, .u, .u, .u, .u, .u, .u, .u, .u, .u]
def fAe_x0_1 (l1 t37 : List Sc) (t38 : Int) (e : List Sc × List Sc × List Sc) : X × List AV := (.out 0, enc fAe_g0_1 [.l e.1, .l e.2.1, .l e.2.2, .l l1])
def fAe_x0_2 (l1 t37 : List Sc) (t38 : Int) (_e : Unit) : X × List AV := (.ret, [])
theorem fAe_p0 {R : Type} (l1 t37 : List Sc) (t38 : Int) (s : List Sc × List Sc × List Sc × Int) (kN : List Sc × List Sc × List Sc × Int → Option R) (kA : List Sc × List Sc × List Sc → Option R) (kB : Unit → Option R) : fAe_k0 l1 t37 t38 s.1 s.2.1 s.2.2.1 s.2.2.2 kN kA = (fAe_r0 l1 t37 t38 s).bind (Ro.el kN kA kB) := by
  simp only [fAe_k0, fAe_r0, brB, someB, noneB, Ro.el]
theorem fAe_e0 (l1 t37 : List Sc) (t38 : Int) (s : List Sc × List Sc × List Sc × Int) : EC E0 fAe_M H0 fAe_F (asL (noL)) 0 (bodyOf Tryz.f13 0) (fAe_fr0 l1 t37 t38 s) (done (klOf fAe_F 0)) = fAe_k0 l1 t37 t38 s.1 s.2.1 s.2.2.1 s.2.2.2 (fun s => some (.norm, fAe_fr0 l1 t37 t38 s)) (fun e => some (fAe_x0_1 l1 t37 t38 e)) := by kernel_rfl
theorem fAe_l0 (l1 t37 : List Sc) (t38 : Int) : ∀ s r, loopL (fAe_r0 l1 t37 t38) s = some r → LS Tryz.prog fAe_F (bodyOf Tryz.f13 0) (fAe_fr0 l1 t37 t38 s) (enX (fAe_x0_1 l1 t37 t38) (fAe_x0_2 l1 t37 t38) r) :=
  loop_true E0ok fAe_Mt (noL_true) fAe_o (fun _ h => by cases h) (fun _ h => by cases h) (fun _ h => by cases h) (fun _ h => by cases h) (fun s => (fAe_e0 l1 t37 t38 s).trans (fAe_p0 l1 t37 t38 s _ _ (fun e => some (fAe_x0_2 l1 t37 t38 e))))
def fAe_t0 (σ : List AV) : Option (Bool × Bool × (X × List AV) × (X × List AV)) := match dec fAe_h0 σ with | some [.l v0, .l v1, .l v2, .l l1, .l t37, .i t38, .i t39] => some (isOne (loopL (fAe_r0 l1 t37 t38) (v0, v1, v2, t39)), true, fAe_x0_1 l1 t37 t38 (getOne ([], [], []) (loopL (fAe_r0 l1 t37 t38) (v0, v1, v2, t39))), (.ret, [])) | _ => none
theorem fAe_tt0 : TTrue Tryz.prog fAe_F Tryz.f13 0 (fAe_t0) := by
  intro σ p r r' h
  unfold fAe_t0 at h
  split at h
  · rename_i hd
    rw [← dec_enc hd]
    exact row1 (fAe_l0 _ _ _ _) h
  · cases h
theorem fAe_p {R : Type} (g0 l1 : List Sc) (kR : List Sc × Bool → Option R) : fAe_k g0 l1 kR = (fAe_k g0 l1 some).bind kR := by
  simp only [fAe_k, brB, boB, bl1B, someB, noneB]
theorem fAe_e (g0 l1 : List Sc) : runFn E0 fAe_M H0 fAe_F (asL (addL 0 (fAe_t0) (noL))) Tryz.f13 (fAe_a g0 l1) (fAe_i g0 l1) = fAe_k g0 l1 (fun r => some (fAe_en r)) := by kernel_rfl
theorem fAe_ok (g0 l1 : List Sc) (r : List Sc × Bool) (h : fAe g0 l1 = some r) : CS Tryz.prog 13 (fAe_a g0 l1) (fAe_i g0 l1) (fAe_en r).1 (fAe_en r).2 :=
  fn_true (Gk := fun k => fAe_k g0 l1 k) (en := fAe_en) Tryz.func13 E0ok fAe_Mt (addL_true (fAe_tt0) (noL_true)) fAe_o (fAe_e g0 l1) (fAe_p g0 l1) h
def fAe_c : CRow := fun args inh => match dec2 [.p .gr, .p .sl] [] args inh with | some ([.l g0, .l l1], []) => some ((fAe g0 l1).isSome, (fAe_en ((fAe g0 l1).getD ([], false))).1, (fAe_en ((fAe g0 l1).getD ([], false))).2) | _ => none
theorem fAe_cc : CTrue Tryz.prog 13 fAe_c := by
  intro args inh rs out h
  unfold fAe_c at h
  split at h
  · rename_i hd
    obtain ⟨h1, h2⟩ := dec2_enc hd
    rw [← h1, ← h2]
    exact rowC (fAe_ok _ _) h
  · cases h
def fCe_F : Fi := { nv := 0, nc := 0, m := 0, vt := [], kl := [], sk := [], mvs := [], fz := [] }
def fCe_a (g0 : List Sc) : List AV := enc [.p .gr] [.l g0]
def fCe_i (g0 : List Sc) : List AV := enc [] []
def fCe_en (r : Int) : List AV × List AV := (enc [.p (.int .i64)] [.i r], enc [] [])
def fCe_M : Calling := addC 43 fCd_c (addC 44 fCh_c (noC))
theorem fCe_Mt : CallOk Tryz.prog (fCe_M) := addC_true fCd_cc (addC_true fCh_cc (noC_true))
theorem fCe_o : loopsOnce Tryz.f104 = true := by kernel_rfl
theorem fCe_p {R : Type} (g0 : List Sc) (kR : Int → Option R) : fCe_k g0 kR = (fCe_k g0 some).bind kR := by
  simp only [fCe_k, brB, boB, someB]
theorem fCe_e (g0 : List Sc) : runFn E0 fCe_M H0 fCe_F (asL (noL)) Tryz.f104 (fCe_a g0) (fCe_i g0) = fCe_k g0 (fun r => some (fCe_en r)) := by kernel_rfl
theorem fCe_ok (g0 : List Sc) (r : Int) (h : fCe g0 = some r) : CS Tryz.prog 104 (fCe_a g0) (fCe_i g0) (fCe_en r).1 (fCe_en r).2 :=
  fn_true (Gk := fun k => fCe_k g0 k) (en := fCe_en) Tryz.func104 E0ok fCe_Mt (noL_true) fCe_o (fCe_e g0) (fCe_p g0) h
def fCe_c : CRow := fun args inh => match dec2 [.p .gr] [] args inh with | some ([.l g0], []) => some ((fCe g0).isSome, (fCe_en ((fCe g0).getD 0)).1, (fCe_en ((fCe g0).getD 0)).2) | _ => none
theorem fCe_cc : CTrue Tryz.prog 104 fCe_c := by
  intro args inh rs out h
  unfold fCe_c at h
  split at h
  · rename_i hd
    obtain ⟨h1, h2⟩ := dec2_enc hd
    rw [← h1, ← h2]
    exact rowC (fCe_ok _) h
  · cases h
def fCv_F : Fi := { nv := 0, nc := 0, m := 0, vt := [], kl := [], sk := [], mvs := [], fz := [] }
def fCv_a (g0 : List Sc) (x1 : Int) : List AV := enc [.p .gr, .p (.int .i64)] [.l g0, .i x1]
def fCv_i (g0 : List Sc) (x1 : Int) : List AV := enc [] []
def fCv_en (r : Bool) : List AV × List AV := (enc [.p .boo] [.b r], enc [] [])
def fCv_M : Calling := addC 104 fCe_c (noC)
theorem fCv_Mt : CallOk Tryz.prog (fCv_M) := addC_true fCe_cc (noC_true)
theorem fCv_o : loopsOnce Tryz.f78 = true := by kernel_rfl
theorem fCv_p {R : Type} (g0 : List Sc) (x1 : Int) (kR : Bool → Option R) : fCv_k g0 x1 kR = (fCv_k g0 x1 some).bind kR := by
  simp only [fCv_k, brB, boB, someB]
theorem fCv_e (g0 : List Sc) (x1 : Int) : runFn E0 fCv_M H0 fCv_F (asL (noL)) Tryz.f78 (fCv_a g0 x1) (fCv_i g0 x1) = fCv_k g0 x1 (fun r => some (fCv_en r)) := by kernel_rfl
theorem fCv_ok (g0 : List Sc) (x1 : Int) (r : Bool) (h : fCv g0 x1 = some r) : CS Tryz.prog 78 (fCv_a g0 x1) (fCv_i g0 x1) (fCv_en r).1 (fCv_en r).2 :=
  fn_true (Gk := fun k => fCv_k g0 x1 k) (en := fCv_en) Tryz.func78 E0ok fCv_Mt (noL_true) fCv_o (fCv_e g0 x1) (fCv_p g0 x1) h
def fCv_c : CRow := fun args inh => match dec2 [.p .gr, .p (.int .i64)] [] args inh with | some ([.l g0, .i x1], []) => some ((fCv g0 x1).isSome, (fCv_en ((fCv g0 x1).getD false)).1, (fCv_en ((fCv g0 x1).getD false)).2) | _ => none
theorem fCv_cc : CTrue Tryz.prog 78 fCv_c := by
  intro args inh rs out h
  unfold fCv_c at h
  split at h
  · rename_i hd
    obtain ⟨h1, h2⟩ := dec2_enc hd
    rw [← h1, ← h2]
    exact rowC (fCv_ok _ _) h
  · cases h
def fAz_F : Fi := { nv := 0, nc := 0, m := 0, vt := [], kl := [(0, ([0, 3, 4, 6, 7, 8, 9, 10, 11, 12, 13, 14, 15, 16, 17, 18, 19, 20, 21, 22, 23, 24, 25, 26, 27, 28, 29, 30, 31, 32, 33, 34, 35, 36, 37, 38, 39, 40, 41], [0, 3, 4, 5, 6, 7, 8, 9, 10, 11, 12, 13, 14, 15, 16, 17, 18, 19, 20, 21, 22, 23, 24, 25, 26, 27, 28, 29, 30, 31, 32, 33, 34, 35, 36, 37, 38, 39, 40, 41], [0, 1, 2, 3, 5, 6, 7, 8, 9, 10, 11, 12, 13, 14, 15, 16, 17, 18, 19, 20, 21, 22, 23, 24, 25, 26, 27, 28, 29, 30, 31, 32, 33, 34, 35, 36, 37, 38, 39, 40, 41]))], sk := [], mvs := [], fz := [] }
def fAz_a (g0 l1 : List Sc) : List AV := enc [.p .gr, .p .sl] [.l g0, .l l1]
def fAz_i (g0 l1 : List Sc) : List AV := enc [] []
def fAz_en (r : Bool) : List AV × List AV := (enc [.p .boo] [.b r], enc [] [])
def fAz_M : Calling := addC 78 fCv_c (addC 43 fCd_c (noC))
theorem fAz_Mt : CallOk Tryz.prog (fAz_M) := addC_true fCv_cc (addC_true fCd_cc (noC_true))
theorem fAz_o : loopsOnce Tryz.f56 = true := by kernel_rfl
def fAz_h0 : List Sh := [.u, .p .sl, .p .el, .u, .u, .p (.int .i64), .u, .u, .u, .u, .u, .u, .u, .u, .u, .u, .u, .u, .u, .u, .u, .u, .u, .u, .u, .u, .u, .u, .u, .u, .u, .u, .u, .u, .u, .u, .u, .u, .u, .u, .u, .u]
def fAz_fr0 (l1 g2 : List Sc) (s : Int) : List AV := enc fAz_h0 [.l l1, .l g2, .i s]
def fAz_g0_1 : List Sh := [.u, .p .sl, .p .el, .u, .u, .u, .u, .u, .u, .u, .u, .u, .u, .u, .u, .u, .u, .u, .u, .u, .u, .u, .u, .u, .u, .u, .u, .u, .u, .u, .u, .u, .u, .u, .u, .u, .u, .u, .u, .u, .u, .u]
def fAz_x0_1 (l1 g2 : List Sc) (e : Unit) : X × List AV := (.out 0, enc fAz_g0_1 [.l l1, .l g2])
def fAz_g0_2 : List Sh := [.u, .u, .u, .u, .p .boo, .u, .u, .u, .u, .u, .u, .u, .u, .u, .u, .u, .u, .u, .u, .u, .u, .u, .u, .u, .u, .u, .u, .u, .u, .u, .u, .u, .u, .u, .u, .u, .u, .u, .u, .u, .u, .u]
def fAz_x0_2 (l1 g2 : List Sc) (e : Unit) : X × List AV := (.ret, enc fAz_g0_2 [.b false])
theorem fAz_p0 {R : Type} (l1 g2 : List Sc) (s : Int) (kN : Int → Option R) (kA kB : Unit → Option R) : fAz_k0 l1 g2 s kN kA kB = (fAz_r0 l1 g2 s).bind (Ro.el kN kA kB) := by
  simp only [fAz_k0, fAz_r0, brB, boB, someB, noneB, Ro.el]
theorem fAz_e0 (l1 g2 : List Sc) (s : Int) : EC E0 fAz_M H0 fAz_F (asL (noL)) 0 (bodyOf Tryz.f56 0) (fAz_fr0 l1 g2 s) (done (klOf fAz_F 0)) = fAz_k0 l1 g2 s (fun s => some (.norm, fAz_fr0 l1 g2 s)) (fun e => some (fAz_x0_1 l1 g2 e)) (fun e => some (fAz_x0_2 l1 g2 e)) := by kernel_rfl
theorem fAz_l0 (l1 g2 : List Sc) : ∀ s r, loopL (fAz_r0 l1 g2) s = some r → LS Tryz.prog fAz_F (bodyOf Tryz.f56 0) (fAz_fr0 l1 g2 s) (enX (fAz_x0_1 l1 g2) (fAz_x0_2 l1 g2) r) :=
  loop_true E0ok fAz_Mt (noL_true) fAz_o (fun _ h => by cases h) (fun _ h => by cases h) (fun _ h => by cases h) (fun _ h => by cases h) (fun s => (fAz_e0 l1 g2 s).trans (fAz_p0 l1 g2 s _ _ (fun e => some (fAz_x0_2 l1 g2 e))))
def fAz_t0 (σ : List AV) : Option (Bool × Bool × (X × List AV) × (X × List AV)) := match dec fAz_h0 σ with | some [.l l1, .l g2, .i i5] => some ((loopL (fAz_r0 l1 g2) i5).isSome, isOne (loopL (fAz_r0 l1 g2) i5), fAz_x0_1 l1 g2 (getOne () (loopL (fAz_r0 l1 g2) i5)), fAz_x0_2 l1 g2 (getTwo () (loopL (fAz_r0 l1 g2) i5))) | _ => none
theorem fAz_tt0 : TTrue Tryz.prog fAz_F Tryz.f56 0 (fAz_t0) := by
  intro σ p r r' h
  unfold fAz_t0 at h
  split at h
  · rename_i hd
    rw [← dec_enc hd]
    exact row2 (fAz_l0 _ _ _) h
  · cases h
theorem fAz_p {R : Type} (g0 l1 : List Sc) (kR : Bool → Option R) : fAz_k g0 l1 kR = (fAz_k g0 l1 some).bind kR := by
  simp only [fAz_k, brB, boB, blB, someB]
theorem fAz_e (g0 l1 : List Sc) : runFn E0 fAz_M H0 fAz_F (asL (addL 0 (fAz_t0) (noL))) Tryz.f56 (fAz_a g0 l1) (fAz_i g0 l1) = fAz_k g0 l1 (fun r => some (fAz_en r)) := by kernel_rfl
theorem fAz_ok (g0 l1 : List Sc) (r : Bool) (h : fAz g0 l1 = some r) : CS Tryz.prog 56 (fAz_a g0 l1) (fAz_i g0 l1) (fAz_en r).1 (fAz_en r).2 :=
  fn_true (Gk := fun k => fAz_k g0 l1 k) (en := fAz_en) Tryz.func56 E0ok fAz_Mt (addL_true (fAz_tt0) (noL_true)) fAz_o (fAz_e g0 l1) (fAz_p g0 l1) h
def fAz_c : CRow := fun args inh => match dec2 [.p .gr, .p .sl] [] args inh with | some ([.l g0, .l l1], []) => some ((fAz g0 l1).isSome, (fAz_en ((fAz g0 l1).getD false)).1, (fAz_en ((fAz g0 l1).getD false)).2) | _ => none
theorem fAz_cc : CTrue Tryz.prog 56 fAz_c := by
  intro args inh rs out h
  unfold fAz_c at h
  split at h
  · rename_i hd
    obtain ⟨h1, h2⟩ := dec2_enc hd
    rw [← h1, ← h2]
    exact rowC (fAz_ok _ _) h
  · cases h
def fBk_F : Fi := { nv := 0, nc := 0, m := 0, vt := [], kl := [], sk := [], mvs := [], fz := [] }
def fBk_a (g0 l1 : List Sc) : List AV := enc [.p .gr, .p .sl] [.l g0, .l l1]
def fBk_i (g0 l1 : List Sc) : List AV := enc [] []
def fBk_en (r : Bool) : List AV × List AV := (enc [.p .boo] [.b r], enc [] [])
def fBk_M : Calling := addC 56 fAz_c (addC 64 fCo_c (noC))
theorem fBk_Mt : CallOk Tryz.prog (fBk_M) := addC_true fAz_cc (addC_true fCo_cc (noC_true))
theorem fBk_o : loopsOnce Tryz.f27 = true := by kernel_rfl
theorem fBk_p {R : Type} (g0 l1 : List Sc) (kR : Bool → Option R) : fBk_k g0 l1 kR = (fBk_k g0 l1 some).bind kR := by
  simp only [fBk_k, brB, boB, someB]
theorem fBk_e (g0 l1 : List Sc) : runFn E0 fBk_M H0 fBk_F (asL (noL)) Tryz.f27 (fBk_a g0 l1) (fBk_i g0 l1) = fBk_k g0 l1 (fun r => some (fBk_en r)) := by kernel_rfl
theorem fBk_ok (g0 l1 : List Sc) (r : Bool) (h : fBk g0 l1 = some r) : CS Tryz.prog 27 (fBk_a g0 l1) (fBk_i g0 l1) (fBk_en r).1 (fBk_en r).2 :=
  fn_true (Gk := fun k => fBk_k g0 l1 k) (en := fBk_en) Tryz.func27 E0ok fBk_Mt (noL_true) fBk_o (fBk_e g0 l1) (fBk_p g0 l1) h
def fBk_c : CRow := fun args inh => match dec2 [.p .gr, .p .sl] [] args inh with | some ([.l g0, .l l1], []) => some ((fBk g0 l1).isSome, (fBk_en ((fBk g0 l1).getD false)).1, (fBk_en ((fBk g0 l1).getD false)).2) | _ => none
theorem fBk_cc : CTrue Tryz.prog 27 fBk_c := by
  intro args inh rs out h
  unfold fBk_c at h
  split at h
  · rename_i hd
    obtain ⟨h1, h2⟩ := dec2_enc hd
    rw [← h1, ← h2]
    exact rowC (fBk_ok _ _) h
  · cases h
def fBu_F : Fi := { nv := 0, nc := 0, m := 0, vt := [], kl := [(2, ([0, 2, 3, 4, 5, 10, 11, 12, 13, 14, 15, 16, 17, 18, 19, 20, 21, 22, 23, 24, 25, 26, 27, 28, 29, 30, 31, 32, 33, 34, 35, 36, 37, 38, 39, 40, 41, 42, 43, 44, 45, 46, 47, 48], [0, 2, 3, 4, 5, 9, 10, 11, 12, 13, 14, 15, 16, 17, 18, 19, 20, 21, 22, 23, 24, 25, 26, 27, 28, 29, 30, 31, 32, 33, 34, 35, 36, 37, 38, 39, 40, 41, 42, 43, 44, 45, 46, 47, 48], [0, 1, 2, 3, 6, 7, 8, 9, 10, 11, 12, 13, 14, 15, 16, 17, 18, 19, 20, 21, 22, 23, 24, 25, 26, 27, 28, 29, 30, 31, 32, 33, 34, 35, 36, 37, 38, 39, 40, 41, 42, 43, 44, 45, 46, 47, 48])), (0, ([0, 2, 3, 4, 5, 8, 9, 10, 11, 12, 13, 14, 15, 16, 17, 18, 19, 20, 21, 22, 23, 24, 25, 26, 27, 28, 29, 30, 31, 32, 33, 34, 35, 36, 37, 38, 39, 40, 41, 42, 43, 44, 45, 46, 47, 48], [0, 2, 3, 4, 5, 9, 10, 11, 12, 13, 14, 15, 16, 17, 18, 19, 20, 21, 22, 23, 24, 25, 26, 27, 28, 29, 30, 31, 32, 33, 34, 35, 36, 37, 38, 39, 40, 41, 42, 43, 44, 45, 46, 47, 48], [0, 1, 2, 3, 6, 7, 8, 9, 10, 11, 12, 13, 14, 15, 16, 17, 18, 19, 20, 21, 22, 23, 24, 25, 26, 27, 28, 29, 30, 31, 32, 33, 34, 35, 36, 37, 38, 39, 40, 41, 42, 43, 44, 45, 46, 47, 48]))], sk := [], mvs := [], fz := [], so := true, fa := [6] }
def fBu_a (l0 part1 : List Sc) : List AV := enc [.p .sl, .p .sl] [.l l0, .l part1]
def fBu_i (l0 part1 : List Sc) : List AV := enc [] []
def fBu_en (r : List Sc × Bool) : List AV × List AV := (enc [.p .sl, .p .boo] [.l r.1, .b r.2], enc [] [])
def fBu_M : Calling := noC
theorem fBu_Mt : CallOk Tryz.prog (fBu_M) := noC_true
theorem fBu_o : loopsOnce Tryz.f76 = true := by kernel_rfl
def fBu_h2 : List Sh := [.u, .p .sl, .u, .u, .u, .u, .fr 3, .p (.int .i64), .p (.int .i64), .p (.int .i64), .u, .u, .u, .u, .u, .u, .u, .u, .u, .u, .u, .u, .u, .u, .u, .u, .u, .u, .u, .u, .u, .u, .u, .u, .u, .u, .u, .u, .u, .u, .u, .u, .u, .u, .u, .u, .u, .u, .u]
def fBu_fr2 (part1 out6 : List Sc) (i7 : Int) (s : Int × Int) : List AV := enc fBu_h2 [.l part1, .l out6, .i i7, .i s.1, .i s.2]
def fBu_g2_1 : List Sh := [.u, .p .sl, .u, .u, .u, .u, .fr 3, .p (.int .i64), .p (.int .i64), .u, .u, .u, .u, .u, .u, .u, .u, .u, .u, .u, .u, .u, .u, .u, .u, .u, .u, .u, .u, .u, .u, .u, .u, .u, .u, .u, .u, .u, .u, .u, .u, .u, .u, .u, .u, .u, .u, .u, .u]
def fBu_x2_1 (part1 out6 : List Sc) (i7 e : Int) : X × List AV := (.out 2, enc fBu_g2_1 [.l part1, .l out6, .i i7, .i e])
def fBu_x2_2 (part1 out6 : List Sc) (i7 : Int) (_e : Unit) : X × List AV := (.ret, [])
theorem fBu_p2 {R : Type} (part1 out6 : List Sc) (i7 : Int) (s : Int × Int) (kN : Int × Int → Option R) (kA : Int → Option R) (kB : Unit → Option R) : fBu_k2 part1 out6 i7 s.1 s.2 kN kA = (fBu_r2 part1 out6 i7 s).bind (Ro.el kN kA kB) := by
  simp only [fBu_k2, fBu_r2, brB, someB, noneB, Ro.el]
theorem fBu_e2 (part1 out6 : List Sc) (i7 : Int) (s : Int × Int) : EC E0 fBu_M H0 fBu_F (asL (noL)) 2 (bodyOf Tryz.f76 2) (fBu_fr2 part1 out6 i7 s) (done (klOf fBu_F 2)) = fBu_k2 part1 out6 i7 s.1 s.2 (fun s => some (.norm, fBu_fr2 part1 out6 i7 s)) (fun e => some (fBu_x2_1 part1 out6 i7 e)) := by kernel_rfl
theorem fBu_l2 (part1 out6 : List Sc) (i7 : Int) : ∀ s r, loopL (fBu_r2 part1 out6 i7) s = some r → LS Tryz.prog fBu_F (bodyOf Tryz.f76 2) (fBu_fr2 part1 out6 i7 s) (enX (fBu_x2_1 part1 out6 i7) (fBu_x2_2 part1 out6 i7) r) :=
  loop_true E0ok fBu_Mt (noL_true) fBu_o (fun _ h => by cases h) (fun _ h => by cases h) (fun _ h => by cases h) (fun _ h => by cases h) (fun s => (fBu_e2 part1 out6 i7 s).trans (fBu_p2 part1 out6 i7 s _ _ (fun e => some (fBu_x2_2 part1 out6 i7 e))))
def fBu_t2 (σ : List AV) : Option (Bool × Bool × (X × List AV) × (X × List AV)) := match dec fBu_h2 σ with | some [.l part1, .l out6, .i i7, .i at8, .i k9] => some (isOne (loopL (fBu_r2 part1 out6 i7) (at8, k9)), true, fBu_x2_1 part1 out6 i7 (getOne 0 (loopL (fBu_r2 part1 out6 i7) (at8, k9))), (.ret, [])) | _ => none
theorem fBu_tt2 : TTrue Tryz.prog fBu_F Tryz.f76 2 (fBu_t2) := by
  intro σ p r r' h
  unfold fBu_t2 at h
  split at h
  · rename_i hd
    rw [← dec_enc hd]
    exact row1 (fBu_l2 _ _ _ _) h
  · cases h
def fBu_h0 : List Sh := [.u, .p .sl, .u, .u, .u, .u, .fr 3, .p (.int .i64), .u, .u, .u, .u, .u, .u, .u, .u, .u, .u, .u, .u, .u, .u, .u, .u, .u, .u, .u, .u, .u, .u, .u, .u, .u, .u, .u, .u, .u, .u, .u, .u, .u, .u, .u, .u, .u, .u, .u, .u, .u]
def fBu_fr0 (part1 : List Sc) (s : List Sc × Int) : List AV := enc fBu_h0 [.l part1, .l s.1, .i s.2]
def fBu_g0_1 : List Sh := [.u, .p .sl, .u, .u, .u, .u, .fr 3, .p (.int .i64), .u, .u, .u, .u, .u, .u, .u, .u, .u, .u, .u, .u, .u, .u, .u, .u, .u, .u, .u, .u, .u, .u, .u, .u, .u, .u, .u, .u, .u, .u, .u, .u, .u, .u, .u, .u, .u, .u, .u, .u, .u]
def fBu_x0_1 (part1 : List Sc) (e : List Sc × Int) : X × List AV := (.out 0, enc fBu_g0_1 [.l part1, .l e.1, .i e.2])
def fBu_g0_2 : List Sh := [.u, .u, .u, .u, .own 3, .p .boo, .u, .u, .u, .u, .u, .u, .u, .u, .u, .u, .u, .u, .u, .u, .u, .u, .u, .u, .u, .u, .u, .u, .u, .u, .u, .u, .u, .u, .u, .u, .u, .u, .u, .u, .u, .u, .u, .u, .u, .u, .u, .u, .u]
def fBu_x0_2 (part1 e : List Sc) : X × List AV := (.ret, enc fBu_g0_2 [.l e, .b false])
theorem fBu_p0 {R : Type} (part1 : List Sc) (s : List Sc × Int) (kN kA : List Sc × Int → Option R) (kB : List Sc → Option R) : fBu_k0 part1 s.1 s.2 kN kA kB = (fBu_r0 part1 s).bind (Ro.el kN kA kB) := by
  simp only [fBu_k0, fBu_r0, brB, bl1B, someB, noneB, Ro.el]
theorem fBu_e0 (part1 : List Sc) (s : List Sc × Int) : EC E0 fBu_M H0 fBu_F (asL (addL 2 (fBu_t2) (noL))) 0 (bodyOf Tryz.f76 0) (fBu_fr0 part1 s) (done (klOf fBu_F 0)) = fBu_k0 part1 s.1 s.2 (fun s => some (.norm, fBu_fr0 part1 s)) (fun e => some (fBu_x0_1 part1 e)) (fun e => some (fBu_x0_2 part1 e)) := by kernel_rfl
theorem fBu_l0 (part1 : List Sc) : ∀ s r, loopL (fBu_r0 part1) s = some r → LS Tryz.prog fBu_F (bodyOf Tryz.f76 0) (fBu_fr0 part1 s) (enX (fBu_x0_1 part1) (fBu_x0_2 part1) r) :=
  loop_true E0ok fBu_Mt (addL_true (fBu_tt2) (noL_true)) fBu_o (fun _ h => by cases h) (fun _ h => by cases h) (fun _ h => by cases h) (fun _ h => by cases h) (fun s => (fBu_e0 part1 s).trans (fBu_p0 part1 s _ _ (fun e => some (fBu_x0_2 part1 e))))
def fBu_t0 (σ : List AV) : Option (Bool × Bool × (X × List AV) × (X × List AV)) := match dec fBu_h0 σ with | some [.l part1, .l out6, .i i7] => some ((loopL (fBu_r0 part1) (out6, i7)).isSome, isOne (loopL (fBu_r0 part1) (out6, i7)), fBu_x0_1 part1 (getOne ([], 0) (loopL (fBu_r0 part1) (out6, i7))), fBu_x0_2 part1 (getTwo [] (loopL (fBu_r0 part1) (out6, i7)))) | _ => none
theorem fBu_tt0 : TTrue Tryz.prog fBu_F Tryz.f76 0 (fBu_t0) := by
  intro σ p r r' h
  unfold fBu_t0 at h
  split at h
  · rename_i hd
    rw [← dec_enc hd]
    exact row2 (fBu_l0 _ _) h
  · cases h
theorem fBu_p {R : Type} (l0 part1 : List Sc) (kR : List Sc × Bool → Option R) : fBu_k l0 part1 kR = (fBu_k l0 part1 some).bind kR := by
  simp only [fBu_k, brB, blB, someB, noneB]
theorem fBu_e (l0 part1 : List Sc) : runFn E0 fBu_M H0 fBu_F (asL (addL 0 (fBu_t0) (addL 2 (fBu_t2) (noL)))) Tryz.f76 (fBu_a l0 part1) (fBu_i l0 part1) = fBu_k l0 part1 (fun r => some (fBu_en r)) := by kernel_rfl
theorem fBu_ok (l0 part1 : List Sc) (r : List Sc × Bool) (h : fBu l0 part1 = some r) : CS Tryz.prog 76 (fBu_a l0 part1) (fBu_i l0 part1) (fBu_en r).1 (fBu_en r).2 :=
  fn_true (Gk := fun k => fBu_k l0 part1 k) (en := fBu_en) Tryz.func76 E0ok fBu_Mt (addL_true (fBu_tt0) (addL_true (fBu_tt2) (noL_true))) fBu_o (fBu_e l0 part1) (fBu_p l0 part1) h
def fBu_c : CRow := fun args inh => match dec2 [.p .sl, .p .sl] [] args inh with | some ([.l l0, .l part1], []) => some ((fBu l0 part1).isSome, (fBu_en ((fBu l0 part1).getD ([], false))).1, (fBu_en ((fBu l0 part1).getD ([], false))).2) | _ => none
theorem fBu_cc : CTrue Tryz.prog 76 fBu_c := by
  intro args inh rs out h
  unfold fBu_c at h
  split at h
  · rename_i hd
    obtain ⟨h1, h2⟩ := dec2_enc hd
    rw [← h1, ← h2]
    exact rowC (fBu_ok _ _) h
  · cases h
def fBn_F : Fi := { nv := 0, nc := 0, m := 0, vt := [], kl := [(2, ([2, 3, 4, 5, 6, 9, 10, 13, 14, 15, 16, 17, 18, 19, 20, 21, 22, 23, 24, 25, 26, 27, 28, 29, 30, 31, 32, 33, 34, 35, 36, 37, 38, 39, 40, 41, 42, 43, 44, 45, 46, 47, 48, 49, 50, 51, 52, 53, 54, 55, 56, 57, 58, 59, 60, 61, 62, 63, 64], [2, 3, 4, 5, 6, 9, 10, 11, 12, 13, 14, 15, 16, 17, 18, 19, 20, 21, 22, 23, 24, 25, 26, 27, 28, 29, 30, 31, 32, 33, 34, 35, 36, 37, 38, 39, 40, 41, 42, 43, 44, 45, 46, 47, 48, 49, 50, 51, 52, 53, 54, 55, 56, 57, 58, 59, 60, 61, 62, 63, 64], [0, 1, 2, 3, 4, 5, 7, 8, 9, 10, 11, 12, 13, 14, 15, 16, 17, 18, 19, 20, 21, 22, 23, 24, 25, 26, 27, 28, 29, 30, 31, 32, 33, 34, 35, 36, 37, 38, 39, 40, 41, 42, 43, 44, 45, 46, 47, 48, 49, 50, 51, 52, 53, 54, 55, 56, 57, 58, 59, 60, 61, 62, 63, 64])), (0, ([2, 3, 4, 5, 6, 9, 10, 11, 12, 13, 14, 15, 16, 17, 18, 19, 20, 21, 22, 23, 24, 25, 26, 27, 28, 29, 30, 31, 32, 33, 34, 35, 36, 37, 38, 39, 40, 41, 42, 43, 44, 45, 46, 47, 48, 49, 50, 51, 52, 53, 54, 55, 56, 57, 58, 59, 60, 61, 62, 63, 64], [2, 3, 4, 5, 6, 9, 10, 11, 12, 13, 14, 15, 16, 17, 18, 19, 20, 21, 22, 23, 24, 25, 26, 27, 28, 29, 30, 31, 32, 33, 34, 35, 36, 37, 38, 39, 40, 41, 42, 43, 44, 45, 46, 47, 48, 49, 50, 51, 52, 53, 54, 55, 56, 57, 58, 59, 60, 61, 62, 63, 64], [0, 1, 2, 3, 4, 5, 7, 8, 9, 10, 11, 12, 13, 14, 15, 16, 17, 18, 19, 20, 21, 22, 23, 24, 25, 26, 27, 28, 29, 30, 31, 32, 33, 34, 35, 36, 37, 38, 39, 40, 41, 42, 43, 44, 45, 46, 47, 48, 49, 50, 51, 52, 53, 54, 55, 56, 57, 58, 59, 60, 61, 62, 63, 64]))], sk := [], mvs := [], fz := [] }
def fBn_a (L0 p1 : List Sc) (p2 : Int) : List AV := enc [.p (.nl 1), .p .sl, .p (.int .i64)] [.l L0, .l p1, .i p2]
def fBn_i (L0 p1 : List Sc) (p2 : Int) : List AV := enc [] []
def fBn_en (r : List Sc) : List AV × List AV := (enc [.p (.al 0)] [], enc [.own 2000028] [.l r])
def fBn_cs (self : (List Sc × List Sc × Int) → Option (List Sc)) : CRow := fun args inh => match dec2 [.p (.nl 1), .p .sl, .p (.int .i64)] [] args inh with | some ([.l L0, .l p1, .i p2], []) => some ((self (L0, p1, p2)).isSome, (fBn_en ((self (L0, p1, p2)).getD [])).1, (fBn_en ((self (L0, p1, p2)).getD [])).2) | _ => none
theorem fBn_cst (self : (List Sc × List Sc × Int) → Option (List Sc)) (hs : ∀ a r, self a = some r → CS Tryz.prog 52 (fBn_a a.1 a.2.1 a.2.2) (fBn_i a.1 a.2.1 a.2.2) (fBn_en r).1 (fBn_en r).2) : CTrue Tryz.prog 52 (fBn_cs self) := by
  intro args inh rs out h
  unfold fBn_cs at h
  split at h
  · rename_i hd
    obtain ⟨h1, h2⟩ := dec2_enc hd
    rw [← h1, ← h2]
    exact rowC (hs _) h
  · cases h
def fBn_M (self : (List Sc × List Sc × Int) → Option (List Sc)) : Calling := addC 52 (fBn_cs self) (addC 76 fBu_c (noC))
theorem fBn_Mt (self : (List Sc × List Sc × Int) → Option (List Sc)) (hs : ∀ a r, self a = some r → CS Tryz.prog 52 (fBn_a a.1 a.2.1 a.2.2) (fBn_i a.1 a.2.1 a.2.2) (fBn_en r).1 (fBn_en r).2) : CallOk Tryz.prog (fBn_M self) := addC_true (fBn_cst self hs) (addC_true fBu_cc (noC_true))
theorem fBn_o : loopsOnce Tryz.f52 = true := by kernel_rfl
def fBn_h2 : List Sh := [.p (.nl 1), .p .sl, .u, .u, .u, .u, .u, .own 2000028, .p (.int .i64), .u, .u, .own 2000028, .p (.int .i64), .u, .u, .u, .u, .u, .u, .u, .u, .u, .u, .u, .u, .u, .u, .u, .u, .u, .u, .u, .u, .u, .u, .u, .u, .u, .u, .u, .u, .u, .u, .u, .u, .u, .u, .u, .u, .u, .u, .u, .u, .u, .u, .u, .u, .u, .u, .u, .u, .u, .u, .u, .u]
def fBn_fr2 (self : (List Sc × List Sc × Int) → Option (List Sc)) (L0 t1 : List Sc) (t8 : Int) (s : List Sc × List Sc × Int) : List AV := enc fBn_h2 [.l L0, .l t1, .l s.1, .i t8, .l s.2.1, .i s.2.2]
def fBn_g2_1 : List Sh := [.p (.nl 1), .p .sl, .u, .u, .u, .u, .u, .own 2000028, .p (.int .i64), .u, .u, .u, .u, .u, .u, .u, .u, .u, .u, .u, .u, .u, .u, .u, .u, .u, .u, .u, .u, .u, .u, .u, .u, .u, .u, .u, .u, .u, .u, .u, .u, .u, .u, .u, .u, .u, .u, .u, .u, .u, .u, .u, .u, .u, .u, .u, .u, .u, .u, .u, .u, .u, .u, .u, .u]
def fBn_x2_1 (self : (List Sc × List Sc × Int) → Option (List Sc)) (L0 t1 : List Sc) (t8 : Int) (e : List Sc) : X × List AV := (.out 2, enc fBn_g2_1 [.l L0, .l t1, .l e, .i t8])
def fBn_x2_2 (self : (List Sc × List Sc × Int) → Option (List Sc)) (L0 t1 : List Sc) (t8 : Int) (_e : Unit) : X × List AV := (.ret, [])
theorem fBn_p2 {R : Type} (self : (List Sc × List Sc × Int) → Option (List Sc)) (L0 t1 : List Sc) (t8 : Int) (s : List Sc × List Sc × Int) (kN : List Sc × List Sc × Int → Option R) (kA : List Sc → Option R) (kB : Unit → Option R) : fBn_k2 self L0 t1 t8 s.1 s.2.1 s.2.2 kN kA = (fBn_r2 self L0 t1 t8 s).bind (Ro.el kN kA kB) := by
  simp only [fBn_k2, fBn_r2, brB, someB, noneB, Ro.el]
theorem fBn_e2 (self : (List Sc × List Sc × Int) → Option (List Sc)) (L0 t1 : List Sc) (t8 : Int) (s : List Sc × List Sc × Int) : EC E0 (fBn_M self) H0 fBn_F (asL (noL)) 2 (bodyOf Tryz.f52 2) (fBn_fr2 self L0 t1 t8 s) (done (klOf fBn_F 2)) = fBn_k2 self L0 t1 t8 s.1 s.2.1 s.2.2 (fun s => some (.norm, fBn_fr2 self L0 t1 t8 s)) (fun e => some (fBn_x2_1 self L0 t1 t8 e)) := by kernel_rfl
theorem fBn_l2 (self : (List Sc × List Sc × Int) → Option (List Sc)) (hs : ∀ a r, self a = some r → CS Tryz.prog 52 (fBn_a a.1 a.2.1 a.2.2) (fBn_i a.1 a.2.1 a.2.2) (fBn_en r).1 (fBn_en r).2) (L0 t1 : List Sc) (t8 : Int) : ∀ s r, loopL (fBn_r2 self L0 t1 t8) s = some r → LS Tryz.prog fBn_F (bodyOf Tryz.f52 2) (fBn_fr2 self L0 t1 t8 s) (enX (fBn_x2_1 self L0 t1 t8) (fBn_x2_2 self L0 t1 t8) r) :=
  loop_true E0ok (fBn_Mt self hs) (noL_true) fBn_o (fun _ h => by cases h) (fun _ h => by cases h) (fun _ h => by cases h) (fun _ h => by cases h) (fun s => (fBn_e2 self L0 t1 t8 s).trans (fBn_p2 self L0 t1 t8 s _ _ (fun e => some (fBn_x2_2 self L0 t1 t8 e))))
def fBn_t2 (self : (List Sc × List Sc × Int) → Option (List Sc)) (σ : List AV) : Option (Bool × Bool × (X × List AV) × (X × List AV)) := match dec fBn_h2 σ with | some [.l L0, .l t1, .l t7, .i t8, .l t11, .i t12] => some (isOne (loopL (fBn_r2 self L0 t1 t8) (t7, t11, t12)), true, fBn_x2_1 self L0 t1 t8 (getOne [] (loopL (fBn_r2 self L0 t1 t8) (t7, t11, t12))), (.ret, [])) | _ => none
theorem fBn_tt2 (self : (List Sc × List Sc × Int) → Option (List Sc)) (hs : ∀ a r, self a = some r → CS Tryz.prog 52 (fBn_a a.1 a.2.1 a.2.2) (fBn_i a.1 a.2.1 a.2.2) (fBn_en r).1 (fBn_en r).2) : TTrue Tryz.prog fBn_F Tryz.f52 2 (fBn_t2 self) := by
  intro σ p r r' h
  unfold fBn_t2 at h
  split at h
  · rename_i hd
    rw [← dec_enc hd]
    exact row1 (fBn_l2 self hs _ _ _ _) h
  · cases h
def fBn_h0 : List Sh := [.p (.nl 1), .p .sl, .u, .u, .u, .u, .u, .own 2000028, .p (.int .i64), .u, .u, .u, .u, .u, .u, .u, .u, .u, .u, .u, .u, .u, .u, .u, .u, .u, .u, .u, .u, .u, .u, .u, .u, .u, .u, .u, .u, .u, .u, .u, .u, .u, .u, .u, .u, .u, .u, .u, .u, .u, .u, .u, .u, .u, .u, .u, .u, .u, .u, .u, .u, .u, .u, .u, .u]
def fBn_fr0 (self : (List Sc × List Sc × Int) → Option (List Sc)) (L0 t1 : List Sc) (s : List Sc × Int) : List AV := enc fBn_h0 [.l L0, .l t1, .l s.1, .i s.2]
def fBn_g0_1 : List Sh := [.p (.nl 1), .p .sl, .u, .u, .u, .u, .u, .own 2000028, .p (.int .i64), .u, .u, .u, .u, .u, .u, .u, .u, .u, .u, .u, .u, .u, .u, .u, .u, .u, .u, .u, .u, .u, .u, .u, .u, .u, .u, .u, .u, .u, .u, .u, .u, .u, .u, .u, .u, .u, .u, .u, .u, .u, .u, .u, .u, .u, .u, .u, .u, .u, .u, .u, .u, .u, .u, .u, .u]
def fBn_x0_1 (self : (List Sc × List Sc × Int) → Option (List Sc)) (L0 t1 : List Sc) (e : List Sc × Int) : X × List AV := (.out 0, enc fBn_g0_1 [.l L0, .l t1, .l e.1, .i e.2])
def fBn_x0_2 (self : (List Sc × List Sc × Int) → Option (List Sc)) (L0 t1 : List Sc) (_e : Unit) : X × List AV := (.ret, [])
theorem fBn_p0 {R : Type} (self : (List Sc × List Sc × Int) → Option (List Sc)) (L0 t1 : List Sc) (s : List Sc × Int) (kN kA : List Sc × Int → Option R) (kB : Unit → Option R) : fBn_k0 self L0 t1 s.1 s.2 kN kA = (fBn_r0 self L0 t1 s).bind (Ro.el kN kA kB) := by
  simp only [fBn_k0, fBn_r0, brB, boB, bl1B, someB, noneB, Ro.el]
theorem fBn_e0 (self : (List Sc × List Sc × Int) → Option (List Sc)) (L0 t1 : List Sc) (s : List Sc × Int) : EC E0 (fBn_M self) H0 fBn_F (asL (addL 2 (fBn_t2 self) (noL))) 0 (bodyOf Tryz.f52 0) (fBn_fr0 self L0 t1 s) (done (klOf fBn_F 0)) = fBn_k0 self L0 t1 s.1 s.2 (fun s => some (.norm, fBn_fr0 self L0 t1 s)) (fun e => some (fBn_x0_1 self L0 t1 e)) := by kernel_rfl
theorem fBn_l0 (self : (List Sc × List Sc × Int) → Option (List Sc)) (hs : ∀ a r, self a = some r → CS Tryz.prog 52 (fBn_a a.1 a.2.1 a.2.2) (fBn_i a.1 a.2.1 a.2.2) (fBn_en r).1 (fBn_en r).2) (L0 t1 : List Sc) : ∀ s r, loopL (fBn_r0 self L0 t1) s = some r → LS Tryz.prog fBn_F (bodyOf Tryz.f52 0) (fBn_fr0 self L0 t1 s) (enX (fBn_x0_1 self L0 t1) (fBn_x0_2 self L0 t1) r) :=
  loop_true E0ok (fBn_Mt self hs) (addL_true (fBn_tt2 self hs) (noL_true)) fBn_o (fun _ h => by cases h) (fun _ h => by cases h) (fun _ h => by cases h) (fun _ h => by cases h) (fun s => (fBn_e0 self L0 t1 s).trans (fBn_p0 self L0 t1 s _ _ (fun e => some (fBn_x0_2 self L0 t1 e))))
def fBn_t0 (self : (List Sc × List Sc × Int) → Option (List Sc)) (σ : List AV) : Option (Bool × Bool × (X × List AV) × (X × List AV)) := match dec fBn_h0 σ with | some [.l L0, .l t1, .l t7, .i t8] => some (isOne (loopL (fBn_r0 self L0 t1) (t7, t8)), true, fBn_x0_1 self L0 t1 (getOne ([], 0) (loopL (fBn_r0 self L0 t1) (t7, t8))), (.ret, [])) | _ => none
theorem fBn_tt0 (self : (List Sc × List Sc × Int) → Option (List Sc)) (hs : ∀ a r, self a = some r → CS Tryz.prog 52 (fBn_a a.1 a.2.1 a.2.2) (fBn_i a.1 a.2.1 a.2.2) (fBn_en r).1 (fBn_en r).2) : TTrue Tryz.prog fBn_F Tryz.f52 0 (fBn_t0 self) := by
  intro σ p r r' h
  unfold fBn_t0 at h
  split at h
  · rename_i hd
    rw [← dec_enc hd]
    exact row1 (fBn_l0 self hs _ _ _) h
  · cases h
theorem fBn_p {R : Type} (self : (List Sc × List Sc × Int) → Option (List Sc)) (L0 p1 : List Sc) (p2 : Int) (kR : List Sc → Option R) : fBn_k self L0 p1 p2 kR = (fBn_k self L0 p1 p2 some).bind kR := by
  simp only [fBn_k, brB, bl1B, someB]
theorem fBn_e (self : (List Sc × List Sc × Int) → Option (List Sc)) (L0 p1 : List Sc) (p2 : Int) : runFn E0 (fBn_M self) H0 fBn_F (asL (addL 0 (fBn_t0 self) (addL 2 (fBn_t2 self) (noL)))) Tryz.f52 (fBn_a L0 p1 p2) (fBn_i L0 p1 p2) = fBn_k self L0 p1 p2 (fun r => some (fBn_en r)) := by kernel_rfl
theorem fBn_ks (self : (List Sc × List Sc × Int) → Option (List Sc)) (hs : ∀ a r, self a = some r → CS Tryz.prog 52 (fBn_a a.1 a.2.1 a.2.2) (fBn_i a.1 a.2.1 a.2.2) (fBn_en r).1 (fBn_en r).2) (L0 p1 : List Sc) (p2 : Int) (r : List Sc) (h : fBn_k self L0 p1 p2 some = some r) : CS Tryz.prog 52 (fBn_a L0 p1 p2) (fBn_i L0 p1 p2) (fBn_en r).1 (fBn_en r).2 :=
  fn_true (Gk := fun k => fBn_k self L0 p1 p2 k) (en := fBn_en) Tryz.func52 E0ok (fBn_Mt self hs) (addL_true (fBn_tt0 self hs) (addL_true (fBn_tt2 self hs) (noL_true))) fBn_o (fBn_e self L0 p1 p2) (fBn_p self L0 p1 p2) h
theorem fBn_ns : ∀ n a r, fBn_n n a = some r → CS Tryz.prog 52 (fBn_a a.1 a.2.1 a.2.2) (fBn_i a.1 a.2.1 a.2.2) (fBn_en r).1 (fBn_en r).2
  | 0, _, _, h => by cases h
  | n + 1, a, r, h => fBn_ks (fBn_n n) (fBn_ns n) a.1 a.2.1 a.2.2 r h
theorem fBn_ok (L0 p1 : List Sc) (p2 : Int) (r : List Sc) (h : fBn L0 p1 p2 = some r) : CS Tryz.prog 52 (fBn_a L0 p1 p2) (fBn_i L0 p1 p2) (fBn_en r).1 (fBn_en r).2 := by
  obtain ⟨n, hn⟩ := limF_some h
  exact fBn_ns n _ r hn
def fBn_c : CRow := fun args inh => match dec2 [.p (.nl 1), .p .sl, .p (.int .i64)] [] args inh with | some ([.l L0, .l p1, .i p2], []) => some ((fBn L0 p1 p2).isSome, (fBn_en ((fBn L0 p1 p2).getD [])).1, (fBn_en ((fBn L0 p1 p2).getD [])).2) | _ => none
theorem fBn_cc : CTrue Tryz.prog 52 fBn_c := by
  intro args inh rs out h
  unfold fBn_c at h
  split at h
  · rename_i hd
    obtain ⟨h1, h2⟩ := dec2_enc hd
    rw [← h1, ← h2]
    exact rowC (fBn_ok _ _ _) h
  · cases h
def fAf_F : Fi := { nv := 0, nc := 0, m := 0, vt := [], kl := [], sk := [], mvs := [], fz := [] }
def fAf_a (g0 l1 : List Sc) : List AV := enc [.p .gr, .p .sl] [.l g0, .l l1]
def fAf_i (g0 l1 : List Sc) : List AV := enc [] []
def fAf_en (r : List Sc × Bool) : List AV × List AV := (enc [.p (.al 0), .p .boo] [.b r.2], enc [.own 2000028] [.l r.1])
def fAf_M : Calling := addC 7 fCc_c (addC 27 fBk_c (addC 52 fBn_c (noC)))
theorem fAf_Mt : CallOk Tryz.prog (fAf_M) := addC_true fCc_cc (addC_true fBk_cc (addC_true fBn_cc (noC_true)))
theorem fAf_o : loopsOnce Tryz.f14 = true := by kernel_rfl
theorem fAf_p {R : Type} (g0 l1 : List Sc) (kR : List Sc × Bool → Option R) : fAf_k g0 l1 kR = (fAf_k g0 l1 some).bind kR := by
  simp only [fAf_k, brB, boB, someB]
theorem fAf_e (g0 l1 : List Sc) : runFn E0 fAf_M H0 fAf_F (asL (noL)) Tryz.f14 (fAf_a g0 l1) (fAf_i g0 l1) = fAf_k g0 l1 (fun r => some (fAf_en r)) := by kernel_rfl
theorem fAf_ok (g0 l1 : List Sc) (r : List Sc × Bool) (h : fAf g0 l1 = some r) : CS Tryz.prog 14 (fAf_a g0 l1) (fAf_i g0 l1) (fAf_en r).1 (fAf_en r).2 :=
  fn_true (Gk := fun k => fAf_k g0 l1 k) (en := fAf_en) Tryz.func14 E0ok fAf_Mt (noL_true) fAf_o (fAf_e g0 l1) (fAf_p g0 l1) h
def fAf_c : CRow := fun args inh => match dec2 [.p .gr, .p .sl] [] args inh with | some ([.l g0, .l l1], []) => some ((fAf g0 l1).isSome, (fAf_en ((fAf g0 l1).getD ([], false))).1, (fAf_en ((fAf g0 l1).getD ([], false))).2) | _ => none
theorem fAf_cc : CTrue Tryz.prog 14 fAf_c := by
  intro args inh rs out h
  unfold fAf_c at h
  split at h
  · rename_i hd
    obtain ⟨h1, h2⟩ := dec2_enc hd
    rw [← h1, ← h2]
    exact rowC (fAf_ok _ _) h
  · cases h
def fBr_a (h0 : List Sc) : List AV := enc [.p (.al 0)] []
def fBr_i (h0 : List Sc) : List AV := enc [.own 3] [.l h0]
def fBr_en (r : List Sc) : List AV × List AV := (enc [] [], enc [.own 3] [.l r])
theorem fBr_ok (h0 r : List Sc) (h : fBr h0 = some r) : CS Tryz.prog 53 (fBr_a h0) (fBr_i h0) (fBr_en r).1 (fBr_en r).2 :=
  sort_CS (e := 3) ⟨_, Tryz.func53, by kernel_rfl⟩ Tryz.slices_Sort_int Tryz.slices_Sort_int_none h
def fBr_c : CRow := fun args inh => match dec2 [.p (.al 0)] [.own 3] args inh with | some ([], [.l h0]) => some ((fBr h0).isSome, (fBr_en ((fBr h0).getD [])).1, (fBr_en ((fBr h0).getD [])).2) | _ => none
theorem fBr_cc : CTrue Tryz.prog 53 fBr_c := by
  intro args inh rs out h
  unfold fBr_c at h
  split at h
  · rename_i hd
    obtain ⟨h1, h2⟩ := dec2_enc hd
    rw [← h1, ← h2]
    exact rowC (fBr_ok _) h
  · cases h
def fAq_a (h0 : List Sc) : List AV := enc [.p (.al 0)] []
def fAq_i (h0 : List Sc) : List AV := enc [.own 3] [.l h0]
def fAq_en (r : List Sc) : List AV × List AV := (enc [.p (.al 1)] [], enc [.u, .own 3] [.l r])
theorem fAq_ok (h0 r : List Sc) (h : fAq h0 = some r) : CS Tryz.prog 54 (fAq_a h0) (fAq_i h0) (fAq_en r).1 (fAq_en r).2 :=
  compact_CS (e := 3) ⟨_, Tryz.func54, by kernel_rfl⟩ Tryz.slices_Compact_int Tryz.slices_Compact_int_empty h
def fAq_c : CRow := fun args inh => match dec2 [.p (.al 0)] [.own 3] args inh with | some ([], [.l h0]) => some ((fAq h0).isSome, (fAq_en ((fAq h0).getD [])).1, (fAq_en ((fAq h0).getD [])).2) | _ => none
theorem fAq_cc : CTrue Tryz.prog 54 fAq_c := by
  intro args inh rs out h
  unfold fAq_c at h
  split at h
  · rename_i hd
    obtain ⟨h1, h2⟩ := dec2_enc hd
    rw [← h1, ← h2]
    exact rowC (fAq_ok _) h
  · cases h
def fBi_F : Fi := { nv := 1, nc := 0, m := 0, vt := [(14, 0)], kl := [(0, ([0, 1, 2, 3, 4, 5, 8, 9, 10, 11, 12, 13, 14, 15, 16, 17, 21, 22, 23, 24, 25, 26, 27, 28, 29, 30, 31, 32, 33], [0, 1, 2, 3, 4, 5, 8, 9, 10, 11, 12, 13, 14, 15, 16, 17, 18, 19, 20, 21, 22, 23, 24, 25, 26, 27, 28, 29, 30, 31, 32, 33], [0, 1, 2, 3, 4, 6, 8, 9, 10, 11, 12, 13, 14, 15, 16, 17, 18, 19, 20, 21, 22, 23, 24, 25, 26, 27, 28, 29, 30, 31, 32, 33]))], sk := [], mvs := [0], fz := [] }
def fBi_a (g0 l1 : List Sc) : List AV := enc [.p .gr, .p .sl] [.l g0, .l l1]
def fBi_i (g0 l1 : List Sc) : List AV := enc [] []
def fBi_en (r : List Sc) : List AV × List AV := (enc [.p (.al 0)] [], enc [.own 3] [.l r])
def fBi_M : Calling := addC 13 fAe_c (addC 53 fBr_c (addC 54 fAq_c (noC)))
theorem fBi_Mt : CallOk Tryz.prog (fBi_M) := addC_true fAe_cc (addC_true fBr_cc (addC_true fAq_cc (noC_true)))
theorem fBi_o : loopsOnce Tryz.f15 = true := by kernel_rfl
def fBi_h0 : List Sh := [.u, .u, .u, .u, .u, .u, .own 3, .own 2000028, .u, .u, .u, .u, .u, .u, .u, .u, .u, .u, .p (.al 7), .p (.int .i64), .p (.int .i64), .u, .u, .u, .u, .u, .u, .u, .u, .u, .u, .u, .u, .u]
def fBi_fr0 (t18 : Int) (s : List Sc × List Sc × Int) : List AV := enc fBi_h0 [.l s.1, .l s.2.1, .i t18, .i s.2.2]
def fBi_g0_1 : List Sh := [.u, .u, .u, .u, .u, .u, .own 3, .own 2000028, .u, .u, .u, .u, .u, .u, .u, .u, .u, .u, .u, .u, .u, .u, .u, .u, .u, .u, .u, .u, .u, .u, .u, .u, .u, .u]
def fBi_x0_1 (t18 : Int) (e : List Sc × List Sc) : X × List AV := (.out 0, enc fBi_g0_1 [.l e.1, .l e.2])
def fBi_x0_2 (t18 : Int) (_e : Unit) : X × List AV := (.ret, [])
theorem fBi_p0 {R : Type} (t18 : Int) (s : List Sc × List Sc × Int) (kN : List Sc × List Sc × Int → Option R) (kA : List Sc × List Sc → Option R) (kB : Unit → Option R) : fBi_k0 t18 s.1 s.2.1 s.2.2 kN kA = (fBi_r0 t18 s).bind (Ro.el kN kA kB) := by
  simp only [fBi_k0, fBi_r0, brB, someB, noneB, Ro.el]
theorem fBi_e0 (t18 : Int) (s : List Sc × List Sc × Int) : EC E0 fBi_M H0 fBi_F (asL (noL)) 0 (bodyOf Tryz.f15 0) (fBi_fr0 t18 s) (done (klOf fBi_F 0)) = fBi_k0 t18 s.1 s.2.1 s.2.2 (fun s => some (.norm, fBi_fr0 t18 s)) (fun e => some (fBi_x0_1 t18 e)) := by kernel_rfl
theorem fBi_l0 (t18 : Int) : ∀ s r, loopL (fBi_r0 t18) s = some r → LS Tryz.prog fBi_F (bodyOf Tryz.f15 0) (fBi_fr0 t18 s) (enX (fBi_x0_1 t18) (fBi_x0_2 t18) r) :=
  loop_true E0ok fBi_Mt (noL_true) fBi_o (fun _ h => by cases h) (fun _ h => by cases h) (fun _ h => by cases h) (fun _ h => by cases h) (fun s => (fBi_e0 t18 s).trans (fBi_p0 t18 s _ _ (fun e => some (fBi_x0_2 t18 e))))
def fBi_t0 (σ : List AV) : Option (Bool × Bool × (X × List AV) × (X × List AV)) := match dec fBi_h0 σ with | some [.l out5, .l f6, .i t18, .i t19] => some (isOne (loopL (fBi_r0 t18) (out5, f6, t19)), true, fBi_x0_1 t18 (getOne ([], []) (loopL (fBi_r0 t18) (out5, f6, t19))), (.ret, [])) | _ => none
theorem fBi_tt0 : TTrue Tryz.prog fBi_F Tryz.f15 0 (fBi_t0) := by
  intro σ p r r' h
  unfold fBi_t0 at h
  split at h
  · rename_i hd
    rw [← dec_enc hd]
    exact row1 (fBi_l0 _ _) h
  · cases h
theorem fBi_p {R : Type} (g0 l1 : List Sc) (kR : List Sc → Option R) : fBi_k g0 l1 kR = (fBi_k g0 l1 some).bind kR := by
  simp only [fBi_k, boB, bl1B, someB]
theorem fBi_e (g0 l1 : List Sc) : runFn E0 fBi_M H0 fBi_F (asL (addL 0 (fBi_t0) (noL))) Tryz.f15 (fBi_a g0 l1) (fBi_i g0 l1) = fBi_k g0 l1 (fun r => some (fBi_en r)) := by kernel_rfl
theorem fBi_ok (g0 l1 r : List Sc) (h : fBi g0 l1 = some r) : CS Tryz.prog 15 (fBi_a g0 l1) (fBi_i g0 l1) (fBi_en r).1 (fBi_en r).2 :=
  fn_true (Gk := fun k => fBi_k g0 l1 k) (en := fBi_en) Tryz.func15 E0ok fBi_Mt (addL_true (fBi_tt0) (noL_true)) fBi_o (fBi_e g0 l1) (fBi_p g0 l1) h
def fBi_c : CRow := fun args inh => match dec2 [.p .gr, .p .sl] [] args inh with | some ([.l g0, .l l1], []) => some ((fBi g0 l1).isSome, (fBi_en ((fBi g0 l1).getD [])).1, (fBi_en ((fBi g0 l1).getD [])).2) | _ => none
theorem fBi_cc : CTrue Tryz.prog 15 fBi_c := by
  intro args inh rs out h
  unfold fBi_c at h
  split at h
  · rename_i hd
    obtain ⟨h1, h2⟩ := dec2_enc hd
    rw [← h1, ← h2]
    exact rowC (fBi_ok _ _) h
  · cases h
def fCy_F : Fi := { nv := 0, nc := 0, m := 0, vt := [], kl := [(0, ([2, 3, 4, 6, 7, 8, 9, 10, 11, 12, 13, 14, 15, 16, 17], [0, 1, 2, 3, 4, 5, 6, 7, 8, 9, 10, 11, 12, 13, 14, 15, 16, 17], [0, 1, 2, 3, 5, 6, 7, 8, 9, 10, 11, 12, 13, 14, 15, 16, 17]))], sk := [], mvs := [], fz := [] }
def fCy_a (l0 : List Sc) (x1 : Int) : List AV := enc [.p .sl, .p (.int .i64)] [.l l0, .i x1]
def fCy_i (l0 : List Sc) (x1 : Int) : List AV := enc [] []
def fCy_en (r : Bool) : List AV × List AV := (enc [.p .boo] [.b r], enc [] [])
def fCy_M : Calling := noC
theorem fCy_Mt : CallOk Tryz.prog (fCy_M) := noC_true
theorem fCy_o : loopsOnce Tryz.f16 = true := by kernel_rfl
def fCy_h0 : List Sh := [.p .sl, .p (.int .i64), .u, .u, .u, .p (.int .i64), .u, .u, .u, .u, .u, .u, .u, .u, .u, .u, .u, .u]
def fCy_fr0 (l0 : List Sc) (x1 s : Int) : List AV := enc fCy_h0 [.l l0, .i x1, .i s]
def fCy_g0_1 : List Sh := [.u, .u, .u, .u, .u, .u, .u, .u, .u, .u, .u, .u, .u, .u, .u, .u, .u, .u]
def fCy_x0_1 (l0 : List Sc) (x1 : Int) (e : Unit) : X × List AV := (.out 0, enc fCy_g0_1 [])
def fCy_g0_2 : List Sh := [.u, .u, .u, .u, .p .boo, .u, .u, .u, .u, .u, .u, .u, .u, .u, .u, .u, .u, .u]
def fCy_x0_2 (l0 : List Sc) (x1 : Int) (e : Unit) : X × List AV := (.ret, enc fCy_g0_2 [.b true])
theorem fCy_p0 {R : Type} (l0 : List Sc) (x1 s : Int) (kN : Int → Option R) (kA kB : Unit → Option R) : fCy_k0 l0 x1 s kN kA kB = (fCy_r0 l0 x1 s).bind (Ro.el kN kA kB) := by
  simp only [fCy_k0, fCy_r0, brB, someB, noneB, Ro.el]
theorem fCy_e0 (l0 : List Sc) (x1 s : Int) : EC E0 fCy_M H0 fCy_F (asL (noL)) 0 (bodyOf Tryz.f16 0) (fCy_fr0 l0 x1 s) (done (klOf fCy_F 0)) = fCy_k0 l0 x1 s (fun s => some (.norm, fCy_fr0 l0 x1 s)) (fun e => some (fCy_x0_1 l0 x1 e)) (fun e => some (fCy_x0_2 l0 x1 e)) := by kernel_rfl
theorem fCy_l0 (l0 : List Sc) (x1 : Int) : ∀ s r, loopL (fCy_r0 l0 x1) s = some r → LS Tryz.prog fCy_F (bodyOf Tryz.f16 0) (fCy_fr0 l0 x1 s) (enX (fCy_x0_1 l0 x1) (fCy_x0_2 l0 x1) r) :=
  loop_true E0ok fCy_Mt (noL_true) fCy_o (fun _ h => by cases h) (fun _ h => by cases h) (fun _ h => by cases h) (fun _ h => by cases h) (fun s => (fCy_e0 l0 x1 s).trans (fCy_p0 l0 x1 s _ _ (fun e => some (fCy_x0_2 l0 x1 e))))
def fCy_t0 (σ : List AV) : Option (Bool × Bool × (X × List AV) × (X × List AV)) := match dec fCy_h0 σ with | some [.l l0, .i x1, .i i5] => some ((loopL (fCy_r0 l0 x1) i5).isSome, isOne (loopL (fCy_r0 l0 x1) i5), fCy_x0_1 l0 x1 (getOne () (loopL (fCy_r0 l0 x1) i5)), fCy_x0_2 l0 x1 (getTwo () (loopL (fCy_r0 l0 x1) i5))) | _ => none
theorem fCy_tt0 : TTrue Tryz.prog fCy_F Tryz.f16 0 (fCy_t0) := by
  intro σ p r r' h
  unfold fCy_t0 at h
  split at h
  · rename_i hd
    rw [← dec_enc hd]
    exact row2 (fCy_l0 _ _ _) h
  · cases h
theorem fCy_p {R : Type} (l0 : List Sc) (x1 : Int) (kR : Bool → Option R) : fCy_k l0 x1 kR = (fCy_k l0 x1 some).bind kR := by
  simp only [fCy_k, blB, someB]
theorem fCy_e (l0 : List Sc) (x1 : Int) : runFn E0 fCy_M H0 fCy_F (asL (addL 0 (fCy_t0) (noL))) Tryz.f16 (fCy_a l0 x1) (fCy_i l0 x1) = fCy_k l0 x1 (fun r => some (fCy_en r)) := by kernel_rfl
theorem fCy_ok (l0 : List Sc) (x1 : Int) (r : Bool) (h : fCy l0 x1 = some r) : CS Tryz.prog 16 (fCy_a l0 x1) (fCy_i l0 x1) (fCy_en r).1 (fCy_en r).2 :=
  fn_true (Gk := fun k => fCy_k l0 x1 k) (en := fCy_en) Tryz.func16 E0ok fCy_Mt (addL_true (fCy_tt0) (noL_true)) fCy_o (fCy_e l0 x1) (fCy_p l0 x1) h
def fCy_c : CRow := fun args inh => match dec2 [.p .sl, .p (.int .i64)] [] args inh with | some ([.l l0, .i x1], []) => some ((fCy l0 x1).isSome, (fCy_en ((fCy l0 x1).getD false)).1, (fCy_en ((fCy l0 x1).getD false)).2) | _ => none
theorem fCy_cc : CTrue Tryz.prog 16 fCy_c := by
  intro args inh rs out h
  unfold fCy_c at h
  split at h
  · rename_i hd
    obtain ⟨h1, h2⟩ := dec2_enc hd
    rw [← h1, ← h2]
    exact rowC (fCy_ok _ _) h
  · cases h
def fAo_F : Fi := { nv := 0, nc := 0, m := 0, vt := [], kl := [], sk := [], mvs := [], fz := [] }
def fAo_a (g0 l1 : List Sc) : List AV := enc [.p .gr, .p .sl] [.l g0, .l l1]
def fAo_i (g0 l1 : List Sc) : List AV := enc [] []
def fAo_en (r : List Sc × Bool) : List AV × List AV := (enc [.p (.al 0), .p .boo] [.b r.2], enc [.own 3] [.l r.1])
def fAo_M : Calling := addC 55 fCf_c (addC 56 fAz_c (noC))
theorem fAo_Mt : CallOk Tryz.prog (fAo_M) := addC_true fCf_cc (addC_true fAz_cc (noC_true))
theorem fAo_o : loopsOnce Tryz.f17 = true := by kernel_rfl
theorem fAo_p {R : Type} (g0 l1 : List Sc) (kR : List Sc × Bool → Option R) : fAo_k g0 l1 kR = (fAo_k g0 l1 some).bind kR := by
  simp only [fAo_k, brB, boB, someB]
theorem fAo_e (g0 l1 : List Sc) : runFn E0 fAo_M H0 fAo_F (asL (noL)) Tryz.f17 (fAo_a g0 l1) (fAo_i g0 l1) = fAo_k g0 l1 (fun r => some (fAo_en r)) := by kernel_rfl
theorem fAo_ok (g0 l1 : List Sc) (r : List Sc × Bool) (h : fAo g0 l1 = some r) : CS Tryz.prog 17 (fAo_a g0 l1) (fAo_i g0 l1) (fAo_en r).1 (fAo_en r).2 :=
  fn_true (Gk := fun k => fAo_k g0 l1 k) (en := fAo_en) Tryz.func17 E0ok fAo_Mt (noL_true) fAo_o (fAo_e g0 l1) (fAo_p g0 l1) h
def fAo_c : CRow := fun args inh => match dec2 [.p .gr, .p .sl] [] args inh with | some ([.l g0, .l l1], []) => some ((fAo g0 l1).isSome, (fAo_en ((fAo g0 l1).getD ([], false))).1, (fAo_en ((fAo g0 l1).getD ([], false))).2) | _ => none
theorem fAo_cc : CTrue Tryz.prog 17 fAo_c := by
  intro args inh rs out h
  unfold fAo_c at h
  split at h
  · rename_i hd
    obtain ⟨h1, h2⟩ := dec2_enc hd
    rw [← h1, ← h2]
    exact rowC (fAo_ok _ _) h
  · cases h
def fCl_F : Fi := { nv := 0, nc := 0, m := 0, vt := [], kl := [], sk := [], mvs := [], fz := [] }
def fCl_a (a0 b1 : Int) : List AV := enc [.p (.int .i64), .p (.int .i64)] [.i a0, .i b1]
def fCl_i (a0 b1 : Int) : List AV := enc [] []
def fCl_en (r : Int × Int) : List AV × List AV := (enc [.p (.int .i64), .p (.int .i64)] [.i r.1, .i r.2], enc [] [])
def fCl_M : Calling := addC 48 fCw_c (noC)
theorem fCl_Mt : CallOk Tryz.prog (fCl_M) := addC_true fCw_cc (noC_true)
theorem fCl_o : loopsOnce Tryz.f57 = true := by kernel_rfl
theorem fCl_p {R : Type} (a0 b1 : Int) (kR : Int × Int → Option R) : fCl_k a0 b1 kR = (fCl_k a0 b1 some).bind kR := by
  simp only [fCl_k, brB, boB, someB, noneB]
theorem fCl_e (a0 b1 : Int) : runFn E0 fCl_M H0 fCl_F (asL (noL)) Tryz.f57 (fCl_a a0 b1) (fCl_i a0 b1) = fCl_k a0 b1 (fun r => some (fCl_en r)) := by kernel_rfl
theorem fCl_ok (a0 b1 : Int) (r : Int × Int) (h : fCl a0 b1 = some r) : CS Tryz.prog 57 (fCl_a a0 b1) (fCl_i a0 b1) (fCl_en r).1 (fCl_en r).2 :=
  fn_true (Gk := fun k => fCl_k a0 b1 k) (en := fCl_en) Tryz.func57 E0ok fCl_Mt (noL_true) fCl_o (fCl_e a0 b1) (fCl_p a0 b1) h
def fCl_c : CRow := fun args inh => match dec2 [.p (.int .i64), .p (.int .i64)] [] args inh with | some ([.i a0, .i b1], []) => some ((fCl a0 b1).isSome, (fCl_en ((fCl a0 b1).getD (0, 0))).1, (fCl_en ((fCl a0 b1).getD (0, 0))).2) | _ => none
theorem fCl_cc : CTrue Tryz.prog 57 fCl_c := by
  intro args inh rs out h
  unfold fCl_c at h
  split at h
  · rename_i hd
    obtain ⟨h1, h2⟩ := dec2_enc hd
    rw [← h1, ← h2]
    exact rowC (fCl_ok _ _) h
  · cases h
def fAl_F : Fi := { nv := 0, nc := 0, m := 0, vt := [], kl := [], sk := [], mvs := [], fz := [] }
def fAl_a (g0 l1 : List Sc) : List AV := enc [.p .gr, .p .sl] [.l g0, .l l1]
def fAl_i (g0 l1 : List Sc) : List AV := enc [] []
def fAl_en (r : Int × Int) : List AV × List AV := (enc [.p (.int .i64), .p (.int .i64)] [.i r.1, .i r.2], enc [] [])
def fAl_M : Calling := addC 15 fBi_c (addC 57 fCl_c (noC))
theorem fAl_Mt : CallOk Tryz.prog (fAl_M) := addC_true fBi_cc (addC_true fCl_cc (noC_true))
theorem fAl_o : loopsOnce Tryz.f19 = true := by kernel_rfl
theorem fAl_p {R : Type} (g0 l1 : List Sc) (kR : Int × Int → Option R) : fAl_k g0 l1 kR = (fAl_k g0 l1 some).bind kR := by
  simp only [fAl_k, brB, boB, someB, noneB]
theorem fAl_e (g0 l1 : List Sc) : runFn E0 fAl_M H0 fAl_F (asL (noL)) Tryz.f19 (fAl_a g0 l1) (fAl_i g0 l1) = fAl_k g0 l1 (fun r => some (fAl_en r)) := by kernel_rfl
theorem fAl_ok (g0 l1 : List Sc) (r : Int × Int) (h : fAl g0 l1 = some r) : CS Tryz.prog 19 (fAl_a g0 l1) (fAl_i g0 l1) (fAl_en r).1 (fAl_en r).2 :=
  fn_true (Gk := fun k => fAl_k g0 l1 k) (en := fAl_en) Tryz.func19 E0ok fAl_Mt (noL_true) fAl_o (fAl_e g0 l1) (fAl_p g0 l1) h
def fAl_c : CRow := fun args inh => match dec2 [.p .gr, .p .sl] [] args inh with | some ([.l g0, .l l1], []) => some ((fAl g0 l1).isSome, (fAl_en ((fAl g0 l1).getD (0, 0))).1, (fAl_en ((fAl g0 l1).getD (0, 0))).2) | _ => none
theorem fAl_cc : CTrue Tryz.prog 19 fAl_c := by
  intro args inh rs out h
  unfold fAl_c at h
  split at h
  · rename_i hd
    obtain ⟨h1, h2⟩ := dec2_enc hd
    rw [← h1, ← h2]
    exact rowC (fAl_ok _ _) h
  · cases h
def fCs_F : Fi := { nv := 0, nc := 0, m := 0, vt := [], kl := [(0, ([2, 3, 4, 6, 7, 8, 9, 10, 11, 12, 13, 14, 15, 16, 17, 18, 19, 20, 21, 22, 23, 24, 25, 26, 27, 28, 29, 30, 31, 32, 33, 34, 35, 36, 37, 38, 39, 40, 41, 42, 43, 44], [2, 3, 4, 6, 7, 8, 9, 10, 11, 12, 13, 14, 15, 16, 17, 18, 19, 20, 21, 22, 23, 24, 25, 26, 27, 28, 29, 30, 31, 32, 33, 34, 35, 36, 37, 38, 39, 40, 41, 42, 43, 44], [0, 1, 2, 3, 5, 6, 7, 8, 9, 10, 11, 12, 13, 14, 15, 16, 17, 18, 19, 20, 21, 22, 23, 24, 25, 26, 27, 28, 29, 30, 31, 32, 33, 34, 35, 36, 37, 38, 39, 40, 41, 42, 43, 44]))], sk := [], mvs := [], fz := [], so := true }
def fCs_a (l0 : List Sc) (n1 : Int) : List AV := enc [.p .sl, .p (.int .i64)] [.l l0, .i n1]
def fCs_i (l0 : List Sc) (n1 : Int) : List AV := enc [] []
def fCs_en (r : List Sc) : List AV × List AV := (enc [.p .sl] [.l r], enc [] [])
def fCs_M : Calling := noC
theorem fCs_Mt : CallOk Tryz.prog (fCs_M) := noC_true
theorem fCs_o : loopsOnce Tryz.f60 = true := by kernel_rfl
def fCs_h0 : List Sh := [.p .sl, .p (.int .i64), .u, .u, .u, .p (.int .i64), .u, .u, .u, .u, .u, .u, .u, .u, .u, .u, .u, .u, .u, .u, .u, .u, .u, .u, .u, .u, .u, .u, .u, .u, .u, .u, .u, .u, .u, .u, .u, .u, .u, .u, .u, .u, .u, .u, .u]
def fCs_fr0 (l0 : List Sc) (n1 s : Int) : List AV := enc fCs_h0 [.l l0, .i n1, .i s]
def fCs_g0_1 : List Sh := [.p .sl, .p (.int .i64), .u, .u, .u, .p (.int .i64), .u, .u, .u, .u, .u, .u, .u, .u, .u, .u, .u, .u, .u, .u, .u, .u, .u, .u, .u, .u, .u, .u, .u, .u, .u, .u, .u, .u, .u, .u, .u, .u, .u, .u, .u, .u, .u, .u, .u]
def fCs_x0_1 (l0 : List Sc) (n1 e : Int) : X × List AV := (.out 0, enc fCs_g0_1 [.l l0, .i n1, .i e])
def fCs_x0_2 (l0 : List Sc) (n1 : Int) (_e : Unit) : X × List AV := (.ret, [])
theorem fCs_p0 {R : Type} (l0 : List Sc) (n1 s : Int) (kN kA : Int → Option R) (kB : Unit → Option R) : fCs_k0 l0 n1 s kN kA = (fCs_r0 l0 n1 s).bind (Ro.el kN kA kB) := by
  simp only [fCs_k0, fCs_r0, brB, someB, noneB, Ro.el]
theorem fCs_e0 (l0 : List Sc) (n1 s : Int) : EC E0 fCs_M H0 fCs_F (asL (noL)) 0 (bodyOf Tryz.f60 0) (fCs_fr0 l0 n1 s) (done (klOf fCs_F 0)) = fCs_k0 l0 n1 s (fun s => some (.norm, fCs_fr0 l0 n1 s)) (fun e => some (fCs_x0_1 l0 n1 e)) := by kernel_rfl
theorem fCs_l0 (l0 : List Sc) (n1 : Int) : ∀ s r, loopL (fCs_r0 l0 n1) s = some r → LS Tryz.prog fCs_F (bodyOf Tryz.f60 0) (fCs_fr0 l0 n1 s) (enX (fCs_x0_1 l0 n1) (fCs_x0_2 l0 n1) r) :=
  loop_true E0ok fCs_Mt (noL_true) fCs_o (fun _ h => by cases h) (fun _ h => by cases h) (fun _ h => by cases h) (fun _ h => by cases h) (fun s => (fCs_e0 l0 n1 s).trans (fCs_p0 l0 n1 s _ _ (fun e => some (fCs_x0_2 l0 n1 e))))
def fCs_t0 (σ : List AV) : Option (Bool × Bool × (X × List AV) × (X × List AV)) := match dec fCs_h0 σ with | some [.l l0, .i n1, .i k5] => some (isOne (loopL (fCs_r0 l0 n1) k5), true, fCs_x0_1 l0 n1 (getOne 0 (loopL (fCs_r0 l0 n1) k5)), (.ret, [])) | _ => none
theorem fCs_tt0 : TTrue Tryz.prog fCs_F Tryz.f60 0 (fCs_t0) := by
  intro σ p r r' h
  unfold fCs_t0 at h
  split at h
  · rename_i hd
    rw [← dec_enc hd]
    exact row1 (fCs_l0 _ _ _) h
  · cases h
theorem fCs_p {R : Type} (l0 : List Sc) (n1 : Int) (kR : List Sc → Option R) : fCs_k l0 n1 kR = (fCs_k l0 n1 some).bind kR := by
  simp only [fCs_k, brB, bl1B, someB, noneB]
theorem fCs_e (l0 : List Sc) (n1 : Int) : runFn E0 fCs_M H0 fCs_F (asL (addL 0 (fCs_t0) (noL))) Tryz.f60 (fCs_a l0 n1) (fCs_i l0 n1) = fCs_k l0 n1 (fun r => some (fCs_en r)) := by kernel_rfl
theorem fCs_ok (l0 : List Sc) (n1 : Int) (r : List Sc) (h : fCs l0 n1 = some r) : CS Tryz.prog 60 (fCs_a l0 n1) (fCs_i l0 n1) (fCs_en r).1 (fCs_en r).2 :=
  fn_true (Gk := fun k => fCs_k l0 n1 k) (en := fCs_en) Tryz.func60 E0ok fCs_Mt (addL_true (fCs_tt0) (noL_true)) fCs_o (fCs_e l0 n1) (fCs_p l0 n1) h
def fCs_c : CRow := fun args inh => match dec2 [.p .sl, .p (.int .i64)] [] args inh with | some ([.l l0, .i n1], []) => some ((fCs l0 n1).isSome, (fCs_en ((fCs l0 n1).getD [])).1, (fCs_en ((fCs l0 n1).getD [])).2) | _ => none
theorem fCs_cc : CTrue Tryz.prog 60 fCs_c := by
  intro args inh rs out h
  unfold fCs_c at h
  split at h
  · rename_i hd
    obtain ⟨h1, h2⟩ := dec2_enc hd
    rw [← h1, ← h2]
    exact rowC (fCs_ok _ _) h
  · cases h
def fBl_F : Fi := { nv := 1, nc := 0, m := 0, vt := [(13, 0)], kl := [(0, ([0, 1, 2, 3, 4, 5, 10, 11, 12, 13, 14, 15, 16, 17, 18, 19, 20, 21, 22, 23, 24, 25, 26, 27, 28, 29, 30, 31, 32, 33], [0, 1, 2, 3, 4, 5, 7, 8, 9, 10, 11, 12, 13, 14, 15, 16, 17, 18, 19, 20, 21, 22, 23, 24, 25, 26, 27, 28, 29, 30, 31, 32, 33], [0, 1, 2, 3, 4, 6, 7, 8, 9, 10, 11, 12, 13, 14, 15, 16, 17, 18, 19, 20, 21, 22, 23, 24, 25, 26, 27, 28, 29, 30, 31, 32, 33]))], sk := [], mvs := [0], fz := [], fl := [9] }
def fBl_a (g0 l1 : List Sc) : List AV := enc [.p .gr, .p .sl] [.l g0, .l l1]
def fBl_i (g0 l1 : List Sc) : List AV := enc [] []
def fBl_en (r : List Sc) : List AV × List AV := (enc [.p .sl] [.l r], enc [] [])
def fBl_M : Calling := addC 14 fAf_c (addC 60 fCs_c (noC))
theorem fBl_Mt : CallOk Tryz.prog (fBl_M) := addC_true fAf_cc (addC_true fCs_cc (noC_true))
theorem fBl_o : loopsOnce Tryz.f24 = true := by kernel_rfl
def fBl_h0 : List Sh := [.u, .u, .u, .u, .u, .u, .p .sl, .own 2000028, .p .boo, .p (.int .i64), .u, .u, .u, .u, .u, .u, .u, .u, .u, .u, .u, .u, .u, .u, .u, .u, .u, .u, .u, .u, .u, .u, .u, .u]
def fBl_fr0 (is7 : Bool) (s : List Sc × List Sc × Int) : List AV := enc fBl_h0 [.l s.1, .l s.2.1, .b is7, .i s.2.2]
def fBl_g0_1 : List Sh := [.u, .u, .u, .u, .u, .u, .p .sl, .u, .u, .u, .u, .u, .u, .u, .u, .u, .u, .u, .u, .u, .u, .u, .u, .u, .u, .u, .u, .u, .u, .u, .u, .u, .u, .u]
def fBl_x0_1 (is7 : Bool) (e : List Sc) : X × List AV := (.out 0, enc fBl_g0_1 [.l e])
def fBl_x0_2 (is7 : Bool) (_e : Unit) : X × List AV := (.ret, [])
theorem fBl_p0 {R : Type} (is7 : Bool) (s : List Sc × List Sc × Int) (kN : List Sc × List Sc × Int → Option R) (kA : List Sc → Option R) (kB : Unit → Option R) : fBl_k0 is7 s.1 s.2.1 s.2.2 kN kA = (fBl_r0 is7 s).bind (Ro.el kN kA kB) := by
  simp only [fBl_k0, fBl_r0, brB, boB, someB, noneB, Ro.el]
theorem fBl_e0 (is7 : Bool) (s : List Sc × List Sc × Int) : EC E0 fBl_M H0 fBl_F (asL (noL)) 0 (bodyOf Tryz.f24 0) (fBl_fr0 is7 s) (done (klOf fBl_F 0)) = fBl_k0 is7 s.1 s.2.1 s.2.2 (fun s => some (.norm, fBl_fr0 is7 s)) (fun e => some (fBl_x0_1 is7 e)) := by kernel_rfl
theorem fBl_l0 (is7 : Bool) : ∀ s r, loopL (fBl_r0 is7) s = some r → LS Tryz.prog fBl_F (bodyOf Tryz.f24 0) (fBl_fr0 is7 s) (enX (fBl_x0_1 is7) (fBl_x0_2 is7) r) :=
  loop_true E0ok fBl_Mt (noL_true) fBl_o (fun _ h => by cases h) (fun _ h => by cases h) (fun _ h => by cases h) (fun _ h => by cases h) (fun s => (fBl_e0 is7 s).trans (fBl_p0 is7 s _ _ (fun e => some (fBl_x0_2 is7 e))))
def fBl_t0 (σ : List AV) : Option (Bool × Bool × (X × List AV) × (X × List AV)) := match dec fBl_h0 σ with | some [.l out5, .l f6, .b is7, .i i8] => some (isOne (loopL (fBl_r0 is7) (out5, f6, i8)), true, fBl_x0_1 is7 (getOne [] (loopL (fBl_r0 is7) (out5, f6, i8))), (.ret, [])) | _ => none
theorem fBl_tt0 : TTrue Tryz.prog fBl_F Tryz.f24 0 (fBl_t0) := by
  intro σ p r r' h
  unfold fBl_t0 at h
  split at h
  · rename_i hd
    rw [← dec_enc hd]
    exact row1 (fBl_l0 _ _) h
  · cases h
theorem fBl_p {R : Type} (g0 l1 : List Sc) (kR : List Sc → Option R) : fBl_k g0 l1 kR = (fBl_k g0 l1 some).bind kR := by
  simp only [fBl_k, boB, bl1B, someB]
theorem fBl_e (g0 l1 : List Sc) : runFn E0 fBl_M H0 fBl_F (asL (addL 0 (fBl_t0) (noL))) Tryz.f24 (fBl_a g0 l1) (fBl_i g0 l1) = fBl_k g0 l1 (fun r => some (fBl_en r)) := by kernel_rfl
theorem fBl_ok (g0 l1 r : List Sc) (h : fBl g0 l1 = some r) : CS Tryz.prog 24 (fBl_a g0 l1) (fBl_i g0 l1) (fBl_en r).1 (fBl_en r).2 :=
  fn_true (Gk := fun k => fBl_k g0 l1 k) (en := fBl_en) Tryz.func24 E0ok fBl_Mt (addL_true (fBl_tt0) (noL_true)) fBl_o (fBl_e g0 l1) (fBl_p g0 l1) h
def fBl_c : CRow := fun args inh => match dec2 [.p .gr, .p .sl] [] args inh with | some ([.l g0, .l l1], []) => some ((fBl g0 l1).isSome, (fBl_en ((fBl g0 l1).getD [])).1, (fBl_en ((fBl g0 l1).getD [])).2) | _ => none
theorem fBl_cc : CTrue Tryz.prog 24 fBl_c := by
  intro args inh rs out h
  unfold fBl_c at h
  split at h
  · rename_i hd
    obtain ⟨h1, h2⟩ := dec2_enc hd
    rw [← h1, ← h2]
    exact rowC (fBl_ok _ _) h
  · cases h
def fBa_F : Fi := { nv := 0, nc := 0, m := 0, vt := [], kl := [(0, ([2, 3, 4, 5, 6, 7, 8, 9, 10, 11, 12, 13], [1, 2, 3, 4, 5, 6, 7, 8, 9, 10, 11, 12, 13], [0, 1, 2, 3, 5, 6, 7, 8, 9, 10, 11, 12, 13]))], sk := [], mvs := [], fz := [] }
def fBa_a (x0 y1 : Int) : List AV := enc [.p (.int .i64), .p (.int .i64)] [.i x0, .i y1]
def fBa_i (x0 y1 : Int) : List AV := enc [] []
def fBa_en (r : Int) : List AV × List AV := (enc [.p (.int .i64)] [.i r], enc [] [])
def fBa_M : Calling := noC
theorem fBa_Mt : CallOk Tryz.prog (fBa_M) := noC_true
theorem fBa_o : loopsOnce Tryz.f58 = true := by kernel_rfl
def fBa_h0 : List Sh := [.p (.int .i64), .p (.int .i64), .u, .u, .u, .u, .u, .u, .u, .u, .u, .u, .u, .u]
def fBa_fr0 (s : Int × Int) : List AV := enc fBa_h0 [.i s.1, .i s.2]
def fBa_g0_1 : List Sh := [.p (.int .i64), .u, .u, .u, .u, .u, .u, .u, .u, .u, .u, .u, .u, .u]
def fBa_x0_1 (e : Int) : X × List AV := (.out 0, enc fBa_g0_1 [.i e])
def fBa_x0_2 (_e : Unit) : X × List AV := (.ret, [])
theorem fBa_p0 {R : Type} (s : Int × Int) (kN : Int × Int → Option R) (kA : Int → Option R) (kB : Unit → Option R) : fBa_k0 s.1 s.2 kN kA = (fBa_r0 s).bind (Ro.el kN kA kB) := by
  simp only [fBa_k0, fBa_r0, brB, someB, noneB, Ro.el]
theorem fBa_e0 (s : Int × Int) : EC E0 fBa_M H0 fBa_F (asL (noL)) 0 (bodyOf Tryz.f58 0) (fBa_fr0 s) (done (klOf fBa_F 0)) = fBa_k0 s.1 s.2 (fun s => some (.norm, fBa_fr0 s)) (fun e => some (fBa_x0_1 e)) := by kernel_rfl
theorem fBa_l0 : ∀ s r, loopL (fBa_r0) s = some r → LS Tryz.prog fBa_F (bodyOf Tryz.f58 0) (fBa_fr0 s) (enX (fBa_x0_1) (fBa_x0_2) r) :=
  loop_true E0ok fBa_Mt (noL_true) fBa_o (fun _ h => by cases h) (fun _ h => by cases h) (fun _ h => by cases h) (fun _ h => by cases h) (fun s => (fBa_e0 s).trans (fBa_p0 s _ _ (fun e => some (fBa_x0_2 e))))
def fBa_t0 (σ : List AV) : Option (Bool × Bool × (X × List AV) × (X × List AV)) := match dec fBa_h0 σ with | some [.i x0, .i y1] => some (isOne (loopL (fBa_r0) (x0, y1)), true, fBa_x0_1 (getOne 0 (loopL (fBa_r0) (x0, y1))), (.ret, [])) | _ => none
theorem fBa_tt0 : TTrue Tryz.prog fBa_F Tryz.f58 0 (fBa_t0) := by
  intro σ p r r' h
  unfold fBa_t0 at h
  split at h
  · rename_i hd
    rw [← dec_enc hd]
    exact row1 (fBa_l0 _) h
  · cases h
theorem fBa_p {R : Type} (x0 y1 : Int) (kR : Int → Option R) : fBa_k x0 y1 kR = (fBa_k x0 y1 some).bind kR := by
  simp only [fBa_k, bl1B, someB]
theorem fBa_e (x0 y1 : Int) : runFn E0 fBa_M H0 fBa_F (asL (addL 0 (fBa_t0) (noL))) Tryz.f58 (fBa_a x0 y1) (fBa_i x0 y1) = fBa_k x0 y1 (fun r => some (fBa_en r)) := by kernel_rfl
theorem fBa_ok (x0 y1 r : Int) (h : fBa x0 y1 = some r) : CS Tryz.prog 58 (fBa_a x0 y1) (fBa_i x0 y1) (fBa_en r).1 (fBa_en r).2 :=
  fn_true (Gk := fun k => fBa_k x0 y1 k) (en := fBa_en) Tryz.func58 E0ok fBa_Mt (addL_true (fBa_tt0) (noL_true)) fBa_o (fBa_e x0 y1) (fBa_p x0 y1) h
def fBa_c : CRow := fun args inh => match dec2 [.p (.int .i64), .p (.int .i64)] [] args inh with | some ([.i x0, .i y1], []) => some ((fBa x0 y1).isSome, (fBa_en ((fBa x0 y1).getD 0)).1, (fBa_en ((fBa x0 y1).getD 0)).2) | _ => none
theorem fBa_cc : CTrue Tryz.prog 58 fBa_c := by
  intro args inh rs out h
  unfold fBa_c at h
  split at h
  · rename_i hd
    obtain ⟨h1, h2⟩ := dec2_enc hd
    rw [← h1, ← h2]
    exact rowC (fBa_ok _ _) h
  · cases h
def fAn_F : Fi := { nv := 0, nc := 0, m := 0, vt := [], kl := [], sk := [], mvs := [], fz := [] }
def fAn_a (g0 l1 : List Sc) : List AV := enc [.p .gr, .p .sl] [.l g0, .l l1]
def fAn_i (g0 l1 : List Sc) : List AV := enc [] []
def fAn_en (r : Int × Int) : List AV × List AV := (enc [.p (.int .i64), .p (.int .i64)] [.i r.1, .i r.2], enc [] [])
def fAn_M : Calling := addC 24 fBl_c (addC 58 fBa_c (noC))
theorem fAn_Mt : CallOk Tryz.prog (fAn_M) := addC_true fBl_cc (addC_true fBa_cc (noC_true))
theorem fAn_o : loopsOnce Tryz.f20 = true := by kernel_rfl
theorem fAn_p {R : Type} (g0 l1 : List Sc) (kR : Int × Int → Option R) : fAn_k g0 l1 kR = (fAn_k g0 l1 some).bind kR := by
  simp only [fAn_k, brB, boB, someB, noneB]
theorem fAn_e (g0 l1 : List Sc) : runFn E0 fAn_M H0 fAn_F (asL (noL)) Tryz.f20 (fAn_a g0 l1) (fAn_i g0 l1) = fAn_k g0 l1 (fun r => some (fAn_en r)) := by kernel_rfl
theorem fAn_ok (g0 l1 : List Sc) (r : Int × Int) (h : fAn g0 l1 = some r) : CS Tryz.prog 20 (fAn_a g0 l1) (fAn_i g0 l1) (fAn_en r).1 (fAn_en r).2 :=
  fn_true (Gk := fun k => fAn_k g0 l1 k) (en := fAn_en) Tryz.func20 E0ok fAn_Mt (noL_true) fAn_o (fAn_e g0 l1) (fAn_p g0 l1) h
def fAn_c : CRow := fun args inh => match dec2 [.p .gr, .p .sl] [] args inh with | some ([.l g0, .l l1], []) => some ((fAn g0 l1).isSome, (fAn_en ((fAn g0 l1).getD (0, 0))).1, (fAn_en ((fAn g0 l1).getD (0, 0))).2) | _ => none
theorem fAn_cc : CTrue Tryz.prog 20 fAn_c := by
  intro args inh rs out h
  unfold fAn_c at h
  split at h
  · rename_i hd
    obtain ⟨h1, h2⟩ := dec2_enc hd
    rw [← h1, ← h2]
    exact rowC (fAn_ok _ _) h
  · cases h
def fAy_F : Fi := { nv := 4, nc := 2, m := 0, vt := [(2, 0), (4, 1), (10, 2)], kl := [(100004, ([2, 3, 5, 7, 9, 11, 12, 13, 14, 15, 16, 17, 18, 19, 20, 21, 22, 23, 24, 25, 26, 27, 28, 29, 30, 31, 32, 33, 34, 35, 36, 37, 38, 39], [1, 2, 3, 4, 5, 8, 9, 10, 11, 12, 13, 14, 15, 16, 17, 18, 19, 20, 21, 22, 23, 24, 25, 26, 27, 28, 29, 30, 31, 32, 33, 34, 35, 36, 37, 38, 39], []))], sk := [], mvs := [2, 3], fz := [], so := true, tb := [4] }
def fAy_a (code0 : List Sc) : List AV := enc [.p .sl] [.l code0]
def fAy_i (code0 : List Sc) : List AV := enc [] []
def fAy_en (r : List Sc × List Sc) : List AV × List AV := (enc [.p .gr, .p .sl] [.l r.1, .l r.2], enc [] [])
def fAy_M : Calling := addC 49 fCg_c (addC 7 fCc_c (noC))
theorem fAy_Mt : CallOk Tryz.prog (fAy_M) := addC_true fCg_cc (addC_true fCc_cc (noC_true))
theorem fAy_o : loopsOnce Tryz.f21 = true := by kernel_rfl
def fAy_hg4 : List Sh := [.p .sl, .fr 3, .u, .u, .p .sl, .u, .p (.pt 0 1), .u, .p (.pt 1 1), .u, .p (.nl 1), .u, .u, .u, .u, .u, .u, .u, .u, .u, .u, .u, .u, .u, .u, .u, .u, .u, .u, .u, .u, .u, .u, .u, .u, .u, .u, .u, .u, .u]
def fAy_frg4 (v0 v1 t0 t6 : List Sc) : List AV := enc fAy_hg4 [.l v0, .l v1, .l t0, .l t6]
def fAy_xg4 (v0 v1 t0 t6 e : List Sc) : X × List AV := (.norm, enc [.p .sl, .u, .u, .u, .u, .u, .p (.pt 0 1), .p .sl, .u, .u, .u, .u, .u, .u, .u, .u, .u, .u, .u, .u, .u, .u, .u, .u, .u, .u, .u, .u, .u, .u, .u, .u, .u, .u, .u, .u, .u, .u, .u, .u] [.l v1, .l e])
theorem fAy_pg4 {R : Type} (v0 v1 t0 t6 : List Sc) (kA : List Sc → Option R) : fAy_g4_k v0 v1 t0 t6 kA = (fAy_g4 v0 v1 t0 t6).bind kA := by
  simp only [fAy_g4_k, fAy_g4, brB, someB, noneB]
theorem fAy_bg4 : bodyOf Tryz.f21 100004 = .region 4 (opsAt (bodyOf Tryz.f21 100004)) true := by kernel_rfl
def fAy_Dg4 : List (Array Bool) := [#[false, false, false, false, false, false, false, false, false, false, false], #[true, false, false, false, false, false, false, false, false, false, false], #[false, true, false, false, false, false, false, false, false, false, false], #[false, false, true, false, false, false, false, false, false, false, false], #[false, false, false, false, true, false, false, false, false, false, false], #[true, true, false, false, false, false, false, false, false, false, false], #[true, false, true, false, false, false, false, false, false, false, false], #[true, false, false, false, true, false, false, false, false, false, false], #[true, false, false, false, false, false, false, false, false, true, false], #[false, true, true, false, false, false, false, false, false, false, false], #[false, true, false, false, true, false, false, false, false, false, false], #[false, false, true, true, false, false, false, false, false, false, false], #[false, false, true, false, true, false, false, false, false, false, false], #[false, false, false, false, true, true, false, false, false, false, false], #[true, true, true, false, false, false, false, false, false, false, false], #[true, true, false, false, true, false, false, false, false, false, false], #[true, true, false, false, false, false, false, false, false, true, false], #[true, false, true, true, false, false, false, false, false, false, false], #[true, false, true, false, true, false, false, false, false, false, false], #[true, false, true, false, false, false, false, false, false, true, false], #[true, false, false, false, true, true, false, false, false, false, false], #[true, false, false, false, true, false, false, false, false, true, false], #[false, true, true, true, false, false, false, false, false, false, false], #[false, true, true, false, true, false, false, false, false, false, false], #[false, true, false, false, true, true, false, false, false, false, false], #[false, false, true, true, true, false, false, false, false, false, false], #[false, false, true, false, true, true, false, false, false, false, false], #[true, true, true, true, false, false, false, false, false, false, false], #[true, true, true, false, true, false, false, false, false, false, false], #[true, true, true, false, false, false, false, false, false, true, false], #[true, true, false, false, true, true, false, false, false, false, false], #[true, true, false, false, true, false, false, false, false, true, false], #[true, false, true, true, true, false, false, false, false, false, false], #[true, false, true, true, false, false, false, false, false, true, false], #[true, false, true, false, true, true, false, false, false, false, false], #[true, false, true, false, true, false, false, false, false, true, false], #[true, false, false, false, true, true, false, false, false, true, false], #[false, true, true, true, true, false, false, false, false, false, false], #[false, true, true, false, true, true, false, false, false, false, false], #[false, false, true, true, true, true, false, false, false, false, false], #[true, true, true, true, true, false, false, false, false, false, false], #[true, true, true, true, false, false, false, false, false, true, false], #[true, true, true, false, true, true, false, false, false, false, false], #[true, true, true, false, true, false, false, false, false, true, false], #[true, true, false, false, true, true, false, false, false, true, false], #[true, false, true, true, true, true, false, false, false, false, false], #[true, false, true, true, true, false, false, false, false, true, false], #[true, false, true, false, true, true, false, false, false, true, false], #[false, true, true, true, true, true, false, false, false, false, false], #[false, false, true, true, true, true, true, false, false, false, false], #[true, true, true, true, true, true, false, false, false, false, false], #[true, true, true, true, true, false, false, false, false, true, false], #[true, true, true, false, true, true, false, false, false, true, false], #[true, false, true, true, true, true, true, false, false, false, false], #[true, false, true, true, true, true, false, false, false, true, false], #[false, true, true, true, true, true, true, false, false, false, false], #[true, true, true, true, true, true, true, false, false, false, false], #[true, true, true, true, true, true, false, false, false, true, false], #[true, false, true, true, true, true, true, false, false, true, false], #[false, true, true, true, true, true, true, true, false, false, false], #[true, true, true, true, true, true, true, true, false, false, false], #[true, true, true, true, true, true, true, false, false, true, false], #[false, true, true, true, true, true, true, true, true, false, false], #[true, true, true, true, true, true, true, true, true, false, false], #[true, true, true, true, true, true, true, true, false, true, false], #[true, true, true, true, true, true, true, true, true, true, false], #[true, true, true, true, true, true, true, true, true, true, true]]
theorem fAy_cg4 : closedB (opsAt (bodyOf Tryz.f21 100004)) fAy_Dg4 = true := by kernel_rfl
def fAy_sg4_1 (v0 v1 t0 t6 : List Sc) (fr : List AV) : Option (List AV) := some (setAll [(29, .p (.gr v1))] fr)
def fAy_sg4_2 (v0 v1 t0 t6 : List Sc) (fr : List AV) : Option (List AV) := some (setAll [(30, .p (.nl 1 t6))] fr)
def fAy_sg4_4 (v0 v1 t0 t6 : List Sc) (fr : List AV) : Option (List AV) := some (setAll [(31, .p (.sl t0))] fr)
def fAy_sg4_16 (v0 v1 t0 t6 : List Sc) (fr : List AV) : Option (List AV) := some (setAll [(33, .p (.nl 1 t6))] fr)
def fAy_sg4_3 (v0 v1 t0 t6 : List Sc) (fr : List AV) : Option (List AV) := some (setAll [(29, .p (.gr v1)), (30, .p (.nl 1 t6))] fr)
def fAy_sg4_5 (v0 v1 t0 t6 : List Sc) (fr : List AV) : Option (List AV) := some (setAll [(29, .p (.gr v1)), (31, .p (.sl t0))] fr)
def fAy_sg4_17 (v0 v1 t0 t6 : List Sc) (fr : List AV) : Option (List AV) := some (setAll [(29, .p (.gr v1)), (33, .p (.nl 1 t6))] fr)
def fAy_sg4_513 (v0 v1 t0 t6 : List Sc) (fr : List AV) : Option (List AV) := some (setAll [(0, .p (.sl v1)), (29, .p (.gr v1))] fr)
def fAy_sg4_6 (v0 v1 t0 t6 : List Sc) (fr : List AV) : Option (List AV) := some (setAll [(30, .p (.nl 1 t6)), (31, .p (.sl t0))] fr)
def fAy_sg4_18 (v0 v1 t0 t6 : List Sc) (fr : List AV) : Option (List AV) := some (setAll [(30, .p (.nl 1 t6)), (33, .p (.nl 1 t6))] fr)
def fAy_sg4_12 (v0 v1 t0 t6 : List Sc) (fr : List AV) : Option (List AV) := some (setAll [(31, .p (.sl t0)), (32, .p (.sc (Sc.n .i64 (t0.length : Int))))] fr)
def fAy_sg4_20 (v0 v1 t0 t6 : List Sc) (fr : List AV) : Option (List AV) := some (setAll [(31, .p (.sl t0)), (33, .p (.nl 1 t6))] fr)
def fAy_sg4_48 (v0 v1 t0 t6 : List Sc) (fr : List AV) : Option (List AV) := some (setAll [(33, .p (.nl 1 t6)), (34, .p (.sc (Sc.n .i64 (t6.length : Int))))] fr)
def fAy_sg4_7 (v0 v1 t0 t6 : List Sc) (fr : List AV) : Option (List AV) := some (setAll [(29, .p (.gr v1)), (30, .p (.nl 1 t6)), (31, .p (.sl t0))] fr)
def fAy_sg4_19 (v0 v1 t0 t6 : List Sc) (fr : List AV) : Option (List AV) := some (setAll [(29, .p (.gr v1)), (30, .p (.nl 1 t6)), (33, .p (.nl 1 t6))] fr)
def fAy_sg4_515 (v0 v1 t0 t6 : List Sc) (fr : List AV) : Option (List AV) := some (setAll [(0, .p (.sl v1)), (29, .p (.gr v1)), (30, .p (.nl 1 t6))] fr)
def fAy_sg4_13 (v0 v1 t0 t6 : List Sc) (fr : List AV) : Option (List AV) := some (setAll [(29, .p (.gr v1)), (31, .p (.sl t0)), (32, .p (.sc (Sc.n .i64 (t0.length : Int))))] fr)
def fAy_sg4_21 (v0 v1 t0 t6 : List Sc) (fr : List AV) : Option (List AV) := some (setAll [(29, .p (.gr v1)), (31, .p (.sl t0)), (33, .p (.nl 1 t6))] fr)
def fAy_sg4_517 (v0 v1 t0 t6 : List Sc) (fr : List AV) : Option (List AV) := some (setAll [(0, .p (.sl v1)), (29, .p (.gr v1)), (31, .p (.sl t0))] fr)
def fAy_sg4_49 (v0 v1 t0 t6 : List Sc) (fr : List AV) : Option (List AV) := some (setAll [(29, .p (.gr v1)), (33, .p (.nl 1 t6)), (34, .p (.sc (Sc.n .i64 (t6.length : Int))))] fr)
def fAy_sg4_529 (v0 v1 t0 t6 : List Sc) (fr : List AV) : Option (List AV) := some (setAll [(0, .p (.sl v1)), (29, .p (.gr v1)), (33, .p (.nl 1 t6))] fr)
def fAy_sg4_14 (v0 v1 t0 t6 : List Sc) (fr : List AV) : Option (List AV) := some (setAll [(30, .p (.nl 1 t6)), (31, .p (.sl t0)), (32, .p (.sc (Sc.n .i64 (t0.length : Int))))] fr)
def fAy_sg4_22 (v0 v1 t0 t6 : List Sc) (fr : List AV) : Option (List AV) := some (setAll [(30, .p (.nl 1 t6)), (31, .p (.sl t0)), (33, .p (.nl 1 t6))] fr)
def fAy_sg4_50 (v0 v1 t0 t6 : List Sc) (fr : List AV) : Option (List AV) := some (setAll [(30, .p (.nl 1 t6)), (33, .p (.nl 1 t6)), (34, .p (.sc (Sc.n .i64 (t6.length : Int))))] fr)
def fAy_sg4_28 (v0 v1 t0 t6 : List Sc) (fr : List AV) : Option (List AV) := some (setAll [(31, .p (.sl t0)), (32, .p (.sc (Sc.n .i64 (t0.length : Int)))), (33, .p (.nl 1 t6))] fr)
def fAy_sg4_52 (v0 v1 t0 t6 : List Sc) (fr : List AV) : Option (List AV) := some (setAll [(31, .p (.sl t0)), (33, .p (.nl 1 t6)), (34, .p (.sc (Sc.n .i64 (t6.length : Int))))] fr)
def fAy_sg4_15 (v0 v1 t0 t6 : List Sc) (fr : List AV) : Option (List AV) := some (setAll [(29, .p (.gr v1)), (30, .p (.nl 1 t6)), (31, .p (.sl t0)), (32, .p (.sc (Sc.n .i64 (t0.length : Int))))] fr)
def fAy_sg4_23 (v0 v1 t0 t6 : List Sc) (fr : List AV) : Option (List AV) := some (setAll [(29, .p (.gr v1)), (30, .p (.nl 1 t6)), (31, .p (.sl t0)), (33, .p (.nl 1 t6))] fr)
def fAy_sg4_519 (v0 v1 t0 t6 : List Sc) (fr : List AV) : Option (List AV) := some (setAll [(0, .p (.sl v1)), (29, .p (.gr v1)), (30, .p (.nl 1 t6)), (31, .p (.sl t0))] fr)
def fAy_sg4_51 (v0 v1 t0 t6 : List Sc) (fr : List AV) : Option (List AV) := some (setAll [(29, .p (.gr v1)), (30, .p (.nl 1 t6)), (33, .p (.nl 1 t6)), (34, .p (.sc (Sc.n .i64 (t6.length : Int))))] fr)
def fAy_sg4_531 (v0 v1 t0 t6 : List Sc) (fr : List AV) : Option (List AV) := some (setAll [(0, .p (.sl v1)), (29, .p (.gr v1)), (30, .p (.nl 1 t6)), (33, .p (.nl 1 t6))] fr)
def fAy_sg4_29 (v0 v1 t0 t6 : List Sc) (fr : List AV) : Option (List AV) := some (setAll [(29, .p (.gr v1)), (31, .p (.sl t0)), (32, .p (.sc (Sc.n .i64 (t0.length : Int)))), (33, .p (.nl 1 t6))] fr)
def fAy_sg4_525 (v0 v1 t0 t6 : List Sc) (fr : List AV) : Option (List AV) := some (setAll [(0, .p (.sl v1)), (29, .p (.gr v1)), (31, .p (.sl t0)), (32, .p (.sc (Sc.n .i64 (t0.length : Int))))] fr)
def fAy_sg4_53 (v0 v1 t0 t6 : List Sc) (fr : List AV) : Option (List AV) := some (setAll [(29, .p (.gr v1)), (31, .p (.sl t0)), (33, .p (.nl 1 t6)), (34, .p (.sc (Sc.n .i64 (t6.length : Int))))] fr)
def fAy_sg4_533 (v0 v1 t0 t6 : List Sc) (fr : List AV) : Option (List AV) := some (setAll [(0, .p (.sl v1)), (29, .p (.gr v1)), (31, .p (.sl t0)), (33, .p (.nl 1 t6))] fr)
def fAy_sg4_561 (v0 v1 t0 t6 : List Sc) (fr : List AV) : Option (List AV) := some (setAll [(0, .p (.sl v1)), (29, .p (.gr v1)), (33, .p (.nl 1 t6)), (34, .p (.sc (Sc.n .i64 (t6.length : Int))))] fr)
def fAy_sg4_30 (v0 v1 t0 t6 : List Sc) (fr : List AV) : Option (List AV) := some (setAll [(30, .p (.nl 1 t6)), (31, .p (.sl t0)), (32, .p (.sc (Sc.n .i64 (t0.length : Int)))), (33, .p (.nl 1 t6))] fr)
def fAy_sg4_54 (v0 v1 t0 t6 : List Sc) (fr : List AV) : Option (List AV) := some (setAll [(30, .p (.nl 1 t6)), (31, .p (.sl t0)), (33, .p (.nl 1 t6)), (34, .p (.sc (Sc.n .i64 (t6.length : Int))))] fr)
def fAy_sg4_60 (v0 v1 t0 t6 : List Sc) (fr : List AV) : Option (List AV) := some (setAll [(31, .p (.sl t0)), (32, .p (.sc (Sc.n .i64 (t0.length : Int)))), (33, .p (.nl 1 t6)), (34, .p (.sc (Sc.n .i64 (t6.length : Int))))] fr)
def fAy_sg4_31 (v0 v1 t0 t6 : List Sc) (fr : List AV) : Option (List AV) := some (setAll [(29, .p (.gr v1)), (30, .p (.nl 1 t6)), (31, .p (.sl t0)), (32, .p (.sc (Sc.n .i64 (t0.length : Int)))), (33, .p (.nl 1 t6))] fr)
def fAy_sg4_527 (v0 v1 t0 t6 : List Sc) (fr : List AV) : Option (List AV) := some (setAll [(0, .p (.sl v1)), (29, .p (.gr v1)), (30, .p (.nl 1 t6)), (31, .p (.sl t0)), (32, .p (.sc (Sc.n .i64 (t0.length : Int))))] fr)
def fAy_sg4_55 (v0 v1 t0 t6 : List Sc) (fr : List AV) : Option (List AV) := some (setAll [(29, .p (.gr v1)), (30, .p (.nl 1 t6)), (31, .p (.sl t0)), (33, .p (.nl 1 t6)), (34, .p (.sc (Sc.n .i64 (t6.length : Int))))] fr)
def fAy_sg4_535 (v0 v1 t0 t6 : List Sc) (fr : List AV) : Option (List AV) := some (setAll [(0, .p (.sl v1)), (29, .p (.gr v1)), (30, .p (.nl 1 t6)), (31, .p (.sl t0)), (33, .p (.nl 1 t6))] fr)
def fAy_sg4_563 (v0 v1 t0 t6 : List Sc) (fr : List AV) : Option (List AV) := some (setAll [(0, .p (.sl v1)), (29, .p (.gr v1)), (30, .p (.nl 1 t6)), (33, .p (.nl 1 t6)), (34, .p (.sc (Sc.n .i64 (t6.length : Int))))] fr)
def fAy_sg4_61 (v0 v1 t0 t6 : List Sc) (fr : List AV) : Option (List AV) := some (setAll [(29, .p (.gr v1)), (31, .p (.sl t0)), (32, .p (.sc (Sc.n .i64 (t0.length : Int)))), (33, .p (.nl 1 t6)), (34, .p (.sc (Sc.n .i64 (t6.length : Int))))] fr)
def fAy_sg4_541 (v0 v1 t0 t6 : List Sc) (fr : List AV) : Option (List AV) := some (setAll [(0, .p (.sl v1)), (29, .p (.gr v1)), (31, .p (.sl t0)), (32, .p (.sc (Sc.n .i64 (t0.length : Int)))), (33, .p (.nl 1 t6))] fr)
def fAy_sg4_565 (v0 v1 t0 t6 : List Sc) (fr : List AV) : Option (List AV) := some (setAll [(0, .p (.sl v1)), (29, .p (.gr v1)), (31, .p (.sl t0)), (33, .p (.nl 1 t6)), (34, .p (.sc (Sc.n .i64 (t6.length : Int))))] fr)
def fAy_sg4_62 (v0 v1 t0 t6 : List Sc) (fr : List AV) : Option (List AV) := some (setAll [(30, .p (.nl 1 t6)), (31, .p (.sl t0)), (32, .p (.sc (Sc.n .i64 (t0.length : Int)))), (33, .p (.nl 1 t6)), (34, .p (.sc (Sc.n .i64 (t6.length : Int))))] fr)
def fAy_sg4_124 (v0 v1 t0 t6 : List Sc) (fr : List AV) : Option (List AV) := br ((t6.length : Int) == 0) none (some (setAll [(31, .p (.sl t0)), (32, .p (.sc (Sc.n .i64 (t0.length : Int)))), (33, .p (.nl 1 t6)), (34, .p (.sc (Sc.n .i64 (t6.length : Int)))), (35, .p (.sc (Sc.n .i64 ((t0.length : Int).tmod (t6.length : Int)))))] fr))
def fAy_sg4_63 (v0 v1 t0 t6 : List Sc) (fr : List AV) : Option (List AV) := some (setAll [(29, .p (.gr v1)), (30, .p (.nl 1 t6)), (31, .p (.sl t0)), (32, .p (.sc (Sc.n .i64 (t0.length : Int)))), (33, .p (.nl 1 t6)), (34, .p (.sc (Sc.n .i64 (t6.length : Int))))] fr)
def fAy_sg4_543 (v0 v1 t0 t6 : List Sc) (fr : List AV) : Option (List AV) := some (setAll [(0, .p (.sl v1)), (29, .p (.gr v1)), (30, .p (.nl 1 t6)), (31, .p (.sl t0)), (32, .p (.sc (Sc.n .i64 (t0.length : Int)))), (33, .p (.nl 1 t6))] fr)
def fAy_sg4_567 (v0 v1 t0 t6 : List Sc) (fr : List AV) : Option (List AV) := some (setAll [(0, .p (.sl v1)), (29, .p (.gr v1)), (30, .p (.nl 1 t6)), (31, .p (.sl t0)), (33, .p (.nl 1 t6)), (34, .p (.sc (Sc.n .i64 (t6.length : Int))))] fr)
def fAy_sg4_125 (v0 v1 t0 t6 : List Sc) (fr : List AV) : Option (List AV) := br ((t6.length : Int) == 0) none (some (setAll [(29, .p (.gr v1)), (31, .p (.sl t0)), (32, .p (.sc (Sc.n .i64 (t0.length : Int)))), (33, .p (.nl 1 t6)), (34, .p (.sc (Sc.n .i64 (t6.length : Int)))), (35, .p (.sc (Sc.n .i64 ((t0.length : Int).tmod (t6.length : Int)))))] fr))
def fAy_sg4_573 (v0 v1 t0 t6 : List Sc) (fr : List AV) : Option (List AV) := some (setAll [(0, .p (.sl v1)), (29, .p (.gr v1)), (31, .p (.sl t0)), (32, .p (.sc (Sc.n .i64 (t0.length : Int)))), (33, .p (.nl 1 t6)), (34, .p (.sc (Sc.n .i64 (t6.length : Int))))] fr)
def fAy_sg4_126 (v0 v1 t0 t6 : List Sc) (fr : List AV) : Option (List AV) := br ((t6.length : Int) == 0) none (some (setAll [(30, .p (.nl 1 t6)), (31, .p (.sl t0)), (32, .p (.sc (Sc.n .i64 (t0.length : Int)))), (33, .p (.nl 1 t6)), (34, .p (.sc (Sc.n .i64 (t6.length : Int)))), (35, .p (.sc (Sc.n .i64 ((t0.length : Int).tmod (t6.length : Int)))))] fr))
def fAy_sg4_127 (v0 v1 t0 t6 : List Sc) (fr : List AV) : Option (List AV) := br ((t6.length : Int) == 0) none (some (setAll [(29, .p (.gr v1)), (30, .p (.nl 1 t6)), (31, .p (.sl t0)), (32, .p (.sc (Sc.n .i64 (t0.length : Int)))), (33, .p (.nl 1 t6)), (34, .p (.sc (Sc.n .i64 (t6.length : Int)))), (35, .p (.sc (Sc.n .i64 ((t0.length : Int).tmod (t6.length : Int)))))] fr))
def fAy_sg4_575 (v0 v1 t0 t6 : List Sc) (fr : List AV) : Option (List AV) := some (setAll [(0, .p (.sl v1)), (29, .p (.gr v1)), (30, .p (.nl 1 t6)), (31, .p (.sl t0)), (32, .p (.sc (Sc.n .i64 (t0.length : Int)))), (33, .p (.nl 1 t6)), (34, .p (.sc (Sc.n .i64 (t6.length : Int))))] fr)
def fAy_sg4_637 (v0 v1 t0 t6 : List Sc) (fr : List AV) : Option (List AV) := br ((t6.length : Int) == 0) none (some (setAll [(0, .p (.sl v1)), (29, .p (.gr v1)), (31, .p (.sl t0)), (32, .p (.sc (Sc.n .i64 (t0.length : Int)))), (33, .p (.nl 1 t6)), (34, .p (.sc (Sc.n .i64 (t6.length : Int)))), (35, .p (.sc (Sc.n .i64 ((t0.length : Int).tmod (t6.length : Int)))))] fr))
def fAy_sg4_254 (v0 v1 t0 t6 : List Sc) (fr : List AV) : Option (List AV) := br ((t6.length : Int) == 0) none (br (inRange ((t0.length : Int).tmod (t6.length : Int)) (t6).length) (some (setAll [(30, .p (.nl 1 t6)), (31, .p (.sl t0)), (32, .p (.sc (Sc.n .i64 (t0.length : Int)))), (33, .p (.nl 1 t6)), (34, .p (.sc (Sc.n .i64 (t6.length : Int)))), (35, .p (.sc (Sc.n .i64 ((t0.length : Int).tmod (t6.length : Int))))), (36, .p (.el (lsI t6 ((t0.length : Int).tmod (t6.length : Int)))))] fr)) none)
def fAy_sg4_255 (v0 v1 t0 t6 : List Sc) (fr : List AV) : Option (List AV) := br ((t6.length : Int) == 0) none (br (inRange ((t0.length : Int).tmod (t6.length : Int)) (t6).length) (some (setAll [(29, .p (.gr v1)), (30, .p (.nl 1 t6)), (31, .p (.sl t0)), (32, .p (.sc (Sc.n .i64 (t0.length : Int)))), (33, .p (.nl 1 t6)), (34, .p (.sc (Sc.n .i64 (t6.length : Int)))), (35, .p (.sc (Sc.n .i64 ((t0.length : Int).tmod (t6.length : Int))))), (36, .p (.el (lsI t6 ((t0.length : Int).tmod (t6.length : Int)))))] fr)) none)
def fAy_sg4_639 (v0 v1 t0 t6 : List Sc) (fr : List AV) : Option (List AV) := br ((t6.length : Int) == 0) none (some (setAll [(0, .p (.sl v1)), (29, .p (.gr v1)), (30, .p (.nl 1 t6)), (31, .p (.sl t0)), (32, .p (.sc (Sc.n .i64 (t0.length : Int)))), (33, .p (.nl 1 t6)), (34, .p (.sc (Sc.n .i64 (t6.length : Int)))), (35, .p (.sc (Sc.n .i64 ((t0.length : Int).tmod (t6.length : Int)))))] fr))
def fAy_sg4_510 (v0 v1 t0 t6 : List Sc) (fr : List AV) : Option (List AV) := br ((t6.length : Int) == 0) none (br (inRange ((t0.length : Int).tmod (t6.length : Int)) (t6).length) (some (setAll [(30, .p (.nl 1 t6)), (31, .p (.sl t0)), (32, .p (.sc (Sc.n .i64 (t0.length : Int)))), (33, .p (.nl 1 t6)), (34, .p (.sc (Sc.n .i64 (t6.length : Int)))), (35, .p (.sc (Sc.n .i64 ((t0.length : Int).tmod (t6.length : Int))))), (36, .p (.el (lsI t6 ((t0.length : Int).tmod (t6.length : Int))))), (37, .p (.sl (lsI t6 ((t0.length : Int).tmod (t6.length : Int)))))] fr)) none)
def fAy_sg4_511 (v0 v1 t0 t6 : List Sc) (fr : List AV) : Option (List AV) := br ((t6.length : Int) == 0) none (br (inRange ((t0.length : Int).tmod (t6.length : Int)) (t6).length) (some (setAll [(29, .p (.gr v1)), (30, .p (.nl 1 t6)), (31, .p (.sl t0)), (32, .p (.sc (Sc.n .i64 (t0.length : Int)))), (33, .p (.nl 1 t6)), (34, .p (.sc (Sc.n .i64 (t6.length : Int)))), (35, .p (.sc (Sc.n .i64 ((t0.length : Int).tmod (t6.length : Int))))), (36, .p (.el (lsI t6 ((t0.length : Int).tmod (t6.length : Int))))), (37, .p (.sl (lsI t6 ((t0.length : Int).tmod (t6.length : Int)))))] fr)) none)
def fAy_sg4_767 (v0 v1 t0 t6 : List Sc) (fr : List AV) : Option (List AV) := br ((t6.length : Int) == 0) none (br (inRange ((t0.length : Int).tmod (t6.length : Int)) (t6).length) (some (setAll [(0, .p (.sl v1)), (29, .p (.gr v1)), (30, .p (.nl 1 t6)), (31, .p (.sl t0)), (32, .p (.sc (Sc.n .i64 (t0.length : Int)))), (33, .p (.nl 1 t6)), (34, .p (.sc (Sc.n .i64 (t6.length : Int)))), (35, .p (.sc (Sc.n .i64 ((t0.length : Int).tmod (t6.length : Int))))), (36, .p (.el (lsI t6 ((t0.length : Int).tmod (t6.length : Int)))))] fr)) none)
def fAy_sg4_1023 (v0 v1 t0 t6 : List Sc) (fr : List AV) : Option (List AV) := br ((t6.length : Int) == 0) none (br (inRange ((t0.length : Int).tmod (t6.length : Int)) (t6).length) (some (setAll [(0, .p (.sl v1)), (29, .p (.gr v1)), (30, .p (.nl 1 t6)), (31, .p (.sl t0)), (32, .p (.sc (Sc.n .i64 (t0.length : Int)))), (33, .p (.nl 1 t6)), (34, .p (.sc (Sc.n .i64 (t6.length : Int)))), (35, .p (.sc (Sc.n .i64 ((t0.length : Int).tmod (t6.length : Int))))), (36, .p (.el (lsI t6 ((t0.length : Int).tmod (t6.length : Int))))), (37, .p (.sl (lsI t6 ((t0.length : Int).tmod (t6.length : Int)))))] fr)) none)
def fAy_sg4_2047 (v0 v1 t0 t6 : List Sc) (fr : List AV) : Option (List AV) := br ((t6.length : Int) == 0) none (br (inRange ((t0.length : Int).tmod (t6.length : Int)) (t6).length) (some (setAll [(0, .p (.sl v1)), (7, .p (.sl (lsI t6 ((t0.length : Int).tmod (t6.length : Int))))), (29, .p (.gr v1)), (30, .p (.nl 1 t6)), (31, .p (.sl t0)), (32, .p (.sc (Sc.n .i64 (t0.length : Int)))), (33, .p (.nl 1 t6)), (34, .p (.sc (Sc.n .i64 (t6.length : Int)))), (35, .p (.sc (Sc.n .i64 ((t0.length : Int).tmod (t6.length : Int))))), (36, .p (.el (lsI t6 ((t0.length : Int).tmod (t6.length : Int))))), (37, .p (.sl (lsI t6 ((t0.length : Int).tmod (t6.length : Int)))))] fr)) none)
def fAy_Eg4 (v0 v1 t0 t6 : List Sc) (fr : List AV) : List (Option (List AV)) := [fAy_sg4_1 v0 v1 t0 t6 fr, fAy_sg4_2 v0 v1 t0 t6 fr, fAy_sg4_4 v0 v1 t0 t6 fr, fAy_sg4_16 v0 v1 t0 t6 fr, fAy_sg4_3 v0 v1 t0 t6 fr, fAy_sg4_5 v0 v1 t0 t6 fr, fAy_sg4_17 v0 v1 t0 t6 fr, fAy_sg4_513 v0 v1 t0 t6 fr, fAy_sg4_3 v0 v1 t0 t6 fr, fAy_sg4_6 v0 v1 t0 t6 fr, fAy_sg4_18 v0 v1 t0 t6 fr, fAy_sg4_5 v0 v1 t0 t6 fr, fAy_sg4_6 v0 v1 t0 t6 fr, fAy_sg4_12 v0 v1 t0 t6 fr, fAy_sg4_20 v0 v1 t0 t6 fr, fAy_sg4_17 v0 v1 t0 t6 fr, fAy_sg4_18 v0 v1 t0 t6 fr, fAy_sg4_20 v0 v1 t0 t6 fr, fAy_sg4_48 v0 v1 t0 t6 fr, fAy_sg4_7 v0 v1 t0 t6 fr, fAy_sg4_19 v0 v1 t0 t6 fr, fAy_sg4_515 v0 v1 t0 t6 fr, fAy_sg4_7 v0 v1 t0 t6 fr, fAy_sg4_13 v0 v1 t0 t6 fr, fAy_sg4_21 v0 v1 t0 t6 fr, fAy_sg4_517 v0 v1 t0 t6 fr, fAy_sg4_19 v0 v1 t0 t6 fr, fAy_sg4_21 v0 v1 t0 t6 fr, fAy_sg4_49 v0 v1 t0 t6 fr, fAy_sg4_529 v0 v1 t0 t6 fr, fAy_sg4_515 v0 v1 t0 t6 fr, fAy_sg4_517 v0 v1 t0 t6 fr, fAy_sg4_529 v0 v1 t0 t6 fr, fAy_sg4_7 v0 v1 t0 t6 fr, fAy_sg4_14 v0 v1 t0 t6 fr, fAy_sg4_22 v0 v1 t0 t6 fr, fAy_sg4_19 v0 v1 t0 t6 fr, fAy_sg4_22 v0 v1 t0 t6 fr, fAy_sg4_50 v0 v1 t0 t6 fr, fAy_sg4_13 v0 v1 t0 t6 fr, fAy_sg4_14 v0 v1 t0 t6 fr, fAy_sg4_28 v0 v1 t0 t6 fr, fAy_sg4_21 v0 v1 t0 t6 fr, fAy_sg4_22 v0 v1 t0 t6 fr, fAy_sg4_28 v0 v1 t0 t6 fr, fAy_sg4_52 v0 v1 t0 t6 fr, fAy_sg4_49 v0 v1 t0 t6 fr, fAy_sg4_50 v0 v1 t0 t6 fr, fAy_sg4_52 v0 v1 t0 t6 fr, fAy_sg4_15 v0 v1 t0 t6 fr, fAy_sg4_23 v0 v1 t0 t6 fr, fAy_sg4_519 v0 v1 t0 t6 fr, fAy_sg4_23 v0 v1 t0 t6 fr, fAy_sg4_51 v0 v1 t0 t6 fr, fAy_sg4_531 v0 v1 t0 t6 fr, fAy_sg4_519 v0 v1 t0 t6 fr, fAy_sg4_531 v0 v1 t0 t6 fr, fAy_sg4_15 v0 v1 t0 t6 fr, fAy_sg4_29 v0 v1 t0 t6 fr, fAy_sg4_525 v0 v1 t0 t6 fr, fAy_sg4_23 v0 v1 t0 t6 fr, fAy_sg4_29 v0 v1 t0 t6 fr, fAy_sg4_53 v0 v1 t0 t6 fr, fAy_sg4_533 v0 v1 t0 t6 fr, fAy_sg4_519 v0 v1 t0 t6 fr, fAy_sg4_525 v0 v1 t0 t6 fr, fAy_sg4_533 v0 v1 t0 t6 fr, fAy_sg4_51 v0 v1 t0 t6 fr, fAy_sg4_53 v0 v1 t0 t6 fr, fAy_sg4_561 v0 v1 t0 t6 fr, fAy_sg4_531 v0 v1 t0 t6 fr, fAy_sg4_533 v0 v1 t0 t6 fr, fAy_sg4_561 v0 v1 t0 t6 fr, fAy_sg4_15 v0 v1 t0 t6 fr, fAy_sg4_30 v0 v1 t0 t6 fr, fAy_sg4_23 v0 v1 t0 t6 fr, fAy_sg4_30 v0 v1 t0 t6 fr, fAy_sg4_54 v0 v1 t0 t6 fr, fAy_sg4_51 v0 v1 t0 t6 fr, fAy_sg4_54 v0 v1 t0 t6 fr, fAy_sg4_29 v0 v1 t0 t6 fr, fAy_sg4_30 v0 v1 t0 t6 fr, fAy_sg4_60 v0 v1 t0 t6 fr, fAy_sg4_53 v0 v1 t0 t6 fr, fAy_sg4_54 v0 v1 t0 t6 fr, fAy_sg4_60 v0 v1 t0 t6 fr, fAy_sg4_31 v0 v1 t0 t6 fr, fAy_sg4_527 v0 v1 t0 t6 fr, fAy_sg4_31 v0 v1 t0 t6 fr, fAy_sg4_55 v0 v1 t0 t6 fr, fAy_sg4_535 v0 v1 t0 t6 fr, fAy_sg4_527 v0 v1 t0 t6 fr, fAy_sg4_535 v0 v1 t0 t6 fr, fAy_sg4_55 v0 v1 t0 t6 fr, fAy_sg4_563 v0 v1 t0 t6 fr, fAy_sg4_535 v0 v1 t0 t6 fr, fAy_sg4_563 v0 v1 t0 t6 fr, fAy_sg4_31 v0 v1 t0 t6 fr, fAy_sg4_61 v0 v1 t0 t6 fr, fAy_sg4_541 v0 v1 t0 t6 fr, fAy_sg4_527 v0 v1 t0 t6 fr, fAy_sg4_541 v0 v1 t0 t6 fr, fAy_sg4_55 v0 v1 t0 t6 fr, fAy_sg4_61 v0 v1 t0 t6 fr, fAy_sg4_565 v0 v1 t0 t6 fr, fAy_sg4_535 v0 v1 t0 t6 fr, fAy_sg4_541 v0 v1 t0 t6 fr, fAy_sg4_565 v0 v1 t0 t6 fr, fAy_sg4_563 v0 v1 t0 t6 fr, fAy_sg4_565 v0 v1 t0 t6 fr, fAy_sg4_31 v0 v1 t0 t6 fr, fAy_sg4_62 v0 v1 t0 t6 fr, fAy_sg4_55 v0 v1 t0 t6 fr, fAy_sg4_62 v0 v1 t0 t6 fr, fAy_sg4_61 v0 v1 t0 t6 fr, fAy_sg4_62 v0 v1 t0 t6 fr, fAy_sg4_124 v0 v1 t0 t6 fr, fAy_sg4_63 v0 v1 t0 t6 fr, fAy_sg4_543 v0 v1 t0 t6 fr, fAy_sg4_543 v0 v1 t0 t6 fr, fAy_sg4_63 v0 v1 t0 t6 fr, fAy_sg4_567 v0 v1 t0 t6 fr, fAy_sg4_543 v0 v1 t0 t6 fr, fAy_sg4_567 v0 v1 t0 t6 fr, fAy_sg4_567 v0 v1 t0 t6 fr, fAy_sg4_63 v0 v1 t0 t6 fr, fAy_sg4_125 v0 v1 t0 t6 fr, fAy_sg4_573 v0 v1 t0 t6 fr, fAy_sg4_543 v0 v1 t0 t6 fr, fAy_sg4_573 v0 v1 t0 t6 fr, fAy_sg4_567 v0 v1 t0 t6 fr, fAy_sg4_573 v0 v1 t0 t6 fr, fAy_sg4_63 v0 v1 t0 t6 fr, fAy_sg4_126 v0 v1 t0 t6 fr, fAy_sg4_125 v0 v1 t0 t6 fr, fAy_sg4_126 v0 v1 t0 t6 fr, fAy_sg4_127 v0 v1 t0 t6 fr, fAy_sg4_575 v0 v1 t0 t6 fr, fAy_sg4_575 v0 v1 t0 t6 fr, fAy_sg4_575 v0 v1 t0 t6 fr, fAy_sg4_127 v0 v1 t0 t6 fr, fAy_sg4_637 v0 v1 t0 t6 fr, fAy_sg4_575 v0 v1 t0 t6 fr, fAy_sg4_637 v0 v1 t0 t6 fr, fAy_sg4_127 v0 v1 t0 t6 fr, fAy_sg4_254 v0 v1 t0 t6 fr, fAy_sg4_255 v0 v1 t0 t6 fr, fAy_sg4_639 v0 v1 t0 t6 fr, fAy_sg4_639 v0 v1 t0 t6 fr, fAy_sg4_639 v0 v1 t0 t6 fr, fAy_sg4_255 v0 v1 t0 t6 fr, fAy_sg4_510 v0 v1 t0 t6 fr, fAy_sg4_511 v0 v1 t0 t6 fr, fAy_sg4_767 v0 v1 t0 t6 fr, fAy_sg4_767 v0 v1 t0 t6 fr, fAy_sg4_511 v0 v1 t0 t6 fr, fAy_sg4_1023 v0 v1 t0 t6 fr, fAy_sg4_1023 v0 v1 t0 t6 fr, fAy_sg4_2047 v0 v1 t0 t6 fr]
theorem fAy_dLg4 (v0 v1 t0 t6 : List Sc) : edgeL E0 fAy_M H0 fAy_F (opsAt (bodyOf Tryz.f21 100004)) fAy_Dg4 (fAy_frg4 v0 v1 t0 t6) = fAy_Eg4 v0 v1 t0 t6 (fAy_frg4 v0 v1 t0 t6) := by kernel_rfl
theorem fAy_dRg4 (v0 v1 t0 t6 : List Sc) : edgeR E0 fAy_M H0 fAy_F (opsAt (bodyOf Tryz.f21 100004)) fAy_Dg4 (fAy_frg4 v0 v1 t0 t6) = fAy_Eg4 v0 v1 t0 t6 (fAy_frg4 v0 v1 t0 t6) := by kernel_rfl
theorem fAy_dg4 (v0 v1 t0 t6 : List Sc) : edgeL E0 fAy_M H0 fAy_F (opsAt (bodyOf Tryz.f21 100004)) fAy_Dg4 (fAy_frg4 v0 v1 t0 t6) = edgeR E0 fAy_M H0 fAy_F (opsAt (bodyOf Tryz.f21 100004)) fAy_Dg4 (fAy_frg4 v0 v1 t0 t6) := (fAy_dLg4 v0 v1 t0 t6).trans (fAy_dRg4 v0 v1 t0 t6).symm
theorem fAy_eg4 (v0 v1 t0 t6 : List Sc) : goL E0 fAy_M H0 fAy_F (opsAt (bodyOf Tryz.f21 100004)) (Array.replicate (opsAt (bodyOf Tryz.f21 100004)).size true) (opsAt (bodyOf Tryz.f21 100004)).toList 0 (fAy_frg4 v0 v1 t0 t6) (fun s => some (X.norm, clear (klOf fAy_F 100004).2.1 s)) = fAy_g4_k v0 v1 t0 t6 (fun e => some (fAy_xg4 v0 v1 t0 t6 e)) := by kernel_rfl
theorem fAy_lg4 (v0 v1 t0 t6 r : List Sc) (h : fAy_g4 v0 v1 t0 t6 = some r) : LS Tryz.prog fAy_F (bodyOf Tryz.f21 100004) (fAy_frg4 v0 v1 t0 t6) (fAy_xg4 v0 v1 t0 t6 r) :=
  region_true (S := Unit) (id := 4) (G := fun _ => fAy_g4 v0 v1 t0 t6) (Gk := fun _ k => fAy_g4_k v0 v1 t0 t6 k) (fr := fun _ => fAy_frg4 v0 v1 t0 t6) (f1 := fun e => fAy_xg4 v0 v1 t0 t6 e) E0ok fAy_Mt fAy_bg4 fAy_cg4 (fun _ => fAy_dg4 v0 v1 t0 t6) (fun _ => rfl) (fun _ => fAy_eg4 v0 v1 t0 t6) (fun _ k => fAy_pg4 v0 v1 t0 t6 k) () r h
def fAy_tg4 (σ : List AV) : Option (Bool × Bool × (X × List AV) × (X × List AV)) := match dec fAy_hg4 σ with | some [.l v0, .l v1, .l t0, .l t6] => some ((fAy_g4 v0 v1 t0 t6).isSome, true, fAy_xg4 v0 v1 t0 t6 ((fAy_g4 v0 v1 t0 t6).getD []), (.ret, [])) | _ => none
theorem fAy_ttg4 : TTrue Tryz.prog fAy_F Tryz.f21 100004 fAy_tg4 := by
  intro σ p r r' h
  unfold fAy_tg4 at h
  split at h
  · rename_i hd
    rw [← dec_enc hd]
    exact rowR (fAy_lg4 _ _ _ _) h
  · cases h
theorem fAy_p {R : Type} (code0 : List Sc) (kR : List Sc × List Sc → Option R) : fAy_k code0 kR = (fAy_k code0 some).bind kR := by
  simp only [fAy_k, brB, boB, someB]
theorem fAy_e (code0 : List Sc) : runFn E0 fAy_M H0 fAy_F (asL (addL 100004 fAy_tg4 (noL))) Tryz.f21 (fAy_a code0) (fAy_i code0) = fAy_k code0 (fun r => some (fAy_en r)) := by kernel_rfl
theorem fAy_ok (code0 : List Sc) (r : List Sc × List Sc) (h : fAy code0 = some r) : CS Tryz.prog 21 (fAy_a code0) (fAy_i code0) (fAy_en r).1 (fAy_en r).2 :=
  fn_true (Gk := fun k => fAy_k code0 k) (en := fAy_en) Tryz.func21 E0ok fAy_Mt (addL_true fAy_ttg4 (noL_true)) fAy_o (fAy_e code0) (fAy_p code0) h
def fAy_c : CRow := fun args inh => match dec2 [.p .sl] [] args inh with | some ([.l code0], []) => some ((fAy code0).isSome, (fAy_en ((fAy code0).getD ([], []))).1, (fAy_en ((fAy code0).getD ([], []))).2) | _ => none
theorem fAy_cc : CTrue Tryz.prog 21 fAy_c := by
  intro args inh rs out h
  unfold fAy_c at h
  split at h
  · rename_i hd
    obtain ⟨h1, h2⟩ := dec2_enc hd
    rw [← h1, ← h2]
    exact rowC (fAy_ok _) h
  · cases h
def fAi_F : Fi := { nv := 4, nc := 2, m := 0, vt := [(2, 0), (4, 1), (8, 2)], kl := [], sk := [], mvs := [2, 3], fz := [] }
def fAi_a (code0 : List Sc) : List AV := enc [.p .sl] [.l code0]
def fAi_i (code0 : List Sc) : List AV := enc [] []
def fAi_en (r : List Sc × List Sc) : List AV × List AV := (enc [.p (.go 0), .p (.al 1)] [], enc [.own 3, .own 3] [.l r.1, .l r.2])
def fAi_M : Calling := addC 49 fCg_c (noC)
theorem fAi_Mt : CallOk Tryz.prog (fAi_M) := addC_true fCg_cc (noC_true)
theorem fAi_o : loopsOnce Tryz.f22 = true := by kernel_rfl
theorem fAi_p {R : Type} (code0 : List Sc) (kR : List Sc × List Sc → Option R) : fAi_k code0 kR = (fAi_k code0 some).bind kR := by
  simp only [fAi_k, boB, someB]
theorem fAi_e (code0 : List Sc) : runFn E0 fAi_M H0 fAi_F (asL (noL)) Tryz.f22 (fAi_a code0) (fAi_i code0) = fAi_k code0 (fun r => some (fAi_en r)) := by kernel_rfl
theorem fAi_ok (code0 : List Sc) (r : List Sc × List Sc) (h : fAi code0 = some r) : CS Tryz.prog 22 (fAi_a code0) (fAi_i code0) (fAi_en r).1 (fAi_en r).2 :=
  fn_true (Gk := fun k => fAi_k code0 k) (en := fAi_en) Tryz.func22 E0ok fAi_Mt (noL_true) fAi_o (fAi_e code0) (fAi_p code0) h
def fAi_c : CRow := fun args inh => match dec2 [.p .sl] [] args inh with | some ([.l code0], []) => some ((fAi code0).isSome, (fAi_en ((fAi code0).getD ([], []))).1, (fAi_en ((fAi code0).getD ([], []))).2) | _ => none
theorem fAi_cc : CTrue Tryz.prog 22 fAi_c := by
  intro args inh rs out h
  unfold fAi_c at h
  split at h
  · rename_i hd
    obtain ⟨h1, h2⟩ := dec2_enc hd
    rw [← h1, ← h2]
    exact rowC (fAi_ok _) h
  · cases h
def fAh_F : Fi := { nv := 6, nc := 5, m := 0, vt := [(2, 0), (5, 1), (7, 2), (9, 5)], kl := [(100003, ([5, 6, 7, 9, 12, 13, 14, 15, 16, 17, 18, 19], [1, 2, 3, 4, 5, 6, 7, 10, 11, 12, 13, 14, 15, 16, 17, 18, 19], []))], sk := [], mvs := [5], fz := [], tb := [3] }
def fAh_a (code0 : List Sc) : List AV := enc [.p .sl] [.l code0]
def fAh_i (code0 : List Sc) : List AV := enc [] []
def fAh_en (r : List Sc × Int) : List AV × List AV := (enc [.p (.go 0), .p (.int .i64)] [.i r.2], enc [.own 3] [.l r.1])
def fAh_M : Calling := addC 29 fCq_c (addC 32 fBq_c (addC 59 fBd_c (noC)))
theorem fAh_Mt : CallOk Tryz.prog (fAh_M) := addC_true fCq_cc (addC_true fBq_cc (addC_true fBd_cc (noC_true)))
theorem fAh_o : loopsOnce Tryz.f23 = true := by kernel_rfl
def fAh_hg3 : List Sh := [.p .sl, .own 3, .p .sl, .p (.int .i64), .p (.int .i64), .u, .u, .u, .p (.pt 0 1), .u, .p (.pt 2 3), .p (.pt 1 1), .u, .u, .u, .u, .u, .u, .u, .u]
def fAh_frg3 (v0 v1 v2 : List Sc) (v3 v4 : Int) : List AV := enc fAh_hg3 [.l v0, .l v1, .l v2, .i v3, .i v4]
def fAh_xg3 (v0 v1 v2 : List Sc) (v3 v4 e : Int) : X × List AV := (.norm, enc [.own 3, .u, .u, .u, .u, .u, .u, .u, .p (.pt 0 1), .p (.int .i64), .u, .u, .u, .u, .u, .u, .u, .u, .u, .u] [.l v1, .i e])
theorem fAh_pg3 {R : Type} (v0 v1 v2 : List Sc) (v3 v4 : Int) (kA : Int → Option R) : fAh_g3_k v0 v1 v2 v3 v4 kA = (fAh_g3 v0 v1 v2 v3 v4).bind kA := by
  simp only [fAh_g3_k, fAh_g3, boB, someB]
theorem fAh_bg3 : bodyOf Tryz.f23 100003 = .region 3 (opsAt (bodyOf Tryz.f23 100003)) true := by kernel_rfl
def fAh_Dg3 : List (Array Bool) := [#[false, false, false, false, false, false], #[true, false, false, false, false, false], #[false, true, false, false, false, false], #[true, true, false, false, false, false], #[false, true, true, false, false, false], #[true, true, true, false, false, false], #[false, true, true, true, false, false], #[true, true, true, true, false, false], #[true, true, true, false, true, false], #[true, true, true, true, true, false], #[true, true, true, true, true, true]]
theorem fAh_cg3 : closedB (opsAt (bodyOf Tryz.f23 100003)) fAh_Dg3 = true := by kernel_rfl
def fAh_sg3_1 (v0 v1 v2 : List Sc) (v3 v4 : Int) (fr : List AV) : Option (List AV) := some (setAll [(16, .p (.go 1))] fr)
def fAh_sg3_2 (v0 v1 v2 : List Sc) (v3 v4 : Int) (fr : List AV) : Option (List AV) := some (setAll [(17, .p (.pt 2 3))] fr)
def fAh_sg3_3 (v0 v1 v2 : List Sc) (v3 v4 : Int) (fr : List AV) : Option (List AV) := some (setAll [(16, .p (.go 1)), (17, .p (.pt 2 3))] fr)
def fAh_sg3_6 (v0 v1 v2 : List Sc) (v3 v4 : Int) (fr : List AV) : Option (List AV) := bo (fBd 9 v2 v3 v4) (0, [], 0, 0) fun r4 => some (setAll [(2, .p (.sl r4.2.1)), (3, .p (.sc (Sc.n .i64 r4.2.2.1))), (4, .p (.sc (Sc.n .i64 r4.2.2.2))), (17, .p (.pt 2 3)), (18, .p (.sc (Sc.n .i64 r4.1)))] fr)
def fAh_sg3_7 (v0 v1 v2 : List Sc) (v3 v4 : Int) (fr : List AV) : Option (List AV) := bo (fBd 9 v2 v3 v4) (0, [], 0, 0) fun r5 => some (setAll [(2, .p (.sl r5.2.1)), (3, .p (.sc (Sc.n .i64 r5.2.2.1))), (4, .p (.sc (Sc.n .i64 r5.2.2.2))), (16, .p (.go 1)), (17, .p (.pt 2 3)), (18, .p (.sc (Sc.n .i64 r5.1)))] fr)
def fAh_sg3_14 (v0 v1 v2 : List Sc) (v3 v4 : Int) (fr : List AV) : Option (List AV) := bo (fBd 9 v2 v3 v4) (0, [], 0, 0) fun r6 => some (setAll [(2, .p (.sl r6.2.1)), (3, .p (.sc (Sc.n .i64 r6.2.2.1))), (4, .p (.sc (Sc.n .i64 r6.2.2.2))), (17, .p (.pt 2 3)), (18, .p (.sc (Sc.n .i64 r6.1))), (19, .p (.sc (Sc.n .i64 (w64 (r6.1 - 1)))))] fr)
def fAh_sg3_15 (v0 v1 v2 : List Sc) (v3 v4 : Int) (fr : List AV) : Option (List AV) := bo (fBd 9 v2 v3 v4) (0, [], 0, 0) fun r7 => some (setAll [(2, .p (.sl r7.2.1)), (3, .p (.sc (Sc.n .i64 r7.2.2.1))), (4, .p (.sc (Sc.n .i64 r7.2.2.2))), (16, .p (.go 1)), (17, .p (.pt 2 3)), (18, .p (.sc (Sc.n .i64 r7.1))), (19, .p (.sc (Sc.n .i64 (w64 (r7.1 - 1)))))] fr)
def fAh_sg3_23 (v0 v1 v2 : List Sc) (v3 v4 : Int) (fr : List AV) : Option (List AV) := bo (fBd 9 v2 v3 v4) (0, [], 0, 0) fun r8 => some (setAll [(0, .own 3 v1), (1, .p (.al 0)), (2, .p (.sl r8.2.1)), (3, .p (.sc (Sc.n .i64 r8.2.2.1))), (4, .p (.sc (Sc.n .i64 r8.2.2.2))), (16, .p (.go 0)), (17, .p (.pt 2 3)), (18, .p (.sc (Sc.n .i64 r8.1)))] fr)
def fAh_sg3_31 (v0 v1 v2 : List Sc) (v3 v4 : Int) (fr : List AV) : Option (List AV) := bo (fBd 9 v2 v3 v4) (0, [], 0, 0) fun r9 => some (setAll [(0, .own 3 v1), (1, .p (.al 0)), (2, .p (.sl r9.2.1)), (3, .p (.sc (Sc.n .i64 r9.2.2.1))), (4, .p (.sc (Sc.n .i64 r9.2.2.2))), (16, .p (.go 0)), (17, .p (.pt 2 3)), (18, .p (.sc (Sc.n .i64 r9.1))), (19, .p (.sc (Sc.n .i64 (w64 (r9.1 - 1)))))] fr)
def fAh_sg3_63 (v0 v1 v2 : List Sc) (v3 v4 : Int) (fr : List AV) : Option (List AV) := bo (fBd 9 v2 v3 v4) (0, [], 0, 0) fun r10 => some (setAll [(0, .own 3 v1), (1, .p (.al 0)), (2, .p (.sl r10.2.1)), (3, .p (.sc (Sc.n .i64 r10.2.2.1))), (4, .p (.sc (Sc.n .i64 r10.2.2.2))), (9, .p (.sc (Sc.n .i64 (w64 (r10.1 - 1))))), (16, .p (.go 0)), (17, .p (.pt 2 3)), (18, .p (.sc (Sc.n .i64 r10.1))), (19, .p (.sc (Sc.n .i64 (w64 (r10.1 - 1)))))] fr)
def fAh_Eg3 (v0 v1 v2 : List Sc) (v3 v4 : Int) (fr : List AV) : List (Option (List AV)) := [fAh_sg3_1 v0 v1 v2 v3 v4 fr, fAh_sg3_2 v0 v1 v2 v3 v4 fr, fAh_sg3_3 v0 v1 v2 v3 v4 fr, fAh_sg3_3 v0 v1 v2 v3 v4 fr, fAh_sg3_6 v0 v1 v2 v3 v4 fr, fAh_sg3_7 v0 v1 v2 v3 v4 fr, fAh_sg3_7 v0 v1 v2 v3 v4 fr, fAh_sg3_14 v0 v1 v2 v3 v4 fr, fAh_sg3_15 v0 v1 v2 v3 v4 fr, fAh_sg3_23 v0 v1 v2 v3 v4 fr, fAh_sg3_15 v0 v1 v2 v3 v4 fr, fAh_sg3_31 v0 v1 v2 v3 v4 fr, fAh_sg3_31 v0 v1 v2 v3 v4 fr, fAh_sg3_63 v0 v1 v2 v3 v4 fr]
theorem fAh_dLg3 (v0 v1 v2 : List Sc) (v3 v4 : Int) : edgeL E0 fAh_M H0 fAh_F (opsAt (bodyOf Tryz.f23 100003)) fAh_Dg3 (fAh_frg3 v0 v1 v2 v3 v4) = fAh_Eg3 v0 v1 v2 v3 v4 (fAh_frg3 v0 v1 v2 v3 v4) := by kernel_rfl
theorem fAh_dRg3 (v0 v1 v2 : List Sc) (v3 v4 : Int) : edgeR E0 fAh_M H0 fAh_F (opsAt (bodyOf Tryz.f23 100003)) fAh_Dg3 (fAh_frg3 v0 v1 v2 v3 v4) = fAh_Eg3 v0 v1 v2 v3 v4 (fAh_frg3 v0 v1 v2 v3 v4) := by kernel_rfl
theorem fAh_dg3 (v0 v1 v2 : List Sc) (v3 v4 : Int) : edgeL E0 fAh_M H0 fAh_F (opsAt (bodyOf Tryz.f23 100003)) fAh_Dg3 (fAh_frg3 v0 v1 v2 v3 v4) = edgeR E0 fAh_M H0 fAh_F (opsAt (bodyOf Tryz.f23 100003)) fAh_Dg3 (fAh_frg3 v0 v1 v2 v3 v4) := (fAh_dLg3 v0 v1 v2 v3 v4).trans (fAh_dRg3 v0 v1 v2 v3 v4).symm
theorem fAh_eg3 (v0 v1 v2 : List Sc) (v3 v4 : Int) : goL E0 fAh_M H0 fAh_F (opsAt (bodyOf Tryz.f23 100003)) (Array.replicate (opsAt (bodyOf Tryz.f23 100003)).size true) (opsAt (bodyOf Tryz.f23 100003)).toList 0 (fAh_frg3 v0 v1 v2 v3 v4) (fun s => some (X.norm, clear (klOf fAh_F 100003).2.1 s)) = fAh_g3_k v0 v1 v2 v3 v4 (fun e => some (fAh_xg3 v0 v1 v2 v3 v4 e)) := by kernel_rfl
theorem fAh_lg3 (v0 v1 v2 : List Sc) (v3 v4 r : Int) (h : fAh_g3 v0 v1 v2 v3 v4 = some r) : LS Tryz.prog fAh_F (bodyOf Tryz.f23 100003) (fAh_frg3 v0 v1 v2 v3 v4) (fAh_xg3 v0 v1 v2 v3 v4 r) :=
  region_true (S := Unit) (id := 3) (G := fun _ => fAh_g3 v0 v1 v2 v3 v4) (Gk := fun _ k => fAh_g3_k v0 v1 v2 v3 v4 k) (fr := fun _ => fAh_frg3 v0 v1 v2 v3 v4) (f1 := fun e => fAh_xg3 v0 v1 v2 v3 v4 e) E0ok fAh_Mt fAh_bg3 fAh_cg3 (fun _ => fAh_dg3 v0 v1 v2 v3 v4) (fun _ => rfl) (fun _ => fAh_eg3 v0 v1 v2 v3 v4) (fun _ k => fAh_pg3 v0 v1 v2 v3 v4 k) () r h
def fAh_tg3 (σ : List AV) : Option (Bool × Bool × (X × List AV) × (X × List AV)) := match dec fAh_hg3 σ with | some [.l v0, .l v1, .l v2, .i v3, .i v4] => some ((fAh_g3 v0 v1 v2 v3 v4).isSome, true, fAh_xg3 v0 v1 v2 v3 v4 ((fAh_g3 v0 v1 v2 v3 v4).getD 0), (.ret, [])) | _ => none
theorem fAh_ttg3 : TTrue Tryz.prog fAh_F Tryz.f23 100003 fAh_tg3 := by
  intro σ p r r' h
  unfold fAh_tg3 at h
  split at h
  · rename_i hd
    rw [← dec_enc hd]
    exact rowR (fAh_lg3 _ _ _ _ _) h
  · cases h
theorem fAh_p {R : Type} (code0 : List Sc) (kR : List Sc × Int → Option R) : fAh_k code0 kR = (fAh_k code0 some).bind kR := by
  simp only [fAh_k, boB, someB]
theorem fAh_e (code0 : List Sc) : runFn E0 fAh_M H0 fAh_F (asL (addL 100003 fAh_tg3 (noL))) Tryz.f23 (fAh_a code0) (fAh_i code0) = fAh_k code0 (fun r => some (fAh_en r)) := by kernel_rfl
theorem fAh_ok (code0 : List Sc) (r : List Sc × Int) (h : fAh code0 = some r) : CS Tryz.prog 23 (fAh_a code0) (fAh_i code0) (fAh_en r).1 (fAh_en r).2 :=
  fn_true (Gk := fun k => fAh_k code0 k) (en := fAh_en) Tryz.func23 E0ok fAh_Mt (addL_true fAh_ttg3 (noL_true)) fAh_o (fAh_e code0) (fAh_p code0) h
def fAh_c : CRow := fun args inh => match dec2 [.p .sl] [] args inh with | some ([.l code0], []) => some ((fAh code0).isSome, (fAh_en ((fAh code0).getD ([], 0))).1, (fAh_en ((fAh code0).getD ([], 0))).2) | _ => none
theorem fAh_cc : CTrue Tryz.prog 23 fAh_c := by
  intro args inh rs out h
  unfold fAh_c at h
  split at h
  · rename_i hd
    obtain ⟨h1, h2⟩ := dec2_enc hd
    rw [← h1, ← h2]
    exact rowC (fAh_ok _) h
  · cases h
def fCn_F : Fi := { nv := 0, nc := 0, m := 0, vt := [], kl := [], sk := [], mvs := [], fz := [] }
def fCn_a (g0 l1 : List Sc) : List AV := enc [.p .gr, .p .sl] [.l g0, .l l1]
def fCn_i (g0 l1 : List Sc) : List AV := enc [] []
def fCn_en (r : Bool) : List AV × List AV := (enc [.p .boo] [.b r], enc [] [])
def fCn_M : Calling := addC 27 fBk_c (addC 61 fBb_c (addC 62 fBc_c (noC)))
theorem fCn_Mt : CallOk Tryz.prog (fCn_M) := addC_true fBk_cc (addC_true fBb_cc (addC_true fBc_cc (noC_true)))
theorem fCn_o : loopsOnce Tryz.f25 = true := by kernel_rfl
theorem fCn_p {R : Type} (g0 l1 : List Sc) (kR : Bool → Option R) : fCn_k g0 l1 kR = (fCn_k g0 l1 some).bind kR := by
  simp only [fCn_k, brB, boB, someB, noneB]
theorem fCn_e (g0 l1 : List Sc) : runFn E0 fCn_M H0 fCn_F (asL (noL)) Tryz.f25 (fCn_a g0 l1) (fCn_i g0 l1) = fCn_k g0 l1 (fun r => some (fCn_en r)) := by kernel_rfl
theorem fCn_ok (g0 l1 : List Sc) (r : Bool) (h : fCn g0 l1 = some r) : CS Tryz.prog 25 (fCn_a g0 l1) (fCn_i g0 l1) (fCn_en r).1 (fCn_en r).2 :=
  fn_true (Gk := fun k => fCn_k g0 l1 k) (en := fCn_en) Tryz.func25 E0ok fCn_Mt (noL_true) fCn_o (fCn_e g0 l1) (fCn_p g0 l1) h
def fCn_c : CRow := fun args inh => match dec2 [.p .gr, .p .sl] [] args inh with | some ([.l g0, .l l1], []) => some ((fCn g0 l1).isSome, (fCn_en ((fCn g0 l1).getD false)).1, (fCn_en ((fCn g0 l1).getD false)).2) | _ => none
theorem fCn_cc : CTrue Tryz.prog 25 fCn_c := by
  intro args inh rs out h
  unfold fCn_c at h
  split at h
  · rename_i hd
    obtain ⟨h1, h2⟩ := dec2_enc hd
    rw [← h1, ← h2]
    exact rowC (fCn_ok _ _) h
  · cases h
def fAx_F : Fi := { nv := 0, nc := 0, m := 0, vt := [], kl := [(0, ([0, 2, 3, 4, 6, 9, 10, 11, 12, 13, 14, 15, 16, 17, 18, 19, 20, 21, 22, 23, 24, 25, 26, 27, 28, 29, 30, 31], [0, 1, 2, 3, 4, 5, 6, 8, 9, 10, 11, 12, 13, 14, 15, 16, 17, 18, 19, 20, 21, 22, 23, 24, 25, 26, 27, 28, 29, 30, 31], [0, 1, 2, 3, 5, 6, 7, 8, 9, 10, 11, 12, 13, 14, 15, 16, 17, 18, 19, 20, 21, 22, 23, 24, 25, 26, 27, 28, 29, 30, 31]))], sk := [], mvs := [], fz := [] }
def fAx_a (g0 : List Sc) (n1 : Int) : List AV := enc [.p .gr, .p (.int .i64)] [.l g0, .i n1]
def fAx_i (g0 : List Sc) (n1 : Int) : List AV := enc [] []
def fAx_en (r : Int) : List AV × List AV := (enc [.p (.int .i64)] [.i r], enc [] [])
def fAx_M : Calling := addC 7 fCc_c (noC)
theorem fAx_Mt : CallOk Tryz.prog (fAx_M) := addC_true fCc_cc (noC_true)
theorem fAx_o : loopsOnce Tryz.f28 = true := by kernel_rfl
def fAx_h0 : List Sh := [.u, .p (.int .i64), .u, .u, .u, .p (.nl 1), .u, .p (.int .i64), .p (.int .i64), .u, .u, .u, .u, .u, .u, .u, .u, .u, .u, .u, .u, .u, .u, .u, .u, .u, .u, .u, .u, .u, .u, .u]
def fAx_fr0 (n1 : Int) (l5 : List Sc) (s : Int × Int) : List AV := enc fAx_h0 [.i n1, .l l5, .i s.1, .i s.2]
def fAx_g0_1 : List Sh := [.u, .u, .u, .u, .u, .u, .u, .p (.int .i64), .u, .u, .u, .u, .u, .u, .u, .u, .u, .u, .u, .u, .u, .u, .u, .u, .u, .u, .u, .u, .u, .u, .u, .u]
def fAx_x0_1 (n1 : Int) (l5 : List Sc) (e : Int) : X × List AV := (.out 0, enc fAx_g0_1 [.i e])
def fAx_x0_2 (n1 : Int) (l5 : List Sc) (_e : Unit) : X × List AV := (.ret, [])
theorem fAx_p0 {R : Type} (n1 : Int) (l5 : List Sc) (s : Int × Int) (kN : Int × Int → Option R) (kA : Int → Option R) (kB : Unit → Option R) : fAx_k0 n1 l5 s.1 s.2 kN kA = (fAx_r0 n1 l5 s).bind (Ro.el kN kA kB) := by
  simp only [fAx_k0, fAx_r0, brB, someB, noneB, Ro.el]
theorem fAx_e0 (n1 : Int) (l5 : List Sc) (s : Int × Int) : EC E0 fAx_M H0 fAx_F (asL (noL)) 0 (bodyOf Tryz.f28 0) (fAx_fr0 n1 l5 s) (done (klOf fAx_F 0)) = fAx_k0 n1 l5 s.1 s.2 (fun s => some (.norm, fAx_fr0 n1 l5 s)) (fun e => some (fAx_x0_1 n1 l5 e)) := by kernel_rfl
theorem fAx_l0 (n1 : Int) (l5 : List Sc) : ∀ s r, loopL (fAx_r0 n1 l5) s = some r → LS Tryz.prog fAx_F (bodyOf Tryz.f28 0) (fAx_fr0 n1 l5 s) (enX (fAx_x0_1 n1 l5) (fAx_x0_2 n1 l5) r) :=
  loop_true E0ok fAx_Mt (noL_true) fAx_o (fun _ h => by cases h) (fun _ h => by cases h) (fun _ h => by cases h) (fun _ h => by cases h) (fun s => (fAx_e0 n1 l5 s).trans (fAx_p0 n1 l5 s _ _ (fun e => some (fAx_x0_2 n1 l5 e))))
def fAx_t0 (σ : List AV) : Option (Bool × Bool × (X × List AV) × (X × List AV)) := match dec fAx_h0 σ with | some [.i n1, .l l5, .i k7, .i i8] => some (isOne (loopL (fAx_r0 n1 l5) (k7, i8)), true, fAx_x0_1 n1 l5 (getOne 0 (loopL (fAx_r0 n1 l5) (k7, i8))), (.ret, [])) | _ => none
theorem fAx_tt0 : TTrue Tryz.prog fAx_F Tryz.f28 0 (fAx_t0) := by
  intro σ p r r' h
  unfold fAx_t0 at h
  split at h
  · rename_i hd
    rw [← dec_enc hd]
    exact row1 (fAx_l0 _ _ _) h
  · cases h
theorem fAx_p {R : Type} (g0 : List Sc) (n1 : Int) (kR : Int → Option R) : fAx_k g0 n1 kR = (fAx_k g0 n1 some).bind kR := by
  simp only [fAx_k, brB, boB, bl1B, someB]
theorem fAx_e (g0 : List Sc) (n1 : Int) : runFn E0 fAx_M H0 fAx_F (asL (addL 0 (fAx_t0) (noL))) Tryz.f28 (fAx_a g0 n1) (fAx_i g0 n1) = fAx_k g0 n1 (fun r => some (fAx_en r)) := by kernel_rfl
theorem fAx_ok (g0 : List Sc) (n1 r : Int) (h : fAx g0 n1 = some r) : CS Tryz.prog 28 (fAx_a g0 n1) (fAx_i g0 n1) (fAx_en r).1 (fAx_en r).2 :=
  fn_true (Gk := fun k => fAx_k g0 n1 k) (en := fAx_en) Tryz.func28 E0ok fAx_Mt (addL_true (fAx_tt0) (noL_true)) fAx_o (fAx_e g0 n1) (fAx_p g0 n1) h
def fAx_c : CRow := fun args inh => match dec2 [.p .gr, .p (.int .i64)] [] args inh with | some ([.l g0, .i n1], []) => some ((fAx g0 n1).isSome, (fAx_en ((fAx g0 n1).getD 0)).1, (fAx_en ((fAx g0 n1).getD 0)).2) | _ => none
theorem fAx_cc : CTrue Tryz.prog 28 fAx_c := by
  intro args inh rs out h
  unfold fAx_c at h
  split at h
  · rename_i hd
    obtain ⟨h1, h2⟩ := dec2_enc hd
    rw [← h1, ← h2]
    exact rowC (fAx_ok _ _) h
  · cases h
end
end Go.Proofs.YtlnhommmmajllaaGreat
