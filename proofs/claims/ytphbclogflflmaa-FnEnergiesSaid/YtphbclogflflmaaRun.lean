/-
  That the program computes just that (printed by gen2.py).
-/
import Derived.Test.YtphbclogflflmaaRunb
set_option linter.unusedVariables false
set_option linter.unusedSimpArgs false
namespace Go.Proofs.Ytphbclogflflmaa
open Go Ev
noncomputable section
def f_i_ConvolveTables_F : Fi := { nv := 0, nc := 0, m := 0, vt := [], kl := [(4, ([0, 1, 4, 5, 6, 7, 8, 9, 13, 14, 15, 16, 17, 18, 19, 20, 21, 22, 23, 24, 25, 26, 27, 28, 29, 30, 31, 32, 33, 34, 35, 36, 37, 38, 39, 40, 41, 42, 43, 44, 45, 46, 47, 48, 49, 53, 54, 55, 56, 60, 61, 62, 63, 64, 65, 66, 67, 68, 69, 70, 71, 72, 73, 74, 75, 76, 77, 78, 79, 80, 81], [0, 1, 4, 5, 6, 7, 8, 9, 11, 12, 13, 14, 15, 16, 17, 18, 19, 20, 21, 22, 23, 24, 25, 26, 27, 28, 29, 30, 31, 32, 33, 34, 35, 36, 37, 38, 39, 40, 41, 42, 43, 44, 45, 46, 47, 48, 49, 53, 54, 55, 56, 57, 58, 59, 60, 61, 62, 63, 64, 65, 66, 67, 68, 69, 70, 71, 72, 73, 74, 75, 76, 77, 78, 79, 80, 81], [0, 1, 2, 3, 4, 5, 7, 8, 9, 10, 11, 12, 13, 14, 15, 16, 17, 18, 19, 20, 21, 22, 23, 24, 25, 26, 27, 28, 29, 30, 31, 32, 33, 34, 35, 36, 37, 38, 39, 40, 41, 42, 43, 44, 45, 46, 47, 48, 49, 50, 51, 52, 53, 54, 55, 56, 57, 58, 59, 60, 61, 62, 63, 64, 65, 66, 67, 68, 69, 70, 71, 72, 73, 74, 75, 76, 77, 78, 79, 80, 81])), (2, ([0, 1, 4, 5, 6, 7, 8, 9, 11, 12, 13, 14, 15, 16, 17, 18, 19, 20, 21, 22, 23, 24, 25, 26, 27, 28, 29, 30, 31, 32, 33, 34, 35, 36, 37, 38, 39, 40, 41, 42, 43, 44, 45, 46, 47, 48, 49, 53, 54, 55, 56, 57, 58, 59, 60, 61, 62, 63, 64, 65, 66, 67, 68, 69, 70, 71, 72, 73, 74, 75, 76, 77, 78, 79, 80, 81], [0, 1, 4, 5, 6, 7, 8, 9, 11, 12, 13, 14, 15, 16, 17, 18, 19, 20, 21, 22, 23, 24, 25, 26, 27, 28, 29, 30, 31, 32, 33, 34, 35, 36, 37, 38, 39, 40, 41, 42, 43, 44, 45, 46, 47, 48, 49, 53, 54, 55, 56, 57, 58, 59, 60, 61, 62, 63, 64, 65, 66, 67, 68, 69, 70, 71, 72, 73, 74, 75, 76, 77, 78, 79, 80, 81], [0, 1, 2, 3, 4, 5, 7, 8, 9, 10, 11, 12, 13, 14, 15, 16, 17, 18, 19, 20, 21, 22, 23, 24, 25, 26, 27, 28, 29, 30, 31, 32, 33, 34, 35, 36, 37, 38, 39, 40, 41, 42, 43, 44, 45, 46, 47, 48, 49, 50, 51, 52, 53, 54, 55, 56, 57, 58, 59, 60, 61, 62, 63, 64, 65, 66, 67, 68, 69, 70, 71, 72, 73, 74, 75, 76, 77, 78, 79, 80, 81])), (0, ([0, 4, 5, 6, 8, 9, 10, 11, 12, 13, 14, 15, 16, 17, 18, 19, 20, 24, 25, 26, 27, 28, 29, 30, 31, 32, 33, 34, 35, 36, 37, 38, 39, 40, 41, 42, 43, 44, 45, 46, 47, 48, 49, 50, 51, 52, 53, 54, 55, 56, 57, 58, 59, 60, 61, 62, 63, 64, 65, 66, 67, 68, 69, 70, 71, 72, 73, 74, 75, 76, 77, 78, 79, 80, 81], [0, 4, 5, 6, 8, 9, 10, 11, 12, 13, 14, 15, 16, 17, 18, 19, 20, 21, 22, 23, 24, 25, 26, 27, 28, 29, 30, 31, 32, 33, 34, 35, 36, 37, 38, 39, 40, 41, 42, 43, 44, 45, 46, 47, 48, 49, 50, 51, 52, 53, 54, 55, 56, 57, 58, 59, 60, 61, 62, 63, 64, 65, 66, 67, 68, 69, 70, 71, 72, 73, 74, 75, 76, 77, 78, 79, 80, 81], [0, 1, 2, 3, 4, 5, 7, 8, 9, 10, 11, 12, 13, 14, 15, 16, 17, 18, 19, 20, 21, 22, 23, 24, 25, 26, 27, 28, 29, 30, 31, 32, 33, 34, 35, 36, 37, 38, 39, 40, 41, 42, 43, 44, 45, 46, 47, 48, 49, 50, 51, 52, 53, 54, 55, 56, 57, 58, 59, 60, 61, 62, 63, 64, 65, 66, 67, 68, 69, 70, 71, 72, 73, 74, 75, 76, 77, 78, 79, 80, 81]))], sk := [], mvs := [], fz := [] }
def f_i_ConvolveTables_a (L0 : List Sc) (p1 : List Sc) (p2 : List Sc) : List AV := enc [.p .gr, .p .sl, .p .sl] [.l L0, .l p1, .l p2]
def f_i_ConvolveTables_i (L0 : List Sc) (p1 : List Sc) (p2 : List Sc) : List AV := enc [] []
def f_i_ConvolveTables_en (r : List Sc) : List AV × List AV := (enc [.p (.al 0)] [], enc [.own 3] [.l r])
def f_i_ConvolveTables_M : Calling := addC 122 f_i_OrderOf_c (addC 169 f_i_copyInts_c (addC 144 f_i_within_c (addC 142 f_i_IsGroup_c (addC 155 f_i_Group_add_c (noC)))))
theorem f_i_ConvolveTables_Mt : CallOk Try.prog (f_i_ConvolveTables_M) := addC_true f_i_OrderOf_cc (addC_true f_i_copyInts_cc (addC_true f_i_within_cc (addC_true f_i_IsGroup_cc (addC_true f_i_Group_add_cc (noC_true)))))
theorem f_i_ConvolveTables_o : loopsOnce Try.f55 = true := by kernel_rfl
def f_i_ConvolveTables_h0 : List Sh := [.u, .p .sl, .p .sl, .p .el, .u, .u, .u, .p (.int .i64), .u, .u, .u, .u, .u, .u, .u, .u, .u, .u, .u, .u, .u, .own 3, .p (.int .i64), .p (.int .i64), .u, .u, .u, .u, .u, .u, .u, .u, .u, .u, .u, .u, .u, .u, .u, .u, .u, .u, .u, .u, .u, .u, .u, .u, .u, .u, .u, .u, .u, .u, .u, .u, .u, .u, .u, .u, .u, .u, .u, .u, .u, .u, .u, .u, .u, .u, .u, .u, .u, .u, .u, .u, .u, .u, .u, .u, .u, .u]
def f_i_ConvolveTables_fr0 (t1 : List Sc) (t2 : List Sc) (t3 : List Sc) (t7 : Int) (t22 : Int) (s : List Sc × Int) : List AV := enc f_i_ConvolveTables_h0 [.l t1, .l t2, .l t3, .i t7, .l s.1, .i t22, .i s.2]
def f_i_ConvolveTables_g0_1 : List Sh := [.u, .p .sl, .p .sl, .p .el, .u, .u, .u, .p (.int .i64), .u, .u, .u, .u, .u, .u, .u, .u, .u, .u, .u, .u, .u, .u, .u, .u, .u, .u, .u, .u, .u, .u, .u, .u, .u, .u, .u, .u, .u, .u, .u, .u, .u, .u, .u, .u, .u, .u, .u, .u, .u, .u, .u, .u, .u, .u, .u, .u, .u, .u, .u, .u, .u, .u, .u, .u, .u, .u, .u, .u, .u, .u, .u, .u, .u, .u, .u, .u, .u, .u, .u, .u, .u, .u]
def f_i_ConvolveTables_x0_1 (t1 : List Sc) (t2 : List Sc) (t3 : List Sc) (t7 : Int) (t22 : Int) (e : Unit) : X × List AV := (.out 0, enc f_i_ConvolveTables_g0_1 [.l t1, .l t2, .l t3, .i t7])
def f_i_ConvolveTables_g0_2 : List Sh := [.u, .u, .u, .u, .u, .u, .own 3, .u, .u, .u, .u, .u, .u, .u, .u, .u, .u, .u, .u, .u, .u, .u, .u, .u, .u, .u, .u, .u, .u, .u, .u, .u, .u, .u, .u, .u, .u, .u, .u, .u, .u, .u, .u, .u, .u, .u, .u, .u, .u, .u, .u, .u, .u, .u, .u, .u, .u, .u, .u, .u, .u, .u, .u, .u, .u, .u, .u, .u, .u, .u, .u, .u, .u, .u, .u, .u, .u, .u, .u, .u, .u, .u]
def f_i_ConvolveTables_x0_2 (t1 : List Sc) (t2 : List Sc) (t3 : List Sc) (t7 : Int) (t22 : Int) (e : List Sc) : X × List AV := (.ret, enc f_i_ConvolveTables_g0_2 [.l e])
theorem f_i_ConvolveTables_p0 {R : Type} (t1 : List Sc) (t2 : List Sc) (t3 : List Sc) (t7 : Int) (t22 : Int) (s : List Sc × Int) (kN : List Sc × Int → Option R) (kA : Unit → Option R) (kB : List Sc → Option R) : f_i_ConvolveTables_k0 t1 t2 t3 t7 t22 s.1 s.2 kN kA kB = (f_i_ConvolveTables_r0 t1 t2 t3 t7 t22 s).bind (Ro.el kN kA kB) := by
  simp only [f_i_ConvolveTables_k0, f_i_ConvolveTables_r0, brB, boB, someB, noneB, Ro.el]
theorem f_i_ConvolveTables_e0 (t1 : List Sc) (t2 : List Sc) (t3 : List Sc) (t7 : Int) (t22 : Int) (s : List Sc × Int) : EC E0 f_i_ConvolveTables_M H0 f_i_ConvolveTables_F (asL (noL)) 0 (bodyOf Try.f55 0) (f_i_ConvolveTables_fr0 t1 t2 t3 t7 t22 s) (done (klOf f_i_ConvolveTables_F 0)) = f_i_ConvolveTables_k0 t1 t2 t3 t7 t22 s.1 s.2 (fun s => some (.norm, f_i_ConvolveTables_fr0 t1 t2 t3 t7 t22 s)) (fun e => some (f_i_ConvolveTables_x0_1 t1 t2 t3 t7 t22 e)) (fun e => some (f_i_ConvolveTables_x0_2 t1 t2 t3 t7 t22 e)) := by kernel_rfl
theorem f_i_ConvolveTables_l0 (t1 : List Sc) (t2 : List Sc) (t3 : List Sc) (t7 : Int) (t22 : Int) : ∀ s r, loopL (f_i_ConvolveTables_r0 t1 t2 t3 t7 t22) s = some r → LS Try.prog f_i_ConvolveTables_F (bodyOf Try.f55 0) (f_i_ConvolveTables_fr0 t1 t2 t3 t7 t22 s) (enX (f_i_ConvolveTables_x0_1 t1 t2 t3 t7 t22) (f_i_ConvolveTables_x0_2 t1 t2 t3 t7 t22) r) :=
  loop_true E0ok f_i_ConvolveTables_Mt (noL_true) f_i_ConvolveTables_o (fun _ h => by cases h) (fun _ h => by cases h) (fun s => (f_i_ConvolveTables_e0 t1 t2 t3 t7 t22 s).trans (f_i_ConvolveTables_p0 t1 t2 t3 t7 t22 s _ _ (fun e => some (f_i_ConvolveTables_x0_2 t1 t2 t3 t7 t22 e))))
def f_i_ConvolveTables_t0 (σ : List AV) : Option (Bool × Bool × (X × List AV) × (X × List AV)) := match dec f_i_ConvolveTables_h0 σ with
  | some [.l t1, .l t2, .l t3, .i t7, .l t21, .i t22, .i t23] => some ((loopL (f_i_ConvolveTables_r0 t1 t2 t3 t7 t22) (t21, t23)).isSome, isOne (loopL (f_i_ConvolveTables_r0 t1 t2 t3 t7 t22) (t21, t23)), f_i_ConvolveTables_x0_1 t1 t2 t3 t7 t22 (getOne () (loopL (f_i_ConvolveTables_r0 t1 t2 t3 t7 t22) (t21, t23))), f_i_ConvolveTables_x0_2 t1 t2 t3 t7 t22 (getTwo [] (loopL (f_i_ConvolveTables_r0 t1 t2 t3 t7 t22) (t21, t23))))
  | _ => none
theorem f_i_ConvolveTables_tt0 : TTrue Try.prog f_i_ConvolveTables_F Try.f55 0 (f_i_ConvolveTables_t0) := by
  intro σ p r r' h
  unfold f_i_ConvolveTables_t0 at h
  split at h
  · rename_i hd
    rw [← dec_enc hd]
    exact row2 (f_i_ConvolveTables_l0 _ _ _ _ _ _) h
  · cases h
def f_i_ConvolveTables_h4 : List Sh := [.u, .u, .p .sl, .p .el, .u, .u, .u, .u, .u, .u, .own 3, .p (.int .i64), .p (.int .i64), .u, .u, .u, .u, .u, .u, .u, .u, .u, .u, .u, .u, .u, .u, .u, .u, .u, .u, .u, .u, .u, .u, .u, .u, .u, .u, .u, .u, .u, .u, .u, .u, .u, .u, .u, .u, .u, .p .sl, .p (.int .i64), .p (.int .i64), .u, .u, .u, .u, .p .sl, .p (.int .i64), .p (.int .i64), .u, .u, .u, .u, .u, .u, .u, .u, .u, .u, .u, .u, .u, .u, .u, .u, .u, .u, .u, .u, .u, .u]
def f_i_ConvolveTables_fr4 (t2 : List Sc) (t3 : List Sc) (t11 : Int) (t12 : Int) (t50 : List Sc) (t51 : Int) (t52 : Int) (t57 : List Sc) (t58 : Int) (s : List Sc × Int) : List AV := enc f_i_ConvolveTables_h4 [.l t2, .l t3, .l s.1, .i t11, .i t12, .l t50, .i t51, .i t52, .l t57, .i t58, .i s.2]
def f_i_ConvolveTables_g4_1 : List Sh := [.u, .u, .p .sl, .p .el, .u, .u, .u, .u, .u, .u, .own 3, .u, .u, .u, .u, .u, .u, .u, .u, .u, .u, .u, .u, .u, .u, .u, .u, .u, .u, .u, .u, .u, .u, .u, .u, .u, .u, .u, .u, .u, .u, .u, .u, .u, .u, .u, .u, .u, .u, .u, .p .sl, .p (.int .i64), .p (.int .i64), .u, .u, .u, .u, .u, .u, .u, .u, .u, .u, .u, .u, .u, .u, .u, .u, .u, .u, .u, .u, .u, .u, .u, .u, .u, .u, .u, .u, .u]
def f_i_ConvolveTables_x4_1 (t2 : List Sc) (t3 : List Sc) (t11 : Int) (t12 : Int) (t50 : List Sc) (t51 : Int) (t52 : Int) (t57 : List Sc) (t58 : Int) (e : List Sc) : X × List AV := (.out 4, enc f_i_ConvolveTables_g4_1 [.l t2, .l t3, .l e, .l t50, .i t51, .i t52])
def f_i_ConvolveTables_x4_2 (t2 : List Sc) (t3 : List Sc) (t11 : Int) (t12 : Int) (t50 : List Sc) (t51 : Int) (t52 : Int) (t57 : List Sc) (t58 : Int) (_e : Unit) : X × List AV := (.ret, [])
theorem f_i_ConvolveTables_p4 {R : Type} (t2 : List Sc) (t3 : List Sc) (t11 : Int) (t12 : Int) (t50 : List Sc) (t51 : Int) (t52 : Int) (t57 : List Sc) (t58 : Int) (s : List Sc × Int) (kN : List Sc × Int → Option R) (kA : List Sc → Option R) (kB : Unit → Option R) : f_i_ConvolveTables_k4 t2 t3 t11 t12 t50 t51 t52 t57 t58 s.1 s.2 kN kA = (f_i_ConvolveTables_r4 t2 t3 t11 t12 t50 t51 t52 t57 t58 s).bind (Ro.el kN kA kB) := by
  simp only [f_i_ConvolveTables_k4, f_i_ConvolveTables_r4, brB, boB, someB, noneB, Ro.el]
theorem f_i_ConvolveTables_e4 (t2 : List Sc) (t3 : List Sc) (t11 : Int) (t12 : Int) (t50 : List Sc) (t51 : Int) (t52 : Int) (t57 : List Sc) (t58 : Int) (s : List Sc × Int) : EC E0 f_i_ConvolveTables_M H0 f_i_ConvolveTables_F (asL (addL 0 (f_i_ConvolveTables_t0) (noL))) 4 (bodyOf Try.f55 4) (f_i_ConvolveTables_fr4 t2 t3 t11 t12 t50 t51 t52 t57 t58 s) (done (klOf f_i_ConvolveTables_F 4)) = f_i_ConvolveTables_k4 t2 t3 t11 t12 t50 t51 t52 t57 t58 s.1 s.2 (fun s => some (.norm, f_i_ConvolveTables_fr4 t2 t3 t11 t12 t50 t51 t52 t57 t58 s)) (fun e => some (f_i_ConvolveTables_x4_1 t2 t3 t11 t12 t50 t51 t52 t57 t58 e)) := by kernel_rfl
theorem f_i_ConvolveTables_l4 (t2 : List Sc) (t3 : List Sc) (t11 : Int) (t12 : Int) (t50 : List Sc) (t51 : Int) (t52 : Int) (t57 : List Sc) (t58 : Int) : ∀ s r, loopL (f_i_ConvolveTables_r4 t2 t3 t11 t12 t50 t51 t52 t57 t58) s = some r → LS Try.prog f_i_ConvolveTables_F (bodyOf Try.f55 4) (f_i_ConvolveTables_fr4 t2 t3 t11 t12 t50 t51 t52 t57 t58 s) (enX (f_i_ConvolveTables_x4_1 t2 t3 t11 t12 t50 t51 t52 t57 t58) (f_i_ConvolveTables_x4_2 t2 t3 t11 t12 t50 t51 t52 t57 t58) r) :=
  loop_true E0ok f_i_ConvolveTables_Mt (addL_true (f_i_ConvolveTables_tt0) (noL_true)) f_i_ConvolveTables_o (fun _ h => by cases h) (fun _ h => by cases h) (fun s => (f_i_ConvolveTables_e4 t2 t3 t11 t12 t50 t51 t52 t57 t58 s).trans (f_i_ConvolveTables_p4 t2 t3 t11 t12 t50 t51 t52 t57 t58 s _ _ (fun e => some (f_i_ConvolveTables_x4_2 t2 t3 t11 t12 t50 t51 t52 t57 t58 e))))
def f_i_ConvolveTables_t4 (σ : List AV) : Option (Bool × Bool × (X × List AV) × (X × List AV)) := match dec f_i_ConvolveTables_h4 σ with
  | some [.l t2, .l t3, .l t10, .i t11, .i t12, .l t50, .i t51, .i t52, .l t57, .i t58, .i t59] => some (isOne (loopL (f_i_ConvolveTables_r4 t2 t3 t11 t12 t50 t51 t52 t57 t58) (t10, t59)), true, f_i_ConvolveTables_x4_1 t2 t3 t11 t12 t50 t51 t52 t57 t58 (getOne [] (loopL (f_i_ConvolveTables_r4 t2 t3 t11 t12 t50 t51 t52 t57 t58) (t10, t59))), (.ret, []))
  | _ => none
theorem f_i_ConvolveTables_tt4 : TTrue Try.prog f_i_ConvolveTables_F Try.f55 4 (f_i_ConvolveTables_t4) := by
  intro σ p r r' h
  unfold f_i_ConvolveTables_t4 at h
  split at h
  · rename_i hd
    rw [← dec_enc hd]
    exact row1 (f_i_ConvolveTables_l4 _ _ _ _ _ _ _ _ _ _) h
  · cases h
def f_i_ConvolveTables_h2 : List Sh := [.u, .u, .p .sl, .p .el, .u, .u, .u, .u, .u, .u, .own 3, .u, .u, .u, .u, .u, .u, .u, .u, .u, .u, .u, .u, .u, .u, .u, .u, .u, .u, .u, .u, .u, .u, .u, .u, .u, .u, .u, .u, .u, .u, .u, .u, .u, .u, .u, .u, .u, .u, .u, .p .sl, .p (.int .i64), .p (.int .i64), .u, .u, .u, .u, .u, .u, .u, .u, .u, .u, .u, .u, .u, .u, .u, .u, .u, .u, .u, .u, .u, .u, .u, .u, .u, .u, .u, .u, .u]
def f_i_ConvolveTables_fr2 (t2 : List Sc) (t3 : List Sc) (t50 : List Sc) (t51 : Int) (s : List Sc × Int) : List AV := enc f_i_ConvolveTables_h2 [.l t2, .l t3, .l s.1, .l t50, .i t51, .i s.2]
def f_i_ConvolveTables_g2_1 : List Sh := [.u, .u, .p .sl, .p .el, .u, .u, .u, .u, .u, .u, .own 3, .u, .u, .u, .u, .u, .u, .u, .u, .u, .u, .u, .u, .u, .u, .u, .u, .u, .u, .u, .u, .u, .u, .u, .u, .u, .u, .u, .u, .u, .u, .u, .u, .u, .u, .u, .u, .u, .u, .u, .p .sl, .p (.int .i64), .p (.int .i64), .u, .u, .u, .u, .u, .u, .u, .u, .u, .u, .u, .u, .u, .u, .u, .u, .u, .u, .u, .u, .u, .u, .u, .u, .u, .u, .u, .u, .u]
def f_i_ConvolveTables_x2_1 (t2 : List Sc) (t3 : List Sc) (t50 : List Sc) (t51 : Int) (e : List Sc × Int) : X × List AV := (.out 2, enc f_i_ConvolveTables_g2_1 [.l t2, .l t3, .l e.1, .l t50, .i t51, .i e.2])
def f_i_ConvolveTables_x2_2 (t2 : List Sc) (t3 : List Sc) (t50 : List Sc) (t51 : Int) (_e : Unit) : X × List AV := (.ret, [])
theorem f_i_ConvolveTables_p2 {R : Type} (t2 : List Sc) (t3 : List Sc) (t50 : List Sc) (t51 : Int) (s : List Sc × Int) (kN : List Sc × Int → Option R) (kA : List Sc × Int → Option R) (kB : Unit → Option R) : f_i_ConvolveTables_k2 t2 t3 t50 t51 s.1 s.2 kN kA = (f_i_ConvolveTables_r2 t2 t3 t50 t51 s).bind (Ro.el kN kA kB) := by
  simp only [f_i_ConvolveTables_k2, f_i_ConvolveTables_r2, brB, bl1B, someB, noneB, Ro.el]
theorem f_i_ConvolveTables_e2 (t2 : List Sc) (t3 : List Sc) (t50 : List Sc) (t51 : Int) (s : List Sc × Int) : EC E0 f_i_ConvolveTables_M H0 f_i_ConvolveTables_F (asL (addL 4 (f_i_ConvolveTables_t4) (addL 0 (f_i_ConvolveTables_t0) (noL)))) 2 (bodyOf Try.f55 2) (f_i_ConvolveTables_fr2 t2 t3 t50 t51 s) (done (klOf f_i_ConvolveTables_F 2)) = f_i_ConvolveTables_k2 t2 t3 t50 t51 s.1 s.2 (fun s => some (.norm, f_i_ConvolveTables_fr2 t2 t3 t50 t51 s)) (fun e => some (f_i_ConvolveTables_x2_1 t2 t3 t50 t51 e)) := by kernel_rfl
theorem f_i_ConvolveTables_l2 (t2 : List Sc) (t3 : List Sc) (t50 : List Sc) (t51 : Int) : ∀ s r, loopL (f_i_ConvolveTables_r2 t2 t3 t50 t51) s = some r → LS Try.prog f_i_ConvolveTables_F (bodyOf Try.f55 2) (f_i_ConvolveTables_fr2 t2 t3 t50 t51 s) (enX (f_i_ConvolveTables_x2_1 t2 t3 t50 t51) (f_i_ConvolveTables_x2_2 t2 t3 t50 t51) r) :=
  loop_true E0ok f_i_ConvolveTables_Mt (addL_true (f_i_ConvolveTables_tt4) (addL_true (f_i_ConvolveTables_tt0) (noL_true))) f_i_ConvolveTables_o (fun _ h => by cases h) (fun _ h => by cases h) (fun s => (f_i_ConvolveTables_e2 t2 t3 t50 t51 s).trans (f_i_ConvolveTables_p2 t2 t3 t50 t51 s _ _ (fun e => some (f_i_ConvolveTables_x2_2 t2 t3 t50 t51 e))))
def f_i_ConvolveTables_t2 (σ : List AV) : Option (Bool × Bool × (X × List AV) × (X × List AV)) := match dec f_i_ConvolveTables_h2 σ with
  | some [.l t2, .l t3, .l t10, .l t50, .i t51, .i t52] => some (isOne (loopL (f_i_ConvolveTables_r2 t2 t3 t50 t51) (t10, t52)), true, f_i_ConvolveTables_x2_1 t2 t3 t50 t51 (getOne ([], 0) (loopL (f_i_ConvolveTables_r2 t2 t3 t50 t51) (t10, t52))), (.ret, []))
  | _ => none
theorem f_i_ConvolveTables_tt2 : TTrue Try.prog f_i_ConvolveTables_F Try.f55 2 (f_i_ConvolveTables_t2) := by
  intro σ p r r' h
  unfold f_i_ConvolveTables_t2 at h
  split at h
  · rename_i hd
    rw [← dec_enc hd]
    exact row1 (f_i_ConvolveTables_l2 _ _ _ _ _) h
  · cases h
theorem f_i_ConvolveTables_p {R : Type} (L0 : List Sc) (p1 : List Sc) (p2 : List Sc) (kR : List Sc → Option R) : f_i_ConvolveTables_k L0 p1 p2 kR = (f_i_ConvolveTables_k L0 p1 p2 some).bind kR := by
  simp only [f_i_ConvolveTables_k, brB, boB, bl1B, blB, someB, noneB]
theorem f_i_ConvolveTables_e (L0 : List Sc) (p1 : List Sc) (p2 : List Sc) : runFn E0 f_i_ConvolveTables_M H0 f_i_ConvolveTables_F (asL (addL 2 (f_i_ConvolveTables_t2) (addL 4 (f_i_ConvolveTables_t4) (addL 0 (f_i_ConvolveTables_t0) (noL))))) Try.f55 (f_i_ConvolveTables_a L0 p1 p2) (f_i_ConvolveTables_i L0 p1 p2) = f_i_ConvolveTables_k L0 p1 p2 (fun r => some (f_i_ConvolveTables_en r)) := by kernel_rfl
theorem f_i_ConvolveTables_ok (L0 : List Sc) (p1 : List Sc) (p2 : List Sc) (r : List Sc) (h : f_i_ConvolveTables L0 p1 p2 = some r) : CS Try.prog 55 (f_i_ConvolveTables_a L0 p1 p2) (f_i_ConvolveTables_i L0 p1 p2) (f_i_ConvolveTables_en r).1 (f_i_ConvolveTables_en r).2 :=
  fn_true (Gk := fun k => f_i_ConvolveTables_k L0 p1 p2 k) (en := f_i_ConvolveTables_en) Try.func55 E0ok f_i_ConvolveTables_Mt (addL_true (f_i_ConvolveTables_tt2) (addL_true (f_i_ConvolveTables_tt4) (addL_true (f_i_ConvolveTables_tt0) (noL_true)))) f_i_ConvolveTables_o (f_i_ConvolveTables_e L0 p1 p2) (f_i_ConvolveTables_p L0 p1 p2) h
def f_i_ConvolveTables_c : CRow := fun args inh => match dec2 [.p .gr, .p .sl, .p .sl] [] args inh with
  | some ([.l L0, .l p1, .l p2], []) => some ((f_i_ConvolveTables L0 p1 p2).isSome, (f_i_ConvolveTables_en ((f_i_ConvolveTables L0 p1 p2).getD [])).1, (f_i_ConvolveTables_en ((f_i_ConvolveTables L0 p1 p2).getD [])).2)
  | _ => none
theorem f_i_ConvolveTables_cc : CTrue Try.prog 55 f_i_ConvolveTables_c := by
  intro args inh rs out h
  unfold f_i_ConvolveTables_c at h
  split at h
  · rename_i hd
    obtain ⟨h1, h2⟩ := dec2_enc hd
    rw [← h1, ← h2]
    exact rowC (f_i_ConvolveTables_ok _ _ _) h
  · cases h

def f_s_DrawCorrelationOf_F : Fi := { nv := 2, nc := 2, m := 0, vt := [(2, 0), (5, 1)], kl := [], sk := [], mvs := [], fz := [] }
def f_s_DrawCorrelationOf_a (code0 : List Sc) : List AV := enc [.p .sl] [.l code0]
def f_s_DrawCorrelationOf_i (code0 : List Sc) : List AV := enc [] []
def f_s_DrawCorrelationOf_en (r : List Sc × Int × Int) : List AV × List AV := (enc [.p .gr, .p (.int .i64), .p (.int .i64)] [.l r.1, .i r.2.1, .i r.2.2], enc [] [])
def f_s_DrawCorrelationOf_M : Calling := addC 160 f_s_l3Two_c (noC)
theorem f_s_DrawCorrelationOf_Mt : CallOk Try.prog (f_s_DrawCorrelationOf_M) := addC_true f_s_l3Two_cc (noC_true)
theorem f_s_DrawCorrelationOf_o : loopsOnce Try.f56 = true := by kernel_rfl
theorem f_s_DrawCorrelationOf_p {R : Type} (code0 : List Sc) (kR : List Sc × Int × Int → Option R) : f_s_DrawCorrelationOf_k code0 kR = (f_s_DrawCorrelationOf_k code0 some).bind kR := by
  simp only [f_s_DrawCorrelationOf_k, boB, someB]
theorem f_s_DrawCorrelationOf_e (code0 : List Sc) : runFn E0 f_s_DrawCorrelationOf_M H0 f_s_DrawCorrelationOf_F (asL (noL)) Try.f56 (f_s_DrawCorrelationOf_a code0) (f_s_DrawCorrelationOf_i code0) = f_s_DrawCorrelationOf_k code0 (fun r => some (f_s_DrawCorrelationOf_en r)) := by kernel_rfl
theorem f_s_DrawCorrelationOf_ok (code0 : List Sc) (r : List Sc × Int × Int) (h : f_s_DrawCorrelationOf code0 = some r) : CS Try.prog 56 (f_s_DrawCorrelationOf_a code0) (f_s_DrawCorrelationOf_i code0) (f_s_DrawCorrelationOf_en r).1 (f_s_DrawCorrelationOf_en r).2 :=
  fn_true (Gk := fun k => f_s_DrawCorrelationOf_k code0 k) (en := f_s_DrawCorrelationOf_en) Try.func56 E0ok f_s_DrawCorrelationOf_Mt (noL_true) f_s_DrawCorrelationOf_o (f_s_DrawCorrelationOf_e code0) (f_s_DrawCorrelationOf_p code0) h
def f_s_DrawCorrelationOf_c : CRow := fun args inh => match dec2 [.p .sl] [] args inh with
  | some ([.l code0], []) => some ((f_s_DrawCorrelationOf code0).isSome, (f_s_DrawCorrelationOf_en ((f_s_DrawCorrelationOf code0).getD ([], 0, 0))).1, (f_s_DrawCorrelationOf_en ((f_s_DrawCorrelationOf code0).getD ([], 0, 0))).2)
  | _ => none
theorem f_s_DrawCorrelationOf_cc : CTrue Try.prog 56 f_s_DrawCorrelationOf_c := by
  intro args inh rs out h
  unfold f_s_DrawCorrelationOf_c at h
  split at h
  · rename_i hd
    obtain ⟨h1, h2⟩ := dec2_enc hd
    rw [← h1, ← h2]
    exact rowC (f_s_DrawCorrelationOf_ok _) h
  · cases h

def f_s_DrawEnergyOf_F : Fi := { nv := 2, nc := 2, m := 0, vt := [(2, 0), (5, 1)], kl := [], sk := [], mvs := [], fz := [] }
def f_s_DrawEnergyOf_a (code0 : List Sc) : List AV := enc [.p .sl] [.l code0]
def f_s_DrawEnergyOf_i (code0 : List Sc) : List AV := enc [] []
def f_s_DrawEnergyOf_en (r : List Sc × Int × Int) : List AV × List AV := (enc [.p .gr, .p (.int .i64), .p (.int .i64)] [.l r.1, .i r.2.1, .i r.2.2], enc [] [])
def f_s_DrawEnergyOf_M : Calling := addC 160 f_s_l3Two_c (noC)
theorem f_s_DrawEnergyOf_Mt : CallOk Try.prog (f_s_DrawEnergyOf_M) := addC_true f_s_l3Two_cc (noC_true)
theorem f_s_DrawEnergyOf_o : loopsOnce Try.f57 = true := by kernel_rfl
theorem f_s_DrawEnergyOf_p {R : Type} (code0 : List Sc) (kR : List Sc × Int × Int → Option R) : f_s_DrawEnergyOf_k code0 kR = (f_s_DrawEnergyOf_k code0 some).bind kR := by
  simp only [f_s_DrawEnergyOf_k, boB, someB]
theorem f_s_DrawEnergyOf_e (code0 : List Sc) : runFn E0 f_s_DrawEnergyOf_M H0 f_s_DrawEnergyOf_F (asL (noL)) Try.f57 (f_s_DrawEnergyOf_a code0) (f_s_DrawEnergyOf_i code0) = f_s_DrawEnergyOf_k code0 (fun r => some (f_s_DrawEnergyOf_en r)) := by kernel_rfl
theorem f_s_DrawEnergyOf_ok (code0 : List Sc) (r : List Sc × Int × Int) (h : f_s_DrawEnergyOf code0 = some r) : CS Try.prog 57 (f_s_DrawEnergyOf_a code0) (f_s_DrawEnergyOf_i code0) (f_s_DrawEnergyOf_en r).1 (f_s_DrawEnergyOf_en r).2 :=
  fn_true (Gk := fun k => f_s_DrawEnergyOf_k code0 k) (en := f_s_DrawEnergyOf_en) Try.func57 E0ok f_s_DrawEnergyOf_Mt (noL_true) f_s_DrawEnergyOf_o (f_s_DrawEnergyOf_e code0) (f_s_DrawEnergyOf_p code0) h
def f_s_DrawEnergyOf_c : CRow := fun args inh => match dec2 [.p .sl] [] args inh with
  | some ([.l code0], []) => some ((f_s_DrawEnergyOf code0).isSome, (f_s_DrawEnergyOf_en ((f_s_DrawEnergyOf code0).getD ([], 0, 0))).1, (f_s_DrawEnergyOf_en ((f_s_DrawEnergyOf code0).getD ([], 0, 0))).2)
  | _ => none
theorem f_s_DrawEnergyOf_cc : CTrue Try.prog 57 f_s_DrawEnergyOf_c := by
  intro args inh rs out h
  unfold f_s_DrawEnergyOf_c at h
  split at h
  · rename_i hd
    obtain ⟨h1, h2⟩ := dec2_enc hd
    rw [← h1, ← h2]
    exact rowC (f_s_DrawEnergyOf_ok _) h
  · cases h

def f_s_l8Table_F : Fi := { nv := 0, nc := 0, m := 0, vt := [], kl := [(0, ([0, 3, 4, 6, 7, 8, 9, 10, 11, 12, 13, 14, 15, 16, 17, 18, 19, 20, 21, 22, 23, 24, 25, 26], [0, 3, 4, 5, 6, 7, 8, 9, 10, 11, 12, 13, 14, 15, 16, 17, 18, 19, 20, 21, 22, 23, 24, 25, 26], [0, 1, 2, 3, 5, 6, 7, 8, 9, 10, 11, 12, 13, 14, 15, 16, 17, 18, 19, 20, 21, 22, 23, 24, 25, 26]))], sk := [], mvs := [], fz := [] }
def f_s_l8Table_a (g0 : List Sc) (p1 : List Sc) : List AV := enc [.p .gr, .p .sl] [.l g0, .l p1]
def f_s_l8Table_i (g0 : List Sc) (p1 : List Sc) : List AV := enc [] []
def f_s_l8Table_en (r : Bool) : List AV × List AV := (enc [.p .boo] [.b r], enc [] [])
def f_s_l8Table_M : Calling := addC 150 f_s_l1In_c (addC 179 f_s_IsGroup_c (addC 139 f_s_l2Order_c (noC)))
theorem f_s_l8Table_Mt : CallOk Try.prog (f_s_l8Table_M) := addC_true f_s_l1In_cc (addC_true f_s_IsGroup_cc (addC_true f_s_l2Order_cc (noC_true)))
theorem f_s_l8Table_o : loopsOnce Try.f170 = true := by kernel_rfl
def f_s_l8Table_h0 : List Sh := [.u, .p .sl, .p .el, .u, .u, .p (.int .i64), .u, .u, .u, .u, .u, .u, .u, .u, .u, .u, .u, .u, .u, .u, .u, .u, .u, .u, .u, .u, .u]
def f_s_l8Table_fr0 (p1 : List Sc) (g2 : List Sc) (s : Int) : List AV := enc f_s_l8Table_h0 [.l p1, .l g2, .i s]
def f_s_l8Table_g0_1 : List Sh := [.u, .p .sl, .p .el, .u, .u, .u, .u, .u, .u, .u, .u, .u, .u, .u, .u, .u, .u, .u, .u, .u, .u, .u, .u, .u, .u, .u, .u]
def f_s_l8Table_x0_1 (p1 : List Sc) (g2 : List Sc) (e : Unit) : X × List AV := (.out 0, enc f_s_l8Table_g0_1 [.l p1, .l g2])
def f_s_l8Table_g0_2 : List Sh := [.u, .u, .u, .u, .p .boo, .u, .u, .u, .u, .u, .u, .u, .u, .u, .u, .u, .u, .u, .u, .u, .u, .u, .u, .u, .u, .u, .u]
def f_s_l8Table_x0_2 (p1 : List Sc) (g2 : List Sc) (e : Unit) : X × List AV := (.ret, enc f_s_l8Table_g0_2 [.b false])
theorem f_s_l8Table_p0 {R : Type} (p1 : List Sc) (g2 : List Sc) (s : Int) (kN : Int → Option R) (kA : Unit → Option R) (kB : Unit → Option R) : f_s_l8Table_k0 p1 g2 s kN kA kB = (f_s_l8Table_r0 p1 g2 s).bind (Ro.el kN kA kB) := by
  simp only [f_s_l8Table_k0, f_s_l8Table_r0, brB, boB, someB, noneB, Ro.el]
theorem f_s_l8Table_e0 (p1 : List Sc) (g2 : List Sc) (s : Int) : EC E0 f_s_l8Table_M H0 f_s_l8Table_F (asL (noL)) 0 (bodyOf Try.f170 0) (f_s_l8Table_fr0 p1 g2 s) (done (klOf f_s_l8Table_F 0)) = f_s_l8Table_k0 p1 g2 s (fun s => some (.norm, f_s_l8Table_fr0 p1 g2 s)) (fun e => some (f_s_l8Table_x0_1 p1 g2 e)) (fun e => some (f_s_l8Table_x0_2 p1 g2 e)) := by kernel_rfl
theorem f_s_l8Table_l0 (p1 : List Sc) (g2 : List Sc) : ∀ s r, loopL (f_s_l8Table_r0 p1 g2) s = some r → LS Try.prog f_s_l8Table_F (bodyOf Try.f170 0) (f_s_l8Table_fr0 p1 g2 s) (enX (f_s_l8Table_x0_1 p1 g2) (f_s_l8Table_x0_2 p1 g2) r) :=
  loop_true E0ok f_s_l8Table_Mt (noL_true) f_s_l8Table_o (fun _ h => by cases h) (fun _ h => by cases h) (fun s => (f_s_l8Table_e0 p1 g2 s).trans (f_s_l8Table_p0 p1 g2 s _ _ (fun e => some (f_s_l8Table_x0_2 p1 g2 e))))
def f_s_l8Table_t0 (σ : List AV) : Option (Bool × Bool × (X × List AV) × (X × List AV)) := match dec f_s_l8Table_h0 σ with
  | some [.l p1, .l g2, .i i5] => some ((loopL (f_s_l8Table_r0 p1 g2) i5).isSome, isOne (loopL (f_s_l8Table_r0 p1 g2) i5), f_s_l8Table_x0_1 p1 g2 (getOne () (loopL (f_s_l8Table_r0 p1 g2) i5)), f_s_l8Table_x0_2 p1 g2 (getTwo () (loopL (f_s_l8Table_r0 p1 g2) i5)))
  | _ => none
theorem f_s_l8Table_tt0 : TTrue Try.prog f_s_l8Table_F Try.f170 0 (f_s_l8Table_t0) := by
  intro σ p r r' h
  unfold f_s_l8Table_t0 at h
  split at h
  · rename_i hd
    rw [← dec_enc hd]
    exact row2 (f_s_l8Table_l0 _ _ _) h
  · cases h
theorem f_s_l8Table_p {R : Type} (g0 : List Sc) (p1 : List Sc) (kR : Bool → Option R) : f_s_l8Table_k g0 p1 kR = (f_s_l8Table_k g0 p1 some).bind kR := by
  simp only [f_s_l8Table_k, brB, boB, blB, someB]
theorem f_s_l8Table_e (g0 : List Sc) (p1 : List Sc) : runFn E0 f_s_l8Table_M H0 f_s_l8Table_F (asL (addL 0 (f_s_l8Table_t0) (noL))) Try.f170 (f_s_l8Table_a g0 p1) (f_s_l8Table_i g0 p1) = f_s_l8Table_k g0 p1 (fun r => some (f_s_l8Table_en r)) := by kernel_rfl
theorem f_s_l8Table_ok (g0 : List Sc) (p1 : List Sc) (r : Bool) (h : f_s_l8Table g0 p1 = some r) : CS Try.prog 170 (f_s_l8Table_a g0 p1) (f_s_l8Table_i g0 p1) (f_s_l8Table_en r).1 (f_s_l8Table_en r).2 :=
  fn_true (Gk := fun k => f_s_l8Table_k g0 p1 k) (en := f_s_l8Table_en) Try.func170 E0ok f_s_l8Table_Mt (addL_true (f_s_l8Table_tt0) (noL_true)) f_s_l8Table_o (f_s_l8Table_e g0 p1) (f_s_l8Table_p g0 p1) h
def f_s_l8Table_c : CRow := fun args inh => match dec2 [.p .gr, .p .sl] [] args inh with
  | some ([.l g0, .l p1], []) => some ((f_s_l8Table g0 p1).isSome, (f_s_l8Table_en ((f_s_l8Table g0 p1).getD false)).1, (f_s_l8Table_en ((f_s_l8Table g0 p1).getD false)).2)
  | _ => none
theorem f_s_l8Table_cc : CTrue Try.prog 170 f_s_l8Table_c := by
  intro args inh rs out h
  unfold f_s_l8Table_c at h
  split at h
  · rename_i hd
    obtain ⟨h1, h2⟩ := dec2_enc hd
    rw [← h1, ← h2]
    exact rowC (f_s_l8Table_ok _ _) h
  · cases h

def f_s_ConvolveTables_F : Fi := { nv := 0, nc := 0, m := 0, vt := [], kl := [(2, ([0, 4, 5, 6, 10, 11, 12, 13, 14, 15, 16, 17, 18, 19, 20, 21, 22, 23, 24, 25, 26, 27, 28, 29, 30, 31, 32, 33, 34, 35, 36, 37, 38, 39, 40, 41, 42, 43, 44, 45, 46, 47, 48, 49, 50, 51, 52, 53, 54, 55, 56, 57, 58], [0, 4, 5, 6, 9, 10, 11, 12, 13, 14, 15, 16, 17, 18, 19, 20, 21, 22, 23, 24, 25, 26, 27, 28, 29, 30, 31, 32, 33, 34, 35, 36, 37, 38, 39, 40, 41, 42, 43, 44, 45, 46, 47, 48, 49, 50, 51, 52, 53, 54, 55, 56, 57, 58], [0, 1, 2, 3, 4, 5, 7, 8, 9, 10, 11, 12, 13, 14, 15, 16, 17, 18, 19, 20, 21, 22, 23, 24, 25, 26, 27, 28, 29, 30, 31, 32, 33, 34, 35, 36, 37, 38, 39, 40, 41, 42, 43, 44, 45, 46, 47, 48, 49, 50, 51, 52, 53, 54, 55, 56, 57, 58])), (0, ([0, 4, 5, 6, 9, 10, 11, 12, 13, 14, 15, 16, 17, 18, 19, 20, 21, 22, 23, 24, 25, 26, 27, 28, 29, 30, 31, 32, 33, 34, 35, 36, 37, 38, 39, 40, 41, 42, 43, 44, 45, 46, 47, 48, 49, 50, 51, 52, 53, 54, 55, 56, 57, 58], [0, 4, 5, 6, 9, 10, 11, 12, 13, 14, 15, 16, 17, 18, 19, 20, 21, 22, 23, 24, 25, 26, 27, 28, 29, 30, 31, 32, 33, 34, 35, 36, 37, 38, 39, 40, 41, 42, 43, 44, 45, 46, 47, 48, 49, 50, 51, 52, 53, 54, 55, 56, 57, 58], [0, 1, 2, 3, 4, 5, 7, 8, 9, 10, 11, 12, 13, 14, 15, 16, 17, 18, 19, 20, 21, 22, 23, 24, 25, 26, 27, 28, 29, 30, 31, 32, 33, 34, 35, 36, 37, 38, 39, 40, 41, 42, 43, 44, 45, 46, 47, 48, 49, 50, 51, 52, 53, 54, 55, 56, 57, 58]))], sk := [], mvs := [], fz := [] }
def f_s_ConvolveTables_a (g0 : List Sc) (p1 : List Sc) (q2 : List Sc) : List AV := enc [.p .gr, .p .sl, .p .sl] [.l g0, .l p1, .l q2]
def f_s_ConvolveTables_i (g0 : List Sc) (p1 : List Sc) (q2 : List Sc) : List AV := enc [] []
def f_s_ConvolveTables_en (r : List Sc) : List AV × List AV := (enc [.p (.al 0)] [], enc [.own 3] [.l r])
def f_s_ConvolveTables_M : Calling := addC 170 f_s_l8Table_c (addC 156 f_s_l2Add_c (noC))
theorem f_s_ConvolveTables_Mt : CallOk Try.prog (f_s_ConvolveTables_M) := addC_true f_s_l8Table_cc (addC_true f_s_l2Add_cc (noC_true))
theorem f_s_ConvolveTables_o : loopsOnce Try.f58 = true := by kernel_rfl
def f_s_ConvolveTables_h2 : List Sh := [.u, .p .sl, .p .sl, .p .el, .u, .u, .u, .own 3, .p (.int .i64), .p (.int .i64), .u, .u, .u, .u, .u, .u, .u, .u, .u, .u, .u, .u, .u, .u, .u, .u, .u, .u, .u, .u, .u, .u, .u, .u, .u, .u, .u, .u, .u, .u, .u, .u, .u, .u, .u, .u, .u, .u, .u, .u, .u, .u, .u, .u, .u, .u, .u, .u, .u]
def f_s_ConvolveTables_fr2 (p1 : List Sc) (q2 : List Sc) (g3 : List Sc) (i8 : Int) (s : List Sc × Int) : List AV := enc f_s_ConvolveTables_h2 [.l p1, .l q2, .l g3, .l s.1, .i i8, .i s.2]
def f_s_ConvolveTables_g2_1 : List Sh := [.u, .p .sl, .p .sl, .p .el, .u, .u, .u, .own 3, .p (.int .i64), .u, .u, .u, .u, .u, .u, .u, .u, .u, .u, .u, .u, .u, .u, .u, .u, .u, .u, .u, .u, .u, .u, .u, .u, .u, .u, .u, .u, .u, .u, .u, .u, .u, .u, .u, .u, .u, .u, .u, .u, .u, .u, .u, .u, .u, .u, .u, .u, .u, .u]
def f_s_ConvolveTables_x2_1 (p1 : List Sc) (q2 : List Sc) (g3 : List Sc) (i8 : Int) (e : List Sc) : X × List AV := (.out 2, enc f_s_ConvolveTables_g2_1 [.l p1, .l q2, .l g3, .l e, .i i8])
def f_s_ConvolveTables_x2_2 (p1 : List Sc) (q2 : List Sc) (g3 : List Sc) (i8 : Int) (_e : Unit) : X × List AV := (.ret, [])
theorem f_s_ConvolveTables_p2 {R : Type} (p1 : List Sc) (q2 : List Sc) (g3 : List Sc) (i8 : Int) (s : List Sc × Int) (kN : List Sc × Int → Option R) (kA : List Sc → Option R) (kB : Unit → Option R) : f_s_ConvolveTables_k2 p1 q2 g3 i8 s.1 s.2 kN kA = (f_s_ConvolveTables_r2 p1 q2 g3 i8 s).bind (Ro.el kN kA kB) := by
  simp only [f_s_ConvolveTables_k2, f_s_ConvolveTables_r2, brB, boB, someB, noneB, Ro.el]
theorem f_s_ConvolveTables_e2 (p1 : List Sc) (q2 : List Sc) (g3 : List Sc) (i8 : Int) (s : List Sc × Int) : EC E0 f_s_ConvolveTables_M H0 f_s_ConvolveTables_F (asL (noL)) 2 (bodyOf Try.f58 2) (f_s_ConvolveTables_fr2 p1 q2 g3 i8 s) (done (klOf f_s_ConvolveTables_F 2)) = f_s_ConvolveTables_k2 p1 q2 g3 i8 s.1 s.2 (fun s => some (.norm, f_s_ConvolveTables_fr2 p1 q2 g3 i8 s)) (fun e => some (f_s_ConvolveTables_x2_1 p1 q2 g3 i8 e)) := by kernel_rfl
theorem f_s_ConvolveTables_l2 (p1 : List Sc) (q2 : List Sc) (g3 : List Sc) (i8 : Int) : ∀ s r, loopL (f_s_ConvolveTables_r2 p1 q2 g3 i8) s = some r → LS Try.prog f_s_ConvolveTables_F (bodyOf Try.f58 2) (f_s_ConvolveTables_fr2 p1 q2 g3 i8 s) (enX (f_s_ConvolveTables_x2_1 p1 q2 g3 i8) (f_s_ConvolveTables_x2_2 p1 q2 g3 i8) r) :=
  loop_true E0ok f_s_ConvolveTables_Mt (noL_true) f_s_ConvolveTables_o (fun _ h => by cases h) (fun _ h => by cases h) (fun s => (f_s_ConvolveTables_e2 p1 q2 g3 i8 s).trans (f_s_ConvolveTables_p2 p1 q2 g3 i8 s _ _ (fun e => some (f_s_ConvolveTables_x2_2 p1 q2 g3 i8 e))))
def f_s_ConvolveTables_t2 (σ : List AV) : Option (Bool × Bool × (X × List AV) × (X × List AV)) := match dec f_s_ConvolveTables_h2 σ with
  | some [.l p1, .l q2, .l g3, .l out7, .i i8, .i k9] => some (isOne (loopL (f_s_ConvolveTables_r2 p1 q2 g3 i8) (out7, k9)), true, f_s_ConvolveTables_x2_1 p1 q2 g3 i8 (getOne [] (loopL (f_s_ConvolveTables_r2 p1 q2 g3 i8) (out7, k9))), (.ret, []))
  | _ => none
theorem f_s_ConvolveTables_tt2 : TTrue Try.prog f_s_ConvolveTables_F Try.f58 2 (f_s_ConvolveTables_t2) := by
  intro σ p r r' h
  unfold f_s_ConvolveTables_t2 at h
  split at h
  · rename_i hd
    rw [← dec_enc hd]
    exact row1 (f_s_ConvolveTables_l2 _ _ _ _ _) h
  · cases h
def f_s_ConvolveTables_h0 : List Sh := [.u, .p .sl, .p .sl, .p .el, .u, .u, .u, .own 3, .p (.int .i64), .u, .u, .u, .u, .u, .u, .u, .u, .u, .u, .u, .u, .u, .u, .u, .u, .u, .u, .u, .u, .u, .u, .u, .u, .u, .u, .u, .u, .u, .u, .u, .u, .u, .u, .u, .u, .u, .u, .u, .u, .u, .u, .u, .u, .u, .u, .u, .u, .u, .u]
def f_s_ConvolveTables_fr0 (p1 : List Sc) (q2 : List Sc) (g3 : List Sc) (s : List Sc × Int) : List AV := enc f_s_ConvolveTables_h0 [.l p1, .l q2, .l g3, .l s.1, .i s.2]
def f_s_ConvolveTables_g0_1 : List Sh := [.u, .p .sl, .p .sl, .p .el, .u, .u, .u, .own 3, .p (.int .i64), .u, .u, .u, .u, .u, .u, .u, .u, .u, .u, .u, .u, .u, .u, .u, .u, .u, .u, .u, .u, .u, .u, .u, .u, .u, .u, .u, .u, .u, .u, .u, .u, .u, .u, .u, .u, .u, .u, .u, .u, .u, .u, .u, .u, .u, .u, .u, .u, .u, .u]
def f_s_ConvolveTables_x0_1 (p1 : List Sc) (q2 : List Sc) (g3 : List Sc) (e : List Sc × Int) : X × List AV := (.out 0, enc f_s_ConvolveTables_g0_1 [.l p1, .l q2, .l g3, .l e.1, .i e.2])
def f_s_ConvolveTables_x0_2 (p1 : List Sc) (q2 : List Sc) (g3 : List Sc) (_e : Unit) : X × List AV := (.ret, [])
theorem f_s_ConvolveTables_p0 {R : Type} (p1 : List Sc) (q2 : List Sc) (g3 : List Sc) (s : List Sc × Int) (kN : List Sc × Int → Option R) (kA : List Sc × Int → Option R) (kB : Unit → Option R) : f_s_ConvolveTables_k0 p1 q2 g3 s.1 s.2 kN kA = (f_s_ConvolveTables_r0 p1 q2 g3 s).bind (Ro.el kN kA kB) := by
  simp only [f_s_ConvolveTables_k0, f_s_ConvolveTables_r0, brB, bl1B, someB, Ro.el]
theorem f_s_ConvolveTables_e0 (p1 : List Sc) (q2 : List Sc) (g3 : List Sc) (s : List Sc × Int) : EC E0 f_s_ConvolveTables_M H0 f_s_ConvolveTables_F (asL (addL 2 (f_s_ConvolveTables_t2) (noL))) 0 (bodyOf Try.f58 0) (f_s_ConvolveTables_fr0 p1 q2 g3 s) (done (klOf f_s_ConvolveTables_F 0)) = f_s_ConvolveTables_k0 p1 q2 g3 s.1 s.2 (fun s => some (.norm, f_s_ConvolveTables_fr0 p1 q2 g3 s)) (fun e => some (f_s_ConvolveTables_x0_1 p1 q2 g3 e)) := by kernel_rfl
theorem f_s_ConvolveTables_l0 (p1 : List Sc) (q2 : List Sc) (g3 : List Sc) : ∀ s r, loopL (f_s_ConvolveTables_r0 p1 q2 g3) s = some r → LS Try.prog f_s_ConvolveTables_F (bodyOf Try.f58 0) (f_s_ConvolveTables_fr0 p1 q2 g3 s) (enX (f_s_ConvolveTables_x0_1 p1 q2 g3) (f_s_ConvolveTables_x0_2 p1 q2 g3) r) :=
  loop_true E0ok f_s_ConvolveTables_Mt (addL_true (f_s_ConvolveTables_tt2) (noL_true)) f_s_ConvolveTables_o (fun _ h => by cases h) (fun _ h => by cases h) (fun s => (f_s_ConvolveTables_e0 p1 q2 g3 s).trans (f_s_ConvolveTables_p0 p1 q2 g3 s _ _ (fun e => some (f_s_ConvolveTables_x0_2 p1 q2 g3 e))))
def f_s_ConvolveTables_t0 (σ : List AV) : Option (Bool × Bool × (X × List AV) × (X × List AV)) := match dec f_s_ConvolveTables_h0 σ with
  | some [.l p1, .l q2, .l g3, .l out7, .i i8] => some (isOne (loopL (f_s_ConvolveTables_r0 p1 q2 g3) (out7, i8)), true, f_s_ConvolveTables_x0_1 p1 q2 g3 (getOne ([], 0) (loopL (f_s_ConvolveTables_r0 p1 q2 g3) (out7, i8))), (.ret, []))
  | _ => none
theorem f_s_ConvolveTables_tt0 : TTrue Try.prog f_s_ConvolveTables_F Try.f58 0 (f_s_ConvolveTables_t0) := by
  intro σ p r r' h
  unfold f_s_ConvolveTables_t0 at h
  split at h
  · rename_i hd
    rw [← dec_enc hd]
    exact row1 (f_s_ConvolveTables_l0 _ _ _ _) h
  · cases h
theorem f_s_ConvolveTables_p {R : Type} (g0 : List Sc) (p1 : List Sc) (q2 : List Sc) (kR : List Sc → Option R) : f_s_ConvolveTables_k g0 p1 q2 kR = (f_s_ConvolveTables_k g0 p1 q2 some).bind kR := by
  simp only [f_s_ConvolveTables_k, brB, boB, bl1B, someB, noneB]
theorem f_s_ConvolveTables_e (g0 : List Sc) (p1 : List Sc) (q2 : List Sc) : runFn E0 f_s_ConvolveTables_M H0 f_s_ConvolveTables_F (asL (addL 0 (f_s_ConvolveTables_t0) (addL 2 (f_s_ConvolveTables_t2) (noL)))) Try.f58 (f_s_ConvolveTables_a g0 p1 q2) (f_s_ConvolveTables_i g0 p1 q2) = f_s_ConvolveTables_k g0 p1 q2 (fun r => some (f_s_ConvolveTables_en r)) := by kernel_rfl
theorem f_s_ConvolveTables_ok (g0 : List Sc) (p1 : List Sc) (q2 : List Sc) (r : List Sc) (h : f_s_ConvolveTables g0 p1 q2 = some r) : CS Try.prog 58 (f_s_ConvolveTables_a g0 p1 q2) (f_s_ConvolveTables_i g0 p1 q2) (f_s_ConvolveTables_en r).1 (f_s_ConvolveTables_en r).2 :=
  fn_true (Gk := fun k => f_s_ConvolveTables_k g0 p1 q2 k) (en := f_s_ConvolveTables_en) Try.func58 E0ok f_s_ConvolveTables_Mt (addL_true (f_s_ConvolveTables_tt0) (addL_true (f_s_ConvolveTables_tt2) (noL_true))) f_s_ConvolveTables_o (f_s_ConvolveTables_e g0 p1 q2) (f_s_ConvolveTables_p g0 p1 q2) h
def f_s_ConvolveTables_c : CRow := fun args inh => match dec2 [.p .gr, .p .sl, .p .sl] [] args inh with
  | some ([.l g0, .l p1, .l q2], []) => some ((f_s_ConvolveTables g0 p1 q2).isSome, (f_s_ConvolveTables_en ((f_s_ConvolveTables g0 p1 q2).getD [])).1, (f_s_ConvolveTables_en ((f_s_ConvolveTables g0 p1 q2).getD [])).2)
  | _ => none
theorem f_s_ConvolveTables_cc : CTrue Try.prog 58 f_s_ConvolveTables_c := by
  intro args inh rs out h
  unfold f_s_ConvolveTables_c at h
  split at h
  · rename_i hd
    obtain ⟨h1, h2⟩ := dec2_enc hd
    rw [← h1, ← h2]
    exact rowC (f_s_ConvolveTables_ok _ _ _) h
  · cases h

def f_l_sameInts_F : Fi := { nv := 0, nc := 0, m := 0, vt := [], kl := [(0, ([2, 3, 4, 6, 7, 8, 9, 10, 11, 12, 13, 14, 15, 16, 17, 18, 19, 20, 21, 22, 23, 24, 25], [0, 1, 2, 3, 4, 5, 6, 7, 8, 9, 10, 11, 12, 13, 14, 15, 16, 17, 18, 19, 20, 21, 22, 23, 24, 25], [0, 1, 2, 3, 5, 6, 7, 8, 9, 10, 11, 12, 13, 14, 15, 16, 17, 18, 19, 20, 21, 22, 23, 24, 25]))], sk := [], mvs := [], fz := [] }
def f_l_sameInts_a (a0 : List Sc) (b1 : List Sc) : List AV := enc [.p .sl, .p .sl] [.l a0, .l b1]
def f_l_sameInts_i (a0 : List Sc) (b1 : List Sc) : List AV := enc [] []
def f_l_sameInts_en (r : Bool) : List AV × List AV := (enc [.p .boo] [.b r], enc [] [])
def f_l_sameInts_M : Calling := noC
theorem f_l_sameInts_Mt : CallOk Try.prog (f_l_sameInts_M) := noC_true
theorem f_l_sameInts_o : loopsOnce Try.f24 = true := by kernel_rfl
def f_l_sameInts_h0 : List Sh := [.p .sl, .p .sl, .u, .u, .u, .p (.int .i64), .u, .u, .u, .u, .u, .u, .u, .u, .u, .u, .u, .u, .u, .u, .u, .u, .u, .u, .u, .u]
def f_l_sameInts_fr0 (a0 : List Sc) (b1 : List Sc) (s : Int) : List AV := enc f_l_sameInts_h0 [.l a0, .l b1, .i s]
def f_l_sameInts_g0_1 : List Sh := [.u, .u, .u, .u, .u, .u, .u, .u, .u, .u, .u, .u, .u, .u, .u, .u, .u, .u, .u, .u, .u, .u, .u, .u, .u, .u]
def f_l_sameInts_x0_1 (a0 : List Sc) (b1 : List Sc) (e : Unit) : X × List AV := (.out 0, enc f_l_sameInts_g0_1 [])
def f_l_sameInts_g0_2 : List Sh := [.u, .u, .u, .u, .p .boo, .u, .u, .u, .u, .u, .u, .u, .u, .u, .u, .u, .u, .u, .u, .u, .u, .u, .u, .u, .u, .u]
def f_l_sameInts_x0_2 (a0 : List Sc) (b1 : List Sc) (e : Unit) : X × List AV := (.ret, enc f_l_sameInts_g0_2 [.b false])
theorem f_l_sameInts_p0 {R : Type} (a0 : List Sc) (b1 : List Sc) (s : Int) (kN : Int → Option R) (kA : Unit → Option R) (kB : Unit → Option R) : f_l_sameInts_k0 a0 b1 s kN kA kB = (f_l_sameInts_r0 a0 b1 s).bind (Ro.el kN kA kB) := by
  simp only [f_l_sameInts_k0, f_l_sameInts_r0, brB, someB, noneB, Ro.el]
theorem f_l_sameInts_e0 (a0 : List Sc) (b1 : List Sc) (s : Int) : EC E0 f_l_sameInts_M H0 f_l_sameInts_F (asL (noL)) 0 (bodyOf Try.f24 0) (f_l_sameInts_fr0 a0 b1 s) (done (klOf f_l_sameInts_F 0)) = f_l_sameInts_k0 a0 b1 s (fun s => some (.norm, f_l_sameInts_fr0 a0 b1 s)) (fun e => some (f_l_sameInts_x0_1 a0 b1 e)) (fun e => some (f_l_sameInts_x0_2 a0 b1 e)) := by kernel_rfl
theorem f_l_sameInts_l0 (a0 : List Sc) (b1 : List Sc) : ∀ s r, loopL (f_l_sameInts_r0 a0 b1) s = some r → LS Try.prog f_l_sameInts_F (bodyOf Try.f24 0) (f_l_sameInts_fr0 a0 b1 s) (enX (f_l_sameInts_x0_1 a0 b1) (f_l_sameInts_x0_2 a0 b1) r) :=
  loop_true E0ok f_l_sameInts_Mt (noL_true) f_l_sameInts_o (fun _ h => by cases h) (fun _ h => by cases h) (fun s => (f_l_sameInts_e0 a0 b1 s).trans (f_l_sameInts_p0 a0 b1 s _ _ (fun e => some (f_l_sameInts_x0_2 a0 b1 e))))
def f_l_sameInts_t0 (σ : List AV) : Option (Bool × Bool × (X × List AV) × (X × List AV)) := match dec f_l_sameInts_h0 σ with
  | some [.l a0, .l b1, .i i5] => some ((loopL (f_l_sameInts_r0 a0 b1) i5).isSome, isOne (loopL (f_l_sameInts_r0 a0 b1) i5), f_l_sameInts_x0_1 a0 b1 (getOne () (loopL (f_l_sameInts_r0 a0 b1) i5)), f_l_sameInts_x0_2 a0 b1 (getTwo () (loopL (f_l_sameInts_r0 a0 b1) i5)))
  | _ => none
theorem f_l_sameInts_tt0 : TTrue Try.prog f_l_sameInts_F Try.f24 0 (f_l_sameInts_t0) := by
  intro σ p r r' h
  unfold f_l_sameInts_t0 at h
  split at h
  · rename_i hd
    rw [← dec_enc hd]
    exact row2 (f_l_sameInts_l0 _ _ _) h
  · cases h
theorem f_l_sameInts_p {R : Type} (a0 : List Sc) (b1 : List Sc) (kR : Bool → Option R) : f_l_sameInts_k a0 b1 kR = (f_l_sameInts_k a0 b1 some).bind kR := by
  simp only [f_l_sameInts_k, brB, blB, someB]
theorem f_l_sameInts_e (a0 : List Sc) (b1 : List Sc) : runFn E0 f_l_sameInts_M H0 f_l_sameInts_F (asL (addL 0 (f_l_sameInts_t0) (noL))) Try.f24 (f_l_sameInts_a a0 b1) (f_l_sameInts_i a0 b1) = f_l_sameInts_k a0 b1 (fun r => some (f_l_sameInts_en r)) := by kernel_rfl
theorem f_l_sameInts_ok (a0 : List Sc) (b1 : List Sc) (r : Bool) (h : f_l_sameInts a0 b1 = some r) : CS Try.prog 24 (f_l_sameInts_a a0 b1) (f_l_sameInts_i a0 b1) (f_l_sameInts_en r).1 (f_l_sameInts_en r).2 :=
  fn_true (Gk := fun k => f_l_sameInts_k a0 b1 k) (en := f_l_sameInts_en) Try.func24 E0ok f_l_sameInts_Mt (addL_true (f_l_sameInts_tt0) (noL_true)) f_l_sameInts_o (f_l_sameInts_e a0 b1) (f_l_sameInts_p a0 b1) h
def f_l_sameInts_c : CRow := fun args inh => match dec2 [.p .sl, .p .sl] [] args inh with
  | some ([.l a0, .l b1], []) => some ((f_l_sameInts a0 b1).isSome, (f_l_sameInts_en ((f_l_sameInts a0 b1).getD false)).1, (f_l_sameInts_en ((f_l_sameInts a0 b1).getD false)).2)
  | _ => none
theorem f_l_sameInts_cc : CTrue Try.prog 24 f_l_sameInts_c := by
  intro args inh rs out h
  unfold f_l_sameInts_c at h
  split at h
  · rename_i hd
    obtain ⟨h1, h2⟩ := dec2_enc hd
    rw [← h1, ← h2]
    exact rowC (f_l_sameInts_ok _ _) h
  · cases h

def f_l_total_F : Fi := { nv := 0, nc := 0, m := 0, vt := [], kl := [(0, ([1, 2, 5, 6, 7, 8, 9, 10, 11, 12, 13, 14, 15, 16, 17], [0, 1, 2, 4, 5, 6, 7, 8, 9, 10, 11, 12, 13, 14, 15, 16, 17], [0, 1, 3, 4, 5, 6, 7, 8, 9, 10, 11, 12, 13, 14, 15, 16, 17]))], sk := [], mvs := [], fz := [] }
def f_l_total_a (l0 : List Sc) : List AV := enc [.p .sl] [.l l0]
def f_l_total_i (l0 : List Sc) : List AV := enc [] []
def f_l_total_en (r : Int) : List AV × List AV := (enc [.p (.int .i64)] [.i r], enc [] [])
def f_l_total_M : Calling := noC
theorem f_l_total_Mt : CallOk Try.prog (f_l_total_M) := noC_true
theorem f_l_total_o : loopsOnce Try.f25 = true := by kernel_rfl
def f_l_total_h0 : List Sh := [.p .sl, .u, .u, .p (.int .i64), .p (.int .i64), .u, .u, .u, .u, .u, .u, .u, .u, .u, .u, .u, .u, .u]
def f_l_total_fr0 (l0 : List Sc) (s : Int × Int) : List AV := enc f_l_total_h0 [.l l0, .i s.1, .i s.2]
def f_l_total_g0_1 : List Sh := [.u, .u, .u, .p (.int .i64), .u, .u, .u, .u, .u, .u, .u, .u, .u, .u, .u, .u, .u, .u]
def f_l_total_x0_1 (l0 : List Sc) (e : Int) : X × List AV := (.out 0, enc f_l_total_g0_1 [.i e])
def f_l_total_x0_2 (l0 : List Sc) (_e : Unit) : X × List AV := (.ret, [])
theorem f_l_total_p0 {R : Type} (l0 : List Sc) (s : Int × Int) (kN : Int × Int → Option R) (kA : Int → Option R) (kB : Unit → Option R) : f_l_total_k0 l0 s.1 s.2 kN kA = (f_l_total_r0 l0 s).bind (Ro.el kN kA kB) := by
  simp only [f_l_total_k0, f_l_total_r0, brB, someB, noneB, Ro.el]
theorem f_l_total_e0 (l0 : List Sc) (s : Int × Int) : EC E0 f_l_total_M H0 f_l_total_F (asL (noL)) 0 (bodyOf Try.f25 0) (f_l_total_fr0 l0 s) (done (klOf f_l_total_F 0)) = f_l_total_k0 l0 s.1 s.2 (fun s => some (.norm, f_l_total_fr0 l0 s)) (fun e => some (f_l_total_x0_1 l0 e)) := by kernel_rfl
theorem f_l_total_l0 (l0 : List Sc) : ∀ s r, loopL (f_l_total_r0 l0) s = some r → LS Try.prog f_l_total_F (bodyOf Try.f25 0) (f_l_total_fr0 l0 s) (enX (f_l_total_x0_1 l0) (f_l_total_x0_2 l0) r) :=
  loop_true E0ok f_l_total_Mt (noL_true) f_l_total_o (fun _ h => by cases h) (fun _ h => by cases h) (fun s => (f_l_total_e0 l0 s).trans (f_l_total_p0 l0 s _ _ (fun e => some (f_l_total_x0_2 l0 e))))
def f_l_total_t0 (σ : List AV) : Option (Bool × Bool × (X × List AV) × (X × List AV)) := match dec f_l_total_h0 σ with
  | some [.l l0, .i n3, .i i4] => some (isOne (loopL (f_l_total_r0 l0) (n3, i4)), true, f_l_total_x0_1 l0 (getOne 0 (loopL (f_l_total_r0 l0) (n3, i4))), (.ret, []))
  | _ => none
theorem f_l_total_tt0 : TTrue Try.prog f_l_total_F Try.f25 0 (f_l_total_t0) := by
  intro σ p r r' h
  unfold f_l_total_t0 at h
  split at h
  · rename_i hd
    rw [← dec_enc hd]
    exact row1 (f_l_total_l0 _ _) h
  · cases h
theorem f_l_total_p {R : Type} (l0 : List Sc) (kR : Int → Option R) : f_l_total_k l0 kR = (f_l_total_k l0 some).bind kR := by
  simp only [f_l_total_k, bl1B, someB]
theorem f_l_total_e (l0 : List Sc) : runFn E0 f_l_total_M H0 f_l_total_F (asL (addL 0 (f_l_total_t0) (noL))) Try.f25 (f_l_total_a l0) (f_l_total_i l0) = f_l_total_k l0 (fun r => some (f_l_total_en r)) := by kernel_rfl
theorem f_l_total_ok (l0 : List Sc) (r : Int) (h : f_l_total l0 = some r) : CS Try.prog 25 (f_l_total_a l0) (f_l_total_i l0) (f_l_total_en r).1 (f_l_total_en r).2 :=
  fn_true (Gk := fun k => f_l_total_k l0 k) (en := f_l_total_en) Try.func25 E0ok f_l_total_Mt (addL_true (f_l_total_tt0) (noL_true)) f_l_total_o (f_l_total_e l0) (f_l_total_p l0) h
def f_l_total_c : CRow := fun args inh => match dec2 [.p .sl] [] args inh with
  | some ([.l l0], []) => some ((f_l_total l0).isSome, (f_l_total_en ((f_l_total l0).getD 0)).1, (f_l_total_en ((f_l_total l0).getD 0)).2)
  | _ => none
theorem f_l_total_cc : CTrue Try.prog 25 f_l_total_c := by
  intro args inh rs out h
  unfold f_l_total_c at h
  split at h
  · rename_i hd
    obtain ⟨h1, h2⟩ := dec2_enc hd
    rw [← h1, ← h2]
    exact rowC (f_l_total_ok _) h
  · cases h

def f_i_Group_opposite_F : Fi := { nv := 0, nc := 0, m := 0, vt := [], kl := [(0, ([0, 1, 3, 4, 6, 7, 8, 12, 13, 14, 15, 16, 17, 18, 19, 20, 21, 22], [0, 1, 2, 3, 4, 6, 7, 8, 9, 10, 11, 12, 13, 14, 15, 16, 17, 18, 19, 20, 21, 22], [0, 1, 2, 3, 5, 6, 7, 8, 9, 10, 11, 12, 13, 14, 15, 16, 17, 18, 19, 20, 21, 22]))], sk := [], mvs := [], fz := [] }
def f_i_Group_opposite_a (g0 : List Sc) (a1 : Int) : List AV := enc [.p .gr, .p (.int .i64)] [.l g0, .i a1]
def f_i_Group_opposite_i (g0 : List Sc) (a1 : Int) : List AV := enc [] []
def f_i_Group_opposite_en (r : Int) : List AV × List AV := (enc [.p (.int .i64)] [.i r], enc [] [])
def f_i_Group_opposite_M : Calling := addC 130 f_i_members_c (addC 149 f_i_Group_negate_c (noC))
theorem f_i_Group_opposite_Mt : CallOk Try.prog (f_i_Group_opposite_M) := addC_true f_i_members_cc (addC_true f_i_Group_negate_cc (noC_true))
theorem f_i_Group_opposite_o : loopsOnce Try.f171 = true := by kernel_rfl
def f_i_Group_opposite_h0 : List Sh := [.u, .u, .p .el, .u, .u, .p (.int .i64), .u, .u, .u, .own 3, .p (.int .i64), .p (.int .i64), .u, .u, .u, .u, .u, .u, .u, .u, .u, .u, .u]
def f_i_Group_opposite_fr0 (g2 : List Sc) (t10 : Int) (s : Int × List Sc × Int) : List AV := enc f_i_Group_opposite_h0 [.l g2, .i s.1, .l s.2.1, .i t10, .i s.2.2]
def f_i_Group_opposite_g0_1 : List Sh := [.u, .u, .u, .u, .u, .p (.int .i64), .u, .u, .u, .u, .u, .u, .u, .u, .u, .u, .u, .u, .u, .u, .u, .u, .u]
def f_i_Group_opposite_x0_1 (g2 : List Sc) (t10 : Int) (e : Int) : X × List AV := (.out 0, enc f_i_Group_opposite_g0_1 [.i e])
def f_i_Group_opposite_x0_2 (g2 : List Sc) (t10 : Int) (_e : Unit) : X × List AV := (.ret, [])
theorem f_i_Group_opposite_p0 {R : Type} (g2 : List Sc) (t10 : Int) (s : Int × List Sc × Int) (kN : Int × List Sc × Int → Option R) (kA : Int → Option R) (kB : Unit → Option R) : f_i_Group_opposite_k0 g2 t10 s.1 s.2.1 s.2.2 kN kA = (f_i_Group_opposite_r0 g2 t10 s).bind (Ro.el kN kA kB) := by
  simp only [f_i_Group_opposite_k0, f_i_Group_opposite_r0, brB, boB, someB, noneB, Ro.el]
theorem f_i_Group_opposite_e0 (g2 : List Sc) (t10 : Int) (s : Int × List Sc × Int) : EC E0 f_i_Group_opposite_M H0 f_i_Group_opposite_F (asL (noL)) 0 (bodyOf Try.f171 0) (f_i_Group_opposite_fr0 g2 t10 s) (done (klOf f_i_Group_opposite_F 0)) = f_i_Group_opposite_k0 g2 t10 s.1 s.2.1 s.2.2 (fun s => some (.norm, f_i_Group_opposite_fr0 g2 t10 s)) (fun e => some (f_i_Group_opposite_x0_1 g2 t10 e)) := by kernel_rfl
theorem f_i_Group_opposite_l0 (g2 : List Sc) (t10 : Int) : ∀ s r, loopL (f_i_Group_opposite_r0 g2 t10) s = some r → LS Try.prog f_i_Group_opposite_F (bodyOf Try.f171 0) (f_i_Group_opposite_fr0 g2 t10 s) (enX (f_i_Group_opposite_x0_1 g2 t10) (f_i_Group_opposite_x0_2 g2 t10) r) :=
  loop_true E0ok f_i_Group_opposite_Mt (noL_true) f_i_Group_opposite_o (fun _ h => by cases h) (fun _ h => by cases h) (fun s => (f_i_Group_opposite_e0 g2 t10 s).trans (f_i_Group_opposite_p0 g2 t10 s _ _ (fun e => some (f_i_Group_opposite_x0_2 g2 t10 e))))
def f_i_Group_opposite_t0 (σ : List AV) : Option (Bool × Bool × (X × List AV) × (X × List AV)) := match dec f_i_Group_opposite_h0 σ with
  | some [.l g2, .i out5, .l t9, .i t10, .i t11] => some (isOne (loopL (f_i_Group_opposite_r0 g2 t10) (out5, t9, t11)), true, f_i_Group_opposite_x0_1 g2 t10 (getOne 0 (loopL (f_i_Group_opposite_r0 g2 t10) (out5, t9, t11))), (.ret, []))
  | _ => none
theorem f_i_Group_opposite_tt0 : TTrue Try.prog f_i_Group_opposite_F Try.f171 0 (f_i_Group_opposite_t0) := by
  intro σ p r r' h
  unfold f_i_Group_opposite_t0 at h
  split at h
  · rename_i hd
    rw [← dec_enc hd]
    exact row1 (f_i_Group_opposite_l0 _ _ _) h
  · cases h
theorem f_i_Group_opposite_p {R : Type} (g0 : List Sc) (a1 : Int) (kR : Int → Option R) : f_i_Group_opposite_k g0 a1 kR = (f_i_Group_opposite_k g0 a1 some).bind kR := by
  simp only [f_i_Group_opposite_k, boB, bl1B, someB]
theorem f_i_Group_opposite_e (g0 : List Sc) (a1 : Int) : runFn E0 f_i_Group_opposite_M H0 f_i_Group_opposite_F (asL (addL 0 (f_i_Group_opposite_t0) (noL))) Try.f171 (f_i_Group_opposite_a g0 a1) (f_i_Group_opposite_i g0 a1) = f_i_Group_opposite_k g0 a1 (fun r => some (f_i_Group_opposite_en r)) := by kernel_rfl
theorem f_i_Group_opposite_ok (g0 : List Sc) (a1 : Int) (r : Int) (h : f_i_Group_opposite g0 a1 = some r) : CS Try.prog 171 (f_i_Group_opposite_a g0 a1) (f_i_Group_opposite_i g0 a1) (f_i_Group_opposite_en r).1 (f_i_Group_opposite_en r).2 :=
  fn_true (Gk := fun k => f_i_Group_opposite_k g0 a1 k) (en := f_i_Group_opposite_en) Try.func171 E0ok f_i_Group_opposite_Mt (addL_true (f_i_Group_opposite_tt0) (noL_true)) f_i_Group_opposite_o (f_i_Group_opposite_e g0 a1) (f_i_Group_opposite_p g0 a1) h
def f_i_Group_opposite_c : CRow := fun args inh => match dec2 [.p .gr, .p (.int .i64)] [] args inh with
  | some ([.l g0, .i a1], []) => some ((f_i_Group_opposite g0 a1).isSome, (f_i_Group_opposite_en ((f_i_Group_opposite g0 a1).getD 0)).1, (f_i_Group_opposite_en ((f_i_Group_opposite g0 a1).getD 0)).2)
  | _ => none
theorem f_i_Group_opposite_cc : CTrue Try.prog 171 f_i_Group_opposite_c := by
  intro args inh rs out h
  unfold f_i_Group_opposite_c at h
  split at h
  · rename_i hd
    obtain ⟨h1, h2⟩ := dec2_enc hd
    rw [← h1, ← h2]
    exact rowC (f_i_Group_opposite_ok _ _) h
  · cases h

def f_i_CorrelationOf_F : Fi := { nv := 0, nc := 0, m := 0, vt := [], kl := [], sk := [], mvs := [], fz := [] }
def f_i_CorrelationOf_a (g0 : List Sc) (a1 : Int) (b2 : Int) : List AV := enc [.p .gr, .p (.int .i64), .p (.int .i64)] [.l g0, .i a1, .i b2]
def f_i_CorrelationOf_i (g0 : List Sc) (a1 : Int) (b2 : Int) : List AV := enc [] []
def f_i_CorrelationOf_en (r : List Sc) : List AV × List AV := (enc [.p (.al 0)] [], enc [.own 3] [.l r])
def f_i_CorrelationOf_M : Calling := addC 158 f_i_areSets_c (addC 171 f_i_Group_opposite_c (addC 159 f_i_SumTable_c (noC)))
theorem f_i_CorrelationOf_Mt : CallOk Try.prog (f_i_CorrelationOf_M) := addC_true f_i_areSets_cc (addC_true f_i_Group_opposite_cc (addC_true f_i_SumTable_cc (noC_true)))
theorem f_i_CorrelationOf_o : loopsOnce Try.f59 = true := by kernel_rfl
theorem f_i_CorrelationOf_p {R : Type} (g0 : List Sc) (a1 : Int) (b2 : Int) (kR : List Sc → Option R) : f_i_CorrelationOf_k g0 a1 b2 kR = (f_i_CorrelationOf_k g0 a1 b2 some).bind kR := by
  simp only [f_i_CorrelationOf_k, brB, boB, someB]
theorem f_i_CorrelationOf_e (g0 : List Sc) (a1 : Int) (b2 : Int) : runFn E0 f_i_CorrelationOf_M H0 f_i_CorrelationOf_F (asL (noL)) Try.f59 (f_i_CorrelationOf_a g0 a1 b2) (f_i_CorrelationOf_i g0 a1 b2) = f_i_CorrelationOf_k g0 a1 b2 (fun r => some (f_i_CorrelationOf_en r)) := by kernel_rfl
theorem f_i_CorrelationOf_ok (g0 : List Sc) (a1 : Int) (b2 : Int) (r : List Sc) (h : f_i_CorrelationOf g0 a1 b2 = some r) : CS Try.prog 59 (f_i_CorrelationOf_a g0 a1 b2) (f_i_CorrelationOf_i g0 a1 b2) (f_i_CorrelationOf_en r).1 (f_i_CorrelationOf_en r).2 :=
  fn_true (Gk := fun k => f_i_CorrelationOf_k g0 a1 b2 k) (en := f_i_CorrelationOf_en) Try.func59 E0ok f_i_CorrelationOf_Mt (noL_true) f_i_CorrelationOf_o (f_i_CorrelationOf_e g0 a1 b2) (f_i_CorrelationOf_p g0 a1 b2) h
def f_i_CorrelationOf_c : CRow := fun args inh => match dec2 [.p .gr, .p (.int .i64), .p (.int .i64)] [] args inh with
  | some ([.l g0, .i a1, .i b2], []) => some ((f_i_CorrelationOf g0 a1 b2).isSome, (f_i_CorrelationOf_en ((f_i_CorrelationOf g0 a1 b2).getD [])).1, (f_i_CorrelationOf_en ((f_i_CorrelationOf g0 a1 b2).getD [])).2)
  | _ => none
theorem f_i_CorrelationOf_cc : CTrue Try.prog 59 f_i_CorrelationOf_c := by
  intro args inh rs out h
  unfold f_i_CorrelationOf_c at h
  split at h
  · rename_i hd
    obtain ⟨h1, h2⟩ := dec2_enc hd
    rw [← h1, ← h2]
    exact rowC (f_i_CorrelationOf_ok _ _ _) h
  · cases h

def f_s_l3Negate_F : Fi := { nv := 0, nc := 0, m := 0, vt := [], kl := [(0, ([0, 1, 3, 4, 8, 9, 10, 11, 12, 13, 14, 15, 16, 17, 18, 19, 20, 21, 22, 23, 24, 25], [0, 1, 2, 3, 4, 6, 7, 8, 9, 10, 11, 12, 13, 14, 15, 16, 17, 18, 19, 20, 21, 22, 23, 24, 25], [0, 1, 2, 3, 5, 6, 7, 8, 9, 10, 11, 12, 13, 14, 15, 16, 17, 18, 19, 20, 21, 22, 23, 24, 25]))], sk := [], mvs := [], fz := [] }
def f_s_l3Negate_a (g0 : List Sc) (a1 : Int) : List AV := enc [.p .gr, .p (.int .i64)] [.l g0, .i a1]
def f_s_l3Negate_i (g0 : List Sc) (a1 : Int) : List AV := enc [] []
def f_s_l3Negate_en (r : Int) : List AV × List AV := (enc [.p (.int .i64)] [.i r], enc [] [])
def f_s_l3Negate_M : Calling := addC 136 f_s_l3List_c (addC 157 f_s_l2Negate_c (noC))
theorem f_s_l3Negate_Mt : CallOk Try.prog (f_s_l3Negate_M) := addC_true f_s_l3List_cc (addC_true f_s_l2Negate_cc (noC_true))
theorem f_s_l3Negate_o : loopsOnce Try.f172 = true := by kernel_rfl
def f_s_l3Negate_h0 : List Sh := [.u, .u, .p .el, .u, .u, .p (.int .i64), .own 3, .p (.int .i64), .u, .u, .u, .u, .u, .u, .u, .u, .u, .u, .u, .u, .u, .u, .u, .u, .u, .u]
def f_s_l3Negate_fr0 (g2 : List Sc) (s : Int × List Sc × Int) : List AV := enc f_s_l3Negate_h0 [.l g2, .i s.1, .l s.2.1, .i s.2.2]
def f_s_l3Negate_g0_1 : List Sh := [.u, .u, .u, .u, .u, .p (.int .i64), .u, .u, .u, .u, .u, .u, .u, .u, .u, .u, .u, .u, .u, .u, .u, .u, .u, .u, .u, .u]
def f_s_l3Negate_x0_1 (g2 : List Sc) (e : Int) : X × List AV := (.out 0, enc f_s_l3Negate_g0_1 [.i e])
def f_s_l3Negate_x0_2 (g2 : List Sc) (_e : Unit) : X × List AV := (.ret, [])
theorem f_s_l3Negate_p0 {R : Type} (g2 : List Sc) (s : Int × List Sc × Int) (kN : Int × List Sc × Int → Option R) (kA : Int → Option R) (kB : Unit → Option R) : f_s_l3Negate_k0 g2 s.1 s.2.1 s.2.2 kN kA = (f_s_l3Negate_r0 g2 s).bind (Ro.el kN kA kB) := by
  simp only [f_s_l3Negate_k0, f_s_l3Negate_r0, brB, boB, someB, noneB, Ro.el]
theorem f_s_l3Negate_e0 (g2 : List Sc) (s : Int × List Sc × Int) : EC E0 f_s_l3Negate_M H0 f_s_l3Negate_F (asL (noL)) 0 (bodyOf Try.f172 0) (f_s_l3Negate_fr0 g2 s) (done (klOf f_s_l3Negate_F 0)) = f_s_l3Negate_k0 g2 s.1 s.2.1 s.2.2 (fun s => some (.norm, f_s_l3Negate_fr0 g2 s)) (fun e => some (f_s_l3Negate_x0_1 g2 e)) := by kernel_rfl
theorem f_s_l3Negate_l0 (g2 : List Sc) : ∀ s r, loopL (f_s_l3Negate_r0 g2) s = some r → LS Try.prog f_s_l3Negate_F (bodyOf Try.f172 0) (f_s_l3Negate_fr0 g2 s) (enX (f_s_l3Negate_x0_1 g2) (f_s_l3Negate_x0_2 g2) r) :=
  loop_true E0ok f_s_l3Negate_Mt (noL_true) f_s_l3Negate_o (fun _ h => by cases h) (fun _ h => by cases h) (fun s => (f_s_l3Negate_e0 g2 s).trans (f_s_l3Negate_p0 g2 s _ _ (fun e => some (f_s_l3Negate_x0_2 g2 e))))
def f_s_l3Negate_t0 (σ : List AV) : Option (Bool × Bool × (X × List AV) × (X × List AV)) := match dec f_s_l3Negate_h0 σ with
  | some [.l g2, .i out5, .l l6, .i i7] => some (isOne (loopL (f_s_l3Negate_r0 g2) (out5, l6, i7)), true, f_s_l3Negate_x0_1 g2 (getOne 0 (loopL (f_s_l3Negate_r0 g2) (out5, l6, i7))), (.ret, []))
  | _ => none
theorem f_s_l3Negate_tt0 : TTrue Try.prog f_s_l3Negate_F Try.f172 0 (f_s_l3Negate_t0) := by
  intro σ p r r' h
  unfold f_s_l3Negate_t0 at h
  split at h
  · rename_i hd
    rw [← dec_enc hd]
    exact row1 (f_s_l3Negate_l0 _ _) h
  · cases h
theorem f_s_l3Negate_p {R : Type} (g0 : List Sc) (a1 : Int) (kR : Int → Option R) : f_s_l3Negate_k g0 a1 kR = (f_s_l3Negate_k g0 a1 some).bind kR := by
  simp only [f_s_l3Negate_k, boB, bl1B, someB]
theorem f_s_l3Negate_e (g0 : List Sc) (a1 : Int) : runFn E0 f_s_l3Negate_M H0 f_s_l3Negate_F (asL (addL 0 (f_s_l3Negate_t0) (noL))) Try.f172 (f_s_l3Negate_a g0 a1) (f_s_l3Negate_i g0 a1) = f_s_l3Negate_k g0 a1 (fun r => some (f_s_l3Negate_en r)) := by kernel_rfl
theorem f_s_l3Negate_ok (g0 : List Sc) (a1 : Int) (r : Int) (h : f_s_l3Negate g0 a1 = some r) : CS Try.prog 172 (f_s_l3Negate_a g0 a1) (f_s_l3Negate_i g0 a1) (f_s_l3Negate_en r).1 (f_s_l3Negate_en r).2 :=
  fn_true (Gk := fun k => f_s_l3Negate_k g0 a1 k) (en := f_s_l3Negate_en) Try.func172 E0ok f_s_l3Negate_Mt (addL_true (f_s_l3Negate_tt0) (noL_true)) f_s_l3Negate_o (f_s_l3Negate_e g0 a1) (f_s_l3Negate_p g0 a1) h
def f_s_l3Negate_c : CRow := fun args inh => match dec2 [.p .gr, .p (.int .i64)] [] args inh with
  | some ([.l g0, .i a1], []) => some ((f_s_l3Negate g0 a1).isSome, (f_s_l3Negate_en ((f_s_l3Negate g0 a1).getD 0)).1, (f_s_l3Negate_en ((f_s_l3Negate g0 a1).getD 0)).2)
  | _ => none
theorem f_s_l3Negate_cc : CTrue Try.prog 172 f_s_l3Negate_c := by
  intro args inh rs out h
  unfold f_s_l3Negate_c at h
  split at h
  · rename_i hd
    obtain ⟨h1, h2⟩ := dec2_enc hd
    rw [← h1, ← h2]
    exact rowC (f_s_l3Negate_ok _ _) h
  · cases h

def f_s_CorrelationOf_F : Fi := { nv := 0, nc := 0, m := 0, vt := [], kl := [], sk := [], mvs := [], fz := [] }
def f_s_CorrelationOf_a (g0 : List Sc) (a1 : Int) (b2 : Int) : List AV := enc [.p .gr, .p (.int .i64), .p (.int .i64)] [.l g0, .i a1, .i b2]
def f_s_CorrelationOf_i (g0 : List Sc) (a1 : Int) (b2 : Int) : List AV := enc [] []
def f_s_CorrelationOf_en (r : List Sc) : List AV × List AV := (enc [.p (.al 0)] [], enc [.own 3] [.l r])
def f_s_CorrelationOf_M : Calling := addC 124 f_s_IsSet_c (addC 172 f_s_l3Negate_c (addC 161 f_s_SumTable_c (noC)))
theorem f_s_CorrelationOf_Mt : CallOk Try.prog (f_s_CorrelationOf_M) := addC_true f_s_IsSet_cc (addC_true f_s_l3Negate_cc (addC_true f_s_SumTable_cc (noC_true)))
theorem f_s_CorrelationOf_o : loopsOnce Try.f60 = true := by kernel_rfl
theorem f_s_CorrelationOf_p {R : Type} (g0 : List Sc) (a1 : Int) (b2 : Int) (kR : List Sc → Option R) : f_s_CorrelationOf_k g0 a1 b2 kR = (f_s_CorrelationOf_k g0 a1 b2 some).bind kR := by
  simp only [f_s_CorrelationOf_k, brB, boB, someB]
theorem f_s_CorrelationOf_e (g0 : List Sc) (a1 : Int) (b2 : Int) : runFn E0 f_s_CorrelationOf_M H0 f_s_CorrelationOf_F (asL (noL)) Try.f60 (f_s_CorrelationOf_a g0 a1 b2) (f_s_CorrelationOf_i g0 a1 b2) = f_s_CorrelationOf_k g0 a1 b2 (fun r => some (f_s_CorrelationOf_en r)) := by kernel_rfl
theorem f_s_CorrelationOf_ok (g0 : List Sc) (a1 : Int) (b2 : Int) (r : List Sc) (h : f_s_CorrelationOf g0 a1 b2 = some r) : CS Try.prog 60 (f_s_CorrelationOf_a g0 a1 b2) (f_s_CorrelationOf_i g0 a1 b2) (f_s_CorrelationOf_en r).1 (f_s_CorrelationOf_en r).2 :=
  fn_true (Gk := fun k => f_s_CorrelationOf_k g0 a1 b2 k) (en := f_s_CorrelationOf_en) Try.func60 E0ok f_s_CorrelationOf_Mt (noL_true) f_s_CorrelationOf_o (f_s_CorrelationOf_e g0 a1 b2) (f_s_CorrelationOf_p g0 a1 b2) h
def f_s_CorrelationOf_c : CRow := fun args inh => match dec2 [.p .gr, .p (.int .i64), .p (.int .i64)] [] args inh with
  | some ([.l g0, .i a1, .i b2], []) => some ((f_s_CorrelationOf g0 a1 b2).isSome, (f_s_CorrelationOf_en ((f_s_CorrelationOf g0 a1 b2).getD [])).1, (f_s_CorrelationOf_en ((f_s_CorrelationOf g0 a1 b2).getD [])).2)
  | _ => none
theorem f_s_CorrelationOf_cc : CTrue Try.prog 60 f_s_CorrelationOf_c := by
  intro args inh rs out h
  unfold f_s_CorrelationOf_c at h
  split at h
  · rename_i hd
    obtain ⟨h1, h2⟩ := dec2_enc hd
    rw [← h1, ← h2]
    exact rowC (f_s_CorrelationOf_ok _ _ _) h
  · cases h

def f_s_EnergyOf_F : Fi := { nv := 0, nc := 0, m := 0, vt := [], kl := [(0, ([0, 1, 2, 3, 4, 5, 6, 10, 11, 12, 13, 14, 15, 16, 17, 18, 19, 20, 21, 22, 23, 24, 25, 26, 27, 28, 29, 30, 31, 32, 33, 34], [0, 1, 2, 3, 4, 5, 6, 7, 9, 10, 11, 12, 13, 14, 15, 16, 17, 18, 19, 20, 21, 22, 23, 24, 25, 26, 27, 28, 29, 30, 31, 32, 33, 34], [0, 1, 2, 3, 4, 5, 7, 8, 9, 10, 11, 12, 13, 14, 15, 16, 17, 18, 19, 20, 21, 22, 23, 24, 25, 26, 27, 28, 29, 30, 31, 32, 33, 34]))], sk := [], mvs := [], fz := [] }
def f_s_EnergyOf_a (g0 : List Sc) (a1 : Int) (b2 : Int) : List AV := enc [.p .gr, .p (.int .i64), .p (.int .i64)] [.l g0, .i a1, .i b2]
def f_s_EnergyOf_i (g0 : List Sc) (a1 : Int) (b2 : Int) : List AV := enc [] []
def f_s_EnergyOf_en (r : Int) : List AV × List AV := (enc [.p (.int .i64)] [.i r], enc [] [])
def f_s_EnergyOf_M : Calling := addC 161 f_s_SumTable_c (noC)
theorem f_s_EnergyOf_Mt : CallOk Try.prog (f_s_EnergyOf_M) := addC_true f_s_SumTable_cc (noC_true)
theorem f_s_EnergyOf_o : loopsOnce Try.f61 = true := by kernel_rfl
def f_s_EnergyOf_h0 : List Sh := [.u, .u, .u, .u, .u, .u, .u, .own 3, .p (.int .i64), .p (.int .i64), .u, .u, .u, .u, .u, .u, .u, .u, .u, .u, .u, .u, .u, .u, .u, .u, .u, .u, .u, .u, .u, .u, .u, .u, .u]
def f_s_EnergyOf_fr0 (s : List Sc × Int × Int) : List AV := enc f_s_EnergyOf_h0 [.l s.1, .i s.2.1, .i s.2.2]
def f_s_EnergyOf_g0_1 : List Sh := [.u, .u, .u, .u, .u, .u, .u, .u, .p (.int .i64), .u, .u, .u, .u, .u, .u, .u, .u, .u, .u, .u, .u, .u, .u, .u, .u, .u, .u, .u, .u, .u, .u, .u, .u, .u, .u]
def f_s_EnergyOf_x0_1 (e : Int) : X × List AV := (.out 0, enc f_s_EnergyOf_g0_1 [.i e])
def f_s_EnergyOf_x0_2 (_e : Unit) : X × List AV := (.ret, [])
theorem f_s_EnergyOf_p0 {R : Type} (s : List Sc × Int × Int) (kN : List Sc × Int × Int → Option R) (kA : Int → Option R) (kB : Unit → Option R) : f_s_EnergyOf_k0 s.1 s.2.1 s.2.2 kN kA = (f_s_EnergyOf_r0 s).bind (Ro.el kN kA kB) := by
  simp only [f_s_EnergyOf_k0, f_s_EnergyOf_r0, brB, someB, noneB, Ro.el]
theorem f_s_EnergyOf_e0 (s : List Sc × Int × Int) : EC E0 f_s_EnergyOf_M H0 f_s_EnergyOf_F (asL (noL)) 0 (bodyOf Try.f61 0) (f_s_EnergyOf_fr0 s) (done (klOf f_s_EnergyOf_F 0)) = f_s_EnergyOf_k0 s.1 s.2.1 s.2.2 (fun s => some (.norm, f_s_EnergyOf_fr0 s)) (fun e => some (f_s_EnergyOf_x0_1 e)) := by kernel_rfl
theorem f_s_EnergyOf_l0 : ∀ s r, loopL (f_s_EnergyOf_r0) s = some r → LS Try.prog f_s_EnergyOf_F (bodyOf Try.f61 0) (f_s_EnergyOf_fr0 s) (enX (f_s_EnergyOf_x0_1) (f_s_EnergyOf_x0_2) r) :=
  loop_true E0ok f_s_EnergyOf_Mt (noL_true) f_s_EnergyOf_o (fun _ h => by cases h) (fun _ h => by cases h) (fun s => (f_s_EnergyOf_e0 s).trans (f_s_EnergyOf_p0 s _ _ (fun e => some (f_s_EnergyOf_x0_2 e))))
def f_s_EnergyOf_t0 (σ : List AV) : Option (Bool × Bool × (X × List AV) × (X × List AV)) := match dec f_s_EnergyOf_h0 σ with
  | some [.l t7, .i n8, .i i9] => some (isOne (loopL (f_s_EnergyOf_r0) (t7, n8, i9)), true, f_s_EnergyOf_x0_1 (getOne 0 (loopL (f_s_EnergyOf_r0) (t7, n8, i9))), (.ret, []))
  | _ => none
theorem f_s_EnergyOf_tt0 : TTrue Try.prog f_s_EnergyOf_F Try.f61 0 (f_s_EnergyOf_t0) := by
  intro σ p r r' h
  unfold f_s_EnergyOf_t0 at h
  split at h
  · rename_i hd
    rw [← dec_enc hd]
    exact row1 (f_s_EnergyOf_l0 _) h
  · cases h
theorem f_s_EnergyOf_p {R : Type} (g0 : List Sc) (a1 : Int) (b2 : Int) (kR : Int → Option R) : f_s_EnergyOf_k g0 a1 b2 kR = (f_s_EnergyOf_k g0 a1 b2 some).bind kR := by
  simp only [f_s_EnergyOf_k, brB, boB, bl1B, someB]
theorem f_s_EnergyOf_e (g0 : List Sc) (a1 : Int) (b2 : Int) : runFn E0 f_s_EnergyOf_M H0 f_s_EnergyOf_F (asL (addL 0 (f_s_EnergyOf_t0) (noL))) Try.f61 (f_s_EnergyOf_a g0 a1 b2) (f_s_EnergyOf_i g0 a1 b2) = f_s_EnergyOf_k g0 a1 b2 (fun r => some (f_s_EnergyOf_en r)) := by kernel_rfl
theorem f_s_EnergyOf_ok (g0 : List Sc) (a1 : Int) (b2 : Int) (r : Int) (h : f_s_EnergyOf g0 a1 b2 = some r) : CS Try.prog 61 (f_s_EnergyOf_a g0 a1 b2) (f_s_EnergyOf_i g0 a1 b2) (f_s_EnergyOf_en r).1 (f_s_EnergyOf_en r).2 :=
  fn_true (Gk := fun k => f_s_EnergyOf_k g0 a1 b2 k) (en := f_s_EnergyOf_en) Try.func61 E0ok f_s_EnergyOf_Mt (addL_true (f_s_EnergyOf_tt0) (noL_true)) f_s_EnergyOf_o (f_s_EnergyOf_e g0 a1 b2) (f_s_EnergyOf_p g0 a1 b2) h
def f_s_EnergyOf_c : CRow := fun args inh => match dec2 [.p .gr, .p (.int .i64), .p (.int .i64)] [] args inh with
  | some ([.l g0, .i a1, .i b2], []) => some ((f_s_EnergyOf g0 a1 b2).isSome, (f_s_EnergyOf_en ((f_s_EnergyOf g0 a1 b2).getD 0)).1, (f_s_EnergyOf_en ((f_s_EnergyOf g0 a1 b2).getD 0)).2)
  | _ => none
theorem f_s_EnergyOf_cc : CTrue Try.prog 61 f_s_EnergyOf_c := by
  intro args inh rs out h
  unfold f_s_EnergyOf_c at h
  split at h
  · rename_i hd
    obtain ⟨h1, h2⟩ := dec2_enc hd
    rw [← h1, ← h2]
    exact rowC (f_s_EnergyOf_ok _ _ _) h
  · cases h

def f_l_FnEnergies_F : Fi := { nv := 9, nc := 6, m := 0, vt := [(3, 0), (7, 1), (13, 2), (18, 3), (22, 4), (25, 5), (160, 6)], kl := [(200003, ([0, 1, 2, 3, 4, 5, 6, 7, 8, 10, 11, 12, 13, 14, 15, 16, 17, 18, 19, 20, 21, 22, 23, 24, 25, 26, 27, 28, 29, 30, 31, 32, 33, 34, 35, 36, 37, 38, 39, 40, 41, 42, 43, 44, 45, 46, 47, 48, 49, 50, 51, 52, 53, 54, 55, 56, 57, 58, 59, 60, 61, 62, 63, 64, 65, 66, 67, 68, 69, 70, 71, 72, 73, 74, 75, 76, 77, 78, 79, 80, 81, 82, 83, 84, 85, 86, 87, 88, 89, 90, 91, 92, 93, 94, 95, 96, 97, 98, 99, 100, 101, 102, 103, 104, 105, 106, 107, 108, 109, 110, 111, 112, 113, 114, 115, 116, 117, 118, 119, 120, 121, 122, 123, 124, 125, 126, 127, 128, 129, 130, 131, 132, 133, 134, 135, 136, 137, 138, 139, 140, 141, 142, 143, 144, 145, 146, 147, 148, 149, 150, 151, 152, 153, 154, 155, 156, 157, 158, 159, 160, 161, 162, 163, 164, 165, 166, 167, 168, 169, 170, 171, 172, 173, 174, 175, 176, 177, 178, 179, 180, 181, 182, 183, 184, 185, 186, 187, 188, 189, 190, 191, 192, 193, 194, 195, 196, 197, 198, 199, 200, 201, 202, 203, 204, 205, 206, 207, 208, 209, 210, 211, 212, 213, 214, 215, 216, 217, 218, 219, 220, 221, 222, 223, 224, 225, 226, 227, 228, 229, 230, 231], [], [0, 1, 2, 3, 4, 5, 6, 7, 8, 9, 10, 12, 13, 14, 15, 16, 17, 18, 19, 20, 21, 22, 23, 24, 25, 26, 27, 28, 29, 30, 31, 32, 33, 34, 35, 36, 37, 38, 39, 40, 41, 42, 43, 44, 45, 46, 47, 48, 49, 50, 51, 52, 53, 54, 55, 56, 57, 58, 59, 60, 61, 62, 63, 64, 65, 66, 67, 68, 69, 70, 71, 72, 73, 74, 75, 76, 77, 78, 79, 80, 81, 82, 83, 84, 85, 86, 87, 88, 89, 90, 91, 92, 93, 94, 95, 96, 97, 98, 99, 100, 101, 102, 103, 104, 105, 106, 107, 108, 109, 110, 111, 112, 113, 114, 115, 116, 117, 118, 119, 120, 121, 122, 123, 124, 125, 126, 127, 128, 129, 130, 131, 132, 133, 134, 135, 136, 137, 138, 139, 140, 141, 142, 143, 144, 145, 146, 147, 148, 149, 150, 151, 152, 153, 154, 155, 156, 157, 158, 159, 160, 161, 162, 163, 164, 165, 166, 167, 168, 169, 170, 171, 172, 173, 174, 175, 176, 177, 178, 179, 180, 181, 182, 183, 184, 185, 186, 187, 188, 189, 190, 191, 192, 193, 194, 195, 196, 197, 198, 199, 200, 201, 202, 203, 204, 205, 206, 207, 208, 209, 210, 211, 212, 213, 214, 215, 216, 217, 218, 219, 220, 221, 222, 223, 224, 225, 226, 227, 228, 229, 230, 231])), (200007, ([1, 2, 3, 4, 5, 6, 7, 8, 10, 11, 15, 16, 17, 18, 19, 20, 21, 22, 23, 24, 25, 26, 27, 28, 29, 30, 31, 32, 33, 34, 35, 36, 37, 38, 39, 40, 41, 42, 43, 44, 45, 46, 47, 48, 49, 50, 51, 52, 53, 54, 55, 56, 57, 58, 59, 60, 61, 62, 63, 64, 65, 66, 67, 68, 69, 70, 71, 72, 73, 74, 75, 76, 77, 78, 79, 80, 81, 82, 83, 84, 85, 86, 87, 88, 89, 90, 91, 92, 93, 94, 95, 96, 97, 98, 99, 100, 101, 102, 103, 104, 105, 106, 107, 108, 109, 110, 111, 112, 113, 114, 115, 116, 117, 118, 119, 120, 121, 122, 123, 124, 125, 126, 127, 128, 129, 130, 131, 132, 133, 134, 135, 136, 137, 138, 139, 140, 141, 142, 143, 144, 145, 146, 147, 148, 149, 150, 151, 152, 153, 154, 155, 156, 157, 158, 159, 160, 161, 162, 163, 164, 165, 166, 167, 168, 169, 170, 171, 172, 173, 174, 175, 176, 177, 178, 179, 180, 181, 182, 183, 184, 185, 186, 187, 188, 189, 190, 191, 192, 193, 194, 195, 196, 197, 198, 199, 200, 201, 202, 203, 204, 205, 206, 207, 208, 209, 210, 211, 212, 213, 214, 215, 216, 217, 218, 219, 220, 221, 222, 223, 224, 225, 226, 227, 228, 229, 230, 231], [], [0, 1, 2, 3, 4, 5, 6, 7, 8, 9, 10, 12, 13, 14, 15, 16, 17, 18, 19, 20, 21, 22, 23, 24, 25, 26, 27, 28, 29, 30, 31, 32, 33, 34, 35, 36, 37, 38, 39, 40, 41, 42, 43, 44, 45, 46, 47, 48, 49, 50, 51, 52, 53, 54, 55, 56, 57, 58, 59, 60, 61, 62, 63, 64, 65, 66, 67, 68, 69, 70, 71, 72, 73, 74, 75, 76, 77, 78, 79, 80, 81, 82, 83, 84, 85, 86, 87, 88, 89, 90, 91, 92, 93, 94, 95, 96, 97, 98, 99, 100, 101, 102, 103, 104, 105, 106, 107, 108, 109, 110, 111, 112, 113, 114, 115, 116, 117, 118, 119, 120, 121, 122, 123, 124, 125, 126, 127, 128, 129, 130, 131, 132, 133, 134, 135, 136, 137, 138, 139, 140, 141, 142, 143, 144, 145, 146, 147, 148, 149, 150, 151, 152, 153, 154, 155, 156, 157, 158, 159, 160, 161, 162, 163, 164, 165, 166, 167, 168, 169, 170, 171, 172, 173, 174, 175, 176, 177, 178, 179, 180, 181, 182, 183, 184, 185, 186, 187, 188, 189, 190, 191, 192, 193, 194, 195, 196, 197, 198, 199, 200, 201, 202, 203, 204, 205, 206, 207, 208, 209, 210, 211, 212, 213, 214, 215, 216, 217, 218, 219, 220, 221, 222, 223, 224, 225, 226, 227, 228, 229, 230, 231])), (200011, ([0, 1, 2, 3, 4, 5, 6, 7, 8, 10, 11, 12, 13, 14, 15, 16, 17, 18, 19, 20, 21, 22, 23, 24, 25, 26, 27, 28, 29, 30, 31, 32, 33, 34, 35, 36, 37, 38, 39, 40, 41, 42, 43, 44, 45, 46, 47, 48, 49, 50, 51, 52, 53, 54, 55, 56, 57, 58, 59, 60, 61, 62, 63, 64, 65, 66, 67, 68, 69, 70, 71, 72, 73, 74, 75, 76, 77, 78, 79, 80, 81, 82, 83, 84, 85, 86, 87, 88, 89, 90, 91, 92, 93, 94, 95, 96, 97, 98, 99, 100, 101, 102, 103, 104, 105, 106, 107, 108, 109, 110, 111, 112, 113, 114, 115, 116, 117, 118, 119, 120, 121, 122, 123, 124, 125, 126, 127, 128, 129, 130, 131, 132, 133, 134, 135, 136, 137, 138, 139, 140, 141, 142, 143, 144, 145, 146, 147, 148, 149, 150, 151, 152, 153, 154, 155, 156, 157, 158, 159, 160, 161, 162, 163, 164, 165, 166, 167, 168, 169, 170, 171, 172, 173, 174, 175, 176, 177, 178, 179, 180, 181, 182, 183, 184, 185, 186, 187, 188, 189, 190, 191, 192, 193, 194, 195, 196, 197, 198, 199, 200, 201, 202, 203, 204, 205, 206, 207, 208, 209, 210, 211, 212, 213, 214, 215, 216, 217, 218, 219, 220, 221, 222, 223, 224, 225, 226, 227, 228, 229, 230, 231], [], [0, 1, 2, 3, 4, 5, 6, 7, 8, 9, 10, 12, 13, 14, 15, 16, 17, 18, 19, 20, 21, 22, 23, 24, 25, 26, 27, 28, 29, 30, 31, 32, 33, 34, 35, 36, 37, 38, 39, 40, 41, 42, 43, 44, 45, 46, 47, 48, 49, 50, 51, 52, 53, 54, 55, 56, 57, 58, 59, 60, 61, 62, 63, 64, 65, 66, 67, 68, 69, 70, 71, 72, 73, 74, 75, 76, 77, 78, 79, 80, 81, 82, 83, 84, 85, 86, 87, 88, 89, 90, 91, 92, 93, 94, 95, 96, 97, 98, 99, 100, 101, 102, 103, 104, 105, 106, 107, 108, 109, 110, 111, 112, 113, 114, 115, 116, 117, 118, 119, 120, 121, 122, 123, 124, 125, 126, 127, 128, 129, 130, 131, 132, 133, 134, 135, 136, 137, 138, 139, 140, 141, 142, 143, 144, 145, 146, 147, 148, 149, 150, 151, 152, 153, 154, 155, 156, 157, 158, 159, 160, 161, 162, 163, 164, 165, 166, 167, 168, 169, 170, 171, 172, 173, 174, 175, 176, 177, 178, 179, 180, 181, 182, 183, 184, 185, 186, 187, 188, 189, 190, 191, 192, 193, 194, 195, 196, 197, 198, 199, 200, 201, 202, 203, 204, 205, 206, 207, 208, 209, 210, 211, 212, 213, 214, 215, 216, 217, 218, 219, 220, 221, 222, 223, 224, 225, 226, 227, 228, 229, 230, 231])), (200016, ([0, 1, 2, 3, 4, 5, 6, 7, 8, 10, 11, 12, 13, 14, 15, 16, 17, 18, 19, 20, 21, 22, 23, 24, 25, 26, 27, 28, 29, 30, 31, 32, 33, 34, 35, 36, 37, 38, 39, 40, 41, 42, 43, 44, 45, 46, 47, 48, 49, 50, 51, 52, 53, 54, 55, 56, 57, 58, 59, 60, 61, 62, 63, 64, 65, 66, 67, 68, 69, 70, 71, 72, 73, 74, 75, 76, 77, 78, 79, 80, 81, 82, 83, 84, 85, 86, 87, 88, 89, 90, 91, 92, 93, 94, 95, 96, 97, 98, 99, 100, 101, 102, 103, 104, 105, 106, 107, 108, 109, 110, 111, 112, 113, 114, 115, 116, 117, 118, 119, 120, 121, 122, 123, 124, 125, 126, 127, 128, 129, 130, 131, 132, 133, 134, 135, 136, 137, 138, 139, 140, 141, 142, 143, 144, 145, 146, 147, 148, 149, 150, 151, 152, 153, 154, 155, 156, 157, 158, 159, 160, 161, 162, 163, 164, 165, 166, 167, 168, 169, 170, 171, 172, 173, 174, 175, 176, 177, 178, 179, 180, 181, 182, 183, 184, 185, 186, 187, 188, 189, 190, 191, 192, 193, 194, 195, 196, 197, 198, 199, 200, 201, 202, 203, 204, 205, 206, 207, 208, 209, 210, 211, 212, 213, 214, 215, 216, 217, 218, 219, 220, 221, 222, 223, 224, 225, 226, 227, 228, 229, 230, 231], [], [0, 1, 2, 3, 4, 5, 6, 7, 8, 9, 10, 12, 13, 14, 15, 16, 17, 18, 19, 20, 21, 22, 23, 24, 25, 26, 27, 28, 29, 30, 31, 32, 33, 34, 35, 36, 37, 38, 39, 40, 41, 42, 43, 44, 45, 46, 47, 48, 49, 50, 51, 52, 53, 54, 55, 56, 57, 58, 59, 60, 61, 62, 63, 64, 65, 66, 67, 68, 69, 70, 71, 72, 73, 74, 75, 76, 77, 78, 79, 80, 81, 82, 83, 84, 85, 86, 87, 88, 89, 90, 91, 92, 93, 94, 95, 96, 97, 98, 99, 100, 101, 102, 103, 104, 105, 106, 107, 108, 109, 110, 111, 112, 113, 114, 115, 116, 117, 118, 119, 120, 121, 122, 123, 124, 125, 126, 127, 128, 129, 130, 131, 132, 133, 134, 135, 136, 137, 138, 139, 140, 141, 142, 143, 144, 145, 146, 147, 148, 149, 150, 151, 152, 153, 154, 155, 156, 157, 158, 159, 160, 161, 162, 163, 164, 165, 166, 167, 168, 169, 170, 171, 172, 173, 174, 175, 176, 177, 178, 179, 180, 181, 182, 183, 184, 185, 186, 187, 188, 189, 190, 191, 192, 193, 194, 195, 196, 197, 198, 199, 200, 201, 202, 203, 204, 205, 206, 207, 208, 209, 210, 211, 212, 213, 214, 215, 216, 217, 218, 219, 220, 221, 222, 223, 224, 225, 226, 227, 228, 229, 230, 231])), (200020, ([0, 1, 2, 3, 4, 5, 6, 7, 8, 10, 11, 12, 13, 14, 15, 16, 17, 18, 19, 20, 21, 22, 23, 24, 25, 26, 27, 28, 29, 30, 31, 32, 33, 34, 35, 36, 37, 38, 39, 40, 41, 42, 43, 44, 45, 46, 47, 48, 49, 50, 51, 52, 53, 54, 55, 56, 57, 58, 59, 60, 61, 62, 63, 64, 65, 66, 67, 68, 69, 70, 71, 72, 73, 74, 75, 76, 77, 78, 79, 80, 81, 82, 83, 84, 85, 86, 87, 88, 89, 90, 91, 92, 93, 94, 95, 96, 97, 98, 99, 100, 101, 102, 103, 104, 105, 106, 107, 108, 109, 110, 111, 112, 113, 114, 115, 116, 117, 118, 119, 120, 121, 122, 123, 124, 125, 126, 127, 128, 129, 130, 131, 132, 133, 134, 135, 136, 137, 138, 139, 140, 141, 142, 143, 144, 145, 146, 147, 148, 149, 150, 151, 152, 153, 154, 155, 156, 157, 158, 159, 160, 161, 162, 163, 164, 165, 166, 167, 168, 169, 170, 171, 172, 173, 174, 175, 176, 177, 178, 179, 180, 181, 182, 183, 184, 185, 186, 187, 188, 189, 190, 191, 192, 193, 194, 195, 196, 197, 198, 199, 200, 201, 202, 203, 204, 205, 206, 207, 208, 209, 210, 211, 212, 213, 214, 215, 216, 217, 218, 219, 220, 221, 222, 223, 224, 225, 226, 227, 228, 229, 230, 231], [], [0, 1, 2, 3, 4, 5, 6, 7, 8, 9, 10, 12, 13, 14, 15, 16, 17, 18, 19, 20, 21, 22, 23, 24, 25, 26, 27, 28, 29, 30, 31, 32, 33, 34, 35, 36, 37, 38, 39, 40, 41, 42, 43, 44, 45, 46, 47, 48, 49, 50, 51, 52, 53, 54, 55, 56, 57, 58, 59, 60, 61, 62, 63, 64, 65, 66, 67, 68, 69, 70, 71, 72, 73, 74, 75, 76, 77, 78, 79, 80, 81, 82, 83, 84, 85, 86, 87, 88, 89, 90, 91, 92, 93, 94, 95, 96, 97, 98, 99, 100, 101, 102, 103, 104, 105, 106, 107, 108, 109, 110, 111, 112, 113, 114, 115, 116, 117, 118, 119, 120, 121, 122, 123, 124, 125, 126, 127, 128, 129, 130, 131, 132, 133, 134, 135, 136, 137, 138, 139, 140, 141, 142, 143, 144, 145, 146, 147, 148, 149, 150, 151, 152, 153, 154, 155, 156, 157, 158, 159, 160, 161, 162, 163, 164, 165, 166, 167, 168, 169, 170, 171, 172, 173, 174, 175, 176, 177, 178, 179, 180, 181, 182, 183, 184, 185, 186, 187, 188, 189, 190, 191, 192, 193, 194, 195, 196, 197, 198, 199, 200, 201, 202, 203, 204, 205, 206, 207, 208, 209, 210, 211, 212, 213, 214, 215, 216, 217, 218, 219, 220, 221, 222, 223, 224, 225, 226, 227, 228, 229, 230, 231]))], sk := [], mvs := [6, 7, 8], fz := [], tl := [3, 7, 11, 16, 20] }
def f_l_FnEnergies_a (L0 : List Sc) : List AV := enc [.p .sl] [.l L0]
def f_l_FnEnergies_i (L0 : List Sc) : List AV := enc [] []
def f_l_FnEnergies_en (r : Bool) : List AV × List AV := (enc [.p .boo] [.b r], enc [] [])
def f_l_FnEnergies_M : Calling := addC 9 f_l_big_c (addC 43 f_s_DrawQuadruplesOf_c (addC 44 f_i_QuadruplesOf_c (addC 45 f_s_QuadruplesOf_c (addC 46 f_i_EnergyOf_c (addC 18 f_s_CountSet_c (addC 47 f_s_DrawPopularSums_c (addC 48 f_i_PopularSums_c (addC 49 f_s_PopularSums_c (addC 50 f_s_SumOfSets_c (addC 51 f_s_DrawTripleCount_c (addC 52 f_i_TripleCount_c (addC 53 f_s_TripleCount_c (addC 54 f_s_DrawConvolveTables_c (addC 55 f_i_ConvolveTables_c (addC 56 f_s_DrawCorrelationOf_c (addC 57 f_s_DrawEnergyOf_c (addC 58 f_s_ConvolveTables_c (addC 24 f_l_sameInts_c (addC 25 f_l_total_c (addC 59 f_i_CorrelationOf_c (addC 60 f_s_CorrelationOf_c (addC 61 f_s_EnergyOf_c (noC)))))))))))))))))))))))
theorem f_l_FnEnergies_Mt : CallOk Try.prog (f_l_FnEnergies_M) := addC_true f_l_big_cc (addC_true f_s_DrawQuadruplesOf_cc (addC_true f_i_QuadruplesOf_cc (addC_true f_s_QuadruplesOf_cc (addC_true f_i_EnergyOf_cc (addC_true f_s_CountSet_cc (addC_true f_s_DrawPopularSums_cc (addC_true f_i_PopularSums_cc (addC_true f_s_PopularSums_cc (addC_true f_s_SumOfSets_cc (addC_true f_s_DrawTripleCount_cc (addC_true f_i_TripleCount_cc (addC_true f_s_TripleCount_cc (addC_true f_s_DrawConvolveTables_cc (addC_true f_i_ConvolveTables_cc (addC_true f_s_DrawCorrelationOf_cc (addC_true f_s_DrawEnergyOf_cc (addC_true f_s_ConvolveTables_cc (addC_true f_l_sameInts_cc (addC_true f_l_total_cc (addC_true f_i_CorrelationOf_cc (addC_true f_s_CorrelationOf_cc (addC_true f_s_EnergyOf_cc (noC_true)))))))))))))))))))))))
theorem f_l_FnEnergies_o : loopsOnce Try.f5 = true := by kernel_rfl
def f_l_FnEnergies_hw20 : List Sh := [.u, .u, .u, .u, .u, .u, .u, .u, .u, .p .sl, .u, .u, .u, .u, .u, .u, .u, .u, .u, .u, .u, .u, .u, .u, .u, .u, .u, .u, .u, .u, .u, .u, .u, .u, .u, .u, .u, .u, .u, .u, .u, .u, .u, .u, .u, .u, .u, .u, .u, .u, .u, .u, .u, .u, .u, .u, .u, .u, .u, .u, .u, .u, .u, .u, .u, .u, .u, .u, .u, .u, .u, .u, .u, .u, .u, .u, .u, .u, .u, .u, .u, .u, .u, .u, .u, .u, .u, .u, .u, .u, .u, .u, .u, .u, .u, .u, .u, .u, .u, .u, .u, .u, .u, .u, .u, .u, .u, .u, .u, .u, .u, .u, .u, .u, .u, .u, .u, .u, .u, .u, .u, .u, .u, .u, .u, .u, .u, .u, .u, .u, .u, .u, .u, .u, .u, .u, .u, .u, .u, .u, .u, .u, .u, .u, .u, .u, .u, .u, .u, .u, .u, .u, .u, .u, .u, .u, .u, .u, .u, .u, .u, .u, .u, .u, .u, .u, .u, .u, .u, .u, .u, .u, .u, .u, .u, .u, .u, .u, .u, .u, .u, .u, .u, .u, .u, .u, .u, .u, .u, .u, .u, .u, .u, .u, .u, .u, .u, .u, .u, .u, .u, .u, .u, .u, .u, .u, .u, .u, .u, .u, .u, .u, .u, .u, .u, .u, .u, .u, .u, .u, .u, .u, .u, .u, .u, .u, .u, .u, .u, .u, .u, .u]
def f_l_FnEnergies_frw20 (t0 : List Sc) : List AV := enc f_l_FnEnergies_hw20 [.l t0]
def f_l_FnEnergies_xw20 (t0 : List Sc) (e : Bool) : X × List AV := (.norm, enc [.u, .u, .u, .u, .u, .u, .u, .u, .u, .u, .u, .p .boo, .u, .u, .u, .u, .u, .u, .u, .u, .u, .u, .u, .u, .u, .u, .u, .u, .u, .u, .u, .u, .u, .u, .u, .u, .u, .u, .u, .u, .u, .u, .u, .u, .u, .u, .u, .u, .u, .u, .u, .u, .u, .u, .u, .u, .u, .u, .u, .u, .u, .u, .u, .u, .u, .u, .u, .u, .u, .u, .u, .u, .u, .u, .u, .u, .u, .u, .u, .u, .u, .u, .u, .u, .u, .u, .u, .u, .u, .u, .u, .u, .u, .u, .u, .u, .u, .u, .u, .u, .u, .u, .u, .u, .u, .u, .u, .u, .u, .u, .u, .u, .u, .u, .u, .u, .u, .u, .u, .u, .u, .u, .u, .u, .u, .u, .u, .u, .u, .u, .u, .u, .u, .u, .u, .u, .u, .u, .u, .u, .u, .u, .u, .u, .u, .u, .u, .u, .u, .u, .u, .u, .u, .u, .u, .u, .u, .u, .u, .u, .u, .u, .u, .u, .u, .u, .u, .u, .u, .u, .u, .u, .u, .u, .u, .u, .u, .u, .u, .u, .u, .u, .u, .u, .u, .u, .u, .u, .u, .u, .u, .u, .u, .u, .u, .u, .u, .u, .u, .u, .u, .u, .u, .u, .u, .u, .u, .u, .u, .u, .u, .u, .u, .u, .u, .u, .u, .u, .u, .u, .u, .u, .u, .u, .u, .u, .u, .u, .u, .u, .u, .u] [.b e])
theorem f_l_FnEnergies_pw20 {R : Type} (t0 : List Sc) (kA : Bool → Option R) : f_l_FnEnergies_w20_k t0 kA = (f_l_FnEnergies_w20 t0).bind kA := by
  simp only [f_l_FnEnergies_w20_k, f_l_FnEnergies_w20, brB, boB, someB]
theorem f_l_FnEnergies_bw20 : bodyOf Try.f5 200020 = .block 0 (codeIn (bodyOf Try.f5 200020)) := by kernel_rfl
theorem f_l_FnEnergies_ew20 (t0 : List Sc) : EC E0 f_l_FnEnergies_M H0 f_l_FnEnergies_F (asL (noL)) 0 (codeIn (bodyOf Try.f5 200020)) (f_l_FnEnergies_frw20 t0) (doneT (klOf f_l_FnEnergies_F 200020).2.2) = f_l_FnEnergies_w20_k t0 (fun e => some (f_l_FnEnergies_xw20 t0 e)) := by kernel_rfl
theorem f_l_FnEnergies_lw20 (t0 : List Sc) (r : Bool) (h : f_l_FnEnergies_w20 t0 = some r) : LS Try.prog f_l_FnEnergies_F (bodyOf Try.f5 200020) (f_l_FnEnergies_frw20 t0) (f_l_FnEnergies_xw20 t0 r) :=
  tail_true (S := Unit) (id := 20) (G := fun _ => f_l_FnEnergies_w20 t0) (Gk := fun _ k => f_l_FnEnergies_w20_k t0 k) (fr := fun _ => f_l_FnEnergies_frw20 t0) (f1 := fun e => f_l_FnEnergies_xw20 t0 e) E0ok f_l_FnEnergies_Mt (noL_true) f_l_FnEnergies_o f_l_FnEnergies_bw20 (fun _ => rfl) (fun _ => f_l_FnEnergies_ew20 t0) (fun _ k => f_l_FnEnergies_pw20 t0 k) () r h
def f_l_FnEnergies_tw20 (σ : List AV) : Option (Bool × Bool × (X × List AV) × (X × List AV)) := match dec f_l_FnEnergies_hw20 σ with
  | some [.l t0] => some ((f_l_FnEnergies_w20 t0).isSome, true, f_l_FnEnergies_xw20 t0 ((f_l_FnEnergies_w20 t0).getD false), (.ret, []))
  | _ => none
theorem f_l_FnEnergies_ttw20 : TTrue Try.prog f_l_FnEnergies_F Try.f5 200020 f_l_FnEnergies_tw20 := by
  intro σ p r r' h
  unfold f_l_FnEnergies_tw20 at h
  split at h
  · rename_i hd
    rw [← dec_enc hd]
    exact rowR (f_l_FnEnergies_lw20 _) h
  · cases h
def f_l_FnEnergies_hw16 : List Sh := [.u, .u, .u, .u, .u, .u, .u, .u, .u, .p .sl, .u, .u, .u, .u, .u, .u, .u, .u, .u, .u, .u, .u, .u, .u, .u, .u, .u, .u, .u, .u, .u, .u, .u, .u, .u, .u, .u, .u, .u, .u, .u, .u, .u, .u, .u, .u, .u, .u, .u, .u, .u, .u, .u, .u, .u, .u, .u, .u, .u, .u, .u, .u, .u, .u, .u, .u, .u, .u, .u, .u, .u, .u, .u, .u, .u, .u, .u, .u, .u, .u, .u, .u, .u, .u, .u, .u, .u, .u, .u, .u, .u, .u, .u, .u, .u, .u, .u, .u, .u, .u, .u, .u, .u, .u, .u, .u, .u, .u, .u, .u, .u, .u, .u, .u, .u, .u, .u, .u, .u, .u, .u, .u, .u, .u, .u, .u, .u, .u, .u, .u, .u, .u, .u, .u, .u, .u, .u, .u, .u, .u, .u, .u, .u, .u, .u, .u, .u, .u, .u, .u, .u, .u, .u, .u, .u, .u, .u, .u, .u, .u, .u, .u, .u, .u, .u, .u, .u, .u, .u, .u, .u, .u, .u, .u, .u, .u, .u, .u, .u, .u, .u, .u, .u, .u, .u, .u, .u, .u, .u, .u, .u, .u, .u, .u, .u, .u, .u, .u, .u, .u, .u, .u, .u, .u, .u, .u, .u, .u, .u, .u, .u, .u, .u, .u, .u, .u, .u, .u, .u, .u, .u, .u, .u, .u, .u, .u, .u, .u, .u, .u, .u, .u]
def f_l_FnEnergies_frw16 (t0 : List Sc) : List AV := enc f_l_FnEnergies_hw16 [.l t0]
def f_l_FnEnergies_xw16 (t0 : List Sc) (e : Bool) : X × List AV := (.norm, enc [.u, .u, .u, .u, .u, .u, .u, .u, .u, .u, .u, .p .boo, .u, .u, .u, .u, .u, .u, .u, .u, .u, .u, .u, .u, .u, .u, .u, .u, .u, .u, .u, .u, .u, .u, .u, .u, .u, .u, .u, .u, .u, .u, .u, .u, .u, .u, .u, .u, .u, .u, .u, .u, .u, .u, .u, .u, .u, .u, .u, .u, .u, .u, .u, .u, .u, .u, .u, .u, .u, .u, .u, .u, .u, .u, .u, .u, .u, .u, .u, .u, .u, .u, .u, .u, .u, .u, .u, .u, .u, .u, .u, .u, .u, .u, .u, .u, .u, .u, .u, .u, .u, .u, .u, .u, .u, .u, .u, .u, .u, .u, .u, .u, .u, .u, .u, .u, .u, .u, .u, .u, .u, .u, .u, .u, .u, .u, .u, .u, .u, .u, .u, .u, .u, .u, .u, .u, .u, .u, .u, .u, .u, .u, .u, .u, .u, .u, .u, .u, .u, .u, .u, .u, .u, .u, .u, .u, .u, .u, .u, .u, .u, .u, .u, .u, .u, .u, .u, .u, .u, .u, .u, .u, .u, .u, .u, .u, .u, .u, .u, .u, .u, .u, .u, .u, .u, .u, .u, .u, .u, .u, .u, .u, .u, .u, .u, .u, .u, .u, .u, .u, .u, .u, .u, .u, .u, .u, .u, .u, .u, .u, .u, .u, .u, .u, .u, .u, .u, .u, .u, .u, .u, .u, .u, .u, .u, .u, .u, .u, .u, .u, .u, .u] [.b e])
theorem f_l_FnEnergies_pw16 {R : Type} (t0 : List Sc) (kA : Bool → Option R) : f_l_FnEnergies_w16_k t0 kA = (f_l_FnEnergies_w16 t0).bind kA := by
  simp only [f_l_FnEnergies_w16_k, f_l_FnEnergies_w16, brB, boB, someB]
theorem f_l_FnEnergies_bw16 : bodyOf Try.f5 200016 = .block 0 (codeIn (bodyOf Try.f5 200016)) := by kernel_rfl
theorem f_l_FnEnergies_ew16 (t0 : List Sc) : EC E0 f_l_FnEnergies_M H0 f_l_FnEnergies_F (asL (addL 200020 f_l_FnEnergies_tw20 (noL))) 0 (codeIn (bodyOf Try.f5 200016)) (f_l_FnEnergies_frw16 t0) (doneT (klOf f_l_FnEnergies_F 200016).2.2) = f_l_FnEnergies_w16_k t0 (fun e => some (f_l_FnEnergies_xw16 t0 e)) := by kernel_rfl
theorem f_l_FnEnergies_lw16 (t0 : List Sc) (r : Bool) (h : f_l_FnEnergies_w16 t0 = some r) : LS Try.prog f_l_FnEnergies_F (bodyOf Try.f5 200016) (f_l_FnEnergies_frw16 t0) (f_l_FnEnergies_xw16 t0 r) :=
  tail_true (S := Unit) (id := 16) (G := fun _ => f_l_FnEnergies_w16 t0) (Gk := fun _ k => f_l_FnEnergies_w16_k t0 k) (fr := fun _ => f_l_FnEnergies_frw16 t0) (f1 := fun e => f_l_FnEnergies_xw16 t0 e) E0ok f_l_FnEnergies_Mt (addL_true f_l_FnEnergies_ttw20 (noL_true)) f_l_FnEnergies_o f_l_FnEnergies_bw16 (fun _ => rfl) (fun _ => f_l_FnEnergies_ew16 t0) (fun _ k => f_l_FnEnergies_pw16 t0 k) () r h
def f_l_FnEnergies_tw16 (σ : List AV) : Option (Bool × Bool × (X × List AV) × (X × List AV)) := match dec f_l_FnEnergies_hw16 σ with
  | some [.l t0] => some ((f_l_FnEnergies_w16 t0).isSome, true, f_l_FnEnergies_xw16 t0 ((f_l_FnEnergies_w16 t0).getD false), (.ret, []))
  | _ => none
theorem f_l_FnEnergies_ttw16 : TTrue Try.prog f_l_FnEnergies_F Try.f5 200016 f_l_FnEnergies_tw16 := by
  intro σ p r r' h
  unfold f_l_FnEnergies_tw16 at h
  split at h
  · rename_i hd
    rw [← dec_enc hd]
    exact rowR (f_l_FnEnergies_lw16 _) h
  · cases h
def f_l_FnEnergies_hw11 : List Sh := [.u, .u, .u, .u, .u, .u, .u, .u, .u, .p .sl, .u, .u, .u, .u, .u, .u, .u, .u, .u, .u, .u, .u, .u, .u, .u, .u, .u, .u, .u, .u, .u, .u, .u, .u, .u, .u, .u, .u, .u, .u, .u, .u, .u, .u, .u, .u, .u, .u, .u, .u, .u, .u, .u, .u, .u, .u, .u, .u, .u, .u, .u, .u, .u, .u, .u, .u, .u, .u, .u, .u, .u, .u, .u, .u, .u, .u, .u, .u, .u, .u, .u, .u, .u, .u, .u, .u, .u, .u, .u, .u, .u, .u, .u, .u, .u, .u, .u, .u, .u, .u, .u, .u, .u, .u, .u, .u, .u, .u, .u, .u, .u, .u, .u, .u, .u, .u, .u, .u, .u, .u, .u, .u, .u, .u, .u, .u, .u, .u, .u, .u, .u, .u, .u, .u, .u, .u, .u, .u, .u, .u, .u, .u, .u, .u, .u, .u, .u, .u, .u, .u, .u, .u, .u, .u, .u, .u, .u, .u, .u, .u, .u, .u, .u, .u, .u, .u, .u, .u, .u, .u, .u, .u, .u, .u, .u, .u, .u, .u, .u, .u, .u, .u, .u, .u, .u, .u, .u, .u, .u, .u, .u, .u, .u, .u, .u, .u, .u, .u, .u, .u, .u, .u, .u, .u, .u, .u, .u, .u, .u, .u, .u, .u, .u, .u, .u, .u, .u, .u, .u, .u, .u, .u, .u, .u, .u, .u, .u, .u, .u, .u, .u, .u]
def f_l_FnEnergies_frw11 (t0 : List Sc) : List AV := enc f_l_FnEnergies_hw11 [.l t0]
def f_l_FnEnergies_xw11 (t0 : List Sc) (e : Bool) : X × List AV := (.norm, enc [.u, .u, .u, .u, .u, .u, .u, .u, .u, .u, .u, .p .boo, .u, .u, .u, .u, .u, .u, .u, .u, .u, .u, .u, .u, .u, .u, .u, .u, .u, .u, .u, .u, .u, .u, .u, .u, .u, .u, .u, .u, .u, .u, .u, .u, .u, .u, .u, .u, .u, .u, .u, .u, .u, .u, .u, .u, .u, .u, .u, .u, .u, .u, .u, .u, .u, .u, .u, .u, .u, .u, .u, .u, .u, .u, .u, .u, .u, .u, .u, .u, .u, .u, .u, .u, .u, .u, .u, .u, .u, .u, .u, .u, .u, .u, .u, .u, .u, .u, .u, .u, .u, .u, .u, .u, .u, .u, .u, .u, .u, .u, .u, .u, .u, .u, .u, .u, .u, .u, .u, .u, .u, .u, .u, .u, .u, .u, .u, .u, .u, .u, .u, .u, .u, .u, .u, .u, .u, .u, .u, .u, .u, .u, .u, .u, .u, .u, .u, .u, .u, .u, .u, .u, .u, .u, .u, .u, .u, .u, .u, .u, .u, .u, .u, .u, .u, .u, .u, .u, .u, .u, .u, .u, .u, .u, .u, .u, .u, .u, .u, .u, .u, .u, .u, .u, .u, .u, .u, .u, .u, .u, .u, .u, .u, .u, .u, .u, .u, .u, .u, .u, .u, .u, .u, .u, .u, .u, .u, .u, .u, .u, .u, .u, .u, .u, .u, .u, .u, .u, .u, .u, .u, .u, .u, .u, .u, .u, .u, .u, .u, .u, .u, .u] [.b e])
theorem f_l_FnEnergies_pw11 {R : Type} (t0 : List Sc) (kA : Bool → Option R) : f_l_FnEnergies_w11_k t0 kA = (f_l_FnEnergies_w11 t0).bind kA := by
  simp only [f_l_FnEnergies_w11_k, f_l_FnEnergies_w11, brB, boB, someB]
theorem f_l_FnEnergies_bw11 : bodyOf Try.f5 200011 = .block 0 (codeIn (bodyOf Try.f5 200011)) := by kernel_rfl
theorem f_l_FnEnergies_ew11 (t0 : List Sc) : EC E0 f_l_FnEnergies_M H0 f_l_FnEnergies_F (asL (addL 200016 f_l_FnEnergies_tw16 (addL 200020 f_l_FnEnergies_tw20 (noL)))) 0 (codeIn (bodyOf Try.f5 200011)) (f_l_FnEnergies_frw11 t0) (doneT (klOf f_l_FnEnergies_F 200011).2.2) = f_l_FnEnergies_w11_k t0 (fun e => some (f_l_FnEnergies_xw11 t0 e)) := by kernel_rfl
theorem f_l_FnEnergies_lw11 (t0 : List Sc) (r : Bool) (h : f_l_FnEnergies_w11 t0 = some r) : LS Try.prog f_l_FnEnergies_F (bodyOf Try.f5 200011) (f_l_FnEnergies_frw11 t0) (f_l_FnEnergies_xw11 t0 r) :=
  tail_true (S := Unit) (id := 11) (G := fun _ => f_l_FnEnergies_w11 t0) (Gk := fun _ k => f_l_FnEnergies_w11_k t0 k) (fr := fun _ => f_l_FnEnergies_frw11 t0) (f1 := fun e => f_l_FnEnergies_xw11 t0 e) E0ok f_l_FnEnergies_Mt (addL_true f_l_FnEnergies_ttw16 (addL_true f_l_FnEnergies_ttw20 (noL_true))) f_l_FnEnergies_o f_l_FnEnergies_bw11 (fun _ => rfl) (fun _ => f_l_FnEnergies_ew11 t0) (fun _ k => f_l_FnEnergies_pw11 t0 k) () r h
def f_l_FnEnergies_tw11 (σ : List AV) : Option (Bool × Bool × (X × List AV) × (X × List AV)) := match dec f_l_FnEnergies_hw11 σ with
  | some [.l t0] => some ((f_l_FnEnergies_w11 t0).isSome, true, f_l_FnEnergies_xw11 t0 ((f_l_FnEnergies_w11 t0).getD false), (.ret, []))
  | _ => none
theorem f_l_FnEnergies_ttw11 : TTrue Try.prog f_l_FnEnergies_F Try.f5 200011 f_l_FnEnergies_tw11 := by
  intro σ p r r' h
  unfold f_l_FnEnergies_tw11 at h
  split at h
  · rename_i hd
    rw [← dec_enc hd]
    exact rowR (f_l_FnEnergies_lw11 _) h
  · cases h
def f_l_FnEnergies_hw7 : List Sh := [.p .sl, .u, .u, .u, .u, .u, .u, .u, .u, .p .sl, .u, .u, .p (.pt 0 1), .p (.int .i64), .p (.int .i64), .u, .u, .u, .u, .u, .u, .u, .u, .u, .u, .u, .u, .u, .u, .u, .u, .u, .u, .u, .u, .u, .u, .u, .u, .u, .u, .u, .u, .u, .u, .u, .u, .u, .u, .u, .u, .u, .u, .u, .u, .u, .u, .u, .u, .u, .u, .u, .u, .u, .u, .u, .u, .u, .u, .u, .u, .u, .u, .u, .u, .u, .u, .u, .u, .u, .u, .u, .u, .u, .u, .u, .u, .u, .u, .u, .u, .u, .u, .u, .u, .u, .u, .u, .u, .u, .u, .u, .u, .u, .u, .u, .u, .u, .u, .u, .u, .u, .u, .u, .u, .u, .u, .u, .u, .u, .u, .u, .u, .u, .u, .u, .u, .u, .u, .u, .u, .u, .u, .u, .u, .u, .u, .u, .u, .u, .u, .u, .u, .u, .u, .u, .u, .u, .u, .u, .u, .u, .u, .u, .u, .u, .u, .u, .u, .u, .u, .u, .u, .u, .u, .u, .u, .u, .u, .u, .u, .u, .u, .u, .u, .u, .u, .u, .u, .u, .u, .u, .u, .u, .u, .u, .u, .u, .u, .u, .u, .u, .u, .u, .u, .u, .u, .u, .u, .u, .u, .u, .u, .u, .u, .u, .u, .u, .u, .u, .u, .u, .u, .u, .u, .u, .u, .u, .u, .u, .u, .u, .u, .u, .u, .u, .u, .u, .u, .u, .u, .u]
def f_l_FnEnergies_frw7 (v0 : List Sc) (t0 : List Sc) (t4 : Int) (t5 : Int) : List AV := enc f_l_FnEnergies_hw7 [.l v0, .l t0, .i t4, .i t5]
def f_l_FnEnergies_xw7 (v0 : List Sc) (t0 : List Sc) (t4 : Int) (t5 : Int) (e : Bool) : X × List AV := (.norm, enc [.u, .u, .u, .u, .u, .u, .u, .u, .u, .u, .u, .p .boo, .u, .u, .u, .u, .u, .u, .u, .u, .u, .u, .u, .u, .u, .u, .u, .u, .u, .u, .u, .u, .u, .u, .u, .u, .u, .u, .u, .u, .u, .u, .u, .u, .u, .u, .u, .u, .u, .u, .u, .u, .u, .u, .u, .u, .u, .u, .u, .u, .u, .u, .u, .u, .u, .u, .u, .u, .u, .u, .u, .u, .u, .u, .u, .u, .u, .u, .u, .u, .u, .u, .u, .u, .u, .u, .u, .u, .u, .u, .u, .u, .u, .u, .u, .u, .u, .u, .u, .u, .u, .u, .u, .u, .u, .u, .u, .u, .u, .u, .u, .u, .u, .u, .u, .u, .u, .u, .u, .u, .u, .u, .u, .u, .u, .u, .u, .u, .u, .u, .u, .u, .u, .u, .u, .u, .u, .u, .u, .u, .u, .u, .u, .u, .u, .u, .u, .u, .u, .u, .u, .u, .u, .u, .u, .u, .u, .u, .u, .u, .u, .u, .u, .u, .u, .u, .u, .u, .u, .u, .u, .u, .u, .u, .u, .u, .u, .u, .u, .u, .u, .u, .u, .u, .u, .u, .u, .u, .u, .u, .u, .u, .u, .u, .u, .u, .u, .u, .u, .u, .u, .u, .u, .u, .u, .u, .u, .u, .u, .u, .u, .u, .u, .u, .u, .u, .u, .u, .u, .u, .u, .u, .u, .u, .u, .u, .u, .u, .u, .u, .u, .u] [.b e])
theorem f_l_FnEnergies_pw7 {R : Type} (v0 : List Sc) (t0 : List Sc) (t4 : Int) (t5 : Int) (kA : Bool → Option R) : f_l_FnEnergies_w7_k v0 t0 t4 t5 kA = (f_l_FnEnergies_w7 v0 t0 t4 t5).bind kA := by
  simp only [f_l_FnEnergies_w7_k, f_l_FnEnergies_w7, brB, boB, someB]
theorem f_l_FnEnergies_bw7 : bodyOf Try.f5 200007 = .block 0 (codeIn (bodyOf Try.f5 200007)) := by kernel_rfl
theorem f_l_FnEnergies_ew7 (v0 : List Sc) (t0 : List Sc) (t4 : Int) (t5 : Int) : EC E0 f_l_FnEnergies_M H0 f_l_FnEnergies_F (asL (addL 200011 f_l_FnEnergies_tw11 (addL 200016 f_l_FnEnergies_tw16 (addL 200020 f_l_FnEnergies_tw20 (noL))))) 0 (codeIn (bodyOf Try.f5 200007)) (f_l_FnEnergies_frw7 v0 t0 t4 t5) (doneT (klOf f_l_FnEnergies_F 200007).2.2) = f_l_FnEnergies_w7_k v0 t0 t4 t5 (fun e => some (f_l_FnEnergies_xw7 v0 t0 t4 t5 e)) := by kernel_rfl
theorem f_l_FnEnergies_lw7 (v0 : List Sc) (t0 : List Sc) (t4 : Int) (t5 : Int) (r : Bool) (h : f_l_FnEnergies_w7 v0 t0 t4 t5 = some r) : LS Try.prog f_l_FnEnergies_F (bodyOf Try.f5 200007) (f_l_FnEnergies_frw7 v0 t0 t4 t5) (f_l_FnEnergies_xw7 v0 t0 t4 t5 r) :=
  tail_true (S := Unit) (id := 7) (G := fun _ => f_l_FnEnergies_w7 v0 t0 t4 t5) (Gk := fun _ k => f_l_FnEnergies_w7_k v0 t0 t4 t5 k) (fr := fun _ => f_l_FnEnergies_frw7 v0 t0 t4 t5) (f1 := fun e => f_l_FnEnergies_xw7 v0 t0 t4 t5 e) E0ok f_l_FnEnergies_Mt (addL_true f_l_FnEnergies_ttw11 (addL_true f_l_FnEnergies_ttw16 (addL_true f_l_FnEnergies_ttw20 (noL_true)))) f_l_FnEnergies_o f_l_FnEnergies_bw7 (fun _ => rfl) (fun _ => f_l_FnEnergies_ew7 v0 t0 t4 t5) (fun _ k => f_l_FnEnergies_pw7 v0 t0 t4 t5 k) () r h
def f_l_FnEnergies_tw7 (σ : List AV) : Option (Bool × Bool × (X × List AV) × (X × List AV)) := match dec f_l_FnEnergies_hw7 σ with
  | some [.l v0, .l t0, .i t4, .i t5] => some ((f_l_FnEnergies_w7 v0 t0 t4 t5).isSome, true, f_l_FnEnergies_xw7 v0 t0 t4 t5 ((f_l_FnEnergies_w7 v0 t0 t4 t5).getD false), (.ret, []))
  | _ => none
theorem f_l_FnEnergies_ttw7 : TTrue Try.prog f_l_FnEnergies_F Try.f5 200007 f_l_FnEnergies_tw7 := by
  intro σ p r r' h
  unfold f_l_FnEnergies_tw7 at h
  split at h
  · rename_i hd
    rw [← dec_enc hd]
    exact rowR (f_l_FnEnergies_lw7 _ _ _ _) h
  · cases h
def f_l_FnEnergies_hw3 : List Sh := [.u, .u, .u, .u, .u, .u, .u, .u, .u, .p .sl, .u, .u, .u, .u, .u, .u, .u, .u, .u, .u, .u, .u, .u, .u, .u, .u, .u, .u, .u, .u, .u, .u, .u, .u, .u, .u, .u, .u, .u, .u, .u, .u, .u, .u, .u, .u, .u, .u, .u, .u, .u, .u, .u, .u, .u, .u, .u, .u, .u, .u, .u, .u, .u, .u, .u, .u, .u, .u, .u, .u, .u, .u, .u, .u, .u, .u, .u, .u, .u, .u, .u, .u, .u, .u, .u, .u, .u, .u, .u, .u, .u, .u, .u, .u, .u, .u, .u, .u, .u, .u, .u, .u, .u, .u, .u, .u, .u, .u, .u, .u, .u, .u, .u, .u, .u, .u, .u, .u, .u, .u, .u, .u, .u, .u, .u, .u, .u, .u, .u, .u, .u, .u, .u, .u, .u, .u, .u, .u, .u, .u, .u, .u, .u, .u, .u, .u, .u, .u, .u, .u, .u, .u, .u, .u, .u, .u, .u, .u, .u, .u, .u, .u, .u, .u, .u, .u, .u, .u, .u, .u, .u, .u, .u, .u, .u, .u, .u, .u, .u, .u, .u, .u, .u, .u, .u, .u, .u, .u, .u, .u, .u, .u, .u, .u, .u, .u, .u, .u, .u, .u, .u, .u, .u, .u, .u, .u, .u, .u, .u, .u, .u, .u, .u, .u, .u, .u, .u, .u, .u, .u, .u, .u, .u, .u, .u, .u, .u, .u, .u, .u, .u, .u]
def f_l_FnEnergies_frw3 (t0 : List Sc) : List AV := enc f_l_FnEnergies_hw3 [.l t0]
def f_l_FnEnergies_xw3 (t0 : List Sc) (e : Bool) : X × List AV := (.norm, enc [.u, .u, .u, .u, .u, .u, .u, .u, .u, .u, .u, .p .boo, .u, .u, .u, .u, .u, .u, .u, .u, .u, .u, .u, .u, .u, .u, .u, .u, .u, .u, .u, .u, .u, .u, .u, .u, .u, .u, .u, .u, .u, .u, .u, .u, .u, .u, .u, .u, .u, .u, .u, .u, .u, .u, .u, .u, .u, .u, .u, .u, .u, .u, .u, .u, .u, .u, .u, .u, .u, .u, .u, .u, .u, .u, .u, .u, .u, .u, .u, .u, .u, .u, .u, .u, .u, .u, .u, .u, .u, .u, .u, .u, .u, .u, .u, .u, .u, .u, .u, .u, .u, .u, .u, .u, .u, .u, .u, .u, .u, .u, .u, .u, .u, .u, .u, .u, .u, .u, .u, .u, .u, .u, .u, .u, .u, .u, .u, .u, .u, .u, .u, .u, .u, .u, .u, .u, .u, .u, .u, .u, .u, .u, .u, .u, .u, .u, .u, .u, .u, .u, .u, .u, .u, .u, .u, .u, .u, .u, .u, .u, .u, .u, .u, .u, .u, .u, .u, .u, .u, .u, .u, .u, .u, .u, .u, .u, .u, .u, .u, .u, .u, .u, .u, .u, .u, .u, .u, .u, .u, .u, .u, .u, .u, .u, .u, .u, .u, .u, .u, .u, .u, .u, .u, .u, .u, .u, .u, .u, .u, .u, .u, .u, .u, .u, .u, .u, .u, .u, .u, .u, .u, .u, .u, .u, .u, .u, .u, .u, .u, .u, .u, .u] [.b e])
theorem f_l_FnEnergies_pw3 {R : Type} (t0 : List Sc) (kA : Bool → Option R) : f_l_FnEnergies_w3_k t0 kA = (f_l_FnEnergies_w3 t0).bind kA := by
  simp only [f_l_FnEnergies_w3_k, f_l_FnEnergies_w3, brB, boB, someB]
theorem f_l_FnEnergies_bw3 : bodyOf Try.f5 200003 = .block 0 (codeIn (bodyOf Try.f5 200003)) := by kernel_rfl
theorem f_l_FnEnergies_ew3 (t0 : List Sc) : EC E0 f_l_FnEnergies_M H0 f_l_FnEnergies_F (asL (addL 200007 f_l_FnEnergies_tw7 (addL 200011 f_l_FnEnergies_tw11 (addL 200016 f_l_FnEnergies_tw16 (addL 200020 f_l_FnEnergies_tw20 (noL)))))) 0 (codeIn (bodyOf Try.f5 200003)) (f_l_FnEnergies_frw3 t0) (doneT (klOf f_l_FnEnergies_F 200003).2.2) = f_l_FnEnergies_w3_k t0 (fun e => some (f_l_FnEnergies_xw3 t0 e)) := by kernel_rfl
theorem f_l_FnEnergies_lw3 (t0 : List Sc) (r : Bool) (h : f_l_FnEnergies_w3 t0 = some r) : LS Try.prog f_l_FnEnergies_F (bodyOf Try.f5 200003) (f_l_FnEnergies_frw3 t0) (f_l_FnEnergies_xw3 t0 r) :=
  tail_true (S := Unit) (id := 3) (G := fun _ => f_l_FnEnergies_w3 t0) (Gk := fun _ k => f_l_FnEnergies_w3_k t0 k) (fr := fun _ => f_l_FnEnergies_frw3 t0) (f1 := fun e => f_l_FnEnergies_xw3 t0 e) E0ok f_l_FnEnergies_Mt (addL_true f_l_FnEnergies_ttw7 (addL_true f_l_FnEnergies_ttw11 (addL_true f_l_FnEnergies_ttw16 (addL_true f_l_FnEnergies_ttw20 (noL_true))))) f_l_FnEnergies_o f_l_FnEnergies_bw3 (fun _ => rfl) (fun _ => f_l_FnEnergies_ew3 t0) (fun _ k => f_l_FnEnergies_pw3 t0 k) () r h
def f_l_FnEnergies_tw3 (σ : List AV) : Option (Bool × Bool × (X × List AV) × (X × List AV)) := match dec f_l_FnEnergies_hw3 σ with
  | some [.l t0] => some ((f_l_FnEnergies_w3 t0).isSome, true, f_l_FnEnergies_xw3 t0 ((f_l_FnEnergies_w3 t0).getD false), (.ret, []))
  | _ => none
theorem f_l_FnEnergies_ttw3 : TTrue Try.prog f_l_FnEnergies_F Try.f5 200003 f_l_FnEnergies_tw3 := by
  intro σ p r r' h
  unfold f_l_FnEnergies_tw3 at h
  split at h
  · rename_i hd
    rw [← dec_enc hd]
    exact rowR (f_l_FnEnergies_lw3 _) h
  · cases h
theorem f_l_FnEnergies_p {R : Type} (L0 : List Sc) (kR : Bool → Option R) : f_l_FnEnergies_k L0 kR = (f_l_FnEnergies_k L0 some).bind kR := by
  simp only [f_l_FnEnergies_k, brB, boB, someB]
theorem f_l_FnEnergies_e (L0 : List Sc) : runFn E0 f_l_FnEnergies_M H0 f_l_FnEnergies_F (asL (addL 200003 f_l_FnEnergies_tw3 (addL 200007 f_l_FnEnergies_tw7 (addL 200011 f_l_FnEnergies_tw11 (addL 200016 f_l_FnEnergies_tw16 (addL 200020 f_l_FnEnergies_tw20 (noL))))))) Try.f5 (f_l_FnEnergies_a L0) (f_l_FnEnergies_i L0) = f_l_FnEnergies_k L0 (fun r => some (f_l_FnEnergies_en r)) := by kernel_rfl
theorem f_l_FnEnergies_ok (L0 : List Sc) (r : Bool) (h : f_l_FnEnergies L0 = some r) : CS Try.prog 5 (f_l_FnEnergies_a L0) (f_l_FnEnergies_i L0) (f_l_FnEnergies_en r).1 (f_l_FnEnergies_en r).2 :=
  fn_true (Gk := fun k => f_l_FnEnergies_k L0 k) (en := f_l_FnEnergies_en) Try.func5 E0ok f_l_FnEnergies_Mt (addL_true f_l_FnEnergies_ttw3 (addL_true f_l_FnEnergies_ttw7 (addL_true f_l_FnEnergies_ttw11 (addL_true f_l_FnEnergies_ttw16 (addL_true f_l_FnEnergies_ttw20 (noL_true)))))) f_l_FnEnergies_o (f_l_FnEnergies_e L0) (f_l_FnEnergies_p L0) h
def f_l_FnEnergies_c : CRow := fun args inh => match dec2 [.p .sl] [] args inh with
  | some ([.l L0], []) => some ((f_l_FnEnergies L0).isSome, (f_l_FnEnergies_en ((f_l_FnEnergies L0).getD false)).1, (f_l_FnEnergies_en ((f_l_FnEnergies L0).getD false)).2)
  | _ => none
theorem f_l_FnEnergies_cc : CTrue Try.prog 5 f_l_FnEnergies_c := by
  intro args inh rs out h
  unfold f_l_FnEnergies_c at h
  split at h
  · rename_i hd
    obtain ⟨h1, h2⟩ := dec2_enc hd
    rw [← h1, ← h2]
    exact rowC (f_l_FnEnergies_ok _) h
  · cases h
end
end Go.Proofs.Ytphbclogflflmaa
