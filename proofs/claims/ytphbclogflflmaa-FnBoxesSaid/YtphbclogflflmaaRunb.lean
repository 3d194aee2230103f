/-
  That the program computes just that (printed by gen2.py).
-/
import Derived.Test.YtphbclogflflmaaRuna
set_option linter.unusedVariables false
set_option linter.unusedSimpArgs false
namespace Go.Proofs.Ytphbclogflflmaa
open Go Ev
noncomputable section
def f_i_FindBox_F : Fi := { nv := 0, nc := 0, m := 0, vt := [], kl := [(6, ([0, 3, 4, 5, 6, 13, 14, 15, 16, 17, 18, 19, 20, 21, 22, 23, 24, 25, 26, 27, 28, 29, 30, 31, 32, 33, 34, 35, 36, 37, 38, 41, 42, 45, 46, 47, 48, 49, 50, 51, 52, 53, 54, 55, 56, 57, 58, 59, 60, 61, 62, 65, 66, 67, 68, 69, 70, 71, 72, 73, 74, 76, 77, 78, 79, 80, 81, 82, 83, 84, 85], [0, 3, 4, 5, 6, 11, 12, 13, 14, 15, 16, 17, 18, 19, 20, 21, 22, 23, 24, 25, 26, 27, 28, 29, 30, 31, 32, 33, 34, 35, 36, 37, 38, 41, 42, 45, 46, 47, 48, 49, 50, 51, 52, 53, 54, 55, 56, 57, 58, 59, 60, 61, 62, 63, 64, 65, 66, 67, 68, 69, 70, 71, 72, 73, 74, 76, 77, 78, 79, 80, 81, 82, 83, 84, 85], [0, 1, 2, 3, 7, 8, 9, 10, 11, 12, 13, 14, 15, 16, 17, 18, 19, 20, 21, 22, 23, 24, 25, 26, 27, 28, 29, 30, 31, 32, 33, 34, 35, 36, 37, 38, 39, 40, 41, 42, 43, 44, 45, 46, 47, 48, 49, 50, 51, 52, 53, 54, 55, 56, 57, 58, 59, 60, 61, 62, 63, 64, 65, 66, 67, 68, 69, 70, 71, 72, 73, 74, 76, 77, 78, 79, 80, 81, 82, 83, 84, 85])), (4, ([0, 3, 4, 5, 6, 11, 12, 13, 14, 15, 16, 17, 18, 19, 20, 21, 22, 23, 24, 25, 26, 27, 28, 29, 30, 31, 32, 33, 34, 35, 36, 37, 38, 41, 42, 45, 46, 47, 48, 49, 50, 51, 52, 53, 54, 55, 56, 57, 58, 59, 60, 61, 62, 63, 64, 65, 66, 67, 68, 69, 70, 71, 72, 73, 74, 76, 77, 78, 79, 80, 81, 82, 83, 84, 85], [0, 3, 4, 5, 6, 11, 12, 13, 14, 15, 16, 17, 18, 19, 20, 21, 22, 23, 24, 25, 26, 27, 28, 29, 30, 31, 32, 33, 34, 35, 36, 37, 38, 41, 42, 45, 46, 47, 48, 49, 50, 51, 52, 53, 54, 55, 56, 57, 58, 59, 60, 61, 62, 63, 64, 65, 66, 67, 68, 69, 70, 71, 72, 73, 74, 76, 77, 78, 79, 80, 81, 82, 83, 84, 85], [0, 1, 2, 3, 7, 8, 9, 10, 11, 12, 13, 14, 15, 16, 17, 18, 19, 20, 21, 22, 23, 24, 25, 26, 27, 28, 29, 30, 31, 32, 33, 34, 35, 36, 37, 38, 39, 40, 41, 42, 43, 44, 45, 46, 47, 48, 49, 50, 51, 52, 53, 54, 55, 56, 57, 58, 59, 60, 61, 62, 63, 64, 65, 66, 67, 68, 69, 70, 71, 72, 73, 74, 76, 77, 78, 79, 80, 81, 82, 83, 84, 85])), (2, ([0, 3, 4, 5, 6, 10, 11, 12, 13, 14, 15, 16, 17, 18, 19, 20, 21, 22, 23, 24, 25, 26, 27, 28, 29, 30, 31, 32, 33, 34, 35, 36, 37, 38, 41, 42, 43, 44, 45, 46, 47, 48, 49, 50, 51, 52, 53, 54, 55, 56, 57, 58, 59, 60, 61, 62, 63, 64, 65, 66, 67, 68, 69, 70, 71, 72, 73, 74, 76, 77, 78, 79, 80, 81, 82, 83, 84, 85], [0, 3, 4, 5, 6, 11, 12, 13, 14, 15, 16, 17, 18, 19, 20, 21, 22, 23, 24, 25, 26, 27, 28, 29, 30, 31, 32, 33, 34, 35, 36, 37, 38, 41, 42, 45, 46, 47, 48, 49, 50, 51, 52, 53, 54, 55, 56, 57, 58, 59, 60, 61, 62, 63, 64, 65, 66, 67, 68, 69, 70, 71, 72, 73, 74, 76, 77, 78, 79, 80, 81, 82, 83, 84, 85], [0, 1, 2, 3, 7, 8, 9, 10, 11, 12, 13, 14, 15, 16, 17, 18, 19, 20, 21, 22, 23, 24, 25, 26, 27, 28, 29, 30, 31, 32, 33, 34, 35, 36, 37, 38, 39, 40, 41, 42, 43, 44, 45, 46, 47, 48, 49, 50, 51, 52, 53, 54, 55, 56, 57, 58, 59, 60, 61, 62, 63, 64, 65, 66, 67, 68, 69, 70, 71, 72, 73, 74, 76, 77, 78, 79, 80, 81, 82, 83, 84, 85])), (0, ([0, 3, 4, 5, 6, 10, 11, 12, 13, 14, 15, 16, 17, 18, 19, 20, 21, 22, 23, 24, 25, 26, 27, 28, 29, 30, 31, 32, 33, 34, 35, 36, 37, 38, 39, 40, 41, 42, 43, 44, 45, 46, 47, 48, 49, 50, 51, 52, 53, 54, 55, 56, 57, 58, 59, 60, 61, 62, 63, 64, 65, 66, 67, 68, 69, 70, 71, 72, 73, 74, 76, 77, 78, 79, 80, 81, 82, 83, 84, 85], [0, 3, 4, 5, 6, 11, 12, 13, 14, 15, 16, 17, 18, 19, 20, 21, 22, 23, 24, 25, 26, 27, 28, 29, 30, 31, 32, 33, 34, 35, 36, 37, 38, 41, 42, 45, 46, 47, 48, 49, 50, 51, 52, 53, 54, 55, 56, 57, 58, 59, 60, 61, 62, 63, 64, 65, 66, 67, 68, 69, 70, 71, 72, 73, 74, 76, 77, 78, 79, 80, 81, 82, 83, 84, 85], [0, 1, 2, 3, 7, 8, 9, 10, 11, 12, 13, 14, 15, 16, 17, 18, 19, 20, 21, 22, 23, 24, 25, 26, 27, 28, 29, 30, 31, 32, 33, 34, 35, 36, 37, 38, 39, 40, 41, 42, 43, 44, 45, 46, 47, 48, 49, 50, 51, 52, 53, 54, 55, 56, 57, 58, 59, 60, 61, 62, 63, 64, 65, 66, 67, 68, 69, 70, 71, 72, 73, 74, 76, 77, 78, 79, 80, 81, 82, 83, 84, 85]))], sk := [], mvs := [], fz := [], na := [75] }
def f_i_FindBox_a (L0 : List Sc) (p1 : Int) : List AV := enc [.p .gr, .p (.int .i64)] [.l L0, .i p1]
def f_i_FindBox_i (L0 : List Sc) (p1 : Int) : List AV := enc [] []
def f_i_FindBox_en (r : List Sc × List Sc × Bool) : List AV × List AV := (enc [.p (.al 0), .p (.al 1), .p .boo] [.b r.2.2], enc [.own 3, .own 3] [.l r.1, .l r.2.1])
def f_i_FindBox_M : Calling := addC 122 f_i_OrderOf_c (addC 121 f_i_IsSet_c (addC 126 f_i_bits_c (addC 138 f_i_Group_progression_c (addC 128 f_i_Group_sum_c (addC 123 f_i_Group_shift_c (noC))))))
theorem f_i_FindBox_Mt : CallOk Try.prog (f_i_FindBox_M) := addC_true f_i_OrderOf_cc (addC_true f_i_IsSet_cc (addC_true f_i_bits_cc (addC_true f_i_Group_progression_cc (addC_true f_i_Group_sum_cc (addC_true f_i_Group_shift_cc (noC_true))))))
theorem f_i_FindBox_o : loopsOnce Try.f29 = true := by kernel_rfl
def f_i_FindBox_h6 : List Sh := [.u, .p (.int .i64), .p .el, .u, .u, .u, .u, .p (.int .i64), .p (.int .i64), .p (.int .i64), .p (.int .i64), .p (.int .i64), .p (.int .i64), .u, .u, .u, .u, .u, .u, .u, .u, .u, .u, .u, .u, .u, .u, .u, .u, .u, .u, .u, .u, .u, .u, .u, .u, .u, .u, .p (.int .i64), .p (.int .i64), .u, .u, .p (.int .i64), .p (.int .i64), .u, .u, .u, .u, .u, .u, .u, .u, .u, .u, .u, .u, .u, .u, .u, .u, .u, .u, .p (.int .i64), .p (.int .i64), .u, .u, .u, .u, .u, .u, .u, .u, .u, .u, .und, .u, .u, .u, .u, .u, .u, .u, .u, .u, .u]
def f_i_FindBox_fr6 (t1 : Int) (t2 : List Sc) (t7 : Int) (t8 : Int) (t9 : Int) (t10 : Int) (t11 : Int) (t12 : Int) (t39 : Int) (t40 : Int) (t43 : Int) (t44 : Int) (t63 : Int) (s : Int) : List AV := enc f_i_FindBox_h6 [.i t1, .l t2, .i t7, .i t8, .i t9, .i t10, .i t11, .i t12, .i t39, .i t40, .i t43, .i t44, .i t63, .i s]
def f_i_FindBox_g6_1 : List Sh := [.u, .p (.int .i64), .p .el, .u, .u, .u, .u, .p (.int .i64), .p (.int .i64), .p (.int .i64), .p (.int .i64), .u, .u, .u, .u, .u, .u, .u, .u, .u, .u, .u, .u, .u, .u, .u, .u, .u, .u, .u, .u, .u, .u, .u, .u, .u, .u, .u, .u, .p (.int .i64), .p (.int .i64), .u, .u, .p (.int .i64), .p (.int .i64), .u, .u, .u, .u, .u, .u, .u, .u, .u, .u, .u, .u, .u, .u, .u, .u, .u, .u, .u, .u, .u, .u, .u, .u, .u, .u, .u, .u, .u, .u, .und, .u, .u, .u, .u, .u, .u, .u, .u, .u, .u]
def f_i_FindBox_x6_1 (t1 : Int) (t2 : List Sc) (t7 : Int) (t8 : Int) (t9 : Int) (t10 : Int) (t11 : Int) (t12 : Int) (t39 : Int) (t40 : Int) (t43 : Int) (t44 : Int) (t63 : Int) (e : Unit) : X × List AV := (.out 6, enc f_i_FindBox_g6_1 [.i t1, .l t2, .i t7, .i t8, .i t9, .i t10, .i t39, .i t40, .i t43, .i t44])
def f_i_FindBox_g6_2 : List Sh := [.u, .u, .u, .u, .p (.al 75), .own 3, .p .boo, .u, .u, .u, .u, .u, .u, .u, .u, .u, .u, .u, .u, .u, .u, .u, .u, .u, .u, .u, .u, .u, .u, .u, .u, .u, .u, .u, .u, .u, .u, .u, .u, .u, .u, .u, .u, .u, .u, .u, .u, .u, .u, .u, .u, .u, .u, .u, .u, .u, .u, .u, .u, .u, .u, .u, .u, .u, .u, .u, .u, .u, .u, .u, .u, .u, .u, .u, .u, .own 3, .u, .u, .u, .u, .u, .u, .u, .u, .u, .u]
def f_i_FindBox_x6_2 (t1 : Int) (t2 : List Sc) (t7 : Int) (t8 : Int) (t9 : Int) (t10 : Int) (t11 : Int) (t12 : Int) (t39 : Int) (t40 : Int) (t43 : Int) (t44 : Int) (t63 : Int) (e : List Sc × List Sc) : X × List AV := (.ret, enc f_i_FindBox_g6_2 [.l e.1, .b true, .l e.2])
theorem f_i_FindBox_p6 {R : Type} (t1 : Int) (t2 : List Sc) (t7 : Int) (t8 : Int) (t9 : Int) (t10 : Int) (t11 : Int) (t12 : Int) (t39 : Int) (t40 : Int) (t43 : Int) (t44 : Int) (t63 : Int) (s : Int) (kN : Int → Option R) (kA : Unit → Option R) (kB : List Sc × List Sc → Option R) : f_i_FindBox_k6 t1 t2 t7 t8 t9 t10 t11 t12 t39 t40 t43 t44 t63 s kN kA kB = (f_i_FindBox_r6 t1 t2 t7 t8 t9 t10 t11 t12 t39 t40 t43 t44 t63 s).bind (Ro.el kN kA kB) := by
  simp only [f_i_FindBox_k6, f_i_FindBox_r6, brB, boB, someB, noneB, Ro.el]
theorem f_i_FindBox_e6 (t1 : Int) (t2 : List Sc) (t7 : Int) (t8 : Int) (t9 : Int) (t10 : Int) (t11 : Int) (t12 : Int) (t39 : Int) (t40 : Int) (t43 : Int) (t44 : Int) (t63 : Int) (s : Int) : EC E0 f_i_FindBox_M H0 f_i_FindBox_F (asL (noL)) 6 (bodyOf Try.f29 6) (f_i_FindBox_fr6 t1 t2 t7 t8 t9 t10 t11 t12 t39 t40 t43 t44 t63 s) (done (klOf f_i_FindBox_F 6)) = f_i_FindBox_k6 t1 t2 t7 t8 t9 t10 t11 t12 t39 t40 t43 t44 t63 s (fun s => some (.norm, f_i_FindBox_fr6 t1 t2 t7 t8 t9 t10 t11 t12 t39 t40 t43 t44 t63 s)) (fun e => some (f_i_FindBox_x6_1 t1 t2 t7 t8 t9 t10 t11 t12 t39 t40 t43 t44 t63 e)) (fun e => some (f_i_FindBox_x6_2 t1 t2 t7 t8 t9 t10 t11 t12 t39 t40 t43 t44 t63 e)) := by kernel_rfl
theorem f_i_FindBox_l6 (t1 : Int) (t2 : List Sc) (t7 : Int) (t8 : Int) (t9 : Int) (t10 : Int) (t11 : Int) (t12 : Int) (t39 : Int) (t40 : Int) (t43 : Int) (t44 : Int) (t63 : Int) : ∀ s r, loopL (f_i_FindBox_r6 t1 t2 t7 t8 t9 t10 t11 t12 t39 t40 t43 t44 t63) s = some r → LS Try.prog f_i_FindBox_F (bodyOf Try.f29 6) (f_i_FindBox_fr6 t1 t2 t7 t8 t9 t10 t11 t12 t39 t40 t43 t44 t63 s) (enX (f_i_FindBox_x6_1 t1 t2 t7 t8 t9 t10 t11 t12 t39 t40 t43 t44 t63) (f_i_FindBox_x6_2 t1 t2 t7 t8 t9 t10 t11 t12 t39 t40 t43 t44 t63) r) :=
  loop_true E0ok f_i_FindBox_Mt (noL_true) f_i_FindBox_o (fun _ h => by cases h) (fun _ h => by cases h) (fun s => (f_i_FindBox_e6 t1 t2 t7 t8 t9 t10 t11 t12 t39 t40 t43 t44 t63 s).trans (f_i_FindBox_p6 t1 t2 t7 t8 t9 t10 t11 t12 t39 t40 t43 t44 t63 s _ _ (fun e => some (f_i_FindBox_x6_2 t1 t2 t7 t8 t9 t10 t11 t12 t39 t40 t43 t44 t63 e))))
def f_i_FindBox_t6 (σ : List AV) : Option (Bool × Bool × (X × List AV) × (X × List AV)) := match dec f_i_FindBox_h6 σ with
  | some [.i t1, .l t2, .i t7, .i t8, .i t9, .i t10, .i t11, .i t12, .i t39, .i t40, .i t43, .i t44, .i t63, .i t64] => some ((loopL (f_i_FindBox_r6 t1 t2 t7 t8 t9 t10 t11 t12 t39 t40 t43 t44 t63) t64).isSome, isOne (loopL (f_i_FindBox_r6 t1 t2 t7 t8 t9 t10 t11 t12 t39 t40 t43 t44 t63) t64), f_i_FindBox_x6_1 t1 t2 t7 t8 t9 t10 t11 t12 t39 t40 t43 t44 t63 (getOne () (loopL (f_i_FindBox_r6 t1 t2 t7 t8 t9 t10 t11 t12 t39 t40 t43 t44 t63) t64)), f_i_FindBox_x6_2 t1 t2 t7 t8 t9 t10 t11 t12 t39 t40 t43 t44 t63 (getTwo ([], []) (loopL (f_i_FindBox_r6 t1 t2 t7 t8 t9 t10 t11 t12 t39 t40 t43 t44 t63) t64)))
  | _ => none
theorem f_i_FindBox_tt6 : TTrue Try.prog f_i_FindBox_F Try.f29 6 (f_i_FindBox_t6) := by
  intro σ p r r' h
  unfold f_i_FindBox_t6 at h
  split at h
  · rename_i hd
    rw [← dec_enc hd]
    exact row2 (f_i_FindBox_l6 _ _ _ _ _ _ _ _ _ _ _ _ _ _) h
  · cases h
def f_i_FindBox_h4 : List Sh := [.u, .p (.int .i64), .p .el, .u, .u, .u, .u, .p (.int .i64), .p (.int .i64), .p (.int .i64), .p (.int .i64), .u, .u, .u, .u, .u, .u, .u, .u, .u, .u, .u, .u, .u, .u, .u, .u, .u, .u, .u, .u, .u, .u, .u, .u, .u, .u, .u, .u, .p (.int .i64), .p (.int .i64), .u, .u, .p (.int .i64), .p (.int .i64), .u, .u, .u, .u, .u, .u, .u, .u, .u, .u, .u, .u, .u, .u, .u, .u, .u, .u, .u, .u, .u, .u, .u, .u, .u, .u, .u, .u, .u, .u, .und, .u, .u, .u, .u, .u, .u, .u, .u, .u, .u]
def f_i_FindBox_fr4 (t1 : Int) (t2 : List Sc) (t7 : Int) (t8 : Int) (t9 : Int) (t10 : Int) (t39 : Int) (t40 : Int) (t43 : Int) (s : Int) : List AV := enc f_i_FindBox_h4 [.i t1, .l t2, .i t7, .i t8, .i t9, .i t10, .i t39, .i t40, .i t43, .i s]
def f_i_FindBox_g4_1 : List Sh := [.u, .p (.int .i64), .p .el, .u, .u, .u, .u, .p (.int .i64), .p (.int .i64), .p (.int .i64), .p (.int .i64), .u, .u, .u, .u, .u, .u, .u, .u, .u, .u, .u, .u, .u, .u, .u, .u, .u, .u, .u, .u, .u, .u, .u, .u, .u, .u, .u, .u, .p (.int .i64), .p (.int .i64), .u, .u, .p (.int .i64), .p (.int .i64), .u, .u, .u, .u, .u, .u, .u, .u, .u, .u, .u, .u, .u, .u, .u, .u, .u, .u, .u, .u, .u, .u, .u, .u, .u, .u, .u, .u, .u, .u, .und, .u, .u, .u, .u, .u, .u, .u, .u, .u, .u]
def f_i_FindBox_x4_1 (t1 : Int) (t2 : List Sc) (t7 : Int) (t8 : Int) (t9 : Int) (t10 : Int) (t39 : Int) (t40 : Int) (t43 : Int) (e : Int) : X × List AV := (.out 4, enc f_i_FindBox_g4_1 [.i t1, .l t2, .i t7, .i t8, .i t9, .i t10, .i t39, .i t40, .i t43, .i e])
def f_i_FindBox_g4_2 : List Sh := [.u, .u, .u, .u, .p (.al 75), .own 3, .p .boo, .u, .u, .u, .u, .u, .u, .u, .u, .u, .u, .u, .u, .u, .u, .u, .u, .u, .u, .u, .u, .u, .u, .u, .u, .u, .u, .u, .u, .u, .u, .u, .u, .u, .u, .u, .u, .u, .u, .u, .u, .u, .u, .u, .u, .u, .u, .u, .u, .u, .u, .u, .u, .u, .u, .u, .u, .u, .u, .u, .u, .u, .u, .u, .u, .u, .u, .u, .u, .own 3, .u, .u, .u, .u, .u, .u, .u, .u, .u, .u]
def f_i_FindBox_x4_2 (t1 : Int) (t2 : List Sc) (t7 : Int) (t8 : Int) (t9 : Int) (t10 : Int) (t39 : Int) (t40 : Int) (t43 : Int) (e : List Sc × List Sc) : X × List AV := (.ret, enc f_i_FindBox_g4_2 [.l e.1, .b true, .l e.2])
theorem f_i_FindBox_p4 {R : Type} (t1 : Int) (t2 : List Sc) (t7 : Int) (t8 : Int) (t9 : Int) (t10 : Int) (t39 : Int) (t40 : Int) (t43 : Int) (s : Int) (kN : Int → Option R) (kA : Int → Option R) (kB : List Sc × List Sc → Option R) : f_i_FindBox_k4 t1 t2 t7 t8 t9 t10 t39 t40 t43 s kN kA kB = (f_i_FindBox_r4 t1 t2 t7 t8 t9 t10 t39 t40 t43 s).bind (Ro.el kN kA kB) := by
  simp only [f_i_FindBox_k4, f_i_FindBox_r4, brB, boB, blB, someB, noneB, Ro.el]
theorem f_i_FindBox_e4 (t1 : Int) (t2 : List Sc) (t7 : Int) (t8 : Int) (t9 : Int) (t10 : Int) (t39 : Int) (t40 : Int) (t43 : Int) (s : Int) : EC E0 f_i_FindBox_M H0 f_i_FindBox_F (asL (addL 6 (f_i_FindBox_t6) (noL))) 4 (bodyOf Try.f29 4) (f_i_FindBox_fr4 t1 t2 t7 t8 t9 t10 t39 t40 t43 s) (done (klOf f_i_FindBox_F 4)) = f_i_FindBox_k4 t1 t2 t7 t8 t9 t10 t39 t40 t43 s (fun s => some (.norm, f_i_FindBox_fr4 t1 t2 t7 t8 t9 t10 t39 t40 t43 s)) (fun e => some (f_i_FindBox_x4_1 t1 t2 t7 t8 t9 t10 t39 t40 t43 e)) (fun e => some (f_i_FindBox_x4_2 t1 t2 t7 t8 t9 t10 t39 t40 t43 e)) := by kernel_rfl
theorem f_i_FindBox_l4 (t1 : Int) (t2 : List Sc) (t7 : Int) (t8 : Int) (t9 : Int) (t10 : Int) (t39 : Int) (t40 : Int) (t43 : Int) : ∀ s r, loopL (f_i_FindBox_r4 t1 t2 t7 t8 t9 t10 t39 t40 t43) s = some r → LS Try.prog f_i_FindBox_F (bodyOf Try.f29 4) (f_i_FindBox_fr4 t1 t2 t7 t8 t9 t10 t39 t40 t43 s) (enX (f_i_FindBox_x4_1 t1 t2 t7 t8 t9 t10 t39 t40 t43) (f_i_FindBox_x4_2 t1 t2 t7 t8 t9 t10 t39 t40 t43) r) :=
  loop_true E0ok f_i_FindBox_Mt (addL_true (f_i_FindBox_tt6) (noL_true)) f_i_FindBox_o (fun _ h => by cases h) (fun _ h => by cases h) (fun s => (f_i_FindBox_e4 t1 t2 t7 t8 t9 t10 t39 t40 t43 s).trans (f_i_FindBox_p4 t1 t2 t7 t8 t9 t10 t39 t40 t43 s _ _ (fun e => some (f_i_FindBox_x4_2 t1 t2 t7 t8 t9 t10 t39 t40 t43 e))))
def f_i_FindBox_t4 (σ : List AV) : Option (Bool × Bool × (X × List AV) × (X × List AV)) := match dec f_i_FindBox_h4 σ with
  | some [.i t1, .l t2, .i t7, .i t8, .i t9, .i t10, .i t39, .i t40, .i t43, .i t44] => some ((loopL (f_i_FindBox_r4 t1 t2 t7 t8 t9 t10 t39 t40 t43) t44).isSome, isOne (loopL (f_i_FindBox_r4 t1 t2 t7 t8 t9 t10 t39 t40 t43) t44), f_i_FindBox_x4_1 t1 t2 t7 t8 t9 t10 t39 t40 t43 (getOne 0 (loopL (f_i_FindBox_r4 t1 t2 t7 t8 t9 t10 t39 t40 t43) t44)), f_i_FindBox_x4_2 t1 t2 t7 t8 t9 t10 t39 t40 t43 (getTwo ([], []) (loopL (f_i_FindBox_r4 t1 t2 t7 t8 t9 t10 t39 t40 t43) t44)))
  | _ => none
theorem f_i_FindBox_tt4 : TTrue Try.prog f_i_FindBox_F Try.f29 4 (f_i_FindBox_t4) := by
  intro σ p r r' h
  unfold f_i_FindBox_t4 at h
  split at h
  · rename_i hd
    rw [← dec_enc hd]
    exact row2 (f_i_FindBox_l4 _ _ _ _ _ _ _ _ _ _) h
  · cases h
def f_i_FindBox_h2 : List Sh := [.u, .p (.int .i64), .p .el, .u, .u, .u, .u, .p (.int .i64), .p (.int .i64), .p (.int .i64), .u, .u, .u, .u, .u, .u, .u, .u, .u, .u, .u, .u, .u, .u, .u, .u, .u, .u, .u, .u, .u, .u, .u, .u, .u, .u, .u, .u, .u, .p (.int .i64), .p (.int .i64), .u, .u, .u, .u, .u, .u, .u, .u, .u, .u, .u, .u, .u, .u, .u, .u, .u, .u, .u, .u, .u, .u, .u, .u, .u, .u, .u, .u, .u, .u, .u, .u, .u, .u, .und, .u, .u, .u, .u, .u, .u, .u, .u, .u, .u]
def f_i_FindBox_fr2 (t1 : Int) (t2 : List Sc) (t7 : Int) (t8 : Int) (t9 : Int) (t39 : Int) (s : Int) : List AV := enc f_i_FindBox_h2 [.i t1, .l t2, .i t7, .i t8, .i t9, .i t39, .i s]
def f_i_FindBox_g2_1 : List Sh := [.u, .p (.int .i64), .p .el, .u, .u, .u, .u, .p (.int .i64), .p (.int .i64), .p (.int .i64), .u, .u, .u, .u, .u, .u, .u, .u, .u, .u, .u, .u, .u, .u, .u, .u, .u, .u, .u, .u, .u, .u, .u, .u, .u, .u, .u, .u, .u, .p (.int .i64), .p (.int .i64), .u, .u, .u, .u, .u, .u, .u, .u, .u, .u, .u, .u, .u, .u, .u, .u, .u, .u, .u, .u, .u, .u, .u, .u, .u, .u, .u, .u, .u, .u, .u, .u, .u, .u, .und, .u, .u, .u, .u, .u, .u, .u, .u, .u, .u]
def f_i_FindBox_x2_1 (t1 : Int) (t2 : List Sc) (t7 : Int) (t8 : Int) (t9 : Int) (t39 : Int) (e : Int) : X × List AV := (.out 2, enc f_i_FindBox_g2_1 [.i t1, .l t2, .i t7, .i t8, .i t9, .i t39, .i e])
def f_i_FindBox_g2_2 : List Sh := [.u, .u, .u, .u, .p (.al 75), .own 3, .p .boo, .u, .u, .u, .u, .u, .u, .u, .u, .u, .u, .u, .u, .u, .u, .u, .u, .u, .u, .u, .u, .u, .u, .u, .u, .u, .u, .u, .u, .u, .u, .u, .u, .u, .u, .u, .u, .u, .u, .u, .u, .u, .u, .u, .u, .u, .u, .u, .u, .u, .u, .u, .u, .u, .u, .u, .u, .u, .u, .u, .u, .u, .u, .u, .u, .u, .u, .u, .u, .own 3, .u, .u, .u, .u, .u, .u, .u, .u, .u, .u]
def f_i_FindBox_x2_2 (t1 : Int) (t2 : List Sc) (t7 : Int) (t8 : Int) (t9 : Int) (t39 : Int) (e : List Sc × List Sc) : X × List AV := (.ret, enc f_i_FindBox_g2_2 [.l e.1, .b true, .l e.2])
theorem f_i_FindBox_p2 {R : Type} (t1 : Int) (t2 : List Sc) (t7 : Int) (t8 : Int) (t9 : Int) (t39 : Int) (s : Int) (kN : Int → Option R) (kA : Int → Option R) (kB : List Sc × List Sc → Option R) : f_i_FindBox_k2 t1 t2 t7 t8 t9 t39 s kN kA kB = (f_i_FindBox_r2 t1 t2 t7 t8 t9 t39 s).bind (Ro.el kN kA kB) := by
  simp only [f_i_FindBox_k2, f_i_FindBox_r2, brB, blB, someB, Ro.el]
theorem f_i_FindBox_e2 (t1 : Int) (t2 : List Sc) (t7 : Int) (t8 : Int) (t9 : Int) (t39 : Int) (s : Int) : EC E0 f_i_FindBox_M H0 f_i_FindBox_F (asL (addL 4 (f_i_FindBox_t4) (addL 6 (f_i_FindBox_t6) (noL)))) 2 (bodyOf Try.f29 2) (f_i_FindBox_fr2 t1 t2 t7 t8 t9 t39 s) (done (klOf f_i_FindBox_F 2)) = f_i_FindBox_k2 t1 t2 t7 t8 t9 t39 s (fun s => some (.norm, f_i_FindBox_fr2 t1 t2 t7 t8 t9 t39 s)) (fun e => some (f_i_FindBox_x2_1 t1 t2 t7 t8 t9 t39 e)) (fun e => some (f_i_FindBox_x2_2 t1 t2 t7 t8 t9 t39 e)) := by kernel_rfl
theorem f_i_FindBox_l2 (t1 : Int) (t2 : List Sc) (t7 : Int) (t8 : Int) (t9 : Int) (t39 : Int) : ∀ s r, loopL (f_i_FindBox_r2 t1 t2 t7 t8 t9 t39) s = some r → LS Try.prog f_i_FindBox_F (bodyOf Try.f29 2) (f_i_FindBox_fr2 t1 t2 t7 t8 t9 t39 s) (enX (f_i_FindBox_x2_1 t1 t2 t7 t8 t9 t39) (f_i_FindBox_x2_2 t1 t2 t7 t8 t9 t39) r) :=
  loop_true E0ok f_i_FindBox_Mt (addL_true (f_i_FindBox_tt4) (addL_true (f_i_FindBox_tt6) (noL_true))) f_i_FindBox_o (fun _ h => by cases h) (fun _ h => by cases h) (fun s => (f_i_FindBox_e2 t1 t2 t7 t8 t9 t39 s).trans (f_i_FindBox_p2 t1 t2 t7 t8 t9 t39 s _ _ (fun e => some (f_i_FindBox_x2_2 t1 t2 t7 t8 t9 t39 e))))
def f_i_FindBox_t2 (σ : List AV) : Option (Bool × Bool × (X × List AV) × (X × List AV)) := match dec f_i_FindBox_h2 σ with
  | some [.i t1, .l t2, .i t7, .i t8, .i t9, .i t39, .i t40] => some ((loopL (f_i_FindBox_r2 t1 t2 t7 t8 t9 t39) t40).isSome, isOne (loopL (f_i_FindBox_r2 t1 t2 t7 t8 t9 t39) t40), f_i_FindBox_x2_1 t1 t2 t7 t8 t9 t39 (getOne 0 (loopL (f_i_FindBox_r2 t1 t2 t7 t8 t9 t39) t40)), f_i_FindBox_x2_2 t1 t2 t7 t8 t9 t39 (getTwo ([], []) (loopL (f_i_FindBox_r2 t1 t2 t7 t8 t9 t39) t40)))
  | _ => none
theorem f_i_FindBox_tt2 : TTrue Try.prog f_i_FindBox_F Try.f29 2 (f_i_FindBox_t2) := by
  intro σ p r r' h
  unfold f_i_FindBox_t2 at h
  split at h
  · rename_i hd
    rw [← dec_enc hd]
    exact row2 (f_i_FindBox_l2 _ _ _ _ _ _ _) h
  · cases h
def f_i_FindBox_h0 : List Sh := [.u, .p (.int .i64), .p .el, .u, .u, .u, .u, .p (.int .i64), .p (.int .i64), .p (.int .i64), .u, .u, .u, .u, .u, .u, .u, .u, .u, .u, .u, .u, .u, .u, .u, .u, .u, .u, .u, .u, .u, .u, .u, .u, .u, .u, .u, .u, .u, .u, .u, .u, .u, .u, .u, .u, .u, .u, .u, .u, .u, .u, .u, .u, .u, .u, .u, .u, .u, .u, .u, .u, .u, .u, .u, .u, .u, .u, .u, .u, .u, .u, .u, .u, .u, .und, .u, .u, .u, .u, .u, .u, .u, .u, .u, .u]
def f_i_FindBox_fr0 (t1 : Int) (t2 : List Sc) (t7 : Int) (t8 : Int) (s : Int) : List AV := enc f_i_FindBox_h0 [.i t1, .l t2, .i t7, .i t8, .i s]
def f_i_FindBox_g0_1 : List Sh := [.u, .p (.int .i64), .p .el, .u, .u, .u, .u, .p (.int .i64), .p (.int .i64), .p (.int .i64), .u, .u, .u, .u, .u, .u, .u, .u, .u, .u, .u, .u, .u, .u, .u, .u, .u, .u, .u, .u, .u, .u, .u, .u, .u, .u, .u, .u, .u, .u, .u, .u, .u, .u, .u, .u, .u, .u, .u, .u, .u, .u, .u, .u, .u, .u, .u, .u, .u, .u, .u, .u, .u, .u, .u, .u, .u, .u, .u, .u, .u, .u, .u, .u, .u, .und, .u, .u, .u, .u, .u, .u, .u, .u, .u, .u]
def f_i_FindBox_x0_1 (t1 : Int) (t2 : List Sc) (t7 : Int) (t8 : Int) (e : Int) : X × List AV := (.out 0, enc f_i_FindBox_g0_1 [.i t1, .l t2, .i t7, .i t8, .i e])
def f_i_FindBox_g0_2 : List Sh := [.u, .u, .u, .u, .p (.al 75), .own 3, .p .boo, .u, .u, .u, .u, .u, .u, .u, .u, .u, .u, .u, .u, .u, .u, .u, .u, .u, .u, .u, .u, .u, .u, .u, .u, .u, .u, .u, .u, .u, .u, .u, .u, .u, .u, .u, .u, .u, .u, .u, .u, .u, .u, .u, .u, .u, .u, .u, .u, .u, .u, .u, .u, .u, .u, .u, .u, .u, .u, .u, .u, .u, .u, .u, .u, .u, .u, .u, .u, .own 3, .u, .u, .u, .u, .u, .u, .u, .u, .u, .u]
def f_i_FindBox_x0_2 (t1 : Int) (t2 : List Sc) (t7 : Int) (t8 : Int) (e : List Sc × List Sc) : X × List AV := (.ret, enc f_i_FindBox_g0_2 [.l e.1, .b true, .l e.2])
theorem f_i_FindBox_p0 {R : Type} (t1 : Int) (t2 : List Sc) (t7 : Int) (t8 : Int) (s : Int) (kN : Int → Option R) (kA : Int → Option R) (kB : List Sc × List Sc → Option R) : f_i_FindBox_k0 t1 t2 t7 t8 s kN kA kB = (f_i_FindBox_r0 t1 t2 t7 t8 s).bind (Ro.el kN kA kB) := by
  simp only [f_i_FindBox_k0, f_i_FindBox_r0, brB, blB, someB, noneB, Ro.el]
theorem f_i_FindBox_e0 (t1 : Int) (t2 : List Sc) (t7 : Int) (t8 : Int) (s : Int) : EC E0 f_i_FindBox_M H0 f_i_FindBox_F (asL (addL 2 (f_i_FindBox_t2) (addL 4 (f_i_FindBox_t4) (addL 6 (f_i_FindBox_t6) (noL))))) 0 (bodyOf Try.f29 0) (f_i_FindBox_fr0 t1 t2 t7 t8 s) (done (klOf f_i_FindBox_F 0)) = f_i_FindBox_k0 t1 t2 t7 t8 s (fun s => some (.norm, f_i_FindBox_fr0 t1 t2 t7 t8 s)) (fun e => some (f_i_FindBox_x0_1 t1 t2 t7 t8 e)) (fun e => some (f_i_FindBox_x0_2 t1 t2 t7 t8 e)) := by kernel_rfl
theorem f_i_FindBox_l0 (t1 : Int) (t2 : List Sc) (t7 : Int) (t8 : Int) : ∀ s r, loopL (f_i_FindBox_r0 t1 t2 t7 t8) s = some r → LS Try.prog f_i_FindBox_F (bodyOf Try.f29 0) (f_i_FindBox_fr0 t1 t2 t7 t8 s) (enX (f_i_FindBox_x0_1 t1 t2 t7 t8) (f_i_FindBox_x0_2 t1 t2 t7 t8) r) :=
  loop_true E0ok f_i_FindBox_Mt (addL_true (f_i_FindBox_tt2) (addL_true (f_i_FindBox_tt4) (addL_true (f_i_FindBox_tt6) (noL_true)))) f_i_FindBox_o (fun _ h => by cases h) (fun _ h => by cases h) (fun s => (f_i_FindBox_e0 t1 t2 t7 t8 s).trans (f_i_FindBox_p0 t1 t2 t7 t8 s _ _ (fun e => some (f_i_FindBox_x0_2 t1 t2 t7 t8 e))))
def f_i_FindBox_t0 (σ : List AV) : Option (Bool × Bool × (X × List AV) × (X × List AV)) := match dec f_i_FindBox_h0 σ with
  | some [.i t1, .l t2, .i t7, .i t8, .i t9] => some ((loopL (f_i_FindBox_r0 t1 t2 t7 t8) t9).isSome, isOne (loopL (f_i_FindBox_r0 t1 t2 t7 t8) t9), f_i_FindBox_x0_1 t1 t2 t7 t8 (getOne 0 (loopL (f_i_FindBox_r0 t1 t2 t7 t8) t9)), f_i_FindBox_x0_2 t1 t2 t7 t8 (getTwo ([], []) (loopL (f_i_FindBox_r0 t1 t2 t7 t8) t9)))
  | _ => none
theorem f_i_FindBox_tt0 : TTrue Try.prog f_i_FindBox_F Try.f29 0 (f_i_FindBox_t0) := by
  intro σ p r r' h
  unfold f_i_FindBox_t0 at h
  split at h
  · rename_i hd
    rw [← dec_enc hd]
    exact row2 (f_i_FindBox_l0 _ _ _ _ _) h
  · cases h
theorem f_i_FindBox_p {R : Type} (L0 : List Sc) (p1 : Int) (kR : List Sc × List Sc × Bool → Option R) : f_i_FindBox_k L0 p1 kR = (f_i_FindBox_k L0 p1 some).bind kR := by
  simp only [f_i_FindBox_k, brB, boB, blB, someB]
theorem f_i_FindBox_e (L0 : List Sc) (p1 : Int) : runFn E0 f_i_FindBox_M H0 f_i_FindBox_F (asL (addL 0 (f_i_FindBox_t0) (addL 2 (f_i_FindBox_t2) (addL 4 (f_i_FindBox_t4) (addL 6 (f_i_FindBox_t6) (noL)))))) Try.f29 (f_i_FindBox_a L0 p1) (f_i_FindBox_i L0 p1) = f_i_FindBox_k L0 p1 (fun r => some (f_i_FindBox_en r)) := by kernel_rfl
theorem f_i_FindBox_ok (L0 : List Sc) (p1 : Int) (r : List Sc × List Sc × Bool) (h : f_i_FindBox L0 p1 = some r) : CS Try.prog 29 (f_i_FindBox_a L0 p1) (f_i_FindBox_i L0 p1) (f_i_FindBox_en r).1 (f_i_FindBox_en r).2 :=
  fn_true (Gk := fun k => f_i_FindBox_k L0 p1 k) (en := f_i_FindBox_en) Try.func29 E0ok f_i_FindBox_Mt (addL_true (f_i_FindBox_tt0) (addL_true (f_i_FindBox_tt2) (addL_true (f_i_FindBox_tt4) (addL_true (f_i_FindBox_tt6) (noL_true))))) f_i_FindBox_o (f_i_FindBox_e L0 p1) (f_i_FindBox_p L0 p1) h
def f_i_FindBox_c : CRow := fun args inh => match dec2 [.p .gr, .p (.int .i64)] [] args inh with
  | some ([.l L0, .i p1], []) => some ((f_i_FindBox L0 p1).isSome, (f_i_FindBox_en ((f_i_FindBox L0 p1).getD ([], [], false))).1, (f_i_FindBox_en ((f_i_FindBox L0 p1).getD ([], [], false))).2)
  | _ => none
theorem f_i_FindBox_cc : CTrue Try.prog 29 f_i_FindBox_c := by
  intro args inh rs out h
  unfold f_i_FindBox_c at h
  split at h
  · rename_i hd
    obtain ⟨h1, h2⟩ := dec2_enc hd
    rw [← h1, ← h2]
    exact rowC (f_i_FindBox_ok _ _) h
  · cases h

def f_s_l3Bits_F : Fi := { nv := 0, nc := 0, m := 0, vt := [], kl := [(0, ([0, 1, 2, 5, 6, 7, 8, 9, 10, 11, 12, 13, 14], [0, 1, 2, 4, 5, 6, 7, 8, 9, 10, 11, 12, 13, 14], [0, 1, 3, 4, 5, 6, 7, 8, 9, 10, 11, 12, 13, 14]))], sk := [], mvs := [], fz := [] }
def f_s_l3Bits_a (a0 : Int) : List AV := enc [.p (.int .i64)] [.i a0]
def f_s_l3Bits_i (a0 : Int) : List AV := enc [] []
def f_s_l3Bits_en (r : Int) : List AV × List AV := (enc [.p (.int .i64)] [.i r], enc [] [])
def f_s_l3Bits_M : Calling := noC
theorem f_s_l3Bits_Mt : CallOk Try.prog (f_s_l3Bits_M) := noC_true
theorem f_s_l3Bits_o : loopsOnce Try.f131 = true := by kernel_rfl
def f_s_l3Bits_h0 : List Sh := [.u, .u, .u, .p (.int .i64), .p (.int .i64), .u, .u, .u, .u, .u, .u, .u, .u, .u, .u]
def f_s_l3Bits_fr0 (s : Int × Int) : List AV := enc f_s_l3Bits_h0 [.i s.1, .i s.2]
def f_s_l3Bits_g0_1 : List Sh := [.u, .u, .u, .p (.int .i64), .u, .u, .u, .u, .u, .u, .u, .u, .u, .u, .u]
def f_s_l3Bits_x0_1 (e : Int) : X × List AV := (.out 0, enc f_s_l3Bits_g0_1 [.i e])
def f_s_l3Bits_x0_2 (_e : Unit) : X × List AV := (.ret, [])
theorem f_s_l3Bits_p0 {R : Type} (s : Int × Int) (kN : Int × Int → Option R) (kA : Int → Option R) (kB : Unit → Option R) : f_s_l3Bits_k0 s.1 s.2 kN kA = (f_s_l3Bits_r0 s).bind (Ro.el kN kA kB) := by
  simp only [f_s_l3Bits_k0, f_s_l3Bits_r0, brB, someB, Ro.el]
theorem f_s_l3Bits_e0 (s : Int × Int) : EC E0 f_s_l3Bits_M H0 f_s_l3Bits_F (asL (noL)) 0 (bodyOf Try.f131 0) (f_s_l3Bits_fr0 s) (done (klOf f_s_l3Bits_F 0)) = f_s_l3Bits_k0 s.1 s.2 (fun s => some (.norm, f_s_l3Bits_fr0 s)) (fun e => some (f_s_l3Bits_x0_1 e)) := by kernel_rfl
theorem f_s_l3Bits_l0 : ∀ s r, loopL (f_s_l3Bits_r0) s = some r → LS Try.prog f_s_l3Bits_F (bodyOf Try.f131 0) (f_s_l3Bits_fr0 s) (enX (f_s_l3Bits_x0_1) (f_s_l3Bits_x0_2) r) :=
  loop_true E0ok f_s_l3Bits_Mt (noL_true) f_s_l3Bits_o (fun _ h => by cases h) (fun _ h => by cases h) (fun s => (f_s_l3Bits_e0 s).trans (f_s_l3Bits_p0 s _ _ (fun e => some (f_s_l3Bits_x0_2 e))))
def f_s_l3Bits_t0 (σ : List AV) : Option (Bool × Bool × (X × List AV) × (X × List AV)) := match dec f_s_l3Bits_h0 σ with
  | some [.i n3, .i x4] => some (isOne (loopL (f_s_l3Bits_r0) (n3, x4)), true, f_s_l3Bits_x0_1 (getOne 0 (loopL (f_s_l3Bits_r0) (n3, x4))), (.ret, []))
  | _ => none
theorem f_s_l3Bits_tt0 : TTrue Try.prog f_s_l3Bits_F Try.f131 0 (f_s_l3Bits_t0) := by
  intro σ p r r' h
  unfold f_s_l3Bits_t0 at h
  split at h
  · rename_i hd
    rw [← dec_enc hd]
    exact row1 (f_s_l3Bits_l0 _) h
  · cases h
theorem f_s_l3Bits_p {R : Type} (a0 : Int) (kR : Int → Option R) : f_s_l3Bits_k a0 kR = (f_s_l3Bits_k a0 some).bind kR := by
  simp only [f_s_l3Bits_k, bl1B, someB]
theorem f_s_l3Bits_e (a0 : Int) : runFn E0 f_s_l3Bits_M H0 f_s_l3Bits_F (asL (addL 0 (f_s_l3Bits_t0) (noL))) Try.f131 (f_s_l3Bits_a a0) (f_s_l3Bits_i a0) = f_s_l3Bits_k a0 (fun r => some (f_s_l3Bits_en r)) := by kernel_rfl
theorem f_s_l3Bits_ok (a0 : Int) (r : Int) (h : f_s_l3Bits a0 = some r) : CS Try.prog 131 (f_s_l3Bits_a a0) (f_s_l3Bits_i a0) (f_s_l3Bits_en r).1 (f_s_l3Bits_en r).2 :=
  fn_true (Gk := fun k => f_s_l3Bits_k a0 k) (en := f_s_l3Bits_en) Try.func131 E0ok f_s_l3Bits_Mt (addL_true (f_s_l3Bits_tt0) (noL_true)) f_s_l3Bits_o (f_s_l3Bits_e a0) (f_s_l3Bits_p a0) h
def f_s_l3Bits_c : CRow := fun args inh => match dec2 [.p (.int .i64)] [] args inh with
  | some ([.i a0], []) => some ((f_s_l3Bits a0).isSome, (f_s_l3Bits_en ((f_s_l3Bits a0).getD 0)).1, (f_s_l3Bits_en ((f_s_l3Bits a0).getD 0)).2)
  | _ => none
theorem f_s_l3Bits_cc : CTrue Try.prog 131 f_s_l3Bits_c := by
  intro args inh rs out h
  unfold f_s_l3Bits_c at h
  split at h
  · rename_i hd
    obtain ⟨h1, h2⟩ := dec2_enc hd
    rw [← h1, ← h2]
    exact rowC (f_s_l3Bits_ok _) h
  · cases h

def f_s_FindBox_F : Fi := { nv := 0, nc := 0, m := 0, vt := [], kl := [(6, ([0, 3, 4, 5, 6, 15, 16, 17, 18, 19, 20, 21, 22, 23, 24, 25, 26, 27, 28, 29, 30, 31, 32, 33, 34, 35, 36, 37, 38, 39, 40, 41, 42, 43, 44, 45, 46, 47, 48, 49, 50, 51, 52, 53, 54, 55, 56, 57, 58, 59, 60, 61, 62, 63, 64, 65, 66, 67, 68, 69, 70, 71, 72, 73, 74, 75, 76, 77, 78, 79, 81, 82, 83, 84, 85, 86, 87], [0, 3, 4, 5, 6, 13, 14, 15, 16, 17, 18, 19, 20, 21, 22, 23, 24, 25, 26, 27, 28, 29, 30, 31, 32, 33, 34, 35, 36, 37, 38, 39, 40, 41, 42, 43, 44, 45, 46, 47, 48, 49, 50, 51, 52, 53, 54, 55, 56, 57, 58, 59, 60, 61, 62, 63, 64, 65, 66, 67, 68, 69, 70, 71, 72, 73, 74, 75, 76, 77, 78, 79, 81, 82, 83, 84, 85, 86, 87], [0, 1, 2, 3, 7, 8, 9, 10, 11, 12, 13, 14, 15, 16, 17, 18, 19, 20, 21, 22, 23, 24, 25, 26, 27, 28, 29, 30, 31, 32, 33, 34, 35, 36, 37, 38, 39, 40, 41, 42, 43, 44, 45, 46, 47, 48, 49, 50, 51, 52, 53, 54, 55, 56, 57, 58, 59, 60, 61, 62, 63, 64, 65, 66, 67, 68, 69, 70, 71, 72, 73, 74, 75, 76, 77, 78, 79, 81, 82, 83, 84, 85, 86, 87])), (4, ([0, 3, 4, 5, 6, 13, 14, 15, 16, 17, 18, 19, 20, 21, 22, 23, 24, 25, 26, 27, 28, 29, 30, 31, 32, 33, 34, 35, 36, 37, 38, 39, 40, 41, 42, 43, 44, 45, 46, 47, 48, 49, 50, 51, 52, 53, 54, 55, 56, 57, 58, 59, 60, 61, 62, 63, 64, 65, 66, 67, 68, 69, 70, 71, 72, 73, 74, 75, 76, 77, 78, 79, 81, 82, 83, 84, 85, 86, 87], [0, 3, 4, 5, 6, 13, 14, 15, 16, 17, 18, 19, 20, 21, 22, 23, 24, 25, 26, 27, 28, 29, 30, 31, 32, 33, 34, 35, 36, 37, 38, 39, 40, 41, 42, 43, 44, 45, 46, 47, 48, 49, 50, 51, 52, 53, 54, 55, 56, 57, 58, 59, 60, 61, 62, 63, 64, 65, 66, 67, 68, 69, 70, 71, 72, 73, 74, 75, 76, 77, 78, 79, 81, 82, 83, 84, 85, 86, 87], [0, 1, 2, 3, 7, 8, 9, 10, 11, 12, 13, 14, 15, 16, 17, 18, 19, 20, 21, 22, 23, 24, 25, 26, 27, 28, 29, 30, 31, 32, 33, 34, 35, 36, 37, 38, 39, 40, 41, 42, 43, 44, 45, 46, 47, 48, 49, 50, 51, 52, 53, 54, 55, 56, 57, 58, 59, 60, 61, 62, 63, 64, 65, 66, 67, 68, 69, 70, 71, 72, 73, 74, 75, 76, 77, 78, 79, 81, 82, 83, 84, 85, 86, 87])), (2, ([0, 3, 4, 5, 6, 11, 12, 13, 14, 15, 16, 17, 18, 19, 20, 21, 22, 23, 24, 25, 26, 27, 28, 29, 30, 31, 32, 33, 34, 35, 36, 37, 38, 39, 40, 41, 42, 43, 44, 45, 46, 47, 48, 49, 50, 51, 52, 53, 54, 55, 56, 57, 58, 59, 60, 61, 62, 63, 64, 65, 66, 67, 68, 69, 70, 71, 72, 73, 74, 75, 76, 77, 78, 79, 81, 82, 83, 84, 85, 86, 87], [0, 3, 4, 5, 6, 13, 14, 15, 16, 17, 18, 19, 20, 21, 22, 23, 24, 25, 26, 27, 28, 29, 30, 31, 32, 33, 34, 35, 36, 37, 38, 39, 40, 41, 42, 43, 44, 45, 46, 47, 48, 49, 50, 51, 52, 53, 54, 55, 56, 57, 58, 59, 60, 61, 62, 63, 64, 65, 66, 67, 68, 69, 70, 71, 72, 73, 74, 75, 76, 77, 78, 79, 81, 82, 83, 84, 85, 86, 87], [0, 1, 2, 3, 7, 8, 9, 10, 11, 12, 13, 14, 15, 16, 17, 18, 19, 20, 21, 22, 23, 24, 25, 26, 27, 28, 29, 30, 31, 32, 33, 34, 35, 36, 37, 38, 39, 40, 41, 42, 43, 44, 45, 46, 47, 48, 49, 50, 51, 52, 53, 54, 55, 56, 57, 58, 59, 60, 61, 62, 63, 64, 65, 66, 67, 68, 69, 70, 71, 72, 73, 74, 75, 76, 77, 78, 79, 81, 82, 83, 84, 85, 86, 87])), (0, ([0, 3, 4, 5, 6, 10, 11, 12, 13, 14, 15, 16, 17, 18, 19, 20, 21, 22, 23, 24, 25, 26, 27, 28, 29, 30, 31, 32, 33, 34, 35, 36, 37, 38, 39, 40, 41, 42, 43, 44, 45, 46, 47, 48, 49, 50, 51, 52, 53, 54, 55, 56, 57, 58, 59, 60, 61, 62, 63, 64, 65, 66, 67, 68, 69, 70, 71, 72, 73, 74, 75, 76, 77, 78, 79, 81, 82, 83, 84, 85, 86, 87], [0, 3, 4, 5, 6, 13, 14, 15, 16, 17, 18, 19, 20, 21, 22, 23, 24, 25, 26, 27, 28, 29, 30, 31, 32, 33, 34, 35, 36, 37, 38, 39, 40, 41, 42, 43, 44, 45, 46, 47, 48, 49, 50, 51, 52, 53, 54, 55, 56, 57, 58, 59, 60, 61, 62, 63, 64, 65, 66, 67, 68, 69, 70, 71, 72, 73, 74, 75, 76, 77, 78, 79, 81, 82, 83, 84, 85, 86, 87], [0, 1, 2, 3, 7, 8, 9, 10, 11, 12, 13, 14, 15, 16, 17, 18, 19, 20, 21, 22, 23, 24, 25, 26, 27, 28, 29, 30, 31, 32, 33, 34, 35, 36, 37, 38, 39, 40, 41, 42, 43, 44, 45, 46, 47, 48, 49, 50, 51, 52, 53, 54, 55, 56, 57, 58, 59, 60, 61, 62, 63, 64, 65, 66, 67, 68, 69, 70, 71, 72, 73, 74, 75, 76, 77, 78, 79, 81, 82, 83, 84, 85, 86, 87]))], sk := [], mvs := [], fz := [], na := [80] }
def f_s_FindBox_a (L0 : List Sc) (p1 : Int) : List AV := enc [.p .gr, .p (.int .i64)] [.l L0, .i p1]
def f_s_FindBox_i (L0 : List Sc) (p1 : Int) : List AV := enc [] []
def f_s_FindBox_en (r : List Sc × List Sc × Bool) : List AV × List AV := (enc [.p (.al 0), .p (.al 1), .p .boo] [.b r.2.2], enc [.own 3, .own 3] [.l r.1, .l r.2.1])
def f_s_FindBox_M : Calling := addC 124 f_s_IsSet_c (addC 131 f_s_l3Bits_c (addC 139 f_s_l2Order_c (addC 140 f_s_l10Progression_c (addC 135 f_s_l4Sum_c (addC 141 f_s_l3Shift_c (noC))))))
theorem f_s_FindBox_Mt : CallOk Try.prog (f_s_FindBox_M) := addC_true f_s_IsSet_cc (addC_true f_s_l3Bits_cc (addC_true f_s_l2Order_cc (addC_true f_s_l10Progression_cc (addC_true f_s_l4Sum_cc (addC_true f_s_l3Shift_cc (noC_true))))))
theorem f_s_FindBox_o : loopsOnce Try.f30 = true := by kernel_rfl
def f_s_FindBox_h6 : List Sh := [.u, .p (.int .i64), .p .el, .u, .u, .u, .u, .p (.int .i64), .p (.int .i64), .p (.int .i64), .p (.int .i64), .p (.int .i64), .p (.int .i64), .p (.int .i64), .p (.int .i64), .u, .u, .u, .u, .u, .u, .u, .u, .u, .u, .u, .u, .u, .u, .u, .u, .u, .u, .u, .u, .u, .u, .u, .u, .u, .u, .u, .u, .u, .u, .u, .u, .u, .u, .u, .u, .u, .u, .u, .u, .u, .u, .u, .u, .u, .u, .u, .u, .u, .u, .u, .u, .u, .u, .u, .u, .u, .u, .u, .u, .u, .u, .u, .u, .u, .und, .u, .u, .u, .u, .u, .u, .u]
def f_s_FindBox_fr6 (t1 : Int) (t2 : List Sc) (t7 : Int) (t8 : Int) (t9 : Int) (t10 : Int) (t11 : Int) (t12 : Int) (t13 : Int) (s : Int) : List AV := enc f_s_FindBox_h6 [.i t1, .l t2, .i t7, .i t8, .i t9, .i t10, .i t11, .i t12, .i t13, .i s]
def f_s_FindBox_g6_1 : List Sh := [.u, .p (.int .i64), .p .el, .u, .u, .u, .u, .p (.int .i64), .p (.int .i64), .p (.int .i64), .p (.int .i64), .p (.int .i64), .p (.int .i64), .u, .u, .u, .u, .u, .u, .u, .u, .u, .u, .u, .u, .u, .u, .u, .u, .u, .u, .u, .u, .u, .u, .u, .u, .u, .u, .u, .u, .u, .u, .u, .u, .u, .u, .u, .u, .u, .u, .u, .u, .u, .u, .u, .u, .u, .u, .u, .u, .u, .u, .u, .u, .u, .u, .u, .u, .u, .u, .u, .u, .u, .u, .u, .u, .u, .u, .u, .und, .u, .u, .u, .u, .u, .u, .u]
def f_s_FindBox_x6_1 (t1 : Int) (t2 : List Sc) (t7 : Int) (t8 : Int) (t9 : Int) (t10 : Int) (t11 : Int) (t12 : Int) (t13 : Int) (e : Unit) : X × List AV := (.out 6, enc f_s_FindBox_g6_1 [.i t1, .l t2, .i t7, .i t8, .i t9, .i t10, .i t11, .i t12])
def f_s_FindBox_g6_2 : List Sh := [.u, .u, .u, .u, .p (.al 80), .own 3, .p .boo, .u, .u, .u, .u, .u, .u, .u, .u, .u, .u, .u, .u, .u, .u, .u, .u, .u, .u, .u, .u, .u, .u, .u, .u, .u, .u, .u, .u, .u, .u, .u, .u, .u, .u, .u, .u, .u, .u, .u, .u, .u, .u, .u, .u, .u, .u, .u, .u, .u, .u, .u, .u, .u, .u, .u, .u, .u, .u, .u, .u, .u, .u, .u, .u, .u, .u, .u, .u, .u, .u, .u, .u, .u, .own 3, .u, .u, .u, .u, .u, .u, .u]
def f_s_FindBox_x6_2 (t1 : Int) (t2 : List Sc) (t7 : Int) (t8 : Int) (t9 : Int) (t10 : Int) (t11 : Int) (t12 : Int) (t13 : Int) (e : List Sc × List Sc) : X × List AV := (.ret, enc f_s_FindBox_g6_2 [.l e.1, .b true, .l e.2])
theorem f_s_FindBox_p6 {R : Type} (t1 : Int) (t2 : List Sc) (t7 : Int) (t8 : Int) (t9 : Int) (t10 : Int) (t11 : Int) (t12 : Int) (t13 : Int) (s : Int) (kN : Int → Option R) (kA : Unit → Option R) (kB : List Sc × List Sc → Option R) : f_s_FindBox_k6 t1 t2 t7 t8 t9 t10 t11 t12 t13 s kN kA kB = (f_s_FindBox_r6 t1 t2 t7 t8 t9 t10 t11 t12 t13 s).bind (Ro.el kN kA kB) := by
  simp only [f_s_FindBox_k6, f_s_FindBox_r6, brB, boB, someB, noneB, Ro.el]
theorem f_s_FindBox_e6 (t1 : Int) (t2 : List Sc) (t7 : Int) (t8 : Int) (t9 : Int) (t10 : Int) (t11 : Int) (t12 : Int) (t13 : Int) (s : Int) : EC E0 f_s_FindBox_M H0 f_s_FindBox_F (asL (noL)) 6 (bodyOf Try.f30 6) (f_s_FindBox_fr6 t1 t2 t7 t8 t9 t10 t11 t12 t13 s) (done (klOf f_s_FindBox_F 6)) = f_s_FindBox_k6 t1 t2 t7 t8 t9 t10 t11 t12 t13 s (fun s => some (.norm, f_s_FindBox_fr6 t1 t2 t7 t8 t9 t10 t11 t12 t13 s)) (fun e => some (f_s_FindBox_x6_1 t1 t2 t7 t8 t9 t10 t11 t12 t13 e)) (fun e => some (f_s_FindBox_x6_2 t1 t2 t7 t8 t9 t10 t11 t12 t13 e)) := by kernel_rfl
theorem f_s_FindBox_l6 (t1 : Int) (t2 : List Sc) (t7 : Int) (t8 : Int) (t9 : Int) (t10 : Int) (t11 : Int) (t12 : Int) (t13 : Int) : ∀ s r, loopL (f_s_FindBox_r6 t1 t2 t7 t8 t9 t10 t11 t12 t13) s = some r → LS Try.prog f_s_FindBox_F (bodyOf Try.f30 6) (f_s_FindBox_fr6 t1 t2 t7 t8 t9 t10 t11 t12 t13 s) (enX (f_s_FindBox_x6_1 t1 t2 t7 t8 t9 t10 t11 t12 t13) (f_s_FindBox_x6_2 t1 t2 t7 t8 t9 t10 t11 t12 t13) r) :=
  loop_true E0ok f_s_FindBox_Mt (noL_true) f_s_FindBox_o (fun _ h => by cases h) (fun _ h => by cases h) (fun s => (f_s_FindBox_e6 t1 t2 t7 t8 t9 t10 t11 t12 t13 s).trans (f_s_FindBox_p6 t1 t2 t7 t8 t9 t10 t11 t12 t13 s _ _ (fun e => some (f_s_FindBox_x6_2 t1 t2 t7 t8 t9 t10 t11 t12 t13 e))))
def f_s_FindBox_t6 (σ : List AV) : Option (Bool × Bool × (X × List AV) × (X × List AV)) := match dec f_s_FindBox_h6 σ with
  | some [.i t1, .l t2, .i t7, .i t8, .i t9, .i t10, .i t11, .i t12, .i t13, .i t14] => some ((loopL (f_s_FindBox_r6 t1 t2 t7 t8 t9 t10 t11 t12 t13) t14).isSome, isOne (loopL (f_s_FindBox_r6 t1 t2 t7 t8 t9 t10 t11 t12 t13) t14), f_s_FindBox_x6_1 t1 t2 t7 t8 t9 t10 t11 t12 t13 (getOne () (loopL (f_s_FindBox_r6 t1 t2 t7 t8 t9 t10 t11 t12 t13) t14)), f_s_FindBox_x6_2 t1 t2 t7 t8 t9 t10 t11 t12 t13 (getTwo ([], []) (loopL (f_s_FindBox_r6 t1 t2 t7 t8 t9 t10 t11 t12 t13) t14)))
  | _ => none
theorem f_s_FindBox_tt6 : TTrue Try.prog f_s_FindBox_F Try.f30 6 (f_s_FindBox_t6) := by
  intro σ p r r' h
  unfold f_s_FindBox_t6 at h
  split at h
  · rename_i hd
    rw [← dec_enc hd]
    exact row2 (f_s_FindBox_l6 _ _ _ _ _ _ _ _ _ _) h
  · cases h
def f_s_FindBox_h4 : List Sh := [.u, .p (.int .i64), .p .el, .u, .u, .u, .u, .p (.int .i64), .p (.int .i64), .p (.int .i64), .p (.int .i64), .p (.int .i64), .p (.int .i64), .u, .u, .u, .u, .u, .u, .u, .u, .u, .u, .u, .u, .u, .u, .u, .u, .u, .u, .u, .u, .u, .u, .u, .u, .u, .u, .u, .u, .u, .u, .u, .u, .u, .u, .u, .u, .u, .u, .u, .u, .u, .u, .u, .u, .u, .u, .u, .u, .u, .u, .u, .u, .u, .u, .u, .u, .u, .u, .u, .u, .u, .u, .u, .u, .u, .u, .u, .und, .u, .u, .u, .u, .u, .u, .u]
def f_s_FindBox_fr4 (t1 : Int) (t2 : List Sc) (t7 : Int) (t8 : Int) (t9 : Int) (t10 : Int) (t11 : Int) (s : Int) : List AV := enc f_s_FindBox_h4 [.i t1, .l t2, .i t7, .i t8, .i t9, .i t10, .i t11, .i s]
def f_s_FindBox_g4_1 : List Sh := [.u, .p (.int .i64), .p .el, .u, .u, .u, .u, .p (.int .i64), .p (.int .i64), .p (.int .i64), .p (.int .i64), .p (.int .i64), .p (.int .i64), .u, .u, .u, .u, .u, .u, .u, .u, .u, .u, .u, .u, .u, .u, .u, .u, .u, .u, .u, .u, .u, .u, .u, .u, .u, .u, .u, .u, .u, .u, .u, .u, .u, .u, .u, .u, .u, .u, .u, .u, .u, .u, .u, .u, .u, .u, .u, .u, .u, .u, .u, .u, .u, .u, .u, .u, .u, .u, .u, .u, .u, .u, .u, .u, .u, .u, .u, .und, .u, .u, .u, .u, .u, .u, .u]
def f_s_FindBox_x4_1 (t1 : Int) (t2 : List Sc) (t7 : Int) (t8 : Int) (t9 : Int) (t10 : Int) (t11 : Int) (e : Int) : X × List AV := (.out 4, enc f_s_FindBox_g4_1 [.i t1, .l t2, .i t7, .i t8, .i t9, .i t10, .i t11, .i e])
def f_s_FindBox_g4_2 : List Sh := [.u, .u, .u, .u, .p (.al 80), .own 3, .p .boo, .u, .u, .u, .u, .u, .u, .u, .u, .u, .u, .u, .u, .u, .u, .u, .u, .u, .u, .u, .u, .u, .u, .u, .u, .u, .u, .u, .u, .u, .u, .u, .u, .u, .u, .u, .u, .u, .u, .u, .u, .u, .u, .u, .u, .u, .u, .u, .u, .u, .u, .u, .u, .u, .u, .u, .u, .u, .u, .u, .u, .u, .u, .u, .u, .u, .u, .u, .u, .u, .u, .u, .u, .u, .own 3, .u, .u, .u, .u, .u, .u, .u]
def f_s_FindBox_x4_2 (t1 : Int) (t2 : List Sc) (t7 : Int) (t8 : Int) (t9 : Int) (t10 : Int) (t11 : Int) (e : List Sc × List Sc) : X × List AV := (.ret, enc f_s_FindBox_g4_2 [.l e.1, .b true, .l e.2])
theorem f_s_FindBox_p4 {R : Type} (t1 : Int) (t2 : List Sc) (t7 : Int) (t8 : Int) (t9 : Int) (t10 : Int) (t11 : Int) (s : Int) (kN : Int → Option R) (kA : Int → Option R) (kB : List Sc × List Sc → Option R) : f_s_FindBox_k4 t1 t2 t7 t8 t9 t10 t11 s kN kA kB = (f_s_FindBox_r4 t1 t2 t7 t8 t9 t10 t11 s).bind (Ro.el kN kA kB) := by
  simp only [f_s_FindBox_k4, f_s_FindBox_r4, brB, boB, blB, someB, noneB, Ro.el]
theorem f_s_FindBox_e4 (t1 : Int) (t2 : List Sc) (t7 : Int) (t8 : Int) (t9 : Int) (t10 : Int) (t11 : Int) (s : Int) : EC E0 f_s_FindBox_M H0 f_s_FindBox_F (asL (addL 6 (f_s_FindBox_t6) (noL))) 4 (bodyOf Try.f30 4) (f_s_FindBox_fr4 t1 t2 t7 t8 t9 t10 t11 s) (done (klOf f_s_FindBox_F 4)) = f_s_FindBox_k4 t1 t2 t7 t8 t9 t10 t11 s (fun s => some (.norm, f_s_FindBox_fr4 t1 t2 t7 t8 t9 t10 t11 s)) (fun e => some (f_s_FindBox_x4_1 t1 t2 t7 t8 t9 t10 t11 e)) (fun e => some (f_s_FindBox_x4_2 t1 t2 t7 t8 t9 t10 t11 e)) := by kernel_rfl
theorem f_s_FindBox_l4 (t1 : Int) (t2 : List Sc) (t7 : Int) (t8 : Int) (t9 : Int) (t10 : Int) (t11 : Int) : ∀ s r, loopL (f_s_FindBox_r4 t1 t2 t7 t8 t9 t10 t11) s = some r → LS Try.prog f_s_FindBox_F (bodyOf Try.f30 4) (f_s_FindBox_fr4 t1 t2 t7 t8 t9 t10 t11 s) (enX (f_s_FindBox_x4_1 t1 t2 t7 t8 t9 t10 t11) (f_s_FindBox_x4_2 t1 t2 t7 t8 t9 t10 t11) r) :=
  loop_true E0ok f_s_FindBox_Mt (addL_true (f_s_FindBox_tt6) (noL_true)) f_s_FindBox_o (fun _ h => by cases h) (fun _ h => by cases h) (fun s => (f_s_FindBox_e4 t1 t2 t7 t8 t9 t10 t11 s).trans (f_s_FindBox_p4 t1 t2 t7 t8 t9 t10 t11 s _ _ (fun e => some (f_s_FindBox_x4_2 t1 t2 t7 t8 t9 t10 t11 e))))
def f_s_FindBox_t4 (σ : List AV) : Option (Bool × Bool × (X × List AV) × (X × List AV)) := match dec f_s_FindBox_h4 σ with
  | some [.i t1, .l t2, .i t7, .i t8, .i t9, .i t10, .i t11, .i t12] => some ((loopL (f_s_FindBox_r4 t1 t2 t7 t8 t9 t10 t11) t12).isSome, isOne (loopL (f_s_FindBox_r4 t1 t2 t7 t8 t9 t10 t11) t12), f_s_FindBox_x4_1 t1 t2 t7 t8 t9 t10 t11 (getOne 0 (loopL (f_s_FindBox_r4 t1 t2 t7 t8 t9 t10 t11) t12)), f_s_FindBox_x4_2 t1 t2 t7 t8 t9 t10 t11 (getTwo ([], []) (loopL (f_s_FindBox_r4 t1 t2 t7 t8 t9 t10 t11) t12)))
  | _ => none
theorem f_s_FindBox_tt4 : TTrue Try.prog f_s_FindBox_F Try.f30 4 (f_s_FindBox_t4) := by
  intro σ p r r' h
  unfold f_s_FindBox_t4 at h
  split at h
  · rename_i hd
    rw [← dec_enc hd]
    exact row2 (f_s_FindBox_l4 _ _ _ _ _ _ _ _) h
  · cases h
def f_s_FindBox_h2 : List Sh := [.u, .p (.int .i64), .p .el, .u, .u, .u, .u, .p (.int .i64), .p (.int .i64), .p (.int .i64), .p (.int .i64), .u, .u, .u, .u, .u, .u, .u, .u, .u, .u, .u, .u, .u, .u, .u, .u, .u, .u, .u, .u, .u, .u, .u, .u, .u, .u, .u, .u, .u, .u, .u, .u, .u, .u, .u, .u, .u, .u, .u, .u, .u, .u, .u, .u, .u, .u, .u, .u, .u, .u, .u, .u, .u, .u, .u, .u, .u, .u, .u, .u, .u, .u, .u, .u, .u, .u, .u, .u, .u, .und, .u, .u, .u, .u, .u, .u, .u]
def f_s_FindBox_fr2 (t1 : Int) (t2 : List Sc) (t7 : Int) (t8 : Int) (t9 : Int) (s : Int) : List AV := enc f_s_FindBox_h2 [.i t1, .l t2, .i t7, .i t8, .i t9, .i s]
def f_s_FindBox_g2_1 : List Sh := [.u, .p (.int .i64), .p .el, .u, .u, .u, .u, .p (.int .i64), .p (.int .i64), .p (.int .i64), .p (.int .i64), .u, .u, .u, .u, .u, .u, .u, .u, .u, .u, .u, .u, .u, .u, .u, .u, .u, .u, .u, .u, .u, .u, .u, .u, .u, .u, .u, .u, .u, .u, .u, .u, .u, .u, .u, .u, .u, .u, .u, .u, .u, .u, .u, .u, .u, .u, .u, .u, .u, .u, .u, .u, .u, .u, .u, .u, .u, .u, .u, .u, .u, .u, .u, .u, .u, .u, .u, .u, .u, .und, .u, .u, .u, .u, .u, .u, .u]
def f_s_FindBox_x2_1 (t1 : Int) (t2 : List Sc) (t7 : Int) (t8 : Int) (t9 : Int) (e : Int) : X × List AV := (.out 2, enc f_s_FindBox_g2_1 [.i t1, .l t2, .i t7, .i t8, .i t9, .i e])
def f_s_FindBox_g2_2 : List Sh := [.u, .u, .u, .u, .p (.al 80), .own 3, .p .boo, .u, .u, .u, .u, .u, .u, .u, .u, .u, .u, .u, .u, .u, .u, .u, .u, .u, .u, .u, .u, .u, .u, .u, .u, .u, .u, .u, .u, .u, .u, .u, .u, .u, .u, .u, .u, .u, .u, .u, .u, .u, .u, .u, .u, .u, .u, .u, .u, .u, .u, .u, .u, .u, .u, .u, .u, .u, .u, .u, .u, .u, .u, .u, .u, .u, .u, .u, .u, .u, .u, .u, .u, .u, .own 3, .u, .u, .u, .u, .u, .u, .u]
def f_s_FindBox_x2_2 (t1 : Int) (t2 : List Sc) (t7 : Int) (t8 : Int) (t9 : Int) (e : List Sc × List Sc) : X × List AV := (.ret, enc f_s_FindBox_g2_2 [.l e.1, .b true, .l e.2])
theorem f_s_FindBox_p2 {R : Type} (t1 : Int) (t2 : List Sc) (t7 : Int) (t8 : Int) (t9 : Int) (s : Int) (kN : Int → Option R) (kA : Int → Option R) (kB : List Sc × List Sc → Option R) : f_s_FindBox_k2 t1 t2 t7 t8 t9 s kN kA kB = (f_s_FindBox_r2 t1 t2 t7 t8 t9 s).bind (Ro.el kN kA kB) := by
  simp only [f_s_FindBox_k2, f_s_FindBox_r2, brB, boB, blB, someB, Ro.el]
theorem f_s_FindBox_e2 (t1 : Int) (t2 : List Sc) (t7 : Int) (t8 : Int) (t9 : Int) (s : Int) : EC E0 f_s_FindBox_M H0 f_s_FindBox_F (asL (addL 4 (f_s_FindBox_t4) (addL 6 (f_s_FindBox_t6) (noL)))) 2 (bodyOf Try.f30 2) (f_s_FindBox_fr2 t1 t2 t7 t8 t9 s) (done (klOf f_s_FindBox_F 2)) = f_s_FindBox_k2 t1 t2 t7 t8 t9 s (fun s => some (.norm, f_s_FindBox_fr2 t1 t2 t7 t8 t9 s)) (fun e => some (f_s_FindBox_x2_1 t1 t2 t7 t8 t9 e)) (fun e => some (f_s_FindBox_x2_2 t1 t2 t7 t8 t9 e)) := by kernel_rfl
theorem f_s_FindBox_l2 (t1 : Int) (t2 : List Sc) (t7 : Int) (t8 : Int) (t9 : Int) : ∀ s r, loopL (f_s_FindBox_r2 t1 t2 t7 t8 t9) s = some r → LS Try.prog f_s_FindBox_F (bodyOf Try.f30 2) (f_s_FindBox_fr2 t1 t2 t7 t8 t9 s) (enX (f_s_FindBox_x2_1 t1 t2 t7 t8 t9) (f_s_FindBox_x2_2 t1 t2 t7 t8 t9) r) :=
  loop_true E0ok f_s_FindBox_Mt (addL_true (f_s_FindBox_tt4) (addL_true (f_s_FindBox_tt6) (noL_true))) f_s_FindBox_o (fun _ h => by cases h) (fun _ h => by cases h) (fun s => (f_s_FindBox_e2 t1 t2 t7 t8 t9 s).trans (f_s_FindBox_p2 t1 t2 t7 t8 t9 s _ _ (fun e => some (f_s_FindBox_x2_2 t1 t2 t7 t8 t9 e))))
def f_s_FindBox_t2 (σ : List AV) : Option (Bool × Bool × (X × List AV) × (X × List AV)) := match dec f_s_FindBox_h2 σ with
  | some [.i t1, .l t2, .i t7, .i t8, .i t9, .i t10] => some ((loopL (f_s_FindBox_r2 t1 t2 t7 t8 t9) t10).isSome, isOne (loopL (f_s_FindBox_r2 t1 t2 t7 t8 t9) t10), f_s_FindBox_x2_1 t1 t2 t7 t8 t9 (getOne 0 (loopL (f_s_FindBox_r2 t1 t2 t7 t8 t9) t10)), f_s_FindBox_x2_2 t1 t2 t7 t8 t9 (getTwo ([], []) (loopL (f_s_FindBox_r2 t1 t2 t7 t8 t9) t10)))
  | _ => none
theorem f_s_FindBox_tt2 : TTrue Try.prog f_s_FindBox_F Try.f30 2 (f_s_FindBox_t2) := by
  intro σ p r r' h
  unfold f_s_FindBox_t2 at h
  split at h
  · rename_i hd
    rw [← dec_enc hd]
    exact row2 (f_s_FindBox_l2 _ _ _ _ _ _) h
  · cases h
def f_s_FindBox_h0 : List Sh := [.u, .p (.int .i64), .p .el, .u, .u, .u, .u, .p (.int .i64), .p (.int .i64), .p (.int .i64), .u, .u, .u, .u, .u, .u, .u, .u, .u, .u, .u, .u, .u, .u, .u, .u, .u, .u, .u, .u, .u, .u, .u, .u, .u, .u, .u, .u, .u, .u, .u, .u, .u, .u, .u, .u, .u, .u, .u, .u, .u, .u, .u, .u, .u, .u, .u, .u, .u, .u, .u, .u, .u, .u, .u, .u, .u, .u, .u, .u, .u, .u, .u, .u, .u, .u, .u, .u, .u, .u, .und, .u, .u, .u, .u, .u, .u, .u]
def f_s_FindBox_fr0 (t1 : Int) (t2 : List Sc) (t7 : Int) (t8 : Int) (s : Int) : List AV := enc f_s_FindBox_h0 [.i t1, .l t2, .i t7, .i t8, .i s]
def f_s_FindBox_g0_1 : List Sh := [.u, .p (.int .i64), .p .el, .u, .u, .u, .u, .p (.int .i64), .p (.int .i64), .p (.int .i64), .u, .u, .u, .u, .u, .u, .u, .u, .u, .u, .u, .u, .u, .u, .u, .u, .u, .u, .u, .u, .u, .u, .u, .u, .u, .u, .u, .u, .u, .u, .u, .u, .u, .u, .u, .u, .u, .u, .u, .u, .u, .u, .u, .u, .u, .u, .u, .u, .u, .u, .u, .u, .u, .u, .u, .u, .u, .u, .u, .u, .u, .u, .u, .u, .u, .u, .u, .u, .u, .u, .und, .u, .u, .u, .u, .u, .u, .u]
def f_s_FindBox_x0_1 (t1 : Int) (t2 : List Sc) (t7 : Int) (t8 : Int) (e : Int) : X × List AV := (.out 0, enc f_s_FindBox_g0_1 [.i t1, .l t2, .i t7, .i t8, .i e])
def f_s_FindBox_g0_2 : List Sh := [.u, .u, .u, .u, .p (.al 80), .own 3, .p .boo, .u, .u, .u, .u, .u, .u, .u, .u, .u, .u, .u, .u, .u, .u, .u, .u, .u, .u, .u, .u, .u, .u, .u, .u, .u, .u, .u, .u, .u, .u, .u, .u, .u, .u, .u, .u, .u, .u, .u, .u, .u, .u, .u, .u, .u, .u, .u, .u, .u, .u, .u, .u, .u, .u, .u, .u, .u, .u, .u, .u, .u, .u, .u, .u, .u, .u, .u, .u, .u, .u, .u, .u, .u, .own 3, .u, .u, .u, .u, .u, .u, .u]
def f_s_FindBox_x0_2 (t1 : Int) (t2 : List Sc) (t7 : Int) (t8 : Int) (e : List Sc × List Sc) : X × List AV := (.ret, enc f_s_FindBox_g0_2 [.l e.1, .b true, .l e.2])
theorem f_s_FindBox_p0 {R : Type} (t1 : Int) (t2 : List Sc) (t7 : Int) (t8 : Int) (s : Int) (kN : Int → Option R) (kA : Int → Option R) (kB : List Sc × List Sc → Option R) : f_s_FindBox_k0 t1 t2 t7 t8 s kN kA kB = (f_s_FindBox_r0 t1 t2 t7 t8 s).bind (Ro.el kN kA kB) := by
  simp only [f_s_FindBox_k0, f_s_FindBox_r0, brB, blB, someB, noneB, Ro.el]
theorem f_s_FindBox_e0 (t1 : Int) (t2 : List Sc) (t7 : Int) (t8 : Int) (s : Int) : EC E0 f_s_FindBox_M H0 f_s_FindBox_F (asL (addL 2 (f_s_FindBox_t2) (addL 4 (f_s_FindBox_t4) (addL 6 (f_s_FindBox_t6) (noL))))) 0 (bodyOf Try.f30 0) (f_s_FindBox_fr0 t1 t2 t7 t8 s) (done (klOf f_s_FindBox_F 0)) = f_s_FindBox_k0 t1 t2 t7 t8 s (fun s => some (.norm, f_s_FindBox_fr0 t1 t2 t7 t8 s)) (fun e => some (f_s_FindBox_x0_1 t1 t2 t7 t8 e)) (fun e => some (f_s_FindBox_x0_2 t1 t2 t7 t8 e)) := by kernel_rfl
theorem f_s_FindBox_l0 (t1 : Int) (t2 : List Sc) (t7 : Int) (t8 : Int) : ∀ s r, loopL (f_s_FindBox_r0 t1 t2 t7 t8) s = some r → LS Try.prog f_s_FindBox_F (bodyOf Try.f30 0) (f_s_FindBox_fr0 t1 t2 t7 t8 s) (enX (f_s_FindBox_x0_1 t1 t2 t7 t8) (f_s_FindBox_x0_2 t1 t2 t7 t8) r) :=
  loop_true E0ok f_s_FindBox_Mt (addL_true (f_s_FindBox_tt2) (addL_true (f_s_FindBox_tt4) (addL_true (f_s_FindBox_tt6) (noL_true)))) f_s_FindBox_o (fun _ h => by cases h) (fun _ h => by cases h) (fun s => (f_s_FindBox_e0 t1 t2 t7 t8 s).trans (f_s_FindBox_p0 t1 t2 t7 t8 s _ _ (fun e => some (f_s_FindBox_x0_2 t1 t2 t7 t8 e))))
def f_s_FindBox_t0 (σ : List AV) : Option (Bool × Bool × (X × List AV) × (X × List AV)) := match dec f_s_FindBox_h0 σ with
  | some [.i t1, .l t2, .i t7, .i t8, .i t9] => some ((loopL (f_s_FindBox_r0 t1 t2 t7 t8) t9).isSome, isOne (loopL (f_s_FindBox_r0 t1 t2 t7 t8) t9), f_s_FindBox_x0_1 t1 t2 t7 t8 (getOne 0 (loopL (f_s_FindBox_r0 t1 t2 t7 t8) t9)), f_s_FindBox_x0_2 t1 t2 t7 t8 (getTwo ([], []) (loopL (f_s_FindBox_r0 t1 t2 t7 t8) t9)))
  | _ => none
theorem f_s_FindBox_tt0 : TTrue Try.prog f_s_FindBox_F Try.f30 0 (f_s_FindBox_t0) := by
  intro σ p r r' h
  unfold f_s_FindBox_t0 at h
  split at h
  · rename_i hd
    rw [← dec_enc hd]
    exact row2 (f_s_FindBox_l0 _ _ _ _ _) h
  · cases h
theorem f_s_FindBox_p {R : Type} (L0 : List Sc) (p1 : Int) (kR : List Sc × List Sc × Bool → Option R) : f_s_FindBox_k L0 p1 kR = (f_s_FindBox_k L0 p1 some).bind kR := by
  simp only [f_s_FindBox_k, brB, boB, blB, someB]
theorem f_s_FindBox_e (L0 : List Sc) (p1 : Int) : runFn E0 f_s_FindBox_M H0 f_s_FindBox_F (asL (addL 0 (f_s_FindBox_t0) (addL 2 (f_s_FindBox_t2) (addL 4 (f_s_FindBox_t4) (addL 6 (f_s_FindBox_t6) (noL)))))) Try.f30 (f_s_FindBox_a L0 p1) (f_s_FindBox_i L0 p1) = f_s_FindBox_k L0 p1 (fun r => some (f_s_FindBox_en r)) := by kernel_rfl
theorem f_s_FindBox_ok (L0 : List Sc) (p1 : Int) (r : List Sc × List Sc × Bool) (h : f_s_FindBox L0 p1 = some r) : CS Try.prog 30 (f_s_FindBox_a L0 p1) (f_s_FindBox_i L0 p1) (f_s_FindBox_en r).1 (f_s_FindBox_en r).2 :=
  fn_true (Gk := fun k => f_s_FindBox_k L0 p1 k) (en := f_s_FindBox_en) Try.func30 E0ok f_s_FindBox_Mt (addL_true (f_s_FindBox_tt0) (addL_true (f_s_FindBox_tt2) (addL_true (f_s_FindBox_tt4) (addL_true (f_s_FindBox_tt6) (noL_true))))) f_s_FindBox_o (f_s_FindBox_e L0 p1) (f_s_FindBox_p L0 p1) h
def f_s_FindBox_c : CRow := fun args inh => match dec2 [.p .gr, .p (.int .i64)] [] args inh with
  | some ([.l L0, .i p1], []) => some ((f_s_FindBox L0 p1).isSome, (f_s_FindBox_en ((f_s_FindBox L0 p1).getD ([], [], false))).1, (f_s_FindBox_en ((f_s_FindBox L0 p1).getD ([], [], false))).2)
  | _ => none
theorem f_s_FindBox_cc : CTrue Try.prog 30 f_s_FindBox_c := by
  intro args inh rs out h
  unfold f_s_FindBox_c at h
  split at h
  · rename_i hd
    obtain ⟨h1, h2⟩ := dec2_enc hd
    rw [← h1, ← h2]
    exact rowC (f_s_FindBox_ok _ _) h
  · cases h

def f_l_sameInts_F : Fi := { nv := 0, nc := 0, m := 0, vt := [], kl := [(0, ([2, 3, 4, 6, 7, 8, 9, 10, 11, 12, 13, 14, 15, 16, 17, 18, 19, 20, 21, 22, 23, 24, 25], [0, 1, 2, 3, 4, 5, 6, 7, 8, 9, 10, 11, 12, 13, 14, 15, 16, 17, 18, 19, 20, 21, 22, 23, 24, 25], [0, 1, 2, 3, 5, 6, 7, 8, 9, 10, 11, 12, 13, 14, 15, 16, 17, 18, 19, 20, 21, 22, 23, 24, 25]))], sk := [], mvs := [], fz := [] }
def f_l_sameInts_a (a0 : List Sc) (b1 : List Sc) : List AV := enc [.p .sl, .p .sl] [.l a0, .l b1]
def f_l_sameInts_i (a0 : List Sc) (b1 : List Sc) : List AV := enc [] []
def f_l_sameInts_en (r : Bool) : List AV × List AV := (enc [.p .boo] [.b r], enc [] [])
def f_l_sameInts_M : Calling := noC
theorem f_l_sameInts_Mt : CallOk Try.prog (f_l_sameInts_M) := noC_true
theorem f_l_sameInts_o : loopsOnce Try.f24 = true := by kernel_rfl
def f_l_sameInts_h0 : List Sh := [.p .sl, .p .sl, .u, .u, .u, .p (.int .i64), .u, .u, .u, .u, .u, .u, .u, .u, .u, .u, .u, .u, .u, .u, .u, .u, .u, .u, .u, .u]
def f_l_sameInts_fr0 (a0 : List Sc) (b1 : List Sc) (s : Int) : List AV := enc f_l_sameInts_h0 [.l a0, .l b1, .i s]
def f_l_sameInts_g0_1 : List Sh := [.u, .u, .u, .u, .u, .u, .u, .u, .u, .u, .u, .u, .u, .u, .u, .u, .u, .u, .u, .u, .u, .u, .u, .u, .u, .u]
def f_l_sameInts_x0_1 (a0 : List Sc) (b1 : List Sc) (e : Unit) : X × List AV := (.out 0, enc f_l_sameInts_g0_1 [])
def f_l_sameInts_g0_2 : List Sh := [.u, .u, .u, .u, .p .boo, .u, .u, .u, .u, .u, .u, .u, .u, .u, .u, .u, .u, .u, .u, .u, .u, .u, .u, .u, .u, .u]
def f_l_sameInts_x0_2 (a0 : List Sc) (b1 : List Sc) (e : Unit) : X × List AV := (.ret, enc f_l_sameInts_g0_2 [.b false])
theorem f_l_sameInts_p0 {R : Type} (a0 : List Sc) (b1 : List Sc) (s : Int) (kN : Int → Option R) (kA : Unit → Option R) (kB : Unit → Option R) : f_l_sameInts_k0 a0 b1 s kN kA kB = (f_l_sameInts_r0 a0 b1 s).bind (Ro.el kN kA kB) := by
  simp only [f_l_sameInts_k0, f_l_sameInts_r0, brB, someB, noneB, Ro.el]
theorem f_l_sameInts_e0 (a0 : List Sc) (b1 : List Sc) (s : Int) : EC E0 f_l_sameInts_M H0 f_l_sameInts_F (asL (noL)) 0 (bodyOf Try.f24 0) (f_l_sameInts_fr0 a0 b1 s) (done (klOf f_l_sameInts_F 0)) = f_l_sameInts_k0 a0 b1 s (fun s => some (.norm, f_l_sameInts_fr0 a0 b1 s)) (fun e => some (f_l_sameInts_x0_1 a0 b1 e)) (fun e => some (f_l_sameInts_x0_2 a0 b1 e)) := by kernel_rfl
theorem f_l_sameInts_l0 (a0 : List Sc) (b1 : List Sc) : ∀ s r, loopL (f_l_sameInts_r0 a0 b1) s = some r → LS Try.prog f_l_sameInts_F (bodyOf Try.f24 0) (f_l_sameInts_fr0 a0 b1 s) (enX (f_l_sameInts_x0_1 a0 b1) (f_l_sameInts_x0_2 a0 b1) r) :=
  loop_true E0ok f_l_sameInts_Mt (noL_true) f_l_sameInts_o (fun _ h => by cases h) (fun _ h => by cases h) (fun s => (f_l_sameInts_e0 a0 b1 s).trans (f_l_sameInts_p0 a0 b1 s _ _ (fun e => some (f_l_sameInts_x0_2 a0 b1 e))))
def f_l_sameInts_t0 (σ : List AV) : Option (Bool × Bool × (X × List AV) × (X × List AV)) := match dec f_l_sameInts_h0 σ with
  | some [.l a0, .l b1, .i i5] => some ((loopL (f_l_sameInts_r0 a0 b1) i5).isSome, isOne (loopL (f_l_sameInts_r0 a0 b1) i5), f_l_sameInts_x0_1 a0 b1 (getOne () (loopL (f_l_sameInts_r0 a0 b1) i5)), f_l_sameInts_x0_2 a0 b1 (getTwo () (loopL (f_l_sameInts_r0 a0 b1) i5)))
  | _ => none
theorem f_l_sameInts_tt0 : TTrue Try.prog f_l_sameInts_F Try.f24 0 (f_l_sameInts_t0) := by
  intro σ p r r' h
  unfold f_l_sameInts_t0 at h
  split at h
  · rename_i hd
    rw [← dec_enc hd]
    exact row2 (f_l_sameInts_l0 _ _ _) h
  · cases h
theorem f_l_sameInts_p {R : Type} (a0 : List Sc) (b1 : List Sc) (kR : Bool → Option R) : f_l_sameInts_k a0 b1 kR = (f_l_sameInts_k a0 b1 some).bind kR := by
  simp only [f_l_sameInts_k, brB, blB, someB]
theorem f_l_sameInts_e (a0 : List Sc) (b1 : List Sc) : runFn E0 f_l_sameInts_M H0 f_l_sameInts_F (asL (addL 0 (f_l_sameInts_t0) (noL))) Try.f24 (f_l_sameInts_a a0 b1) (f_l_sameInts_i a0 b1) = f_l_sameInts_k a0 b1 (fun r => some (f_l_sameInts_en r)) := by kernel_rfl
theorem f_l_sameInts_ok (a0 : List Sc) (b1 : List Sc) (r : Bool) (h : f_l_sameInts a0 b1 = some r) : CS Try.prog 24 (f_l_sameInts_a a0 b1) (f_l_sameInts_i a0 b1) (f_l_sameInts_en r).1 (f_l_sameInts_en r).2 :=
  fn_true (Gk := fun k => f_l_sameInts_k a0 b1 k) (en := f_l_sameInts_en) Try.func24 E0ok f_l_sameInts_Mt (addL_true (f_l_sameInts_tt0) (noL_true)) f_l_sameInts_o (f_l_sameInts_e a0 b1) (f_l_sameInts_p a0 b1) h
def f_l_sameInts_c : CRow := fun args inh => match dec2 [.p .sl, .p .sl] [] args inh with
  | some ([.l a0, .l b1], []) => some ((f_l_sameInts a0 b1).isSome, (f_l_sameInts_en ((f_l_sameInts a0 b1).getD false)).1, (f_l_sameInts_en ((f_l_sameInts a0 b1).getD false)).2)
  | _ => none
theorem f_l_sameInts_cc : CTrue Try.prog 24 f_l_sameInts_c := by
  intro args inh rs out h
  unfold f_l_sameInts_c at h
  split at h
  · rename_i hd
    obtain ⟨h1, h2⟩ := dec2_enc hd
    rw [← h1, ← h2]
    exact rowC (f_l_sameInts_ok _ _) h
  · cases h

def f_i_IsBox_F : Fi := { nv := 2, nc := 0, m := 0, vt := [(11, 0)], kl := [], sk := [], mvs := [0, 1], fz := [] }
def f_i_IsBox_a (g0 : List Sc) (a1 : Int) : List AV := enc [.p .gr, .p (.int .i64)] [.l g0, .i a1]
def f_i_IsBox_i (g0 : List Sc) (a1 : Int) : List AV := enc [] []
def f_i_IsBox_en (r : Bool) : List AV × List AV := (enc [.p .boo] [.b r], enc [] [])
def f_i_IsBox_M : Calling := addC 29 f_i_FindBox_c (noC)
theorem f_i_IsBox_Mt : CallOk Try.prog (f_i_IsBox_M) := addC_true f_i_FindBox_cc (noC_true)
theorem f_i_IsBox_o : loopsOnce Try.f31 = true := by kernel_rfl
theorem f_i_IsBox_p {R : Type} (g0 : List Sc) (a1 : Int) (kR : Bool → Option R) : f_i_IsBox_k g0 a1 kR = (f_i_IsBox_k g0 a1 some).bind kR := by
  simp only [f_i_IsBox_k, boB, someB]
theorem f_i_IsBox_e (g0 : List Sc) (a1 : Int) : runFn E0 f_i_IsBox_M H0 f_i_IsBox_F (asL (noL)) Try.f31 (f_i_IsBox_a g0 a1) (f_i_IsBox_i g0 a1) = f_i_IsBox_k g0 a1 (fun r => some (f_i_IsBox_en r)) := by kernel_rfl
theorem f_i_IsBox_ok (g0 : List Sc) (a1 : Int) (r : Bool) (h : f_i_IsBox g0 a1 = some r) : CS Try.prog 31 (f_i_IsBox_a g0 a1) (f_i_IsBox_i g0 a1) (f_i_IsBox_en r).1 (f_i_IsBox_en r).2 :=
  fn_true (Gk := fun k => f_i_IsBox_k g0 a1 k) (en := f_i_IsBox_en) Try.func31 E0ok f_i_IsBox_Mt (noL_true) f_i_IsBox_o (f_i_IsBox_e g0 a1) (f_i_IsBox_p g0 a1) h
def f_i_IsBox_c : CRow := fun args inh => match dec2 [.p .gr, .p (.int .i64)] [] args inh with
  | some ([.l g0, .i a1], []) => some ((f_i_IsBox g0 a1).isSome, (f_i_IsBox_en ((f_i_IsBox g0 a1).getD false)).1, (f_i_IsBox_en ((f_i_IsBox g0 a1).getD false)).2)
  | _ => none
theorem f_i_IsBox_cc : CTrue Try.prog 31 f_i_IsBox_c := by
  intro args inh rs out h
  unfold f_i_IsBox_c at h
  split at h
  · rename_i hd
    obtain ⟨h1, h2⟩ := dec2_enc hd
    rw [← h1, ← h2]
    exact rowC (f_i_IsBox_ok _ _) h
  · cases h

def f_i_Group_has_F : Fi := { nv := 0, nc := 0, m := 0, vt := [], kl := [], sk := [], mvs := [], fz := [] }
def f_i_Group_has_a (g0 : List Sc) (x1 : Int) : List AV := enc [.p .gr, .p (.int .i64)] [.l g0, .i x1]
def f_i_Group_has_i (g0 : List Sc) (x1 : Int) : List AV := enc [] []
def f_i_Group_has_en (r : Bool) : List AV × List AV := (enc [.p .boo] [.b r], enc [] [])
def f_i_Group_has_M : Calling := addC 122 f_i_OrderOf_c (addC 144 f_i_within_c (noC))
theorem f_i_Group_has_Mt : CallOk Try.prog (f_i_Group_has_M) := addC_true f_i_OrderOf_cc (addC_true f_i_within_cc (noC_true))
theorem f_i_Group_has_o : loopsOnce Try.f143 = true := by kernel_rfl
theorem f_i_Group_has_p {R : Type} (g0 : List Sc) (x1 : Int) (kR : Bool → Option R) : f_i_Group_has_k g0 x1 kR = (f_i_Group_has_k g0 x1 some).bind kR := by
  simp only [f_i_Group_has_k, boB, someB]
theorem f_i_Group_has_e (g0 : List Sc) (x1 : Int) : runFn E0 f_i_Group_has_M H0 f_i_Group_has_F (asL (noL)) Try.f143 (f_i_Group_has_a g0 x1) (f_i_Group_has_i g0 x1) = f_i_Group_has_k g0 x1 (fun r => some (f_i_Group_has_en r)) := by kernel_rfl
theorem f_i_Group_has_ok (g0 : List Sc) (x1 : Int) (r : Bool) (h : f_i_Group_has g0 x1 = some r) : CS Try.prog 143 (f_i_Group_has_a g0 x1) (f_i_Group_has_i g0 x1) (f_i_Group_has_en r).1 (f_i_Group_has_en r).2 :=
  fn_true (Gk := fun k => f_i_Group_has_k g0 x1 k) (en := f_i_Group_has_en) Try.func143 E0ok f_i_Group_has_Mt (noL_true) f_i_Group_has_o (f_i_Group_has_e g0 x1) (f_i_Group_has_p g0 x1) h
def f_i_Group_has_c : CRow := fun args inh => match dec2 [.p .gr, .p (.int .i64)] [] args inh with
  | some ([.l g0, .i x1], []) => some ((f_i_Group_has g0 x1).isSome, (f_i_Group_has_en ((f_i_Group_has g0 x1).getD false)).1, (f_i_Group_has_en ((f_i_Group_has g0 x1).getD false)).2)
  | _ => none
theorem f_i_Group_has_cc : CTrue Try.prog 143 f_i_Group_has_c := by
  intro args inh rs out h
  unfold f_i_Group_has_c at h
  split at h
  · rename_i hd
    obtain ⟨h1, h2⟩ := dec2_enc hd
    rw [← h1, ← h2]
    exact rowC (f_i_Group_has_ok _ _) h
  · cases h

def f_i_BoxOf_F : Fi := { nv := 0, nc := 0, m := 0, vt := [], kl := [(0, ([0, 1, 4, 5, 6, 7, 9, 10, 11, 12, 13, 14, 15, 16, 17, 18, 19, 20, 21, 22, 23, 24, 25, 29, 30, 31, 32, 33, 34, 35, 36, 37, 38, 39, 40, 41, 42, 43, 44, 45, 46, 47, 48, 49, 50, 51, 52, 53, 54, 55, 56], [0, 1, 2, 3, 4, 5, 6, 7, 9, 10, 11, 12, 13, 14, 15, 16, 17, 18, 19, 20, 21, 22, 23, 24, 25, 26, 27, 28, 29, 30, 31, 32, 33, 34, 35, 36, 37, 38, 39, 40, 41, 42, 43, 44, 45, 46, 47, 48, 49, 50, 51, 52, 53, 54, 55, 56], [0, 1, 2, 3, 4, 5, 8, 9, 10, 11, 12, 13, 14, 15, 16, 17, 18, 19, 20, 21, 22, 23, 24, 25, 26, 27, 28, 29, 30, 31, 32, 33, 34, 35, 36, 37, 38, 39, 40, 41, 42, 43, 44, 45, 46, 47, 48, 49, 50, 51, 52, 53, 54, 55, 56]))], sk := [], mvs := [], fz := [] }
def f_i_BoxOf_a (g0 : List Sc) (steps1 : List Sc) (sizes2 : List Sc) : List AV := enc [.p .gr, .p .sl, .p .sl] [.l g0, .l steps1, .l sizes2]
def f_i_BoxOf_i (g0 : List Sc) (steps1 : List Sc) (sizes2 : List Sc) : List AV := enc [] []
def f_i_BoxOf_en (r : Int × Bool) : List AV × List AV := (enc [.p (.int .i64), .p .boo] [.i r.1, .b r.2], enc [] [])
def f_i_BoxOf_M : Calling := addC 142 f_i_IsGroup_c (addC 143 f_i_Group_has_c (addC 144 f_i_within_c (addC 138 f_i_Group_progression_c (addC 128 f_i_Group_sum_c (noC)))))
theorem f_i_BoxOf_Mt : CallOk Try.prog (f_i_BoxOf_M) := addC_true f_i_IsGroup_cc (addC_true f_i_Group_has_cc (addC_true f_i_within_cc (addC_true f_i_Group_progression_cc (addC_true f_i_Group_sum_cc (noC_true)))))
theorem f_i_BoxOf_o : loopsOnce Try.f32 = true := by kernel_rfl
def f_i_BoxOf_h0 : List Sh := [.u, .u, .p .sl, .p .el, .u, .u, .u, .u, .p (.int .i64), .u, .u, .u, .u, .u, .u, .u, .u, .u, .u, .u, .u, .u, .u, .u, .u, .u, .p .sl, .p (.int .i64), .p (.int .i64), .u, .u, .u, .u, .u, .u, .u, .u, .u, .u, .u, .u, .u, .u, .u, .u, .u, .u, .u, .u, .u, .u, .u, .u, .u, .u, .u, .u]
def f_i_BoxOf_fr0 (sizes2 : List Sc) (g3 : List Sc) (t26 : List Sc) (t27 : Int) (s : Int × Int) : List AV := enc f_i_BoxOf_h0 [.l sizes2, .l g3, .i s.1, .l t26, .i t27, .i s.2]
def f_i_BoxOf_g0_1 : List Sh := [.u, .u, .u, .u, .u, .u, .u, .u, .p (.int .i64), .u, .u, .u, .u, .u, .u, .u, .u, .u, .u, .u, .u, .u, .u, .u, .u, .u, .u, .u, .u, .u, .u, .u, .u, .u, .u, .u, .u, .u, .u, .u, .u, .u, .u, .u, .u, .u, .u, .u, .u, .u, .u, .u, .u, .u, .u, .u, .u]
def f_i_BoxOf_x0_1 (sizes2 : List Sc) (g3 : List Sc) (t26 : List Sc) (t27 : Int) (e : Int) : X × List AV := (.out 0, enc f_i_BoxOf_g0_1 [.i e])
def f_i_BoxOf_g0_2 : List Sh := [.u, .u, .u, .u, .u, .u, .p (.int .i64), .p .boo, .u, .u, .u, .u, .u, .u, .u, .u, .u, .u, .u, .u, .u, .u, .u, .u, .u, .u, .u, .u, .u, .u, .u, .u, .u, .u, .u, .u, .u, .u, .u, .u, .u, .u, .u, .u, .u, .u, .u, .u, .u, .u, .u, .u, .u, .u, .u, .u, .u]
def f_i_BoxOf_x0_2 (sizes2 : List Sc) (g3 : List Sc) (t26 : List Sc) (t27 : Int) (e : Unit) : X × List AV := (.ret, enc f_i_BoxOf_g0_2 [.i 0, .b false])
theorem f_i_BoxOf_p0 {R : Type} (sizes2 : List Sc) (g3 : List Sc) (t26 : List Sc) (t27 : Int) (s : Int × Int) (kN : Int × Int → Option R) (kA : Int → Option R) (kB : Unit → Option R) : f_i_BoxOf_k0 sizes2 g3 t26 t27 s.1 s.2 kN kA kB = (f_i_BoxOf_r0 sizes2 g3 t26 t27 s).bind (Ro.el kN kA kB) := by
  simp only [f_i_BoxOf_k0, f_i_BoxOf_r0, brB, boB, someB, noneB, Ro.el]
theorem f_i_BoxOf_e0 (sizes2 : List Sc) (g3 : List Sc) (t26 : List Sc) (t27 : Int) (s : Int × Int) : EC E0 f_i_BoxOf_M H0 f_i_BoxOf_F (asL (noL)) 0 (bodyOf Try.f32 0) (f_i_BoxOf_fr0 sizes2 g3 t26 t27 s) (done (klOf f_i_BoxOf_F 0)) = f_i_BoxOf_k0 sizes2 g3 t26 t27 s.1 s.2 (fun s => some (.norm, f_i_BoxOf_fr0 sizes2 g3 t26 t27 s)) (fun e => some (f_i_BoxOf_x0_1 sizes2 g3 t26 t27 e)) (fun e => some (f_i_BoxOf_x0_2 sizes2 g3 t26 t27 e)) := by kernel_rfl
theorem f_i_BoxOf_l0 (sizes2 : List Sc) (g3 : List Sc) (t26 : List Sc) (t27 : Int) : ∀ s r, loopL (f_i_BoxOf_r0 sizes2 g3 t26 t27) s = some r → LS Try.prog f_i_BoxOf_F (bodyOf Try.f32 0) (f_i_BoxOf_fr0 sizes2 g3 t26 t27 s) (enX (f_i_BoxOf_x0_1 sizes2 g3 t26 t27) (f_i_BoxOf_x0_2 sizes2 g3 t26 t27) r) :=
  loop_true E0ok f_i_BoxOf_Mt (noL_true) f_i_BoxOf_o (fun _ h => by cases h) (fun _ h => by cases h) (fun s => (f_i_BoxOf_e0 sizes2 g3 t26 t27 s).trans (f_i_BoxOf_p0 sizes2 g3 t26 t27 s _ _ (fun e => some (f_i_BoxOf_x0_2 sizes2 g3 t26 t27 e))))
def f_i_BoxOf_t0 (σ : List AV) : Option (Bool × Bool × (X × List AV) × (X × List AV)) := match dec f_i_BoxOf_h0 σ with
  | some [.l sizes2, .l g3, .i out8, .l t26, .i t27, .i t28] => some ((loopL (f_i_BoxOf_r0 sizes2 g3 t26 t27) (out8, t28)).isSome, isOne (loopL (f_i_BoxOf_r0 sizes2 g3 t26 t27) (out8, t28)), f_i_BoxOf_x0_1 sizes2 g3 t26 t27 (getOne 0 (loopL (f_i_BoxOf_r0 sizes2 g3 t26 t27) (out8, t28))), f_i_BoxOf_x0_2 sizes2 g3 t26 t27 (getTwo () (loopL (f_i_BoxOf_r0 sizes2 g3 t26 t27) (out8, t28))))
  | _ => none
theorem f_i_BoxOf_tt0 : TTrue Try.prog f_i_BoxOf_F Try.f32 0 (f_i_BoxOf_t0) := by
  intro σ p r r' h
  unfold f_i_BoxOf_t0 at h
  split at h
  · rename_i hd
    rw [← dec_enc hd]
    exact row2 (f_i_BoxOf_l0 _ _ _ _ _) h
  · cases h
theorem f_i_BoxOf_p {R : Type} (g0 : List Sc) (steps1 : List Sc) (sizes2 : List Sc) (kR : Int × Bool → Option R) : f_i_BoxOf_k g0 steps1 sizes2 kR = (f_i_BoxOf_k g0 steps1 sizes2 some).bind kR := by
  simp only [f_i_BoxOf_k, brB, boB, blB, someB]
theorem f_i_BoxOf_e (g0 : List Sc) (steps1 : List Sc) (sizes2 : List Sc) : runFn E0 f_i_BoxOf_M H0 f_i_BoxOf_F (asL (addL 0 (f_i_BoxOf_t0) (noL))) Try.f32 (f_i_BoxOf_a g0 steps1 sizes2) (f_i_BoxOf_i g0 steps1 sizes2) = f_i_BoxOf_k g0 steps1 sizes2 (fun r => some (f_i_BoxOf_en r)) := by kernel_rfl
theorem f_i_BoxOf_ok (g0 : List Sc) (steps1 : List Sc) (sizes2 : List Sc) (r : Int × Bool) (h : f_i_BoxOf g0 steps1 sizes2 = some r) : CS Try.prog 32 (f_i_BoxOf_a g0 steps1 sizes2) (f_i_BoxOf_i g0 steps1 sizes2) (f_i_BoxOf_en r).1 (f_i_BoxOf_en r).2 :=
  fn_true (Gk := fun k => f_i_BoxOf_k g0 steps1 sizes2 k) (en := f_i_BoxOf_en) Try.func32 E0ok f_i_BoxOf_Mt (addL_true (f_i_BoxOf_tt0) (noL_true)) f_i_BoxOf_o (f_i_BoxOf_e g0 steps1 sizes2) (f_i_BoxOf_p g0 steps1 sizes2) h
def f_i_BoxOf_c : CRow := fun args inh => match dec2 [.p .gr, .p .sl, .p .sl] [] args inh with
  | some ([.l g0, .l steps1, .l sizes2], []) => some ((f_i_BoxOf g0 steps1 sizes2).isSome, (f_i_BoxOf_en ((f_i_BoxOf g0 steps1 sizes2).getD (0, false))).1, (f_i_BoxOf_en ((f_i_BoxOf g0 steps1 sizes2).getD (0, false))).2)
  | _ => none
theorem f_i_BoxOf_cc : CTrue Try.prog 32 f_i_BoxOf_c := by
  intro args inh rs out h
  unfold f_i_BoxOf_c at h
  split at h
  · rename_i hd
    obtain ⟨h1, h2⟩ := dec2_enc hd
    rw [← h1, ← h2]
    exact rowC (f_i_BoxOf_ok _ _ _) h
  · cases h

def f_i_IsProperBox_F : Fi := { nv := 0, nc := 0, m := 0, vt := [], kl := [(0, ([0, 1, 2, 3, 4, 5, 6, 10, 11, 12, 13, 14, 15, 16, 17, 18, 22, 23, 24, 25, 26, 27, 28, 29, 30, 31, 32, 33, 34, 35], [0, 1, 2, 3, 4, 5, 6, 10, 11, 12, 13, 14, 15, 16, 17, 18, 19, 20, 21, 22, 23, 24, 25, 26, 27, 28, 29, 30, 31, 32, 33, 34, 35], [0, 1, 2, 3, 4, 5, 7, 8, 9, 10, 11, 12, 13, 14, 15, 16, 17, 18, 19, 20, 21, 22, 23, 24, 25, 26, 27, 28, 29, 30, 31, 32, 33, 34, 35]))], sk := [], mvs := [], fz := [] }
def f_i_IsProperBox_a (g0 : List Sc) (steps1 : List Sc) (sizes2 : List Sc) : List AV := enc [.p .gr, .p .sl, .p .sl] [.l g0, .l steps1, .l sizes2]
def f_i_IsProperBox_i (g0 : List Sc) (steps1 : List Sc) (sizes2 : List Sc) : List AV := enc [] []
def f_i_IsProperBox_en (r : Bool) : List AV × List AV := (enc [.p .boo] [.b r], enc [] [])
def f_i_IsProperBox_M : Calling := addC 32 f_i_BoxOf_c (addC 126 f_i_bits_c (noC))
theorem f_i_IsProperBox_Mt : CallOk Try.prog (f_i_IsProperBox_M) := addC_true f_i_BoxOf_cc (addC_true f_i_bits_cc (noC_true))
theorem f_i_IsProperBox_o : loopsOnce Try.f33 = true := by kernel_rfl
def f_i_IsProperBox_h0 : List Sh := [.u, .u, .u, .u, .u, .u, .u, .p (.int .i64), .p .boo, .p (.int .i64), .u, .u, .u, .u, .u, .u, .u, .u, .u, .p .sl, .p (.int .i64), .p (.int .i64), .u, .u, .u, .u, .u, .u, .u, .u, .u, .u, .u, .u, .u, .u]
def f_i_IsProperBox_fr0 (a7 : Int) (ok8 : Bool) (t19 : List Sc) (t20 : Int) (s : Int × Int) : List AV := enc f_i_IsProperBox_h0 [.i a7, .b ok8, .i s.1, .l t19, .i t20, .i s.2]
def f_i_IsProperBox_g0_1 : List Sh := [.u, .u, .u, .u, .u, .u, .u, .p (.int .i64), .p .boo, .p (.int .i64), .u, .u, .u, .u, .u, .u, .u, .u, .u, .u, .u, .u, .u, .u, .u, .u, .u, .u, .u, .u, .u, .u, .u, .u, .u, .u]
def f_i_IsProperBox_x0_1 (a7 : Int) (ok8 : Bool) (t19 : List Sc) (t20 : Int) (e : Int) : X × List AV := (.out 0, enc f_i_IsProperBox_g0_1 [.i a7, .b ok8, .i e])
def f_i_IsProperBox_x0_2 (a7 : Int) (ok8 : Bool) (t19 : List Sc) (t20 : Int) (_e : Unit) : X × List AV := (.ret, [])
theorem f_i_IsProperBox_p0 {R : Type} (a7 : Int) (ok8 : Bool) (t19 : List Sc) (t20 : Int) (s : Int × Int) (kN : Int × Int → Option R) (kA : Int → Option R) (kB : Unit → Option R) : f_i_IsProperBox_k0 a7 ok8 t19 t20 s.1 s.2 kN kA = (f_i_IsProperBox_r0 a7 ok8 t19 t20 s).bind (Ro.el kN kA kB) := by
  simp only [f_i_IsProperBox_k0, f_i_IsProperBox_r0, brB, someB, noneB, Ro.el]
theorem f_i_IsProperBox_e0 (a7 : Int) (ok8 : Bool) (t19 : List Sc) (t20 : Int) (s : Int × Int) : EC E0 f_i_IsProperBox_M H0 f_i_IsProperBox_F (asL (noL)) 0 (bodyOf Try.f33 0) (f_i_IsProperBox_fr0 a7 ok8 t19 t20 s) (done (klOf f_i_IsProperBox_F 0)) = f_i_IsProperBox_k0 a7 ok8 t19 t20 s.1 s.2 (fun s => some (.norm, f_i_IsProperBox_fr0 a7 ok8 t19 t20 s)) (fun e => some (f_i_IsProperBox_x0_1 a7 ok8 t19 t20 e)) := by kernel_rfl
theorem f_i_IsProperBox_l0 (a7 : Int) (ok8 : Bool) (t19 : List Sc) (t20 : Int) : ∀ s r, loopL (f_i_IsProperBox_r0 a7 ok8 t19 t20) s = some r → LS Try.prog f_i_IsProperBox_F (bodyOf Try.f33 0) (f_i_IsProperBox_fr0 a7 ok8 t19 t20 s) (enX (f_i_IsProperBox_x0_1 a7 ok8 t19 t20) (f_i_IsProperBox_x0_2 a7 ok8 t19 t20) r) :=
  loop_true E0ok f_i_IsProperBox_Mt (noL_true) f_i_IsProperBox_o (fun _ h => by cases h) (fun _ h => by cases h) (fun s => (f_i_IsProperBox_e0 a7 ok8 t19 t20 s).trans (f_i_IsProperBox_p0 a7 ok8 t19 t20 s _ _ (fun e => some (f_i_IsProperBox_x0_2 a7 ok8 t19 t20 e))))
def f_i_IsProperBox_t0 (σ : List AV) : Option (Bool × Bool × (X × List AV) × (X × List AV)) := match dec f_i_IsProperBox_h0 σ with
  | some [.i a7, .b ok8, .i n9, .l t19, .i t20, .i t21] => some (isOne (loopL (f_i_IsProperBox_r0 a7 ok8 t19 t20) (n9, t21)), true, f_i_IsProperBox_x0_1 a7 ok8 t19 t20 (getOne 0 (loopL (f_i_IsProperBox_r0 a7 ok8 t19 t20) (n9, t21))), (.ret, []))
  | _ => none
theorem f_i_IsProperBox_tt0 : TTrue Try.prog f_i_IsProperBox_F Try.f33 0 (f_i_IsProperBox_t0) := by
  intro σ p r r' h
  unfold f_i_IsProperBox_t0 at h
  split at h
  · rename_i hd
    rw [← dec_enc hd]
    exact row1 (f_i_IsProperBox_l0 _ _ _ _ _) h
  · cases h
theorem f_i_IsProperBox_p {R : Type} (g0 : List Sc) (steps1 : List Sc) (sizes2 : List Sc) (kR : Bool → Option R) : f_i_IsProperBox_k g0 steps1 sizes2 kR = (f_i_IsProperBox_k g0 steps1 sizes2 some).bind kR := by
  simp only [f_i_IsProperBox_k, brB, boB, bl1B, someB]
theorem f_i_IsProperBox_e (g0 : List Sc) (steps1 : List Sc) (sizes2 : List Sc) : runFn E0 f_i_IsProperBox_M H0 f_i_IsProperBox_F (asL (addL 0 (f_i_IsProperBox_t0) (noL))) Try.f33 (f_i_IsProperBox_a g0 steps1 sizes2) (f_i_IsProperBox_i g0 steps1 sizes2) = f_i_IsProperBox_k g0 steps1 sizes2 (fun r => some (f_i_IsProperBox_en r)) := by kernel_rfl
theorem f_i_IsProperBox_ok (g0 : List Sc) (steps1 : List Sc) (sizes2 : List Sc) (r : Bool) (h : f_i_IsProperBox g0 steps1 sizes2 = some r) : CS Try.prog 33 (f_i_IsProperBox_a g0 steps1 sizes2) (f_i_IsProperBox_i g0 steps1 sizes2) (f_i_IsProperBox_en r).1 (f_i_IsProperBox_en r).2 :=
  fn_true (Gk := fun k => f_i_IsProperBox_k g0 steps1 sizes2 k) (en := f_i_IsProperBox_en) Try.func33 E0ok f_i_IsProperBox_Mt (addL_true (f_i_IsProperBox_tt0) (noL_true)) f_i_IsProperBox_o (f_i_IsProperBox_e g0 steps1 sizes2) (f_i_IsProperBox_p g0 steps1 sizes2) h
def f_i_IsProperBox_c : CRow := fun args inh => match dec2 [.p .gr, .p .sl, .p .sl] [] args inh with
  | some ([.l g0, .l steps1, .l sizes2], []) => some ((f_i_IsProperBox g0 steps1 sizes2).isSome, (f_i_IsProperBox_en ((f_i_IsProperBox g0 steps1 sizes2).getD false)).1, (f_i_IsProperBox_en ((f_i_IsProperBox g0 steps1 sizes2).getD false)).2)
  | _ => none
theorem f_i_IsProperBox_cc : CTrue Try.prog 33 f_i_IsProperBox_c := by
  intro args inh rs out h
  unfold f_i_IsProperBox_c at h
  split at h
  · rename_i hd
    obtain ⟨h1, h2⟩ := dec2_enc hd
    rw [← h1, ← h2]
    exact rowC (f_i_IsProperBox_ok _ _ _) h
  · cases h

def f_s_CountSet_F : Fi := { nv := 0, nc := 0, m := 0, vt := [], kl := [], sk := [], mvs := [], fz := [] }
def f_s_CountSet_a (g0 : List Sc) (a1 : Int) : List AV := enc [.p .gr, .p (.int .i64)] [.l g0, .i a1]
def f_s_CountSet_i (g0 : List Sc) (a1 : Int) : List AV := enc [] []
def f_s_CountSet_en (r : Int) : List AV × List AV := (enc [.p (.int .i64)] [.i r], enc [] [])
def f_s_CountSet_M : Calling := addC 124 f_s_IsSet_c (addC 131 f_s_l3Bits_c (noC))
theorem f_s_CountSet_Mt : CallOk Try.prog (f_s_CountSet_M) := addC_true f_s_IsSet_cc (addC_true f_s_l3Bits_cc (noC_true))
theorem f_s_CountSet_o : loopsOnce Try.f18 = true := by kernel_rfl
theorem f_s_CountSet_p {R : Type} (g0 : List Sc) (a1 : Int) (kR : Int → Option R) : f_s_CountSet_k g0 a1 kR = (f_s_CountSet_k g0 a1 some).bind kR := by
  simp only [f_s_CountSet_k, brB, boB, someB]
theorem f_s_CountSet_e (g0 : List Sc) (a1 : Int) : runFn E0 f_s_CountSet_M H0 f_s_CountSet_F (asL (noL)) Try.f18 (f_s_CountSet_a g0 a1) (f_s_CountSet_i g0 a1) = f_s_CountSet_k g0 a1 (fun r => some (f_s_CountSet_en r)) := by kernel_rfl
theorem f_s_CountSet_ok (g0 : List Sc) (a1 : Int) (r : Int) (h : f_s_CountSet g0 a1 = some r) : CS Try.prog 18 (f_s_CountSet_a g0 a1) (f_s_CountSet_i g0 a1) (f_s_CountSet_en r).1 (f_s_CountSet_en r).2 :=
  fn_true (Gk := fun k => f_s_CountSet_k g0 a1 k) (en := f_s_CountSet_en) Try.func18 E0ok f_s_CountSet_Mt (noL_true) f_s_CountSet_o (f_s_CountSet_e g0 a1) (f_s_CountSet_p g0 a1) h
def f_s_CountSet_c : CRow := fun args inh => match dec2 [.p .gr, .p (.int .i64)] [] args inh with
  | some ([.l g0, .i a1], []) => some ((f_s_CountSet g0 a1).isSome, (f_s_CountSet_en ((f_s_CountSet g0 a1).getD 0)).1, (f_s_CountSet_en ((f_s_CountSet g0 a1).getD 0)).2)
  | _ => none
theorem f_s_CountSet_cc : CTrue Try.prog 18 f_s_CountSet_c := by
  intro args inh rs out h
  unfold f_s_CountSet_c at h
  split at h
  · rename_i hd
    obtain ⟨h1, h2⟩ := dec2_enc hd
    rw [← h1, ← h2]
    exact rowC (f_s_CountSet_ok _ _) h
  · cases h

def f_s_DrawBoxOf_F : Fi := { nv := 5, nc := 2, m := 0, vt := [(2, 0), (5, 1), (10, 2)], kl := [], sk := [], mvs := [2, 3, 4], fz := [] }
def f_s_DrawBoxOf_a (code0 : List Sc) : List AV := enc [.p .sl] [.l code0]
def f_s_DrawBoxOf_i (code0 : List Sc) : List AV := enc [] []
def f_s_DrawBoxOf_en (r : List Sc × List Sc × List Sc) : List AV × List AV := (enc [.p (.go 0), .p (.al 1), .p (.al 2)] [], enc [.own 3, .own 3, .own 3] [.l r.1, .l r.2.1, .l r.2.2])
def f_s_DrawBoxOf_M : Calling := addC 145 f_s_l14Draw_c (noC)
theorem f_s_DrawBoxOf_Mt : CallOk Try.prog (f_s_DrawBoxOf_M) := addC_true f_s_l14Draw_cc (noC_true)
theorem f_s_DrawBoxOf_o : loopsOnce Try.f34 = true := by kernel_rfl
theorem f_s_DrawBoxOf_p {R : Type} (code0 : List Sc) (kR : List Sc × List Sc × List Sc → Option R) : f_s_DrawBoxOf_k code0 kR = (f_s_DrawBoxOf_k code0 some).bind kR := by
  simp only [f_s_DrawBoxOf_k, boB, someB]
theorem f_s_DrawBoxOf_e (code0 : List Sc) : runFn E0 f_s_DrawBoxOf_M H0 f_s_DrawBoxOf_F (asL (noL)) Try.f34 (f_s_DrawBoxOf_a code0) (f_s_DrawBoxOf_i code0) = f_s_DrawBoxOf_k code0 (fun r => some (f_s_DrawBoxOf_en r)) := by kernel_rfl
theorem f_s_DrawBoxOf_ok (code0 : List Sc) (r : List Sc × List Sc × List Sc) (h : f_s_DrawBoxOf code0 = some r) : CS Try.prog 34 (f_s_DrawBoxOf_a code0) (f_s_DrawBoxOf_i code0) (f_s_DrawBoxOf_en r).1 (f_s_DrawBoxOf_en r).2 :=
  fn_true (Gk := fun k => f_s_DrawBoxOf_k code0 k) (en := f_s_DrawBoxOf_en) Try.func34 E0ok f_s_DrawBoxOf_Mt (noL_true) f_s_DrawBoxOf_o (f_s_DrawBoxOf_e code0) (f_s_DrawBoxOf_p code0) h
def f_s_DrawBoxOf_c : CRow := fun args inh => match dec2 [.p .sl] [] args inh with
  | some ([.l code0], []) => some ((f_s_DrawBoxOf code0).isSome, (f_s_DrawBoxOf_en ((f_s_DrawBoxOf code0).getD ([], [], []))).1, (f_s_DrawBoxOf_en ((f_s_DrawBoxOf code0).getD ([], [], []))).2)
  | _ => none
theorem f_s_DrawBoxOf_cc : CTrue Try.prog 34 f_s_DrawBoxOf_c := by
  intro args inh rs out h
  unfold f_s_DrawBoxOf_c at h
  split at h
  · rename_i hd
    obtain ⟨h1, h2⟩ := dec2_enc hd
    rw [← h1, ← h2]
    exact rowC (f_s_DrawBoxOf_ok _) h
  · cases h

def f_s_DrawCubeOf_F : Fi := { nv := 5, nc := 2, m := 0, vt := [(2, 0), (5, 1), (10, 2)], kl := [(100002, ([2, 3, 4, 6, 8, 9, 12, 13, 14, 15, 16, 17, 18, 19, 20, 21, 22, 23, 24, 25, 26], [1, 2, 3, 4, 5, 6, 10, 11, 12, 13, 14, 15, 16, 17, 18, 19, 20, 21, 22, 23, 24, 25, 26], []))], sk := [], mvs := [2, 3, 4], fz := [], tb := [2] }
def f_s_DrawCubeOf_a (code0 : List Sc) : List AV := enc [.p .sl] [.l code0]
def f_s_DrawCubeOf_i (code0 : List Sc) : List AV := enc [] []
def f_s_DrawCubeOf_en (r : List Sc × Int × List Sc) : List AV × List AV := (enc [.p (.go 0), .p (.int .i64), .p (.al 1)] [.i r.2.1], enc [.own 3, .own 3] [.l r.1, .l r.2.2])
def f_s_DrawCubeOf_M : Calling := addC 145 f_s_l14Draw_c (noC)
theorem f_s_DrawCubeOf_Mt : CallOk Try.prog (f_s_DrawCubeOf_M) := addC_true f_s_l14Draw_cc (noC_true)
theorem f_s_DrawCubeOf_o : loopsOnce Try.f36 = true := by kernel_rfl
def f_s_DrawCubeOf_hg2 : List Sh := [.p .sl, .own 3, .u, .u, .u, .p .sl, .u, .p (.pt 0 1), .u, .u, .p (.pt 1 1), .own 3, .u, .u, .u, .u, .u, .u, .u, .u, .u, .u, .u, .u, .u, .u, .u]
def f_s_DrawCubeOf_frg2 (v0 : List Sc) (v1 : List Sc) (t0 : List Sc) (t6 : List Sc) : List AV := enc f_s_DrawCubeOf_hg2 [.l v0, .l v1, .l t0, .l t6]
def f_s_DrawCubeOf_xg2 (v0 : List Sc) (v1 : List Sc) (t0 : List Sc) (t6 : List Sc) (e : Int) : X × List AV := (.norm, enc [.own 3, .u, .u, .u, .u, .u, .u, .p (.pt 0 1), .p (.int .i64), .own 3, .u, .u, .u, .u, .u, .u, .u, .u, .u, .u, .u, .u, .u, .u, .u, .u, .u] [.l v1, .i e, .l t6])
theorem f_s_DrawCubeOf_pg2 {R : Type} (v0 : List Sc) (v1 : List Sc) (t0 : List Sc) (t6 : List Sc) (kA : Int → Option R) : f_s_DrawCubeOf_g2_k v0 v1 t0 t6 kA = (f_s_DrawCubeOf_g2 v0 v1 t0 t6).bind kA := by
  simp only [f_s_DrawCubeOf_g2_k, f_s_DrawCubeOf_g2, brB, someB, noneB]
theorem f_s_DrawCubeOf_bg2 : bodyOf Try.f36 100002 = .region 2 (opsAt (bodyOf Try.f36 100002)) true := by kernel_rfl
def f_s_DrawCubeOf_Dg2 : List (Array Bool) := [#[false, false, false, false, false, false, false, false, false, false, false], #[true, false, false, false, false, false, false, false, false, false, false], #[false, true, false, false, false, false, false, false, false, false, false], #[false, false, true, false, false, false, false, false, false, false, false], #[false, false, false, false, false, false, false, true, false, false, false], #[true, true, false, false, false, false, false, false, false, false, false], #[true, false, true, false, false, false, false, false, false, false, false], #[true, false, false, false, false, false, false, true, false, false, false], #[true, false, false, false, false, false, false, false, true, false, false], #[false, true, true, false, false, false, false, false, false, false, false], #[false, true, false, false, false, false, false, true, false, false, false], #[false, false, true, true, false, false, false, false, false, false, false], #[false, false, true, false, false, false, false, true, false, false, false], #[true, true, true, false, false, false, false, false, false, false, false], #[true, true, false, false, false, false, false, true, false, false, false], #[true, true, false, false, false, false, false, false, true, false, false], #[true, false, true, true, false, false, false, false, false, false, false], #[true, false, true, false, false, false, false, true, false, false, false], #[true, false, true, false, false, false, false, false, true, false, false], #[true, false, false, false, false, false, false, true, true, false, false], #[false, true, true, true, false, false, false, false, false, false, false], #[false, true, true, false, false, false, false, true, false, false, false], #[false, false, true, true, true, false, false, false, false, false, false], #[false, false, true, true, false, false, false, true, false, false, false], #[true, true, true, true, false, false, false, false, false, false, false], #[true, true, true, false, false, false, false, true, false, false, false], #[true, true, true, false, false, false, false, false, true, false, false], #[true, true, false, false, false, false, false, true, true, false, false], #[true, false, true, true, true, false, false, false, false, false, false], #[true, false, true, true, false, false, false, true, false, false, false], #[true, false, true, true, false, false, false, false, true, false, false], #[true, false, true, false, false, false, false, true, true, false, false], #[false, true, true, true, true, false, false, false, false, false, false], #[false, true, true, true, false, false, false, true, false, false, false], #[false, false, true, true, true, false, false, true, false, false, false], #[true, true, true, true, true, false, false, false, false, false, false], #[true, true, true, true, false, false, false, true, false, false, false], #[true, true, true, true, false, false, false, false, true, false, false], #[true, true, true, false, false, false, false, true, true, false, false], #[true, false, true, true, true, false, false, true, false, false, false], #[true, false, true, true, true, false, false, false, true, false, false], #[true, false, true, true, false, false, false, true, true, false, false], #[false, true, true, true, true, true, false, false, false, false, false], #[false, true, true, true, true, false, false, true, false, false, false], #[true, true, true, true, true, true, false, false, false, false, false], #[true, true, true, true, true, false, false, true, false, false, false], #[true, true, true, true, true, false, false, false, true, false, false], #[true, true, true, true, false, false, false, true, true, false, false], #[true, false, true, true, true, false, false, true, true, false, false], #[false, true, true, true, true, true, true, false, false, false, false], #[false, true, true, true, true, true, false, true, false, false, false], #[true, true, true, true, true, true, true, false, false, false, false], #[true, true, true, true, true, true, false, true, false, false, false], #[true, true, true, true, true, true, false, false, true, false, false], #[true, true, true, true, true, false, false, true, true, false, false], #[false, true, true, true, true, true, true, true, false, false, false], #[true, true, true, true, true, true, true, true, false, false, false], #[true, true, true, true, true, true, true, false, true, false, false], #[true, true, true, true, true, true, false, true, true, false, false], #[true, true, true, true, true, true, true, true, true, false, false], #[true, true, true, true, true, true, true, false, true, true, false], #[true, true, true, true, true, true, true, true, true, true, false], #[true, true, true, true, true, true, true, true, true, true, true]]
theorem f_s_DrawCubeOf_cg2 : closedB (opsAt (bodyOf Try.f36 100002)) f_s_DrawCubeOf_Dg2 = true := by kernel_rfl
def f_s_DrawCubeOf_sg2_0 (v0 : List Sc) (v1 : List Sc) (t0 : List Sc) (t6 : List Sc) (fr : List AV) : Option (List AV) :=
  some (setAll [] fr)
def f_s_DrawCubeOf_sg2_1 (v0 : List Sc) (v1 : List Sc) (t0 : List Sc) (t6 : List Sc) (fr : List AV) : Option (List AV) :=
  some (setAll [(19, .p (.go 1))] fr)
def f_s_DrawCubeOf_sg2_2 (v0 : List Sc) (v1 : List Sc) (t0 : List Sc) (t6 : List Sc) (fr : List AV) : Option (List AV) :=
  some (setAll [(20, .own 3 [(Sc.n .i64 0), (Sc.n .i64 1), (Sc.n .i64 2), (Sc.n .i64 (-1)), (Sc.n .i64 99)])] fr)
def f_s_DrawCubeOf_sg2_4 (v0 : List Sc) (v1 : List Sc) (t0 : List Sc) (t6 : List Sc) (fr : List AV) : Option (List AV) :=
  some (setAll [(21, .p (.sl t0))] fr)
def f_s_DrawCubeOf_sg2_128 (v0 : List Sc) (v1 : List Sc) (t0 : List Sc) (t6 : List Sc) (fr : List AV) : Option (List AV) :=
  some (setAll [(26, .p (.al 11))] fr)
def f_s_DrawCubeOf_sg2_3 (v0 : List Sc) (v1 : List Sc) (t0 : List Sc) (t6 : List Sc) (fr : List AV) : Option (List AV) :=
  some (setAll [(19, .p (.go 1)), (20, .own 3 [(Sc.n .i64 0), (Sc.n .i64 1), (Sc.n .i64 2), (Sc.n .i64 (-1)), (Sc.n .i64 99)])] fr)
def f_s_DrawCubeOf_sg2_5 (v0 : List Sc) (v1 : List Sc) (t0 : List Sc) (t6 : List Sc) (fr : List AV) : Option (List AV) :=
  some (setAll [(19, .p (.go 1)), (21, .p (.sl t0))] fr)
def f_s_DrawCubeOf_sg2_129 (v0 : List Sc) (v1 : List Sc) (t0 : List Sc) (t6 : List Sc) (fr : List AV) : Option (List AV) :=
  some (setAll [(19, .p (.go 1)), (26, .p (.al 11))] fr)
def f_s_DrawCubeOf_sg2_257 (v0 : List Sc) (v1 : List Sc) (t0 : List Sc) (t6 : List Sc) (fr : List AV) : Option (List AV) :=
  some (setAll [(0, .own 3 v1), (1, .p (.al 0)), (19, .p (.go 0))] fr)
def f_s_DrawCubeOf_sg2_6 (v0 : List Sc) (v1 : List Sc) (t0 : List Sc) (t6 : List Sc) (fr : List AV) : Option (List AV) :=
  some (setAll [(20, .own 3 [(Sc.n .i64 0), (Sc.n .i64 1), (Sc.n .i64 2), (Sc.n .i64 (-1)), (Sc.n .i64 99)]), (21, .p (.sl t0))] fr)
def f_s_DrawCubeOf_sg2_130 (v0 : List Sc) (v1 : List Sc) (t0 : List Sc) (t6 : List Sc) (fr : List AV) : Option (List AV) :=
  some (setAll [(20, .own 3 [(Sc.n .i64 0), (Sc.n .i64 1), (Sc.n .i64 2), (Sc.n .i64 (-1)), (Sc.n .i64 99)]), (26, .p (.al 11))] fr)
def f_s_DrawCubeOf_sg2_12 (v0 : List Sc) (v1 : List Sc) (t0 : List Sc) (t6 : List Sc) (fr : List AV) : Option (List AV) :=
  some (setAll [(21, .p (.sl t0)), (22, .p (.sc (Sc.n .i64 (t0.length : Int))))] fr)
def f_s_DrawCubeOf_sg2_132 (v0 : List Sc) (v1 : List Sc) (t0 : List Sc) (t6 : List Sc) (fr : List AV) : Option (List AV) :=
  some (setAll [(21, .p (.sl t0)), (26, .p (.al 11))] fr)
def f_s_DrawCubeOf_sg2_7 (v0 : List Sc) (v1 : List Sc) (t0 : List Sc) (t6 : List Sc) (fr : List AV) : Option (List AV) :=
  some (setAll [(19, .p (.go 1)), (20, .own 3 [(Sc.n .i64 0), (Sc.n .i64 1), (Sc.n .i64 2), (Sc.n .i64 (-1)), (Sc.n .i64 99)]), (21, .p (.sl t0))] fr)
def f_s_DrawCubeOf_sg2_131 (v0 : List Sc) (v1 : List Sc) (t0 : List Sc) (t6 : List Sc) (fr : List AV) : Option (List AV) :=
  some (setAll [(19, .p (.go 1)), (20, .own 3 [(Sc.n .i64 0), (Sc.n .i64 1), (Sc.n .i64 2), (Sc.n .i64 (-1)), (Sc.n .i64 99)]), (26, .p (.al 11))] fr)
def f_s_DrawCubeOf_sg2_259 (v0 : List Sc) (v1 : List Sc) (t0 : List Sc) (t6 : List Sc) (fr : List AV) : Option (List AV) :=
  some (setAll [(0, .own 3 v1), (1, .p (.al 0)), (19, .p (.go 0)), (20, .own 3 [(Sc.n .i64 0), (Sc.n .i64 1), (Sc.n .i64 2), (Sc.n .i64 (-1)), (Sc.n .i64 99)])] fr)
def f_s_DrawCubeOf_sg2_13 (v0 : List Sc) (v1 : List Sc) (t0 : List Sc) (t6 : List Sc) (fr : List AV) : Option (List AV) :=
  some (setAll [(19, .p (.go 1)), (21, .p (.sl t0)), (22, .p (.sc (Sc.n .i64 (t0.length : Int))))] fr)
def f_s_DrawCubeOf_sg2_133 (v0 : List Sc) (v1 : List Sc) (t0 : List Sc) (t6 : List Sc) (fr : List AV) : Option (List AV) :=
  some (setAll [(19, .p (.go 1)), (21, .p (.sl t0)), (26, .p (.al 11))] fr)
def f_s_DrawCubeOf_sg2_261 (v0 : List Sc) (v1 : List Sc) (t0 : List Sc) (t6 : List Sc) (fr : List AV) : Option (List AV) :=
  some (setAll [(0, .own 3 v1), (1, .p (.al 0)), (19, .p (.go 0)), (21, .p (.sl t0))] fr)
def f_s_DrawCubeOf_sg2_385 (v0 : List Sc) (v1 : List Sc) (t0 : List Sc) (t6 : List Sc) (fr : List AV) : Option (List AV) :=
  some (setAll [(0, .own 3 v1), (1, .p (.al 0)), (19, .p (.go 0)), (26, .p (.al 11))] fr)
def f_s_DrawCubeOf_sg2_14 (v0 : List Sc) (v1 : List Sc) (t0 : List Sc) (t6 : List Sc) (fr : List AV) : Option (List AV) :=
  some (setAll [(20, .own 3 [(Sc.n .i64 0), (Sc.n .i64 1), (Sc.n .i64 2), (Sc.n .i64 (-1)), (Sc.n .i64 99)]), (21, .p (.sl t0)), (22, .p (.sc (Sc.n .i64 (t0.length : Int))))] fr)
def f_s_DrawCubeOf_sg2_134 (v0 : List Sc) (v1 : List Sc) (t0 : List Sc) (t6 : List Sc) (fr : List AV) : Option (List AV) :=
  some (setAll [(20, .own 3 [(Sc.n .i64 0), (Sc.n .i64 1), (Sc.n .i64 2), (Sc.n .i64 (-1)), (Sc.n .i64 99)]), (21, .p (.sl t0)), (26, .p (.al 11))] fr)
def f_s_DrawCubeOf_sg2_28 (v0 : List Sc) (v1 : List Sc) (t0 : List Sc) (t6 : List Sc) (fr : List AV) : Option (List AV) :=
  some (setAll [(21, .p (.sl t0)), (22, .p (.sc (Sc.n .i64 (t0.length : Int)))), (23, .p (.sc (Sc.n .i64 ((t0.length : Int).tmod 5))))] fr)
def f_s_DrawCubeOf_sg2_140 (v0 : List Sc) (v1 : List Sc) (t0 : List Sc) (t6 : List Sc) (fr : List AV) : Option (List AV) :=
  some (setAll [(21, .p (.sl t0)), (22, .p (.sc (Sc.n .i64 (t0.length : Int)))), (26, .p (.al 11))] fr)
def f_s_DrawCubeOf_sg2_15 (v0 : List Sc) (v1 : List Sc) (t0 : List Sc) (t6 : List Sc) (fr : List AV) : Option (List AV) :=
  some (setAll [(19, .p (.go 1)), (20, .own 3 [(Sc.n .i64 0), (Sc.n .i64 1), (Sc.n .i64 2), (Sc.n .i64 (-1)), (Sc.n .i64 99)]), (21, .p (.sl t0)), (22, .p (.sc (Sc.n .i64 (t0.length : Int))))] fr)
def f_s_DrawCubeOf_sg2_135 (v0 : List Sc) (v1 : List Sc) (t0 : List Sc) (t6 : List Sc) (fr : List AV) : Option (List AV) :=
  some (setAll [(19, .p (.go 1)), (20, .own 3 [(Sc.n .i64 0), (Sc.n .i64 1), (Sc.n .i64 2), (Sc.n .i64 (-1)), (Sc.n .i64 99)]), (21, .p (.sl t0)), (26, .p (.al 11))] fr)
def f_s_DrawCubeOf_sg2_263 (v0 : List Sc) (v1 : List Sc) (t0 : List Sc) (t6 : List Sc) (fr : List AV) : Option (List AV) :=
  some (setAll [(0, .own 3 v1), (1, .p (.al 0)), (19, .p (.go 0)), (20, .own 3 [(Sc.n .i64 0), (Sc.n .i64 1), (Sc.n .i64 2), (Sc.n .i64 (-1)), (Sc.n .i64 99)]), (21, .p (.sl t0))] fr)
def f_s_DrawCubeOf_sg2_387 (v0 : List Sc) (v1 : List Sc) (t0 : List Sc) (t6 : List Sc) (fr : List AV) : Option (List AV) :=
  some (setAll [(0, .own 3 v1), (1, .p (.al 0)), (19, .p (.go 0)), (20, .own 3 [(Sc.n .i64 0), (Sc.n .i64 1), (Sc.n .i64 2), (Sc.n .i64 (-1)), (Sc.n .i64 99)]), (26, .p (.al 11))] fr)
def f_s_DrawCubeOf_sg2_29 (v0 : List Sc) (v1 : List Sc) (t0 : List Sc) (t6 : List Sc) (fr : List AV) : Option (List AV) :=
  some (setAll [(19, .p (.go 1)), (21, .p (.sl t0)), (22, .p (.sc (Sc.n .i64 (t0.length : Int)))), (23, .p (.sc (Sc.n .i64 ((t0.length : Int).tmod 5))))] fr)
def f_s_DrawCubeOf_sg2_141 (v0 : List Sc) (v1 : List Sc) (t0 : List Sc) (t6 : List Sc) (fr : List AV) : Option (List AV) :=
  some (setAll [(19, .p (.go 1)), (21, .p (.sl t0)), (22, .p (.sc (Sc.n .i64 (t0.length : Int)))), (26, .p (.al 11))] fr)
def f_s_DrawCubeOf_sg2_269 (v0 : List Sc) (v1 : List Sc) (t0 : List Sc) (t6 : List Sc) (fr : List AV) : Option (List AV) :=
  some (setAll [(0, .own 3 v1), (1, .p (.al 0)), (19, .p (.go 0)), (21, .p (.sl t0)), (22, .p (.sc (Sc.n .i64 (t0.length : Int))))] fr)
def f_s_DrawCubeOf_sg2_389 (v0 : List Sc) (v1 : List Sc) (t0 : List Sc) (t6 : List Sc) (fr : List AV) : Option (List AV) :=
  some (setAll [(0, .own 3 v1), (1, .p (.al 0)), (19, .p (.go 0)), (21, .p (.sl t0)), (26, .p (.al 11))] fr)
def f_s_DrawCubeOf_sg2_30 (v0 : List Sc) (v1 : List Sc) (t0 : List Sc) (t6 : List Sc) (fr : List AV) : Option (List AV) :=
  some (setAll [(20, .own 3 [(Sc.n .i64 0), (Sc.n .i64 1), (Sc.n .i64 2), (Sc.n .i64 (-1)), (Sc.n .i64 99)]), (21, .p (.sl t0)), (22, .p (.sc (Sc.n .i64 (t0.length : Int)))), (23, .p (.sc (Sc.n .i64 ((t0.length : Int).tmod 5))))] fr)
def f_s_DrawCubeOf_sg2_142 (v0 : List Sc) (v1 : List Sc) (t0 : List Sc) (t6 : List Sc) (fr : List AV) : Option (List AV) :=
  some (setAll [(20, .own 3 [(Sc.n .i64 0), (Sc.n .i64 1), (Sc.n .i64 2), (Sc.n .i64 (-1)), (Sc.n .i64 99)]), (21, .p (.sl t0)), (22, .p (.sc (Sc.n .i64 (t0.length : Int)))), (26, .p (.al 11))] fr)
def f_s_DrawCubeOf_sg2_156 (v0 : List Sc) (v1 : List Sc) (t0 : List Sc) (t6 : List Sc) (fr : List AV) : Option (List AV) :=
  some (setAll [(21, .p (.sl t0)), (22, .p (.sc (Sc.n .i64 (t0.length : Int)))), (23, .p (.sc (Sc.n .i64 ((t0.length : Int).tmod 5)))), (26, .p (.al 11))] fr)
def f_s_DrawCubeOf_sg2_31 (v0 : List Sc) (v1 : List Sc) (t0 : List Sc) (t6 : List Sc) (fr : List AV) : Option (List AV) :=
  some (setAll [(19, .p (.go 1)), (20, .own 3 [(Sc.n .i64 0), (Sc.n .i64 1), (Sc.n .i64 2), (Sc.n .i64 (-1)), (Sc.n .i64 99)]), (21, .p (.sl t0)), (22, .p (.sc (Sc.n .i64 (t0.length : Int)))), (23, .p (.sc (Sc.n .i64 ((t0.length : Int).tmod 5))))] fr)
def f_s_DrawCubeOf_sg2_143 (v0 : List Sc) (v1 : List Sc) (t0 : List Sc) (t6 : List Sc) (fr : List AV) : Option (List AV) :=
  some (setAll [(19, .p (.go 1)), (20, .own 3 [(Sc.n .i64 0), (Sc.n .i64 1), (Sc.n .i64 2), (Sc.n .i64 (-1)), (Sc.n .i64 99)]), (21, .p (.sl t0)), (22, .p (.sc (Sc.n .i64 (t0.length : Int)))), (26, .p (.al 11))] fr)
def f_s_DrawCubeOf_sg2_271 (v0 : List Sc) (v1 : List Sc) (t0 : List Sc) (t6 : List Sc) (fr : List AV) : Option (List AV) :=
  some (setAll [(0, .own 3 v1), (1, .p (.al 0)), (19, .p (.go 0)), (20, .own 3 [(Sc.n .i64 0), (Sc.n .i64 1), (Sc.n .i64 2), (Sc.n .i64 (-1)), (Sc.n .i64 99)]), (21, .p (.sl t0)), (22, .p (.sc (Sc.n .i64 (t0.length : Int))))] fr)
def f_s_DrawCubeOf_sg2_391 (v0 : List Sc) (v1 : List Sc) (t0 : List Sc) (t6 : List Sc) (fr : List AV) : Option (List AV) :=
  some (setAll [(0, .own 3 v1), (1, .p (.al 0)), (19, .p (.go 0)), (20, .own 3 [(Sc.n .i64 0), (Sc.n .i64 1), (Sc.n .i64 2), (Sc.n .i64 (-1)), (Sc.n .i64 99)]), (21, .p (.sl t0)), (26, .p (.al 11))] fr)
def f_s_DrawCubeOf_sg2_157 (v0 : List Sc) (v1 : List Sc) (t0 : List Sc) (t6 : List Sc) (fr : List AV) : Option (List AV) :=
  some (setAll [(19, .p (.go 1)), (21, .p (.sl t0)), (22, .p (.sc (Sc.n .i64 (t0.length : Int)))), (23, .p (.sc (Sc.n .i64 ((t0.length : Int).tmod 5)))), (26, .p (.al 11))] fr)
def f_s_DrawCubeOf_sg2_285 (v0 : List Sc) (v1 : List Sc) (t0 : List Sc) (t6 : List Sc) (fr : List AV) : Option (List AV) :=
  some (setAll [(0, .own 3 v1), (1, .p (.al 0)), (19, .p (.go 0)), (21, .p (.sl t0)), (22, .p (.sc (Sc.n .i64 (t0.length : Int)))), (23, .p (.sc (Sc.n .i64 ((t0.length : Int).tmod 5))))] fr)
def f_s_DrawCubeOf_sg2_397 (v0 : List Sc) (v1 : List Sc) (t0 : List Sc) (t6 : List Sc) (fr : List AV) : Option (List AV) :=
  some (setAll [(0, .own 3 v1), (1, .p (.al 0)), (19, .p (.go 0)), (21, .p (.sl t0)), (22, .p (.sc (Sc.n .i64 (t0.length : Int)))), (26, .p (.al 11))] fr)
def f_s_DrawCubeOf_sg2_62 (v0 : List Sc) (v1 : List Sc) (t0 : List Sc) (t6 : List Sc) (fr : List AV) : Option (List AV) :=
  br (inRange ((t0.length : Int).tmod 5) ([(Sc.n .i64 0), (Sc.n .i64 1), (Sc.n .i64 2), (Sc.n .i64 (-1)), (Sc.n .i64 99)]).length)
    (some (setAll [(20, .own 3 [(Sc.n .i64 0), (Sc.n .i64 1), (Sc.n .i64 2), (Sc.n .i64 (-1)), (Sc.n .i64 99)]), (21, .p (.sl t0)), (22, .p (.sc (Sc.n .i64 (t0.length : Int)))), (23, .p (.sc (Sc.n .i64 ((t0.length : Int).tmod 5)))), (24, .ep 20 (((t0.length : Int).tmod 5).toNat))] fr))
    none
def f_s_DrawCubeOf_sg2_158 (v0 : List Sc) (v1 : List Sc) (t0 : List Sc) (t6 : List Sc) (fr : List AV) : Option (List AV) :=
  some (setAll [(20, .own 3 [(Sc.n .i64 0), (Sc.n .i64 1), (Sc.n .i64 2), (Sc.n .i64 (-1)), (Sc.n .i64 99)]), (21, .p (.sl t0)), (22, .p (.sc (Sc.n .i64 (t0.length : Int)))), (23, .p (.sc (Sc.n .i64 ((t0.length : Int).tmod 5)))), (26, .p (.al 11))] fr)
def f_s_DrawCubeOf_sg2_63 (v0 : List Sc) (v1 : List Sc) (t0 : List Sc) (t6 : List Sc) (fr : List AV) : Option (List AV) :=
  br (inRange ((t0.length : Int).tmod 5) ([(Sc.n .i64 0), (Sc.n .i64 1), (Sc.n .i64 2), (Sc.n .i64 (-1)), (Sc.n .i64 99)]).length)
    (some (setAll [(19, .p (.go 1)), (20, .own 3 [(Sc.n .i64 0), (Sc.n .i64 1), (Sc.n .i64 2), (Sc.n .i64 (-1)), (Sc.n .i64 99)]), (21, .p (.sl t0)), (22, .p (.sc (Sc.n .i64 (t0.length : Int)))), (23, .p (.sc (Sc.n .i64 ((t0.length : Int).tmod 5)))), (24, .ep 20 (((t0.length : Int).tmod 5).toNat))] fr))
    none
def f_s_DrawCubeOf_sg2_159 (v0 : List Sc) (v1 : List Sc) (t0 : List Sc) (t6 : List Sc) (fr : List AV) : Option (List AV) :=
  some (setAll [(19, .p (.go 1)), (20, .own 3 [(Sc.n .i64 0), (Sc.n .i64 1), (Sc.n .i64 2), (Sc.n .i64 (-1)), (Sc.n .i64 99)]), (21, .p (.sl t0)), (22, .p (.sc (Sc.n .i64 (t0.length : Int)))), (23, .p (.sc (Sc.n .i64 ((t0.length : Int).tmod 5)))), (26, .p (.al 11))] fr)
def f_s_DrawCubeOf_sg2_287 (v0 : List Sc) (v1 : List Sc) (t0 : List Sc) (t6 : List Sc) (fr : List AV) : Option (List AV) :=
  some (setAll [(0, .own 3 v1), (1, .p (.al 0)), (19, .p (.go 0)), (20, .own 3 [(Sc.n .i64 0), (Sc.n .i64 1), (Sc.n .i64 2), (Sc.n .i64 (-1)), (Sc.n .i64 99)]), (21, .p (.sl t0)), (22, .p (.sc (Sc.n .i64 (t0.length : Int)))), (23, .p (.sc (Sc.n .i64 ((t0.length : Int).tmod 5))))] fr)
def f_s_DrawCubeOf_sg2_399 (v0 : List Sc) (v1 : List Sc) (t0 : List Sc) (t6 : List Sc) (fr : List AV) : Option (List AV) :=
  some (setAll [(0, .own 3 v1), (1, .p (.al 0)), (19, .p (.go 0)), (20, .own 3 [(Sc.n .i64 0), (Sc.n .i64 1), (Sc.n .i64 2), (Sc.n .i64 (-1)), (Sc.n .i64 99)]), (21, .p (.sl t0)), (22, .p (.sc (Sc.n .i64 (t0.length : Int)))), (26, .p (.al 11))] fr)
def f_s_DrawCubeOf_sg2_413 (v0 : List Sc) (v1 : List Sc) (t0 : List Sc) (t6 : List Sc) (fr : List AV) : Option (List AV) :=
  some (setAll [(0, .own 3 v1), (1, .p (.al 0)), (19, .p (.go 0)), (21, .p (.sl t0)), (22, .p (.sc (Sc.n .i64 (t0.length : Int)))), (23, .p (.sc (Sc.n .i64 ((t0.length : Int).tmod 5)))), (26, .p (.al 11))] fr)
def f_s_DrawCubeOf_sg2_126 (v0 : List Sc) (v1 : List Sc) (t0 : List Sc) (t6 : List Sc) (fr : List AV) : Option (List AV) :=
  br (inRange ((t0.length : Int).tmod 5) ([(Sc.n .i64 0), (Sc.n .i64 1), (Sc.n .i64 2), (Sc.n .i64 (-1)), (Sc.n .i64 99)]).length)
    (br (kAt [(Sc.n .i64 0), (Sc.n .i64 1), (Sc.n .i64 2), (Sc.n .i64 (-1)), (Sc.n .i64 99)] ((t0.length : Int).tmod 5).toNat)
      (some (setAll [(20, .own 3 [(Sc.n .i64 0), (Sc.n .i64 1), (Sc.n .i64 2), (Sc.n .i64 (-1)), (Sc.n .i64 99)]), (21, .p (.sl t0)), (22, .p (.sc (Sc.n .i64 (t0.length : Int)))), (23, .p (.sc (Sc.n .i64 ((t0.length : Int).tmod 5)))), (24, .ep 20 (((t0.length : Int).tmod 5).toNat)), (25, .p (.sc (Sc.n .i64 (atN [(Sc.n .i64 0), (Sc.n .i64 1), (Sc.n .i64 2), (Sc.n .i64 (-1)), (Sc.n .i64 99)] ((t0.length : Int).tmod 5).toNat))))] fr))
      none)
    none
def f_s_DrawCubeOf_sg2_190 (v0 : List Sc) (v1 : List Sc) (t0 : List Sc) (t6 : List Sc) (fr : List AV) : Option (List AV) :=
  br (inRange ((t0.length : Int).tmod 5) ([(Sc.n .i64 0), (Sc.n .i64 1), (Sc.n .i64 2), (Sc.n .i64 (-1)), (Sc.n .i64 99)]).length)
    (some (setAll [(20, .own 3 [(Sc.n .i64 0), (Sc.n .i64 1), (Sc.n .i64 2), (Sc.n .i64 (-1)), (Sc.n .i64 99)]), (21, .p (.sl t0)), (22, .p (.sc (Sc.n .i64 (t0.length : Int)))), (23, .p (.sc (Sc.n .i64 ((t0.length : Int).tmod 5)))), (24, .ep 20 (((t0.length : Int).tmod 5).toNat)), (26, .p (.al 11))] fr))
    none
def f_s_DrawCubeOf_sg2_127 (v0 : List Sc) (v1 : List Sc) (t0 : List Sc) (t6 : List Sc) (fr : List AV) : Option (List AV) :=
  br (inRange ((t0.length : Int).tmod 5) ([(Sc.n .i64 0), (Sc.n .i64 1), (Sc.n .i64 2), (Sc.n .i64 (-1)), (Sc.n .i64 99)]).length)
    (br (kAt [(Sc.n .i64 0), (Sc.n .i64 1), (Sc.n .i64 2), (Sc.n .i64 (-1)), (Sc.n .i64 99)] ((t0.length : Int).tmod 5).toNat)
      (some (setAll [(19, .p (.go 1)), (20, .own 3 [(Sc.n .i64 0), (Sc.n .i64 1), (Sc.n .i64 2), (Sc.n .i64 (-1)), (Sc.n .i64 99)]), (21, .p (.sl t0)), (22, .p (.sc (Sc.n .i64 (t0.length : Int)))), (23, .p (.sc (Sc.n .i64 ((t0.length : Int).tmod 5)))), (24, .ep 20 (((t0.length : Int).tmod 5).toNat)), (25, .p (.sc (Sc.n .i64 (atN [(Sc.n .i64 0), (Sc.n .i64 1), (Sc.n .i64 2), (Sc.n .i64 (-1)), (Sc.n .i64 99)] ((t0.length : Int).tmod 5).toNat))))] fr))
      none)
    none
def f_s_DrawCubeOf_sg2_191 (v0 : List Sc) (v1 : List Sc) (t0 : List Sc) (t6 : List Sc) (fr : List AV) : Option (List AV) :=
  br (inRange ((t0.length : Int).tmod 5) ([(Sc.n .i64 0), (Sc.n .i64 1), (Sc.n .i64 2), (Sc.n .i64 (-1)), (Sc.n .i64 99)]).length)
    (some (setAll [(19, .p (.go 1)), (20, .own 3 [(Sc.n .i64 0), (Sc.n .i64 1), (Sc.n .i64 2), (Sc.n .i64 (-1)), (Sc.n .i64 99)]), (21, .p (.sl t0)), (22, .p (.sc (Sc.n .i64 (t0.length : Int)))), (23, .p (.sc (Sc.n .i64 ((t0.length : Int).tmod 5)))), (24, .ep 20 (((t0.length : Int).tmod 5).toNat)), (26, .p (.al 11))] fr))
    none
def f_s_DrawCubeOf_sg2_319 (v0 : List Sc) (v1 : List Sc) (t0 : List Sc) (t6 : List Sc) (fr : List AV) : Option (List AV) :=
  br (inRange ((t0.length : Int).tmod 5) ([(Sc.n .i64 0), (Sc.n .i64 1), (Sc.n .i64 2), (Sc.n .i64 (-1)), (Sc.n .i64 99)]).length)
    (some (setAll [(0, .own 3 v1), (1, .p (.al 0)), (19, .p (.go 0)), (20, .own 3 [(Sc.n .i64 0), (Sc.n .i64 1), (Sc.n .i64 2), (Sc.n .i64 (-1)), (Sc.n .i64 99)]), (21, .p (.sl t0)), (22, .p (.sc (Sc.n .i64 (t0.length : Int)))), (23, .p (.sc (Sc.n .i64 ((t0.length : Int).tmod 5)))), (24, .ep 20 (((t0.length : Int).tmod 5).toNat))] fr))
    none
def f_s_DrawCubeOf_sg2_415 (v0 : List Sc) (v1 : List Sc) (t0 : List Sc) (t6 : List Sc) (fr : List AV) : Option (List AV) :=
  some (setAll [(0, .own 3 v1), (1, .p (.al 0)), (19, .p (.go 0)), (20, .own 3 [(Sc.n .i64 0), (Sc.n .i64 1), (Sc.n .i64 2), (Sc.n .i64 (-1)), (Sc.n .i64 99)]), (21, .p (.sl t0)), (22, .p (.sc (Sc.n .i64 (t0.length : Int)))), (23, .p (.sc (Sc.n .i64 ((t0.length : Int).tmod 5)))), (26, .p (.al 11))] fr)
def f_s_DrawCubeOf_sg2_254 (v0 : List Sc) (v1 : List Sc) (t0 : List Sc) (t6 : List Sc) (fr : List AV) : Option (List AV) :=
  br (inRange ((t0.length : Int).tmod 5) ([(Sc.n .i64 0), (Sc.n .i64 1), (Sc.n .i64 2), (Sc.n .i64 (-1)), (Sc.n .i64 99)]).length)
    (br (kAt [(Sc.n .i64 0), (Sc.n .i64 1), (Sc.n .i64 2), (Sc.n .i64 (-1)), (Sc.n .i64 99)] ((t0.length : Int).tmod 5).toNat)
      (some (setAll [(20, .own 3 [(Sc.n .i64 0), (Sc.n .i64 1), (Sc.n .i64 2), (Sc.n .i64 (-1)), (Sc.n .i64 99)]), (21, .p (.sl t0)), (22, .p (.sc (Sc.n .i64 (t0.length : Int)))), (23, .p (.sc (Sc.n .i64 ((t0.length : Int).tmod 5)))), (24, .ep 20 (((t0.length : Int).tmod 5).toNat)), (25, .p (.sc (Sc.n .i64 (atN [(Sc.n .i64 0), (Sc.n .i64 1), (Sc.n .i64 2), (Sc.n .i64 (-1)), (Sc.n .i64 99)] ((t0.length : Int).tmod 5).toNat)))), (26, .p (.al 11))] fr))
      none)
    none
def f_s_DrawCubeOf_sg2_255 (v0 : List Sc) (v1 : List Sc) (t0 : List Sc) (t6 : List Sc) (fr : List AV) : Option (List AV) :=
  br (inRange ((t0.length : Int).tmod 5) ([(Sc.n .i64 0), (Sc.n .i64 1), (Sc.n .i64 2), (Sc.n .i64 (-1)), (Sc.n .i64 99)]).length)
    (br (kAt [(Sc.n .i64 0), (Sc.n .i64 1), (Sc.n .i64 2), (Sc.n .i64 (-1)), (Sc.n .i64 99)] ((t0.length : Int).tmod 5).toNat)
      (some (setAll [(19, .p (.go 1)), (20, .own 3 [(Sc.n .i64 0), (Sc.n .i64 1), (Sc.n .i64 2), (Sc.n .i64 (-1)), (Sc.n .i64 99)]), (21, .p (.sl t0)), (22, .p (.sc (Sc.n .i64 (t0.length : Int)))), (23, .p (.sc (Sc.n .i64 ((t0.length : Int).tmod 5)))), (24, .ep 20 (((t0.length : Int).tmod 5).toNat)), (25, .p (.sc (Sc.n .i64 (atN [(Sc.n .i64 0), (Sc.n .i64 1), (Sc.n .i64 2), (Sc.n .i64 (-1)), (Sc.n .i64 99)] ((t0.length : Int).tmod 5).toNat)))), (26, .p (.al 11))] fr))
      none)
    none
def f_s_DrawCubeOf_sg2_383 (v0 : List Sc) (v1 : List Sc) (t0 : List Sc) (t6 : List Sc) (fr : List AV) : Option (List AV) :=
  br (inRange ((t0.length : Int).tmod 5) ([(Sc.n .i64 0), (Sc.n .i64 1), (Sc.n .i64 2), (Sc.n .i64 (-1)), (Sc.n .i64 99)]).length)
    (br (kAt [(Sc.n .i64 0), (Sc.n .i64 1), (Sc.n .i64 2), (Sc.n .i64 (-1)), (Sc.n .i64 99)] ((t0.length : Int).tmod 5).toNat)
      (some (setAll [(0, .own 3 v1), (1, .p (.al 0)), (19, .p (.go 0)), (20, .own 3 [(Sc.n .i64 0), (Sc.n .i64 1), (Sc.n .i64 2), (Sc.n .i64 (-1)), (Sc.n .i64 99)]), (21, .p (.sl t0)), (22, .p (.sc (Sc.n .i64 (t0.length : Int)))), (23, .p (.sc (Sc.n .i64 ((t0.length : Int).tmod 5)))), (24, .ep 20 (((t0.length : Int).tmod 5).toNat)), (25, .p (.sc (Sc.n .i64 (atN [(Sc.n .i64 0), (Sc.n .i64 1), (Sc.n .i64 2), (Sc.n .i64 (-1)), (Sc.n .i64 99)] ((t0.length : Int).tmod 5).toNat))))] fr))
      none)
    none
def f_s_DrawCubeOf_sg2_447 (v0 : List Sc) (v1 : List Sc) (t0 : List Sc) (t6 : List Sc) (fr : List AV) : Option (List AV) :=
  br (inRange ((t0.length : Int).tmod 5) ([(Sc.n .i64 0), (Sc.n .i64 1), (Sc.n .i64 2), (Sc.n .i64 (-1)), (Sc.n .i64 99)]).length)
    (some (setAll [(0, .own 3 v1), (1, .p (.al 0)), (19, .p (.go 0)), (20, .own 3 [(Sc.n .i64 0), (Sc.n .i64 1), (Sc.n .i64 2), (Sc.n .i64 (-1)), (Sc.n .i64 99)]), (21, .p (.sl t0)), (22, .p (.sc (Sc.n .i64 (t0.length : Int)))), (23, .p (.sc (Sc.n .i64 ((t0.length : Int).tmod 5)))), (24, .ep 20 (((t0.length : Int).tmod 5).toNat)), (26, .p (.al 11))] fr))
    none
def f_s_DrawCubeOf_sg2_511 (v0 : List Sc) (v1 : List Sc) (t0 : List Sc) (t6 : List Sc) (fr : List AV) : Option (List AV) :=
  br (inRange ((t0.length : Int).tmod 5) ([(Sc.n .i64 0), (Sc.n .i64 1), (Sc.n .i64 2), (Sc.n .i64 (-1)), (Sc.n .i64 99)]).length)
    (br (kAt [(Sc.n .i64 0), (Sc.n .i64 1), (Sc.n .i64 2), (Sc.n .i64 (-1)), (Sc.n .i64 99)] ((t0.length : Int).tmod 5).toNat)
      (some (setAll [(0, .own 3 v1), (1, .p (.al 0)), (19, .p (.go 0)), (20, .own 3 [(Sc.n .i64 0), (Sc.n .i64 1), (Sc.n .i64 2), (Sc.n .i64 (-1)), (Sc.n .i64 99)]), (21, .p (.sl t0)), (22, .p (.sc (Sc.n .i64 (t0.length : Int)))), (23, .p (.sc (Sc.n .i64 ((t0.length : Int).tmod 5)))), (24, .ep 20 (((t0.length : Int).tmod 5).toNat)), (25, .p (.sc (Sc.n .i64 (atN [(Sc.n .i64 0), (Sc.n .i64 1), (Sc.n .i64 2), (Sc.n .i64 (-1)), (Sc.n .i64 99)] ((t0.length : Int).tmod 5).toNat)))), (26, .p (.al 11))] fr))
      none)
    none
def f_s_DrawCubeOf_sg2_895 (v0 : List Sc) (v1 : List Sc) (t0 : List Sc) (t6 : List Sc) (fr : List AV) : Option (List AV) :=
  br (inRange ((t0.length : Int).tmod 5) ([(Sc.n .i64 0), (Sc.n .i64 1), (Sc.n .i64 2), (Sc.n .i64 (-1)), (Sc.n .i64 99)]).length)
    (br (kAt [(Sc.n .i64 0), (Sc.n .i64 1), (Sc.n .i64 2), (Sc.n .i64 (-1)), (Sc.n .i64 99)] ((t0.length : Int).tmod 5).toNat)
      (some (setAll [(0, .own 3 v1), (1, .p (.al 0)), (8, .p (.sc (Sc.n .i64 (atN [(Sc.n .i64 0), (Sc.n .i64 1), (Sc.n .i64 2), (Sc.n .i64 (-1)), (Sc.n .i64 99)] ((t0.length : Int).tmod 5).toNat)))), (19, .p (.go 0)), (20, .own 3 [(Sc.n .i64 0), (Sc.n .i64 1), (Sc.n .i64 2), (Sc.n .i64 (-1)), (Sc.n .i64 99)]), (21, .p (.sl t0)), (22, .p (.sc (Sc.n .i64 (t0.length : Int)))), (23, .p (.sc (Sc.n .i64 ((t0.length : Int).tmod 5)))), (24, .ep 20 (((t0.length : Int).tmod 5).toNat)), (25, .p (.sc (Sc.n .i64 (atN [(Sc.n .i64 0), (Sc.n .i64 1), (Sc.n .i64 2), (Sc.n .i64 (-1)), (Sc.n .i64 99)] ((t0.length : Int).tmod 5).toNat))))] fr))
      none)
    none
def f_s_DrawCubeOf_sg2_1023 (v0 : List Sc) (v1 : List Sc) (t0 : List Sc) (t6 : List Sc) (fr : List AV) : Option (List AV) :=
  br (inRange ((t0.length : Int).tmod 5) ([(Sc.n .i64 0), (Sc.n .i64 1), (Sc.n .i64 2), (Sc.n .i64 (-1)), (Sc.n .i64 99)]).length)
    (br (kAt [(Sc.n .i64 0), (Sc.n .i64 1), (Sc.n .i64 2), (Sc.n .i64 (-1)), (Sc.n .i64 99)] ((t0.length : Int).tmod 5).toNat)
      (some (setAll [(0, .own 3 v1), (1, .p (.al 0)), (8, .p (.sc (Sc.n .i64 (atN [(Sc.n .i64 0), (Sc.n .i64 1), (Sc.n .i64 2), (Sc.n .i64 (-1)), (Sc.n .i64 99)] ((t0.length : Int).tmod 5).toNat)))), (19, .p (.go 0)), (20, .own 3 [(Sc.n .i64 0), (Sc.n .i64 1), (Sc.n .i64 2), (Sc.n .i64 (-1)), (Sc.n .i64 99)]), (21, .p (.sl t0)), (22, .p (.sc (Sc.n .i64 (t0.length : Int)))), (23, .p (.sc (Sc.n .i64 ((t0.length : Int).tmod 5)))), (24, .ep 20 (((t0.length : Int).tmod 5).toNat)), (25, .p (.sc (Sc.n .i64 (atN [(Sc.n .i64 0), (Sc.n .i64 1), (Sc.n .i64 2), (Sc.n .i64 (-1)), (Sc.n .i64 99)] ((t0.length : Int).tmod 5).toNat)))), (26, .p (.al 11))] fr))
      none)
    none
def f_s_DrawCubeOf_sg2_2047 (v0 : List Sc) (v1 : List Sc) (t0 : List Sc) (t6 : List Sc) (fr : List AV) : Option (List AV) :=
  br (inRange ((t0.length : Int).tmod 5) ([(Sc.n .i64 0), (Sc.n .i64 1), (Sc.n .i64 2), (Sc.n .i64 (-1)), (Sc.n .i64 99)]).length)
    (br (kAt [(Sc.n .i64 0), (Sc.n .i64 1), (Sc.n .i64 2), (Sc.n .i64 (-1)), (Sc.n .i64 99)] ((t0.length : Int).tmod 5).toNat)
      (some (setAll [(0, .own 3 v1), (1, .p (.al 0)), (8, .p (.sc (Sc.n .i64 (atN [(Sc.n .i64 0), (Sc.n .i64 1), (Sc.n .i64 2), (Sc.n .i64 (-1)), (Sc.n .i64 99)] ((t0.length : Int).tmod 5).toNat)))), (9, .own 3 t6), (11, .p (.al 9)), (19, .p (.go 0)), (20, .own 3 [(Sc.n .i64 0), (Sc.n .i64 1), (Sc.n .i64 2), (Sc.n .i64 (-1)), (Sc.n .i64 99)]), (21, .p (.sl t0)), (22, .p (.sc (Sc.n .i64 (t0.length : Int)))), (23, .p (.sc (Sc.n .i64 ((t0.length : Int).tmod 5)))), (24, .ep 20 (((t0.length : Int).tmod 5).toNat)), (25, .p (.sc (Sc.n .i64 (atN [(Sc.n .i64 0), (Sc.n .i64 1), (Sc.n .i64 2), (Sc.n .i64 (-1)), (Sc.n .i64 99)] ((t0.length : Int).tmod 5).toNat)))), (26, .p (.al 9))] fr))
      none)
    none
def f_s_DrawCubeOf_Eg2 (v0 : List Sc) (v1 : List Sc) (t0 : List Sc) (t6 : List Sc) (fr : List AV) : List (Option (List AV)) := [f_s_DrawCubeOf_sg2_1 v0 v1 t0 t6 fr, f_s_DrawCubeOf_sg2_2 v0 v1 t0 t6 fr, f_s_DrawCubeOf_sg2_4 v0 v1 t0 t6 fr, f_s_DrawCubeOf_sg2_128 v0 v1 t0 t6 fr, f_s_DrawCubeOf_sg2_3 v0 v1 t0 t6 fr, f_s_DrawCubeOf_sg2_5 v0 v1 t0 t6 fr, f_s_DrawCubeOf_sg2_129 v0 v1 t0 t6 fr, f_s_DrawCubeOf_sg2_257 v0 v1 t0 t6 fr, f_s_DrawCubeOf_sg2_3 v0 v1 t0 t6 fr, f_s_DrawCubeOf_sg2_6 v0 v1 t0 t6 fr, f_s_DrawCubeOf_sg2_130 v0 v1 t0 t6 fr, f_s_DrawCubeOf_sg2_5 v0 v1 t0 t6 fr, f_s_DrawCubeOf_sg2_6 v0 v1 t0 t6 fr, f_s_DrawCubeOf_sg2_12 v0 v1 t0 t6 fr, f_s_DrawCubeOf_sg2_132 v0 v1 t0 t6 fr, f_s_DrawCubeOf_sg2_129 v0 v1 t0 t6 fr, f_s_DrawCubeOf_sg2_130 v0 v1 t0 t6 fr, f_s_DrawCubeOf_sg2_132 v0 v1 t0 t6 fr, f_s_DrawCubeOf_sg2_7 v0 v1 t0 t6 fr, f_s_DrawCubeOf_sg2_131 v0 v1 t0 t6 fr, f_s_DrawCubeOf_sg2_259 v0 v1 t0 t6 fr, f_s_DrawCubeOf_sg2_7 v0 v1 t0 t6 fr, f_s_DrawCubeOf_sg2_13 v0 v1 t0 t6 fr, f_s_DrawCubeOf_sg2_133 v0 v1 t0 t6 fr, f_s_DrawCubeOf_sg2_261 v0 v1 t0 t6 fr, f_s_DrawCubeOf_sg2_131 v0 v1 t0 t6 fr, f_s_DrawCubeOf_sg2_133 v0 v1 t0 t6 fr, f_s_DrawCubeOf_sg2_385 v0 v1 t0 t6 fr, f_s_DrawCubeOf_sg2_259 v0 v1 t0 t6 fr, f_s_DrawCubeOf_sg2_261 v0 v1 t0 t6 fr, f_s_DrawCubeOf_sg2_385 v0 v1 t0 t6 fr, f_s_DrawCubeOf_sg2_7 v0 v1 t0 t6 fr, f_s_DrawCubeOf_sg2_14 v0 v1 t0 t6 fr, f_s_DrawCubeOf_sg2_134 v0 v1 t0 t6 fr, f_s_DrawCubeOf_sg2_131 v0 v1 t0 t6 fr, f_s_DrawCubeOf_sg2_134 v0 v1 t0 t6 fr, f_s_DrawCubeOf_sg2_13 v0 v1 t0 t6 fr, f_s_DrawCubeOf_sg2_14 v0 v1 t0 t6 fr, f_s_DrawCubeOf_sg2_28 v0 v1 t0 t6 fr, f_s_DrawCubeOf_sg2_140 v0 v1 t0 t6 fr, f_s_DrawCubeOf_sg2_133 v0 v1 t0 t6 fr, f_s_DrawCubeOf_sg2_134 v0 v1 t0 t6 fr, f_s_DrawCubeOf_sg2_140 v0 v1 t0 t6 fr, f_s_DrawCubeOf_sg2_15 v0 v1 t0 t6 fr, f_s_DrawCubeOf_sg2_135 v0 v1 t0 t6 fr, f_s_DrawCubeOf_sg2_263 v0 v1 t0 t6 fr, f_s_DrawCubeOf_sg2_135 v0 v1 t0 t6 fr, f_s_DrawCubeOf_sg2_387 v0 v1 t0 t6 fr, f_s_DrawCubeOf_sg2_263 v0 v1 t0 t6 fr, f_s_DrawCubeOf_sg2_387 v0 v1 t0 t6 fr, f_s_DrawCubeOf_sg2_15 v0 v1 t0 t6 fr, f_s_DrawCubeOf_sg2_29 v0 v1 t0 t6 fr, f_s_DrawCubeOf_sg2_141 v0 v1 t0 t6 fr, f_s_DrawCubeOf_sg2_269 v0 v1 t0 t6 fr, f_s_DrawCubeOf_sg2_135 v0 v1 t0 t6 fr, f_s_DrawCubeOf_sg2_141 v0 v1 t0 t6 fr, f_s_DrawCubeOf_sg2_389 v0 v1 t0 t6 fr, f_s_DrawCubeOf_sg2_263 v0 v1 t0 t6 fr, f_s_DrawCubeOf_sg2_269 v0 v1 t0 t6 fr, f_s_DrawCubeOf_sg2_389 v0 v1 t0 t6 fr, f_s_DrawCubeOf_sg2_387 v0 v1 t0 t6 fr, f_s_DrawCubeOf_sg2_389 v0 v1 t0 t6 fr, f_s_DrawCubeOf_sg2_15 v0 v1 t0 t6 fr, f_s_DrawCubeOf_sg2_30 v0 v1 t0 t6 fr, f_s_DrawCubeOf_sg2_142 v0 v1 t0 t6 fr, f_s_DrawCubeOf_sg2_135 v0 v1 t0 t6 fr, f_s_DrawCubeOf_sg2_142 v0 v1 t0 t6 fr, f_s_DrawCubeOf_sg2_29 v0 v1 t0 t6 fr, f_s_DrawCubeOf_sg2_30 v0 v1 t0 t6 fr, f_s_DrawCubeOf_sg2_156 v0 v1 t0 t6 fr, f_s_DrawCubeOf_sg2_141 v0 v1 t0 t6 fr, f_s_DrawCubeOf_sg2_142 v0 v1 t0 t6 fr, f_s_DrawCubeOf_sg2_156 v0 v1 t0 t6 fr, f_s_DrawCubeOf_sg2_31 v0 v1 t0 t6 fr, f_s_DrawCubeOf_sg2_143 v0 v1 t0 t6 fr, f_s_DrawCubeOf_sg2_271 v0 v1 t0 t6 fr, f_s_DrawCubeOf_sg2_143 v0 v1 t0 t6 fr, f_s_DrawCubeOf_sg2_391 v0 v1 t0 t6 fr, f_s_DrawCubeOf_sg2_271 v0 v1 t0 t6 fr, f_s_DrawCubeOf_sg2_391 v0 v1 t0 t6 fr, f_s_DrawCubeOf_sg2_391 v0 v1 t0 t6 fr, f_s_DrawCubeOf_sg2_31 v0 v1 t0 t6 fr, f_s_DrawCubeOf_sg2_157 v0 v1 t0 t6 fr, f_s_DrawCubeOf_sg2_285 v0 v1 t0 t6 fr, f_s_DrawCubeOf_sg2_143 v0 v1 t0 t6 fr, f_s_DrawCubeOf_sg2_157 v0 v1 t0 t6 fr, f_s_DrawCubeOf_sg2_397 v0 v1 t0 t6 fr, f_s_DrawCubeOf_sg2_271 v0 v1 t0 t6 fr, f_s_DrawCubeOf_sg2_285 v0 v1 t0 t6 fr, f_s_DrawCubeOf_sg2_397 v0 v1 t0 t6 fr, f_s_DrawCubeOf_sg2_391 v0 v1 t0 t6 fr, f_s_DrawCubeOf_sg2_397 v0 v1 t0 t6 fr, f_s_DrawCubeOf_sg2_31 v0 v1 t0 t6 fr, f_s_DrawCubeOf_sg2_62 v0 v1 t0 t6 fr, f_s_DrawCubeOf_sg2_158 v0 v1 t0 t6 fr, f_s_DrawCubeOf_sg2_143 v0 v1 t0 t6 fr, f_s_DrawCubeOf_sg2_158 v0 v1 t0 t6 fr, f_s_DrawCubeOf_sg2_157 v0 v1 t0 t6 fr, f_s_DrawCubeOf_sg2_158 v0 v1 t0 t6 fr, f_s_DrawCubeOf_sg2_63 v0 v1 t0 t6 fr, f_s_DrawCubeOf_sg2_159 v0 v1 t0 t6 fr, f_s_DrawCubeOf_sg2_287 v0 v1 t0 t6 fr, f_s_DrawCubeOf_sg2_159 v0 v1 t0 t6 fr, f_s_DrawCubeOf_sg2_399 v0 v1 t0 t6 fr, f_s_DrawCubeOf_sg2_287 v0 v1 t0 t6 fr, f_s_DrawCubeOf_sg2_399 v0 v1 t0 t6 fr, f_s_DrawCubeOf_sg2_399 v0 v1 t0 t6 fr, f_s_DrawCubeOf_sg2_159 v0 v1 t0 t6 fr, f_s_DrawCubeOf_sg2_413 v0 v1 t0 t6 fr, f_s_DrawCubeOf_sg2_287 v0 v1 t0 t6 fr, f_s_DrawCubeOf_sg2_413 v0 v1 t0 t6 fr, f_s_DrawCubeOf_sg2_399 v0 v1 t0 t6 fr, f_s_DrawCubeOf_sg2_413 v0 v1 t0 t6 fr, f_s_DrawCubeOf_sg2_63 v0 v1 t0 t6 fr, f_s_DrawCubeOf_sg2_126 v0 v1 t0 t6 fr, f_s_DrawCubeOf_sg2_190 v0 v1 t0 t6 fr, f_s_DrawCubeOf_sg2_159 v0 v1 t0 t6 fr, f_s_DrawCubeOf_sg2_190 v0 v1 t0 t6 fr, f_s_DrawCubeOf_sg2_127 v0 v1 t0 t6 fr, f_s_DrawCubeOf_sg2_191 v0 v1 t0 t6 fr, f_s_DrawCubeOf_sg2_319 v0 v1 t0 t6 fr, f_s_DrawCubeOf_sg2_191 v0 v1 t0 t6 fr, f_s_DrawCubeOf_sg2_415 v0 v1 t0 t6 fr, f_s_DrawCubeOf_sg2_319 v0 v1 t0 t6 fr, f_s_DrawCubeOf_sg2_415 v0 v1 t0 t6 fr, f_s_DrawCubeOf_sg2_415 v0 v1 t0 t6 fr, f_s_DrawCubeOf_sg2_415 v0 v1 t0 t6 fr, f_s_DrawCubeOf_sg2_127 v0 v1 t0 t6 fr, f_s_DrawCubeOf_sg2_254 v0 v1 t0 t6 fr, f_s_DrawCubeOf_sg2_191 v0 v1 t0 t6 fr, f_s_DrawCubeOf_sg2_254 v0 v1 t0 t6 fr, f_s_DrawCubeOf_sg2_255 v0 v1 t0 t6 fr, f_s_DrawCubeOf_sg2_383 v0 v1 t0 t6 fr, f_s_DrawCubeOf_sg2_255 v0 v1 t0 t6 fr, f_s_DrawCubeOf_sg2_447 v0 v1 t0 t6 fr, f_s_DrawCubeOf_sg2_383 v0 v1 t0 t6 fr, f_s_DrawCubeOf_sg2_447 v0 v1 t0 t6 fr, f_s_DrawCubeOf_sg2_447 v0 v1 t0 t6 fr, f_s_DrawCubeOf_sg2_255 v0 v1 t0 t6 fr, f_s_DrawCubeOf_sg2_511 v0 v1 t0 t6 fr, f_s_DrawCubeOf_sg2_511 v0 v1 t0 t6 fr, f_s_DrawCubeOf_sg2_895 v0 v1 t0 t6 fr, f_s_DrawCubeOf_sg2_511 v0 v1 t0 t6 fr, f_s_DrawCubeOf_sg2_1023 v0 v1 t0 t6 fr, f_s_DrawCubeOf_sg2_1023 v0 v1 t0 t6 fr, f_s_DrawCubeOf_sg2_2047 v0 v1 t0 t6 fr]
theorem f_s_DrawCubeOf_dLg2 (v0 : List Sc) (v1 : List Sc) (t0 : List Sc) (t6 : List Sc) : edgeL E0 f_s_DrawCubeOf_M H0 f_s_DrawCubeOf_F (opsAt (bodyOf Try.f36 100002)) f_s_DrawCubeOf_Dg2 (f_s_DrawCubeOf_frg2 v0 v1 t0 t6) = f_s_DrawCubeOf_Eg2 v0 v1 t0 t6 (f_s_DrawCubeOf_frg2 v0 v1 t0 t6) := by kernel_rfl
theorem f_s_DrawCubeOf_dRg2 (v0 : List Sc) (v1 : List Sc) (t0 : List Sc) (t6 : List Sc) : edgeR E0 f_s_DrawCubeOf_M H0 f_s_DrawCubeOf_F (opsAt (bodyOf Try.f36 100002)) f_s_DrawCubeOf_Dg2 (f_s_DrawCubeOf_frg2 v0 v1 t0 t6) = f_s_DrawCubeOf_Eg2 v0 v1 t0 t6 (f_s_DrawCubeOf_frg2 v0 v1 t0 t6) := by kernel_rfl
theorem f_s_DrawCubeOf_dg2 (v0 : List Sc) (v1 : List Sc) (t0 : List Sc) (t6 : List Sc) : edgeL E0 f_s_DrawCubeOf_M H0 f_s_DrawCubeOf_F (opsAt (bodyOf Try.f36 100002)) f_s_DrawCubeOf_Dg2 (f_s_DrawCubeOf_frg2 v0 v1 t0 t6) = edgeR E0 f_s_DrawCubeOf_M H0 f_s_DrawCubeOf_F (opsAt (bodyOf Try.f36 100002)) f_s_DrawCubeOf_Dg2 (f_s_DrawCubeOf_frg2 v0 v1 t0 t6) := (f_s_DrawCubeOf_dLg2 v0 v1 t0 t6).trans (f_s_DrawCubeOf_dRg2 v0 v1 t0 t6).symm
theorem f_s_DrawCubeOf_eg2 (v0 : List Sc) (v1 : List Sc) (t0 : List Sc) (t6 : List Sc) : goL E0 f_s_DrawCubeOf_M H0 f_s_DrawCubeOf_F (opsAt (bodyOf Try.f36 100002)) (Array.replicate (opsAt (bodyOf Try.f36 100002)).size true) (opsAt (bodyOf Try.f36 100002)).toList 0 (f_s_DrawCubeOf_frg2 v0 v1 t0 t6) (fun s => some (X.norm, clear (klOf f_s_DrawCubeOf_F 100002).2.1 s)) = f_s_DrawCubeOf_g2_k v0 v1 t0 t6 (fun e => some (f_s_DrawCubeOf_xg2 v0 v1 t0 t6 e)) := by kernel_rfl
theorem f_s_DrawCubeOf_lg2 (v0 : List Sc) (v1 : List Sc) (t0 : List Sc) (t6 : List Sc) (r : Int) (h : f_s_DrawCubeOf_g2 v0 v1 t0 t6 = some r) : LS Try.prog f_s_DrawCubeOf_F (bodyOf Try.f36 100002) (f_s_DrawCubeOf_frg2 v0 v1 t0 t6) (f_s_DrawCubeOf_xg2 v0 v1 t0 t6 r) :=
  region_true (S := Unit) (id := 2) (G := fun _ => f_s_DrawCubeOf_g2 v0 v1 t0 t6) (Gk := fun _ k => f_s_DrawCubeOf_g2_k v0 v1 t0 t6 k) (fr := fun _ => f_s_DrawCubeOf_frg2 v0 v1 t0 t6) (f1 := fun e => f_s_DrawCubeOf_xg2 v0 v1 t0 t6 e) E0ok f_s_DrawCubeOf_Mt f_s_DrawCubeOf_bg2 f_s_DrawCubeOf_cg2 (fun _ => f_s_DrawCubeOf_dg2 v0 v1 t0 t6) (fun _ => rfl) (fun _ => f_s_DrawCubeOf_eg2 v0 v1 t0 t6) (fun _ k => f_s_DrawCubeOf_pg2 v0 v1 t0 t6 k) () r h
def f_s_DrawCubeOf_tg2 (σ : List AV) : Option (Bool × Bool × (X × List AV) × (X × List AV)) := match dec f_s_DrawCubeOf_hg2 σ with
  | some [.l v0, .l v1, .l t0, .l t6] => some ((f_s_DrawCubeOf_g2 v0 v1 t0 t6).isSome, true, f_s_DrawCubeOf_xg2 v0 v1 t0 t6 ((f_s_DrawCubeOf_g2 v0 v1 t0 t6).getD 0), (.ret, []))
  | _ => none
theorem f_s_DrawCubeOf_ttg2 : TTrue Try.prog f_s_DrawCubeOf_F Try.f36 100002 f_s_DrawCubeOf_tg2 := by
  intro σ p r r' h
  unfold f_s_DrawCubeOf_tg2 at h
  split at h
  · rename_i hd
    rw [← dec_enc hd]
    exact rowR (f_s_DrawCubeOf_lg2 _ _ _ _) h
  · cases h
theorem f_s_DrawCubeOf_p {R : Type} (code0 : List Sc) (kR : List Sc × Int × List Sc → Option R) : f_s_DrawCubeOf_k code0 kR = (f_s_DrawCubeOf_k code0 some).bind kR := by
  simp only [f_s_DrawCubeOf_k, boB, someB]
theorem f_s_DrawCubeOf_e (code0 : List Sc) : runFn E0 f_s_DrawCubeOf_M H0 f_s_DrawCubeOf_F (asL (addL 100002 f_s_DrawCubeOf_tg2 (noL))) Try.f36 (f_s_DrawCubeOf_a code0) (f_s_DrawCubeOf_i code0) = f_s_DrawCubeOf_k code0 (fun r => some (f_s_DrawCubeOf_en r)) := by kernel_rfl
theorem f_s_DrawCubeOf_ok (code0 : List Sc) (r : List Sc × Int × List Sc) (h : f_s_DrawCubeOf code0 = some r) : CS Try.prog 36 (f_s_DrawCubeOf_a code0) (f_s_DrawCubeOf_i code0) (f_s_DrawCubeOf_en r).1 (f_s_DrawCubeOf_en r).2 :=
  fn_true (Gk := fun k => f_s_DrawCubeOf_k code0 k) (en := f_s_DrawCubeOf_en) Try.func36 E0ok f_s_DrawCubeOf_Mt (addL_true f_s_DrawCubeOf_ttg2 (noL_true)) f_s_DrawCubeOf_o (f_s_DrawCubeOf_e code0) (f_s_DrawCubeOf_p code0) h
def f_s_DrawCubeOf_c : CRow := fun args inh => match dec2 [.p .sl] [] args inh with
  | some ([.l code0], []) => some ((f_s_DrawCubeOf code0).isSome, (f_s_DrawCubeOf_en ((f_s_DrawCubeOf code0).getD ([], 0, []))).1, (f_s_DrawCubeOf_en ((f_s_DrawCubeOf code0).getD ([], 0, []))).2)
  | _ => none
theorem f_s_DrawCubeOf_cc : CTrue Try.prog 36 f_s_DrawCubeOf_c := by
  intro args inh rs out h
  unfold f_s_DrawCubeOf_c at h
  split at h
  · rename_i hd
    obtain ⟨h1, h2⟩ := dec2_enc hd
    rw [← h1, ← h2]
    exact rowC (f_s_DrawCubeOf_ok _) h
  · cases h

def f_i_CubeOf_F : Fi := { nv := 0, nc := 0, m := 0, vt := [], kl := [(0, ([0, 1, 2, 4, 5, 6, 7, 9, 10, 11, 12, 13, 14, 15, 16, 17, 18, 19, 20, 21, 25, 26, 27, 28, 29, 30, 31, 32, 33, 34, 35, 36, 37, 38, 39], [0, 1, 2, 3, 4, 5, 6, 7, 9, 10, 11, 12, 13, 14, 15, 16, 17, 18, 19, 20, 21, 22, 23, 24, 25, 26, 27, 28, 29, 30, 31, 32, 33, 34, 35, 36, 37, 38, 39], [0, 1, 2, 3, 4, 5, 8, 9, 10, 11, 12, 13, 14, 15, 16, 17, 18, 19, 20, 21, 22, 23, 24, 25, 26, 27, 28, 29, 30, 31, 32, 33, 34, 35, 36, 37, 38, 39]))], sk := [], mvs := [], fz := [] }
def f_i_CubeOf_a (g0 : List Sc) (base1 : Int) (steps2 : List Sc) : List AV := enc [.p .gr, .p (.int .i64), .p .sl] [.l g0, .i base1, .l steps2]
def f_i_CubeOf_i (g0 : List Sc) (base1 : Int) (steps2 : List Sc) : List AV := enc [] []
def f_i_CubeOf_en (r : Int × Bool) : List AV × List AV := (enc [.p (.int .i64), .p .boo] [.i r.1, .b r.2], enc [] [])
def f_i_CubeOf_M : Calling := addC 143 f_i_Group_has_c (addC 123 f_i_Group_shift_c (noC))
theorem f_i_CubeOf_Mt : CallOk Try.prog (f_i_CubeOf_M) := addC_true f_i_Group_has_cc (addC_true f_i_Group_shift_cc (noC_true))
theorem f_i_CubeOf_o : loopsOnce Try.f37 = true := by kernel_rfl
def f_i_CubeOf_h0 : List Sh := [.u, .u, .u, .p .el, .u, .u, .u, .u, .p (.int .i64), .u, .u, .u, .u, .u, .u, .u, .u, .u, .u, .u, .u, .u, .p .sl, .p (.int .i64), .p (.int .i64), .u, .u, .u, .u, .u, .u, .u, .u, .u, .u, .u, .u, .u, .u, .u]
def f_i_CubeOf_fr0 (g3 : List Sc) (t22 : List Sc) (t23 : Int) (s : Int × Int) : List AV := enc f_i_CubeOf_h0 [.l g3, .i s.1, .l t22, .i t23, .i s.2]
def f_i_CubeOf_g0_1 : List Sh := [.u, .u, .u, .u, .u, .u, .u, .u, .p (.int .i64), .u, .u, .u, .u, .u, .u, .u, .u, .u, .u, .u, .u, .u, .u, .u, .u, .u, .u, .u, .u, .u, .u, .u, .u, .u, .u, .u, .u, .u, .u, .u]
def f_i_CubeOf_x0_1 (g3 : List Sc) (t22 : List Sc) (t23 : Int) (e : Int) : X × List AV := (.out 0, enc f_i_CubeOf_g0_1 [.i e])
def f_i_CubeOf_g0_2 : List Sh := [.u, .u, .u, .u, .u, .u, .p (.int .i64), .p .boo, .u, .u, .u, .u, .u, .u, .u, .u, .u, .u, .u, .u, .u, .u, .u, .u, .u, .u, .u, .u, .u, .u, .u, .u, .u, .u, .u, .u, .u, .u, .u, .u]
def f_i_CubeOf_x0_2 (g3 : List Sc) (t22 : List Sc) (t23 : Int) (e : Unit) : X × List AV := (.ret, enc f_i_CubeOf_g0_2 [.i 0, .b false])
theorem f_i_CubeOf_p0 {R : Type} (g3 : List Sc) (t22 : List Sc) (t23 : Int) (s : Int × Int) (kN : Int × Int → Option R) (kA : Int → Option R) (kB : Unit → Option R) : f_i_CubeOf_k0 g3 t22 t23 s.1 s.2 kN kA kB = (f_i_CubeOf_r0 g3 t22 t23 s).bind (Ro.el kN kA kB) := by
  simp only [f_i_CubeOf_k0, f_i_CubeOf_r0, brB, boB, someB, noneB, Ro.el]
theorem f_i_CubeOf_e0 (g3 : List Sc) (t22 : List Sc) (t23 : Int) (s : Int × Int) : EC E0 f_i_CubeOf_M H0 f_i_CubeOf_F (asL (noL)) 0 (bodyOf Try.f37 0) (f_i_CubeOf_fr0 g3 t22 t23 s) (done (klOf f_i_CubeOf_F 0)) = f_i_CubeOf_k0 g3 t22 t23 s.1 s.2 (fun s => some (.norm, f_i_CubeOf_fr0 g3 t22 t23 s)) (fun e => some (f_i_CubeOf_x0_1 g3 t22 t23 e)) (fun e => some (f_i_CubeOf_x0_2 g3 t22 t23 e)) := by kernel_rfl
theorem f_i_CubeOf_l0 (g3 : List Sc) (t22 : List Sc) (t23 : Int) : ∀ s r, loopL (f_i_CubeOf_r0 g3 t22 t23) s = some r → LS Try.prog f_i_CubeOf_F (bodyOf Try.f37 0) (f_i_CubeOf_fr0 g3 t22 t23 s) (enX (f_i_CubeOf_x0_1 g3 t22 t23) (f_i_CubeOf_x0_2 g3 t22 t23) r) :=
  loop_true E0ok f_i_CubeOf_Mt (noL_true) f_i_CubeOf_o (fun _ h => by cases h) (fun _ h => by cases h) (fun s => (f_i_CubeOf_e0 g3 t22 t23 s).trans (f_i_CubeOf_p0 g3 t22 t23 s _ _ (fun e => some (f_i_CubeOf_x0_2 g3 t22 t23 e))))
def f_i_CubeOf_t0 (σ : List AV) : Option (Bool × Bool × (X × List AV) × (X × List AV)) := match dec f_i_CubeOf_h0 σ with
  | some [.l g3, .i out8, .l t22, .i t23, .i t24] => some ((loopL (f_i_CubeOf_r0 g3 t22 t23) (out8, t24)).isSome, isOne (loopL (f_i_CubeOf_r0 g3 t22 t23) (out8, t24)), f_i_CubeOf_x0_1 g3 t22 t23 (getOne 0 (loopL (f_i_CubeOf_r0 g3 t22 t23) (out8, t24))), f_i_CubeOf_x0_2 g3 t22 t23 (getTwo () (loopL (f_i_CubeOf_r0 g3 t22 t23) (out8, t24))))
  | _ => none
theorem f_i_CubeOf_tt0 : TTrue Try.prog f_i_CubeOf_F Try.f37 0 (f_i_CubeOf_t0) := by
  intro σ p r r' h
  unfold f_i_CubeOf_t0 at h
  split at h
  · rename_i hd
    rw [← dec_enc hd]
    exact row2 (f_i_CubeOf_l0 _ _ _ _) h
  · cases h
theorem f_i_CubeOf_p {R : Type} (g0 : List Sc) (base1 : Int) (steps2 : List Sc) (kR : Int × Bool → Option R) : f_i_CubeOf_k g0 base1 steps2 kR = (f_i_CubeOf_k g0 base1 steps2 some).bind kR := by
  simp only [f_i_CubeOf_k, brB, boB, blB, someB, noneB]
theorem f_i_CubeOf_e (g0 : List Sc) (base1 : Int) (steps2 : List Sc) : runFn E0 f_i_CubeOf_M H0 f_i_CubeOf_F (asL (addL 0 (f_i_CubeOf_t0) (noL))) Try.f37 (f_i_CubeOf_a g0 base1 steps2) (f_i_CubeOf_i g0 base1 steps2) = f_i_CubeOf_k g0 base1 steps2 (fun r => some (f_i_CubeOf_en r)) := by kernel_rfl
theorem f_i_CubeOf_ok (g0 : List Sc) (base1 : Int) (steps2 : List Sc) (r : Int × Bool) (h : f_i_CubeOf g0 base1 steps2 = some r) : CS Try.prog 37 (f_i_CubeOf_a g0 base1 steps2) (f_i_CubeOf_i g0 base1 steps2) (f_i_CubeOf_en r).1 (f_i_CubeOf_en r).2 :=
  fn_true (Gk := fun k => f_i_CubeOf_k g0 base1 steps2 k) (en := f_i_CubeOf_en) Try.func37 E0ok f_i_CubeOf_Mt (addL_true (f_i_CubeOf_tt0) (noL_true)) f_i_CubeOf_o (f_i_CubeOf_e g0 base1 steps2) (f_i_CubeOf_p g0 base1 steps2) h
def f_i_CubeOf_c : CRow := fun args inh => match dec2 [.p .gr, .p (.int .i64), .p .sl] [] args inh with
  | some ([.l g0, .i base1, .l steps2], []) => some ((f_i_CubeOf g0 base1 steps2).isSome, (f_i_CubeOf_en ((f_i_CubeOf g0 base1 steps2).getD (0, false))).1, (f_i_CubeOf_en ((f_i_CubeOf g0 base1 steps2).getD (0, false))).2)
  | _ => none
theorem f_i_CubeOf_cc : CTrue Try.prog 37 f_i_CubeOf_c := by
  intro args inh rs out h
  unfold f_i_CubeOf_c at h
  split at h
  · rename_i hd
    obtain ⟨h1, h2⟩ := dec2_enc hd
    rw [← h1, ← h2]
    exact rowC (f_i_CubeOf_ok _ _ _) h
  · cases h

def f_s_CubeOf_F : Fi := { nv := 0, nc := 0, m := 0, vt := [], kl := [(0, ([0, 1, 4, 5, 6, 7, 10, 11, 12, 13, 14, 15, 16, 17, 18, 19, 20, 21, 22, 23, 24, 25, 26, 27, 28, 29, 30, 31, 32, 33, 34, 35, 36, 37, 38, 39, 40, 41, 42, 43], [0, 1, 2, 3, 4, 5, 6, 7, 9, 10, 11, 12, 13, 14, 15, 16, 17, 18, 19, 20, 21, 22, 23, 24, 25, 26, 27, 28, 29, 30, 31, 32, 33, 34, 35, 36, 37, 38, 39, 40, 41, 42, 43], [0, 1, 2, 3, 4, 5, 8, 9, 10, 11, 12, 13, 14, 15, 16, 17, 18, 19, 20, 21, 22, 23, 24, 25, 26, 27, 28, 29, 30, 31, 32, 33, 34, 35, 36, 37, 38, 39, 40, 41, 42, 43]))], sk := [], mvs := [], fz := [] }
def f_s_CubeOf_a (g0 : List Sc) (base1 : Int) (steps2 : List Sc) : List AV := enc [.p .gr, .p (.int .i64), .p .sl] [.l g0, .i base1, .l steps2]
def f_s_CubeOf_i (g0 : List Sc) (base1 : Int) (steps2 : List Sc) : List AV := enc [] []
def f_s_CubeOf_en (r : Int × Bool) : List AV × List AV := (enc [.p (.int .i64), .p .boo] [.i r.1, .b r.2], enc [] [])
def f_s_CubeOf_M : Calling := addC 148 f_s_l2Is_c (addC 141 f_s_l3Shift_c (noC))
theorem f_s_CubeOf_Mt : CallOk Try.prog (f_s_CubeOf_M) := addC_true f_s_l2Is_cc (addC_true f_s_l3Shift_cc (noC_true))
theorem f_s_CubeOf_o : loopsOnce Try.f38 = true := by kernel_rfl
def f_s_CubeOf_h0 : List Sh := [.u, .u, .p .sl, .p .el, .u, .u, .u, .u, .p (.int .i64), .p (.int .i64), .u, .u, .u, .u, .u, .u, .u, .u, .u, .u, .u, .u, .u, .u, .u, .u, .u, .u, .u, .u, .u, .u, .u, .u, .u, .u, .u, .u, .u, .u, .u, .u, .u, .u]
def f_s_CubeOf_fr0 (steps2 : List Sc) (g3 : List Sc) (s : Int × Int) : List AV := enc f_s_CubeOf_h0 [.l steps2, .l g3, .i s.1, .i s.2]
def f_s_CubeOf_g0_1 : List Sh := [.u, .u, .u, .u, .u, .u, .u, .u, .p (.int .i64), .u, .u, .u, .u, .u, .u, .u, .u, .u, .u, .u, .u, .u, .u, .u, .u, .u, .u, .u, .u, .u, .u, .u, .u, .u, .u, .u, .u, .u, .u, .u, .u, .u, .u, .u]
def f_s_CubeOf_x0_1 (steps2 : List Sc) (g3 : List Sc) (e : Int) : X × List AV := (.out 0, enc f_s_CubeOf_g0_1 [.i e])
def f_s_CubeOf_g0_2 : List Sh := [.u, .u, .u, .u, .u, .u, .p (.int .i64), .p .boo, .u, .u, .u, .u, .u, .u, .u, .u, .u, .u, .u, .u, .u, .u, .u, .u, .u, .u, .u, .u, .u, .u, .u, .u, .u, .u, .u, .u, .u, .u, .u, .u, .u, .u, .u, .u]
def f_s_CubeOf_x0_2 (steps2 : List Sc) (g3 : List Sc) (e : Unit) : X × List AV := (.ret, enc f_s_CubeOf_g0_2 [.i 0, .b false])
theorem f_s_CubeOf_p0 {R : Type} (steps2 : List Sc) (g3 : List Sc) (s : Int × Int) (kN : Int × Int → Option R) (kA : Int → Option R) (kB : Unit → Option R) : f_s_CubeOf_k0 steps2 g3 s.1 s.2 kN kA kB = (f_s_CubeOf_r0 steps2 g3 s).bind (Ro.el kN kA kB) := by
  simp only [f_s_CubeOf_k0, f_s_CubeOf_r0, brB, boB, someB, noneB, Ro.el]
theorem f_s_CubeOf_e0 (steps2 : List Sc) (g3 : List Sc) (s : Int × Int) : EC E0 f_s_CubeOf_M H0 f_s_CubeOf_F (asL (noL)) 0 (bodyOf Try.f38 0) (f_s_CubeOf_fr0 steps2 g3 s) (done (klOf f_s_CubeOf_F 0)) = f_s_CubeOf_k0 steps2 g3 s.1 s.2 (fun s => some (.norm, f_s_CubeOf_fr0 steps2 g3 s)) (fun e => some (f_s_CubeOf_x0_1 steps2 g3 e)) (fun e => some (f_s_CubeOf_x0_2 steps2 g3 e)) := by kernel_rfl
theorem f_s_CubeOf_l0 (steps2 : List Sc) (g3 : List Sc) : ∀ s r, loopL (f_s_CubeOf_r0 steps2 g3) s = some r → LS Try.prog f_s_CubeOf_F (bodyOf Try.f38 0) (f_s_CubeOf_fr0 steps2 g3 s) (enX (f_s_CubeOf_x0_1 steps2 g3) (f_s_CubeOf_x0_2 steps2 g3) r) :=
  loop_true E0ok f_s_CubeOf_Mt (noL_true) f_s_CubeOf_o (fun _ h => by cases h) (fun _ h => by cases h) (fun s => (f_s_CubeOf_e0 steps2 g3 s).trans (f_s_CubeOf_p0 steps2 g3 s _ _ (fun e => some (f_s_CubeOf_x0_2 steps2 g3 e))))
def f_s_CubeOf_t0 (σ : List AV) : Option (Bool × Bool × (X × List AV) × (X × List AV)) := match dec f_s_CubeOf_h0 σ with
  | some [.l steps2, .l g3, .i out8, .i i9] => some ((loopL (f_s_CubeOf_r0 steps2 g3) (out8, i9)).isSome, isOne (loopL (f_s_CubeOf_r0 steps2 g3) (out8, i9)), f_s_CubeOf_x0_1 steps2 g3 (getOne 0 (loopL (f_s_CubeOf_r0 steps2 g3) (out8, i9))), f_s_CubeOf_x0_2 steps2 g3 (getTwo () (loopL (f_s_CubeOf_r0 steps2 g3) (out8, i9))))
  | _ => none
theorem f_s_CubeOf_tt0 : TTrue Try.prog f_s_CubeOf_F Try.f38 0 (f_s_CubeOf_t0) := by
  intro σ p r r' h
  unfold f_s_CubeOf_t0 at h
  split at h
  · rename_i hd
    rw [← dec_enc hd]
    exact row2 (f_s_CubeOf_l0 _ _ _) h
  · cases h
theorem f_s_CubeOf_p {R : Type} (g0 : List Sc) (base1 : Int) (steps2 : List Sc) (kR : Int × Bool → Option R) : f_s_CubeOf_k g0 base1 steps2 kR = (f_s_CubeOf_k g0 base1 steps2 some).bind kR := by
  simp only [f_s_CubeOf_k, brB, boB, blB, someB, noneB]
theorem f_s_CubeOf_e (g0 : List Sc) (base1 : Int) (steps2 : List Sc) : runFn E0 f_s_CubeOf_M H0 f_s_CubeOf_F (asL (addL 0 (f_s_CubeOf_t0) (noL))) Try.f38 (f_s_CubeOf_a g0 base1 steps2) (f_s_CubeOf_i g0 base1 steps2) = f_s_CubeOf_k g0 base1 steps2 (fun r => some (f_s_CubeOf_en r)) := by kernel_rfl
theorem f_s_CubeOf_ok (g0 : List Sc) (base1 : Int) (steps2 : List Sc) (r : Int × Bool) (h : f_s_CubeOf g0 base1 steps2 = some r) : CS Try.prog 38 (f_s_CubeOf_a g0 base1 steps2) (f_s_CubeOf_i g0 base1 steps2) (f_s_CubeOf_en r).1 (f_s_CubeOf_en r).2 :=
  fn_true (Gk := fun k => f_s_CubeOf_k g0 base1 steps2 k) (en := f_s_CubeOf_en) Try.func38 E0ok f_s_CubeOf_Mt (addL_true (f_s_CubeOf_tt0) (noL_true)) f_s_CubeOf_o (f_s_CubeOf_e g0 base1 steps2) (f_s_CubeOf_p g0 base1 steps2) h
def f_s_CubeOf_c : CRow := fun args inh => match dec2 [.p .gr, .p (.int .i64), .p .sl] [] args inh with
  | some ([.l g0, .i base1, .l steps2], []) => some ((f_s_CubeOf g0 base1 steps2).isSome, (f_s_CubeOf_en ((f_s_CubeOf g0 base1 steps2).getD (0, false))).1, (f_s_CubeOf_en ((f_s_CubeOf g0 base1 steps2).getD (0, false))).2)
  | _ => none
theorem f_s_CubeOf_cc : CTrue Try.prog 38 f_s_CubeOf_c := by
  intro args inh rs out h
  unfold f_s_CubeOf_c at h
  split at h
  · rename_i hd
    obtain ⟨h1, h2⟩ := dec2_enc hd
    rw [← h1, ← h2]
    exact rowC (f_s_CubeOf_ok _ _ _) h
  · cases h

def f_s_DrawHasCube_F : Fi := { nv := 3, nc := 2, m := 0, vt := [(2, 0), (5, 1), (9, 2)], kl := [(100002, ([2, 4, 6, 7, 10, 11, 12, 13, 14, 15, 16, 17, 18, 19, 20, 21, 22], [1, 2, 3, 4, 8, 9, 10, 11, 12, 13, 14, 15, 16, 17, 18, 19, 20, 21, 22], []))], sk := [], mvs := [2], fz := [], tb := [2] }
def f_s_DrawHasCube_a (code0 : List Sc) : List AV := enc [.p .sl] [.l code0]
def f_s_DrawHasCube_i (code0 : List Sc) : List AV := enc [] []
def f_s_DrawHasCube_en (r : List Sc × Int × Int) : List AV × List AV := (enc [.p (.go 0), .p (.int .i64), .p (.int .i64)] [.i r.2.1, .i r.2.2], enc [.own 3] [.l r.1])
def f_s_DrawHasCube_M : Calling := addC 137 f_s_l14Set_c (noC)
theorem f_s_DrawHasCube_Mt : CallOk Try.prog (f_s_DrawHasCube_M) := addC_true f_s_l14Set_cc (noC_true)
theorem f_s_DrawHasCube_o : loopsOnce Try.f39 = true := by kernel_rfl
def f_s_DrawHasCube_hg2 : List Sh := [.p .sl, .own 3, .u, .p .sl, .u, .p (.pt 0 1), .u, .u, .p (.pt 1 1), .p (.int .i64), .u, .u, .u, .u, .u, .u, .u, .u, .u, .u, .u, .u, .u]
def f_s_DrawHasCube_frg2 (v0 : List Sc) (v1 : List Sc) (t0 : List Sc) (t6 : Int) : List AV := enc f_s_DrawHasCube_hg2 [.l v0, .l v1, .l t0, .i t6]
def f_s_DrawHasCube_xg2 (v0 : List Sc) (v1 : List Sc) (t0 : List Sc) (t6 : Int) (e : Int) : X × List AV := (.norm, enc [.own 3, .u, .u, .u, .u, .p (.pt 0 1), .p (.int .i64), .p (.int .i64), .u, .u, .u, .u, .u, .u, .u, .u, .u, .u, .u, .u, .u, .u, .u] [.l v1, .i t6, .i e])
theorem f_s_DrawHasCube_pg2 {R : Type} (v0 : List Sc) (v1 : List Sc) (t0 : List Sc) (t6 : Int) (kA : Int → Option R) : f_s_DrawHasCube_g2_k v0 v1 t0 t6 kA = (f_s_DrawHasCube_g2 v0 v1 t0 t6).bind kA := by
  simp only [f_s_DrawHasCube_g2_k, f_s_DrawHasCube_g2, brB, someB, noneB]
theorem f_s_DrawHasCube_bg2 : bodyOf Try.f39 100002 = .region 2 (opsAt (bodyOf Try.f39 100002)) true := by kernel_rfl
def f_s_DrawHasCube_Dg2 : List (Array Bool) := [#[false, false, false, false, false, false, false, false, false, false, false], #[true, false, false, false, false, false, false, false, false, false, false], #[false, true, false, false, false, false, false, false, false, false, false], #[false, false, true, false, false, false, false, false, false, false, false], #[false, false, false, true, false, false, false, false, false, false, false], #[true, true, false, false, false, false, false, false, false, false, false], #[true, false, true, false, false, false, false, false, false, false, false], #[true, false, false, true, false, false, false, false, false, false, false], #[true, false, false, false, false, false, false, false, true, false, false], #[false, true, true, false, false, false, false, false, false, false, false], #[false, true, false, true, false, false, false, false, false, false, false], #[false, false, true, true, false, false, false, false, false, false, false], #[false, false, false, true, true, false, false, false, false, false, false], #[true, true, true, false, false, false, false, false, false, false, false], #[true, true, false, true, false, false, false, false, false, false, false], #[true, true, false, false, false, false, false, false, true, false, false], #[true, false, true, true, false, false, false, false, false, false, false], #[true, false, true, false, false, false, false, false, true, false, false], #[true, false, false, true, true, false, false, false, false, false, false], #[true, false, false, true, false, false, false, false, true, false, false], #[false, true, true, true, false, false, false, false, false, false, false], #[false, true, false, true, true, false, false, false, false, false, false], #[false, false, true, true, true, false, false, false, false, false, false], #[false, false, false, true, true, true, false, false, false, false, false], #[true, true, true, true, false, false, false, false, false, false, false], #[true, true, true, false, false, false, false, false, true, false, false], #[true, true, false, true, true, false, false, false, false, false, false], #[true, true, false, true, false, false, false, false, true, false, false], #[true, true, false, false, false, false, false, false, true, true, false], #[true, false, true, true, true, false, false, false, false, false, false], #[true, false, true, true, false, false, false, false, true, false, false], #[true, false, false, true, true, true, false, false, false, false, false], #[true, false, false, true, true, false, false, false, true, false, false], #[false, true, true, true, true, false, false, false, false, false, false], #[false, true, false, true, true, true, false, false, false, false, false], #[false, false, true, true, true, true, false, false, false, false, false], #[true, true, true, true, true, false, false, false, false, false, false], #[true, true, true, true, false, false, false, false, true, false, false], #[true, true, true, false, false, false, false, false, true, true, false], #[true, true, false, true, true, true, false, false, false, false, false], #[true, true, false, true, true, false, false, false, true, false, false], #[true, true, false, true, false, false, false, false, true, true, false], #[true, false, true, true, true, true, false, false, false, false, false], #[true, false, true, true, true, false, false, false, true, false, false], #[true, false, false, true, true, true, false, false, true, false, false], #[false, true, true, true, true, true, false, false, false, false, false], #[false, false, true, true, true, true, true, false, false, false, false], #[true, true, true, true, true, true, false, false, false, false, false], #[true, true, true, true, true, false, false, false, true, false, false], #[true, true, true, true, false, false, false, false, true, true, false], #[true, true, false, true, true, true, false, false, true, false, false], #[true, true, false, true, true, false, false, false, true, true, false], #[true, false, true, true, true, true, true, false, false, false, false], #[true, false, true, true, true, true, false, false, true, false, false], #[false, true, true, true, true, true, true, false, false, false, false], #[false, false, true, true, true, true, true, true, false, false, false], #[true, true, true, true, true, true, true, false, false, false, false], #[true, true, true, true, true, true, false, false, true, false, false], #[true, true, true, true, true, false, false, false, true, true, false], #[true, true, false, true, true, true, false, false, true, true, false], #[true, false, true, true, true, true, true, true, false, false, false], #[true, false, true, true, true, true, true, false, true, false, false], #[false, true, true, true, true, true, true, true, false, false, false], #[true, true, true, true, true, true, true, true, false, false, false], #[true, true, true, true, true, true, true, false, true, false, false], #[true, true, true, true, true, true, false, false, true, true, false], #[true, false, true, true, true, true, true, true, true, false, false], #[true, true, true, true, true, true, true, true, true, false, false], #[true, true, true, true, true, true, true, false, true, true, false], #[true, true, true, true, true, true, true, true, true, true, false], #[true, true, true, true, true, true, true, true, true, true, true]]
theorem f_s_DrawHasCube_cg2 : closedB (opsAt (bodyOf Try.f39 100002)) f_s_DrawHasCube_Dg2 = true := by kernel_rfl
def f_s_DrawHasCube_sg2_0 (v0 : List Sc) (v1 : List Sc) (t0 : List Sc) (t6 : Int) (fr : List AV) : Option (List AV) :=
  some (setAll [] fr)
def f_s_DrawHasCube_sg2_1 (v0 : List Sc) (v1 : List Sc) (t0 : List Sc) (t6 : Int) (fr : List AV) : Option (List AV) :=
  some (setAll [(15, .p (.go 1))] fr)
def f_s_DrawHasCube_sg2_2 (v0 : List Sc) (v1 : List Sc) (t0 : List Sc) (t6 : Int) (fr : List AV) : Option (List AV) :=
  some (setAll [(16, .p (.sc (Sc.n .i64 t6)))] fr)
def f_s_DrawHasCube_sg2_4 (v0 : List Sc) (v1 : List Sc) (t0 : List Sc) (t6 : Int) (fr : List AV) : Option (List AV) :=
  some (setAll [(17, .own 3 [(Sc.n .i64 0), (Sc.n .i64 1), (Sc.n .i64 2), (Sc.n .i64 3), (Sc.n .i64 4), (Sc.n .i64 5), (Sc.n .i64 (-1))])] fr)
def f_s_DrawHasCube_sg2_8 (v0 : List Sc) (v1 : List Sc) (t0 : List Sc) (t6 : Int) (fr : List AV) : Option (List AV) :=
  some (setAll [(18, .p (.sl t0))] fr)
def f_s_DrawHasCube_sg2_3 (v0 : List Sc) (v1 : List Sc) (t0 : List Sc) (t6 : Int) (fr : List AV) : Option (List AV) :=
  some (setAll [(15, .p (.go 1)), (16, .p (.sc (Sc.n .i64 t6)))] fr)
def f_s_DrawHasCube_sg2_5 (v0 : List Sc) (v1 : List Sc) (t0 : List Sc) (t6 : Int) (fr : List AV) : Option (List AV) :=
  some (setAll [(15, .p (.go 1)), (17, .own 3 [(Sc.n .i64 0), (Sc.n .i64 1), (Sc.n .i64 2), (Sc.n .i64 3), (Sc.n .i64 4), (Sc.n .i64 5), (Sc.n .i64 (-1))])] fr)
def f_s_DrawHasCube_sg2_9 (v0 : List Sc) (v1 : List Sc) (t0 : List Sc) (t6 : Int) (fr : List AV) : Option (List AV) :=
  some (setAll [(15, .p (.go 1)), (18, .p (.sl t0))] fr)
def f_s_DrawHasCube_sg2_257 (v0 : List Sc) (v1 : List Sc) (t0 : List Sc) (t6 : Int) (fr : List AV) : Option (List AV) :=
  some (setAll [(0, .own 3 v1), (1, .p (.al 0)), (15, .p (.go 0))] fr)
def f_s_DrawHasCube_sg2_6 (v0 : List Sc) (v1 : List Sc) (t0 : List Sc) (t6 : Int) (fr : List AV) : Option (List AV) :=
  some (setAll [(16, .p (.sc (Sc.n .i64 t6))), (17, .own 3 [(Sc.n .i64 0), (Sc.n .i64 1), (Sc.n .i64 2), (Sc.n .i64 3), (Sc.n .i64 4), (Sc.n .i64 5), (Sc.n .i64 (-1))])] fr)
def f_s_DrawHasCube_sg2_10 (v0 : List Sc) (v1 : List Sc) (t0 : List Sc) (t6 : Int) (fr : List AV) : Option (List AV) :=
  some (setAll [(16, .p (.sc (Sc.n .i64 t6))), (18, .p (.sl t0))] fr)
def f_s_DrawHasCube_sg2_12 (v0 : List Sc) (v1 : List Sc) (t0 : List Sc) (t6 : Int) (fr : List AV) : Option (List AV) :=
  some (setAll [(17, .own 3 [(Sc.n .i64 0), (Sc.n .i64 1), (Sc.n .i64 2), (Sc.n .i64 3), (Sc.n .i64 4), (Sc.n .i64 5), (Sc.n .i64 (-1))]), (18, .p (.sl t0))] fr)
def f_s_DrawHasCube_sg2_24 (v0 : List Sc) (v1 : List Sc) (t0 : List Sc) (t6 : Int) (fr : List AV) : Option (List AV) :=
  some (setAll [(18, .p (.sl t0)), (19, .p (.sc (Sc.n .i64 (t0.length : Int))))] fr)
def f_s_DrawHasCube_sg2_7 (v0 : List Sc) (v1 : List Sc) (t0 : List Sc) (t6 : Int) (fr : List AV) : Option (List AV) :=
  some (setAll [(15, .p (.go 1)), (16, .p (.sc (Sc.n .i64 t6))), (17, .own 3 [(Sc.n .i64 0), (Sc.n .i64 1), (Sc.n .i64 2), (Sc.n .i64 3), (Sc.n .i64 4), (Sc.n .i64 5), (Sc.n .i64 (-1))])] fr)
def f_s_DrawHasCube_sg2_11 (v0 : List Sc) (v1 : List Sc) (t0 : List Sc) (t6 : Int) (fr : List AV) : Option (List AV) :=
  some (setAll [(15, .p (.go 1)), (16, .p (.sc (Sc.n .i64 t6))), (18, .p (.sl t0))] fr)
def f_s_DrawHasCube_sg2_259 (v0 : List Sc) (v1 : List Sc) (t0 : List Sc) (t6 : Int) (fr : List AV) : Option (List AV) :=
  some (setAll [(0, .own 3 v1), (1, .p (.al 0)), (15, .p (.go 0)), (16, .p (.sc (Sc.n .i64 t6)))] fr)
def f_s_DrawHasCube_sg2_13 (v0 : List Sc) (v1 : List Sc) (t0 : List Sc) (t6 : Int) (fr : List AV) : Option (List AV) :=
  some (setAll [(15, .p (.go 1)), (17, .own 3 [(Sc.n .i64 0), (Sc.n .i64 1), (Sc.n .i64 2), (Sc.n .i64 3), (Sc.n .i64 4), (Sc.n .i64 5), (Sc.n .i64 (-1))]), (18, .p (.sl t0))] fr)
def f_s_DrawHasCube_sg2_261 (v0 : List Sc) (v1 : List Sc) (t0 : List Sc) (t6 : Int) (fr : List AV) : Option (List AV) :=
  some (setAll [(0, .own 3 v1), (1, .p (.al 0)), (15, .p (.go 0)), (17, .own 3 [(Sc.n .i64 0), (Sc.n .i64 1), (Sc.n .i64 2), (Sc.n .i64 3), (Sc.n .i64 4), (Sc.n .i64 5), (Sc.n .i64 (-1))])] fr)
def f_s_DrawHasCube_sg2_25 (v0 : List Sc) (v1 : List Sc) (t0 : List Sc) (t6 : Int) (fr : List AV) : Option (List AV) :=
  some (setAll [(15, .p (.go 1)), (18, .p (.sl t0)), (19, .p (.sc (Sc.n .i64 (t0.length : Int))))] fr)
def f_s_DrawHasCube_sg2_265 (v0 : List Sc) (v1 : List Sc) (t0 : List Sc) (t6 : Int) (fr : List AV) : Option (List AV) :=
  some (setAll [(0, .own 3 v1), (1, .p (.al 0)), (15, .p (.go 0)), (18, .p (.sl t0))] fr)
def f_s_DrawHasCube_sg2_14 (v0 : List Sc) (v1 : List Sc) (t0 : List Sc) (t6 : Int) (fr : List AV) : Option (List AV) :=
  some (setAll [(16, .p (.sc (Sc.n .i64 t6))), (17, .own 3 [(Sc.n .i64 0), (Sc.n .i64 1), (Sc.n .i64 2), (Sc.n .i64 3), (Sc.n .i64 4), (Sc.n .i64 5), (Sc.n .i64 (-1))]), (18, .p (.sl t0))] fr)
def f_s_DrawHasCube_sg2_26 (v0 : List Sc) (v1 : List Sc) (t0 : List Sc) (t6 : Int) (fr : List AV) : Option (List AV) :=
  some (setAll [(16, .p (.sc (Sc.n .i64 t6))), (18, .p (.sl t0)), (19, .p (.sc (Sc.n .i64 (t0.length : Int))))] fr)
def f_s_DrawHasCube_sg2_28 (v0 : List Sc) (v1 : List Sc) (t0 : List Sc) (t6 : Int) (fr : List AV) : Option (List AV) :=
  some (setAll [(17, .own 3 [(Sc.n .i64 0), (Sc.n .i64 1), (Sc.n .i64 2), (Sc.n .i64 3), (Sc.n .i64 4), (Sc.n .i64 5), (Sc.n .i64 (-1))]), (18, .p (.sl t0)), (19, .p (.sc (Sc.n .i64 (t0.length : Int))))] fr)
def f_s_DrawHasCube_sg2_56 (v0 : List Sc) (v1 : List Sc) (t0 : List Sc) (t6 : Int) (fr : List AV) : Option (List AV) :=
  some (setAll [(18, .p (.sl t0)), (19, .p (.sc (Sc.n .i64 (t0.length : Int)))), (20, .p (.sc (Sc.n .i64 ((t0.length : Int).tmod 7))))] fr)
def f_s_DrawHasCube_sg2_15 (v0 : List Sc) (v1 : List Sc) (t0 : List Sc) (t6 : Int) (fr : List AV) : Option (List AV) :=
  some (setAll [(15, .p (.go 1)), (16, .p (.sc (Sc.n .i64 t6))), (17, .own 3 [(Sc.n .i64 0), (Sc.n .i64 1), (Sc.n .i64 2), (Sc.n .i64 3), (Sc.n .i64 4), (Sc.n .i64 5), (Sc.n .i64 (-1))]), (18, .p (.sl t0))] fr)
def f_s_DrawHasCube_sg2_263 (v0 : List Sc) (v1 : List Sc) (t0 : List Sc) (t6 : Int) (fr : List AV) : Option (List AV) :=
  some (setAll [(0, .own 3 v1), (1, .p (.al 0)), (15, .p (.go 0)), (16, .p (.sc (Sc.n .i64 t6))), (17, .own 3 [(Sc.n .i64 0), (Sc.n .i64 1), (Sc.n .i64 2), (Sc.n .i64 3), (Sc.n .i64 4), (Sc.n .i64 5), (Sc.n .i64 (-1))])] fr)
def f_s_DrawHasCube_sg2_27 (v0 : List Sc) (v1 : List Sc) (t0 : List Sc) (t6 : Int) (fr : List AV) : Option (List AV) :=
  some (setAll [(15, .p (.go 1)), (16, .p (.sc (Sc.n .i64 t6))), (18, .p (.sl t0)), (19, .p (.sc (Sc.n .i64 (t0.length : Int))))] fr)
def f_s_DrawHasCube_sg2_267 (v0 : List Sc) (v1 : List Sc) (t0 : List Sc) (t6 : Int) (fr : List AV) : Option (List AV) :=
  some (setAll [(0, .own 3 v1), (1, .p (.al 0)), (15, .p (.go 0)), (16, .p (.sc (Sc.n .i64 t6))), (18, .p (.sl t0))] fr)
def f_s_DrawHasCube_sg2_771 (v0 : List Sc) (v1 : List Sc) (t0 : List Sc) (t6 : Int) (fr : List AV) : Option (List AV) :=
  some (setAll [(0, .own 3 v1), (1, .p (.al 0)), (6, .p (.sc (Sc.n .i64 t6))), (15, .p (.go 0)), (16, .p (.sc (Sc.n .i64 t6)))] fr)
def f_s_DrawHasCube_sg2_29 (v0 : List Sc) (v1 : List Sc) (t0 : List Sc) (t6 : Int) (fr : List AV) : Option (List AV) :=
  some (setAll [(15, .p (.go 1)), (17, .own 3 [(Sc.n .i64 0), (Sc.n .i64 1), (Sc.n .i64 2), (Sc.n .i64 3), (Sc.n .i64 4), (Sc.n .i64 5), (Sc.n .i64 (-1))]), (18, .p (.sl t0)), (19, .p (.sc (Sc.n .i64 (t0.length : Int))))] fr)
def f_s_DrawHasCube_sg2_269 (v0 : List Sc) (v1 : List Sc) (t0 : List Sc) (t6 : Int) (fr : List AV) : Option (List AV) :=
  some (setAll [(0, .own 3 v1), (1, .p (.al 0)), (15, .p (.go 0)), (17, .own 3 [(Sc.n .i64 0), (Sc.n .i64 1), (Sc.n .i64 2), (Sc.n .i64 3), (Sc.n .i64 4), (Sc.n .i64 5), (Sc.n .i64 (-1))]), (18, .p (.sl t0))] fr)
def f_s_DrawHasCube_sg2_57 (v0 : List Sc) (v1 : List Sc) (t0 : List Sc) (t6 : Int) (fr : List AV) : Option (List AV) :=
  some (setAll [(15, .p (.go 1)), (18, .p (.sl t0)), (19, .p (.sc (Sc.n .i64 (t0.length : Int)))), (20, .p (.sc (Sc.n .i64 ((t0.length : Int).tmod 7))))] fr)
def f_s_DrawHasCube_sg2_281 (v0 : List Sc) (v1 : List Sc) (t0 : List Sc) (t6 : Int) (fr : List AV) : Option (List AV) :=
  some (setAll [(0, .own 3 v1), (1, .p (.al 0)), (15, .p (.go 0)), (18, .p (.sl t0)), (19, .p (.sc (Sc.n .i64 (t0.length : Int))))] fr)
def f_s_DrawHasCube_sg2_30 (v0 : List Sc) (v1 : List Sc) (t0 : List Sc) (t6 : Int) (fr : List AV) : Option (List AV) :=
  some (setAll [(16, .p (.sc (Sc.n .i64 t6))), (17, .own 3 [(Sc.n .i64 0), (Sc.n .i64 1), (Sc.n .i64 2), (Sc.n .i64 3), (Sc.n .i64 4), (Sc.n .i64 5), (Sc.n .i64 (-1))]), (18, .p (.sl t0)), (19, .p (.sc (Sc.n .i64 (t0.length : Int))))] fr)
def f_s_DrawHasCube_sg2_58 (v0 : List Sc) (v1 : List Sc) (t0 : List Sc) (t6 : Int) (fr : List AV) : Option (List AV) :=
  some (setAll [(16, .p (.sc (Sc.n .i64 t6))), (18, .p (.sl t0)), (19, .p (.sc (Sc.n .i64 (t0.length : Int)))), (20, .p (.sc (Sc.n .i64 ((t0.length : Int).tmod 7))))] fr)
def f_s_DrawHasCube_sg2_60 (v0 : List Sc) (v1 : List Sc) (t0 : List Sc) (t6 : Int) (fr : List AV) : Option (List AV) :=
  some (setAll [(17, .own 3 [(Sc.n .i64 0), (Sc.n .i64 1), (Sc.n .i64 2), (Sc.n .i64 3), (Sc.n .i64 4), (Sc.n .i64 5), (Sc.n .i64 (-1))]), (18, .p (.sl t0)), (19, .p (.sc (Sc.n .i64 (t0.length : Int)))), (20, .p (.sc (Sc.n .i64 ((t0.length : Int).tmod 7))))] fr)
def f_s_DrawHasCube_sg2_31 (v0 : List Sc) (v1 : List Sc) (t0 : List Sc) (t6 : Int) (fr : List AV) : Option (List AV) :=
  some (setAll [(15, .p (.go 1)), (16, .p (.sc (Sc.n .i64 t6))), (17, .own 3 [(Sc.n .i64 0), (Sc.n .i64 1), (Sc.n .i64 2), (Sc.n .i64 3), (Sc.n .i64 4), (Sc.n .i64 5), (Sc.n .i64 (-1))]), (18, .p (.sl t0)), (19, .p (.sc (Sc.n .i64 (t0.length : Int))))] fr)
def f_s_DrawHasCube_sg2_271 (v0 : List Sc) (v1 : List Sc) (t0 : List Sc) (t6 : Int) (fr : List AV) : Option (List AV) :=
  some (setAll [(0, .own 3 v1), (1, .p (.al 0)), (15, .p (.go 0)), (16, .p (.sc (Sc.n .i64 t6))), (17, .own 3 [(Sc.n .i64 0), (Sc.n .i64 1), (Sc.n .i64 2), (Sc.n .i64 3), (Sc.n .i64 4), (Sc.n .i64 5), (Sc.n .i64 (-1))]), (18, .p (.sl t0))] fr)
def f_s_DrawHasCube_sg2_775 (v0 : List Sc) (v1 : List Sc) (t0 : List Sc) (t6 : Int) (fr : List AV) : Option (List AV) :=
  some (setAll [(0, .own 3 v1), (1, .p (.al 0)), (6, .p (.sc (Sc.n .i64 t6))), (15, .p (.go 0)), (16, .p (.sc (Sc.n .i64 t6))), (17, .own 3 [(Sc.n .i64 0), (Sc.n .i64 1), (Sc.n .i64 2), (Sc.n .i64 3), (Sc.n .i64 4), (Sc.n .i64 5), (Sc.n .i64 (-1))])] fr)
def f_s_DrawHasCube_sg2_59 (v0 : List Sc) (v1 : List Sc) (t0 : List Sc) (t6 : Int) (fr : List AV) : Option (List AV) :=
  some (setAll [(15, .p (.go 1)), (16, .p (.sc (Sc.n .i64 t6))), (18, .p (.sl t0)), (19, .p (.sc (Sc.n .i64 (t0.length : Int)))), (20, .p (.sc (Sc.n .i64 ((t0.length : Int).tmod 7))))] fr)
def f_s_DrawHasCube_sg2_283 (v0 : List Sc) (v1 : List Sc) (t0 : List Sc) (t6 : Int) (fr : List AV) : Option (List AV) :=
  some (setAll [(0, .own 3 v1), (1, .p (.al 0)), (15, .p (.go 0)), (16, .p (.sc (Sc.n .i64 t6))), (18, .p (.sl t0)), (19, .p (.sc (Sc.n .i64 (t0.length : Int))))] fr)
def f_s_DrawHasCube_sg2_779 (v0 : List Sc) (v1 : List Sc) (t0 : List Sc) (t6 : Int) (fr : List AV) : Option (List AV) :=
  some (setAll [(0, .own 3 v1), (1, .p (.al 0)), (6, .p (.sc (Sc.n .i64 t6))), (15, .p (.go 0)), (16, .p (.sc (Sc.n .i64 t6))), (18, .p (.sl t0))] fr)
def f_s_DrawHasCube_sg2_61 (v0 : List Sc) (v1 : List Sc) (t0 : List Sc) (t6 : Int) (fr : List AV) : Option (List AV) :=
  some (setAll [(15, .p (.go 1)), (17, .own 3 [(Sc.n .i64 0), (Sc.n .i64 1), (Sc.n .i64 2), (Sc.n .i64 3), (Sc.n .i64 4), (Sc.n .i64 5), (Sc.n .i64 (-1))]), (18, .p (.sl t0)), (19, .p (.sc (Sc.n .i64 (t0.length : Int)))), (20, .p (.sc (Sc.n .i64 ((t0.length : Int).tmod 7))))] fr)
def f_s_DrawHasCube_sg2_285 (v0 : List Sc) (v1 : List Sc) (t0 : List Sc) (t6 : Int) (fr : List AV) : Option (List AV) :=
  some (setAll [(0, .own 3 v1), (1, .p (.al 0)), (15, .p (.go 0)), (17, .own 3 [(Sc.n .i64 0), (Sc.n .i64 1), (Sc.n .i64 2), (Sc.n .i64 3), (Sc.n .i64 4), (Sc.n .i64 5), (Sc.n .i64 (-1))]), (18, .p (.sl t0)), (19, .p (.sc (Sc.n .i64 (t0.length : Int))))] fr)
def f_s_DrawHasCube_sg2_313 (v0 : List Sc) (v1 : List Sc) (t0 : List Sc) (t6 : Int) (fr : List AV) : Option (List AV) :=
  some (setAll [(0, .own 3 v1), (1, .p (.al 0)), (15, .p (.go 0)), (18, .p (.sl t0)), (19, .p (.sc (Sc.n .i64 (t0.length : Int)))), (20, .p (.sc (Sc.n .i64 ((t0.length : Int).tmod 7))))] fr)
def f_s_DrawHasCube_sg2_62 (v0 : List Sc) (v1 : List Sc) (t0 : List Sc) (t6 : Int) (fr : List AV) : Option (List AV) :=
  some (setAll [(16, .p (.sc (Sc.n .i64 t6))), (17, .own 3 [(Sc.n .i64 0), (Sc.n .i64 1), (Sc.n .i64 2), (Sc.n .i64 3), (Sc.n .i64 4), (Sc.n .i64 5), (Sc.n .i64 (-1))]), (18, .p (.sl t0)), (19, .p (.sc (Sc.n .i64 (t0.length : Int)))), (20, .p (.sc (Sc.n .i64 ((t0.length : Int).tmod 7))))] fr)
def f_s_DrawHasCube_sg2_124 (v0 : List Sc) (v1 : List Sc) (t0 : List Sc) (t6 : Int) (fr : List AV) : Option (List AV) :=
  br (inRange ((t0.length : Int).tmod 7) ([(Sc.n .i64 0), (Sc.n .i64 1), (Sc.n .i64 2), (Sc.n .i64 3), (Sc.n .i64 4), (Sc.n .i64 5), (Sc.n .i64 (-1))]).length)
    (some (setAll [(17, .own 3 [(Sc.n .i64 0), (Sc.n .i64 1), (Sc.n .i64 2), (Sc.n .i64 3), (Sc.n .i64 4), (Sc.n .i64 5), (Sc.n .i64 (-1))]), (18, .p (.sl t0)), (19, .p (.sc (Sc.n .i64 (t0.length : Int)))), (20, .p (.sc (Sc.n .i64 ((t0.length : Int).tmod 7)))), (21, .ep 17 (((t0.length : Int).tmod 7).toNat))] fr))
    none
def f_s_DrawHasCube_sg2_63 (v0 : List Sc) (v1 : List Sc) (t0 : List Sc) (t6 : Int) (fr : List AV) : Option (List AV) :=
  some (setAll [(15, .p (.go 1)), (16, .p (.sc (Sc.n .i64 t6))), (17, .own 3 [(Sc.n .i64 0), (Sc.n .i64 1), (Sc.n .i64 2), (Sc.n .i64 3), (Sc.n .i64 4), (Sc.n .i64 5), (Sc.n .i64 (-1))]), (18, .p (.sl t0)), (19, .p (.sc (Sc.n .i64 (t0.length : Int)))), (20, .p (.sc (Sc.n .i64 ((t0.length : Int).tmod 7))))] fr)
def f_s_DrawHasCube_sg2_287 (v0 : List Sc) (v1 : List Sc) (t0 : List Sc) (t6 : Int) (fr : List AV) : Option (List AV) :=
  some (setAll [(0, .own 3 v1), (1, .p (.al 0)), (15, .p (.go 0)), (16, .p (.sc (Sc.n .i64 t6))), (17, .own 3 [(Sc.n .i64 0), (Sc.n .i64 1), (Sc.n .i64 2), (Sc.n .i64 3), (Sc.n .i64 4), (Sc.n .i64 5), (Sc.n .i64 (-1))]), (18, .p (.sl t0)), (19, .p (.sc (Sc.n .i64 (t0.length : Int))))] fr)
def f_s_DrawHasCube_sg2_783 (v0 : List Sc) (v1 : List Sc) (t0 : List Sc) (t6 : Int) (fr : List AV) : Option (List AV) :=
  some (setAll [(0, .own 3 v1), (1, .p (.al 0)), (6, .p (.sc (Sc.n .i64 t6))), (15, .p (.go 0)), (16, .p (.sc (Sc.n .i64 t6))), (17, .own 3 [(Sc.n .i64 0), (Sc.n .i64 1), (Sc.n .i64 2), (Sc.n .i64 3), (Sc.n .i64 4), (Sc.n .i64 5), (Sc.n .i64 (-1))]), (18, .p (.sl t0))] fr)
def f_s_DrawHasCube_sg2_315 (v0 : List Sc) (v1 : List Sc) (t0 : List Sc) (t6 : Int) (fr : List AV) : Option (List AV) :=
  some (setAll [(0, .own 3 v1), (1, .p (.al 0)), (15, .p (.go 0)), (16, .p (.sc (Sc.n .i64 t6))), (18, .p (.sl t0)), (19, .p (.sc (Sc.n .i64 (t0.length : Int)))), (20, .p (.sc (Sc.n .i64 ((t0.length : Int).tmod 7))))] fr)
def f_s_DrawHasCube_sg2_795 (v0 : List Sc) (v1 : List Sc) (t0 : List Sc) (t6 : Int) (fr : List AV) : Option (List AV) :=
  some (setAll [(0, .own 3 v1), (1, .p (.al 0)), (6, .p (.sc (Sc.n .i64 t6))), (15, .p (.go 0)), (16, .p (.sc (Sc.n .i64 t6))), (18, .p (.sl t0)), (19, .p (.sc (Sc.n .i64 (t0.length : Int))))] fr)
def f_s_DrawHasCube_sg2_125 (v0 : List Sc) (v1 : List Sc) (t0 : List Sc) (t6 : Int) (fr : List AV) : Option (List AV) :=
  br (inRange ((t0.length : Int).tmod 7) ([(Sc.n .i64 0), (Sc.n .i64 1), (Sc.n .i64 2), (Sc.n .i64 3), (Sc.n .i64 4), (Sc.n .i64 5), (Sc.n .i64 (-1))]).length)
    (some (setAll [(15, .p (.go 1)), (17, .own 3 [(Sc.n .i64 0), (Sc.n .i64 1), (Sc.n .i64 2), (Sc.n .i64 3), (Sc.n .i64 4), (Sc.n .i64 5), (Sc.n .i64 (-1))]), (18, .p (.sl t0)), (19, .p (.sc (Sc.n .i64 (t0.length : Int)))), (20, .p (.sc (Sc.n .i64 ((t0.length : Int).tmod 7)))), (21, .ep 17 (((t0.length : Int).tmod 7).toNat))] fr))
    none
def f_s_DrawHasCube_sg2_317 (v0 : List Sc) (v1 : List Sc) (t0 : List Sc) (t6 : Int) (fr : List AV) : Option (List AV) :=
  some (setAll [(0, .own 3 v1), (1, .p (.al 0)), (15, .p (.go 0)), (17, .own 3 [(Sc.n .i64 0), (Sc.n .i64 1), (Sc.n .i64 2), (Sc.n .i64 3), (Sc.n .i64 4), (Sc.n .i64 5), (Sc.n .i64 (-1))]), (18, .p (.sl t0)), (19, .p (.sc (Sc.n .i64 (t0.length : Int)))), (20, .p (.sc (Sc.n .i64 ((t0.length : Int).tmod 7))))] fr)
def f_s_DrawHasCube_sg2_126 (v0 : List Sc) (v1 : List Sc) (t0 : List Sc) (t6 : Int) (fr : List AV) : Option (List AV) :=
  br (inRange ((t0.length : Int).tmod 7) ([(Sc.n .i64 0), (Sc.n .i64 1), (Sc.n .i64 2), (Sc.n .i64 3), (Sc.n .i64 4), (Sc.n .i64 5), (Sc.n .i64 (-1))]).length)
    (some (setAll [(16, .p (.sc (Sc.n .i64 t6))), (17, .own 3 [(Sc.n .i64 0), (Sc.n .i64 1), (Sc.n .i64 2), (Sc.n .i64 3), (Sc.n .i64 4), (Sc.n .i64 5), (Sc.n .i64 (-1))]), (18, .p (.sl t0)), (19, .p (.sc (Sc.n .i64 (t0.length : Int)))), (20, .p (.sc (Sc.n .i64 ((t0.length : Int).tmod 7)))), (21, .ep 17 (((t0.length : Int).tmod 7).toNat))] fr))
    none
def f_s_DrawHasCube_sg2_252 (v0 : List Sc) (v1 : List Sc) (t0 : List Sc) (t6 : Int) (fr : List AV) : Option (List AV) :=
  br (inRange ((t0.length : Int).tmod 7) ([(Sc.n .i64 0), (Sc.n .i64 1), (Sc.n .i64 2), (Sc.n .i64 3), (Sc.n .i64 4), (Sc.n .i64 5), (Sc.n .i64 (-1))]).length)
    (br (kAt [(Sc.n .i64 0), (Sc.n .i64 1), (Sc.n .i64 2), (Sc.n .i64 3), (Sc.n .i64 4), (Sc.n .i64 5), (Sc.n .i64 (-1))] ((t0.length : Int).tmod 7).toNat)
      (some (setAll [(17, .own 3 [(Sc.n .i64 0), (Sc.n .i64 1), (Sc.n .i64 2), (Sc.n .i64 3), (Sc.n .i64 4), (Sc.n .i64 5), (Sc.n .i64 (-1))]), (18, .p (.sl t0)), (19, .p (.sc (Sc.n .i64 (t0.length : Int)))), (20, .p (.sc (Sc.n .i64 ((t0.length : Int).tmod 7)))), (21, .ep 17 (((t0.length : Int).tmod 7).toNat)), (22, .p (.sc (Sc.n .i64 (atN [(Sc.n .i64 0), (Sc.n .i64 1), (Sc.n .i64 2), (Sc.n .i64 3), (Sc.n .i64 4), (Sc.n .i64 5), (Sc.n .i64 (-1))] ((t0.length : Int).tmod 7).toNat))))] fr))
      none)
    none
def f_s_DrawHasCube_sg2_127 (v0 : List Sc) (v1 : List Sc) (t0 : List Sc) (t6 : Int) (fr : List AV) : Option (List AV) :=
  br (inRange ((t0.length : Int).tmod 7) ([(Sc.n .i64 0), (Sc.n .i64 1), (Sc.n .i64 2), (Sc.n .i64 3), (Sc.n .i64 4), (Sc.n .i64 5), (Sc.n .i64 (-1))]).length)
    (some (setAll [(15, .p (.go 1)), (16, .p (.sc (Sc.n .i64 t6))), (17, .own 3 [(Sc.n .i64 0), (Sc.n .i64 1), (Sc.n .i64 2), (Sc.n .i64 3), (Sc.n .i64 4), (Sc.n .i64 5), (Sc.n .i64 (-1))]), (18, .p (.sl t0)), (19, .p (.sc (Sc.n .i64 (t0.length : Int)))), (20, .p (.sc (Sc.n .i64 ((t0.length : Int).tmod 7)))), (21, .ep 17 (((t0.length : Int).tmod 7).toNat))] fr))
    none
def f_s_DrawHasCube_sg2_319 (v0 : List Sc) (v1 : List Sc) (t0 : List Sc) (t6 : Int) (fr : List AV) : Option (List AV) :=
  some (setAll [(0, .own 3 v1), (1, .p (.al 0)), (15, .p (.go 0)), (16, .p (.sc (Sc.n .i64 t6))), (17, .own 3 [(Sc.n .i64 0), (Sc.n .i64 1), (Sc.n .i64 2), (Sc.n .i64 3), (Sc.n .i64 4), (Sc.n .i64 5), (Sc.n .i64 (-1))]), (18, .p (.sl t0)), (19, .p (.sc (Sc.n .i64 (t0.length : Int)))), (20, .p (.sc (Sc.n .i64 ((t0.length : Int).tmod 7))))] fr)
def f_s_DrawHasCube_sg2_799 (v0 : List Sc) (v1 : List Sc) (t0 : List Sc) (t6 : Int) (fr : List AV) : Option (List AV) :=
  some (setAll [(0, .own 3 v1), (1, .p (.al 0)), (6, .p (.sc (Sc.n .i64 t6))), (15, .p (.go 0)), (16, .p (.sc (Sc.n .i64 t6))), (17, .own 3 [(Sc.n .i64 0), (Sc.n .i64 1), (Sc.n .i64 2), (Sc.n .i64 3), (Sc.n .i64 4), (Sc.n .i64 5), (Sc.n .i64 (-1))]), (18, .p (.sl t0)), (19, .p (.sc (Sc.n .i64 (t0.length : Int))))] fr)
def f_s_DrawHasCube_sg2_827 (v0 : List Sc) (v1 : List Sc) (t0 : List Sc) (t6 : Int) (fr : List AV) : Option (List AV) :=
  some (setAll [(0, .own 3 v1), (1, .p (.al 0)), (6, .p (.sc (Sc.n .i64 t6))), (15, .p (.go 0)), (16, .p (.sc (Sc.n .i64 t6))), (18, .p (.sl t0)), (19, .p (.sc (Sc.n .i64 (t0.length : Int)))), (20, .p (.sc (Sc.n .i64 ((t0.length : Int).tmod 7))))] fr)
def f_s_DrawHasCube_sg2_253 (v0 : List Sc) (v1 : List Sc) (t0 : List Sc) (t6 : Int) (fr : List AV) : Option (List AV) :=
  br (inRange ((t0.length : Int).tmod 7) ([(Sc.n .i64 0), (Sc.n .i64 1), (Sc.n .i64 2), (Sc.n .i64 3), (Sc.n .i64 4), (Sc.n .i64 5), (Sc.n .i64 (-1))]).length)
    (br (kAt [(Sc.n .i64 0), (Sc.n .i64 1), (Sc.n .i64 2), (Sc.n .i64 3), (Sc.n .i64 4), (Sc.n .i64 5), (Sc.n .i64 (-1))] ((t0.length : Int).tmod 7).toNat)
      (some (setAll [(15, .p (.go 1)), (17, .own 3 [(Sc.n .i64 0), (Sc.n .i64 1), (Sc.n .i64 2), (Sc.n .i64 3), (Sc.n .i64 4), (Sc.n .i64 5), (Sc.n .i64 (-1))]), (18, .p (.sl t0)), (19, .p (.sc (Sc.n .i64 (t0.length : Int)))), (20, .p (.sc (Sc.n .i64 ((t0.length : Int).tmod 7)))), (21, .ep 17 (((t0.length : Int).tmod 7).toNat)), (22, .p (.sc (Sc.n .i64 (atN [(Sc.n .i64 0), (Sc.n .i64 1), (Sc.n .i64 2), (Sc.n .i64 3), (Sc.n .i64 4), (Sc.n .i64 5), (Sc.n .i64 (-1))] ((t0.length : Int).tmod 7).toNat))))] fr))
      none)
    none
def f_s_DrawHasCube_sg2_381 (v0 : List Sc) (v1 : List Sc) (t0 : List Sc) (t6 : Int) (fr : List AV) : Option (List AV) :=
  br (inRange ((t0.length : Int).tmod 7) ([(Sc.n .i64 0), (Sc.n .i64 1), (Sc.n .i64 2), (Sc.n .i64 3), (Sc.n .i64 4), (Sc.n .i64 5), (Sc.n .i64 (-1))]).length)
    (some (setAll [(0, .own 3 v1), (1, .p (.al 0)), (15, .p (.go 0)), (17, .own 3 [(Sc.n .i64 0), (Sc.n .i64 1), (Sc.n .i64 2), (Sc.n .i64 3), (Sc.n .i64 4), (Sc.n .i64 5), (Sc.n .i64 (-1))]), (18, .p (.sl t0)), (19, .p (.sc (Sc.n .i64 (t0.length : Int)))), (20, .p (.sc (Sc.n .i64 ((t0.length : Int).tmod 7)))), (21, .ep 17 (((t0.length : Int).tmod 7).toNat))] fr))
    none
def f_s_DrawHasCube_sg2_254 (v0 : List Sc) (v1 : List Sc) (t0 : List Sc) (t6 : Int) (fr : List AV) : Option (List AV) :=
  br (inRange ((t0.length : Int).tmod 7) ([(Sc.n .i64 0), (Sc.n .i64 1), (Sc.n .i64 2), (Sc.n .i64 3), (Sc.n .i64 4), (Sc.n .i64 5), (Sc.n .i64 (-1))]).length)
    (br (kAt [(Sc.n .i64 0), (Sc.n .i64 1), (Sc.n .i64 2), (Sc.n .i64 3), (Sc.n .i64 4), (Sc.n .i64 5), (Sc.n .i64 (-1))] ((t0.length : Int).tmod 7).toNat)
      (some (setAll [(16, .p (.sc (Sc.n .i64 t6))), (17, .own 3 [(Sc.n .i64 0), (Sc.n .i64 1), (Sc.n .i64 2), (Sc.n .i64 3), (Sc.n .i64 4), (Sc.n .i64 5), (Sc.n .i64 (-1))]), (18, .p (.sl t0)), (19, .p (.sc (Sc.n .i64 (t0.length : Int)))), (20, .p (.sc (Sc.n .i64 ((t0.length : Int).tmod 7)))), (21, .ep 17 (((t0.length : Int).tmod 7).toNat)), (22, .p (.sc (Sc.n .i64 (atN [(Sc.n .i64 0), (Sc.n .i64 1), (Sc.n .i64 2), (Sc.n .i64 3), (Sc.n .i64 4), (Sc.n .i64 5), (Sc.n .i64 (-1))] ((t0.length : Int).tmod 7).toNat))))] fr))
      none)
    none
def f_s_DrawHasCube_sg2_255 (v0 : List Sc) (v1 : List Sc) (t0 : List Sc) (t6 : Int) (fr : List AV) : Option (List AV) :=
  br (inRange ((t0.length : Int).tmod 7) ([(Sc.n .i64 0), (Sc.n .i64 1), (Sc.n .i64 2), (Sc.n .i64 3), (Sc.n .i64 4), (Sc.n .i64 5), (Sc.n .i64 (-1))]).length)
    (br (kAt [(Sc.n .i64 0), (Sc.n .i64 1), (Sc.n .i64 2), (Sc.n .i64 3), (Sc.n .i64 4), (Sc.n .i64 5), (Sc.n .i64 (-1))] ((t0.length : Int).tmod 7).toNat)
      (some (setAll [(15, .p (.go 1)), (16, .p (.sc (Sc.n .i64 t6))), (17, .own 3 [(Sc.n .i64 0), (Sc.n .i64 1), (Sc.n .i64 2), (Sc.n .i64 3), (Sc.n .i64 4), (Sc.n .i64 5), (Sc.n .i64 (-1))]), (18, .p (.sl t0)), (19, .p (.sc (Sc.n .i64 (t0.length : Int)))), (20, .p (.sc (Sc.n .i64 ((t0.length : Int).tmod 7)))), (21, .ep 17 (((t0.length : Int).tmod 7).toNat)), (22, .p (.sc (Sc.n .i64 (atN [(Sc.n .i64 0), (Sc.n .i64 1), (Sc.n .i64 2), (Sc.n .i64 3), (Sc.n .i64 4), (Sc.n .i64 5), (Sc.n .i64 (-1))] ((t0.length : Int).tmod 7).toNat))))] fr))
      none)
    none
def f_s_DrawHasCube_sg2_383 (v0 : List Sc) (v1 : List Sc) (t0 : List Sc) (t6 : Int) (fr : List AV) : Option (List AV) :=
  br (inRange ((t0.length : Int).tmod 7) ([(Sc.n .i64 0), (Sc.n .i64 1), (Sc.n .i64 2), (Sc.n .i64 3), (Sc.n .i64 4), (Sc.n .i64 5), (Sc.n .i64 (-1))]).length)
    (some (setAll [(0, .own 3 v1), (1, .p (.al 0)), (15, .p (.go 0)), (16, .p (.sc (Sc.n .i64 t6))), (17, .own 3 [(Sc.n .i64 0), (Sc.n .i64 1), (Sc.n .i64 2), (Sc.n .i64 3), (Sc.n .i64 4), (Sc.n .i64 5), (Sc.n .i64 (-1))]), (18, .p (.sl t0)), (19, .p (.sc (Sc.n .i64 (t0.length : Int)))), (20, .p (.sc (Sc.n .i64 ((t0.length : Int).tmod 7)))), (21, .ep 17 (((t0.length : Int).tmod 7).toNat))] fr))
    none
def f_s_DrawHasCube_sg2_831 (v0 : List Sc) (v1 : List Sc) (t0 : List Sc) (t6 : Int) (fr : List AV) : Option (List AV) :=
  some (setAll [(0, .own 3 v1), (1, .p (.al 0)), (6, .p (.sc (Sc.n .i64 t6))), (15, .p (.go 0)), (16, .p (.sc (Sc.n .i64 t6))), (17, .own 3 [(Sc.n .i64 0), (Sc.n .i64 1), (Sc.n .i64 2), (Sc.n .i64 3), (Sc.n .i64 4), (Sc.n .i64 5), (Sc.n .i64 (-1))]), (18, .p (.sl t0)), (19, .p (.sc (Sc.n .i64 (t0.length : Int)))), (20, .p (.sc (Sc.n .i64 ((t0.length : Int).tmod 7))))] fr)
def f_s_DrawHasCube_sg2_509 (v0 : List Sc) (v1 : List Sc) (t0 : List Sc) (t6 : Int) (fr : List AV) : Option (List AV) :=
  br (inRange ((t0.length : Int).tmod 7) ([(Sc.n .i64 0), (Sc.n .i64 1), (Sc.n .i64 2), (Sc.n .i64 3), (Sc.n .i64 4), (Sc.n .i64 5), (Sc.n .i64 (-1))]).length)
    (br (kAt [(Sc.n .i64 0), (Sc.n .i64 1), (Sc.n .i64 2), (Sc.n .i64 3), (Sc.n .i64 4), (Sc.n .i64 5), (Sc.n .i64 (-1))] ((t0.length : Int).tmod 7).toNat)
      (some (setAll [(0, .own 3 v1), (1, .p (.al 0)), (15, .p (.go 0)), (17, .own 3 [(Sc.n .i64 0), (Sc.n .i64 1), (Sc.n .i64 2), (Sc.n .i64 3), (Sc.n .i64 4), (Sc.n .i64 5), (Sc.n .i64 (-1))]), (18, .p (.sl t0)), (19, .p (.sc (Sc.n .i64 (t0.length : Int)))), (20, .p (.sc (Sc.n .i64 ((t0.length : Int).tmod 7)))), (21, .ep 17 (((t0.length : Int).tmod 7).toNat)), (22, .p (.sc (Sc.n .i64 (atN [(Sc.n .i64 0), (Sc.n .i64 1), (Sc.n .i64 2), (Sc.n .i64 3), (Sc.n .i64 4), (Sc.n .i64 5), (Sc.n .i64 (-1))] ((t0.length : Int).tmod 7).toNat))))] fr))
      none)
    none
def f_s_DrawHasCube_sg2_511 (v0 : List Sc) (v1 : List Sc) (t0 : List Sc) (t6 : Int) (fr : List AV) : Option (List AV) :=
  br (inRange ((t0.length : Int).tmod 7) ([(Sc.n .i64 0), (Sc.n .i64 1), (Sc.n .i64 2), (Sc.n .i64 3), (Sc.n .i64 4), (Sc.n .i64 5), (Sc.n .i64 (-1))]).length)
    (br (kAt [(Sc.n .i64 0), (Sc.n .i64 1), (Sc.n .i64 2), (Sc.n .i64 3), (Sc.n .i64 4), (Sc.n .i64 5), (Sc.n .i64 (-1))] ((t0.length : Int).tmod 7).toNat)
      (some (setAll [(0, .own 3 v1), (1, .p (.al 0)), (15, .p (.go 0)), (16, .p (.sc (Sc.n .i64 t6))), (17, .own 3 [(Sc.n .i64 0), (Sc.n .i64 1), (Sc.n .i64 2), (Sc.n .i64 3), (Sc.n .i64 4), (Sc.n .i64 5), (Sc.n .i64 (-1))]), (18, .p (.sl t0)), (19, .p (.sc (Sc.n .i64 (t0.length : Int)))), (20, .p (.sc (Sc.n .i64 ((t0.length : Int).tmod 7)))), (21, .ep 17 (((t0.length : Int).tmod 7).toNat)), (22, .p (.sc (Sc.n .i64 (atN [(Sc.n .i64 0), (Sc.n .i64 1), (Sc.n .i64 2), (Sc.n .i64 3), (Sc.n .i64 4), (Sc.n .i64 5), (Sc.n .i64 (-1))] ((t0.length : Int).tmod 7).toNat))))] fr))
      none)
    none
def f_s_DrawHasCube_sg2_895 (v0 : List Sc) (v1 : List Sc) (t0 : List Sc) (t6 : Int) (fr : List AV) : Option (List AV) :=
  br (inRange ((t0.length : Int).tmod 7) ([(Sc.n .i64 0), (Sc.n .i64 1), (Sc.n .i64 2), (Sc.n .i64 3), (Sc.n .i64 4), (Sc.n .i64 5), (Sc.n .i64 (-1))]).length)
    (some (setAll [(0, .own 3 v1), (1, .p (.al 0)), (6, .p (.sc (Sc.n .i64 t6))), (15, .p (.go 0)), (16, .p (.sc (Sc.n .i64 t6))), (17, .own 3 [(Sc.n .i64 0), (Sc.n .i64 1), (Sc.n .i64 2), (Sc.n .i64 3), (Sc.n .i64 4), (Sc.n .i64 5), (Sc.n .i64 (-1))]), (18, .p (.sl t0)), (19, .p (.sc (Sc.n .i64 (t0.length : Int)))), (20, .p (.sc (Sc.n .i64 ((t0.length : Int).tmod 7)))), (21, .ep 17 (((t0.length : Int).tmod 7).toNat))] fr))
    none
def f_s_DrawHasCube_sg2_1023 (v0 : List Sc) (v1 : List Sc) (t0 : List Sc) (t6 : Int) (fr : List AV) : Option (List AV) :=
  br (inRange ((t0.length : Int).tmod 7) ([(Sc.n .i64 0), (Sc.n .i64 1), (Sc.n .i64 2), (Sc.n .i64 3), (Sc.n .i64 4), (Sc.n .i64 5), (Sc.n .i64 (-1))]).length)
    (br (kAt [(Sc.n .i64 0), (Sc.n .i64 1), (Sc.n .i64 2), (Sc.n .i64 3), (Sc.n .i64 4), (Sc.n .i64 5), (Sc.n .i64 (-1))] ((t0.length : Int).tmod 7).toNat)
      (some (setAll [(0, .own 3 v1), (1, .p (.al 0)), (6, .p (.sc (Sc.n .i64 t6))), (15, .p (.go 0)), (16, .p (.sc (Sc.n .i64 t6))), (17, .own 3 [(Sc.n .i64 0), (Sc.n .i64 1), (Sc.n .i64 2), (Sc.n .i64 3), (Sc.n .i64 4), (Sc.n .i64 5), (Sc.n .i64 (-1))]), (18, .p (.sl t0)), (19, .p (.sc (Sc.n .i64 (t0.length : Int)))), (20, .p (.sc (Sc.n .i64 ((t0.length : Int).tmod 7)))), (21, .ep 17 (((t0.length : Int).tmod 7).toNat)), (22, .p (.sc (Sc.n .i64 (atN [(Sc.n .i64 0), (Sc.n .i64 1), (Sc.n .i64 2), (Sc.n .i64 3), (Sc.n .i64 4), (Sc.n .i64 5), (Sc.n .i64 (-1))] ((t0.length : Int).tmod 7).toNat))))] fr))
      none)
    none
def f_s_DrawHasCube_sg2_2047 (v0 : List Sc) (v1 : List Sc) (t0 : List Sc) (t6 : Int) (fr : List AV) : Option (List AV) :=
  br (inRange ((t0.length : Int).tmod 7) ([(Sc.n .i64 0), (Sc.n .i64 1), (Sc.n .i64 2), (Sc.n .i64 3), (Sc.n .i64 4), (Sc.n .i64 5), (Sc.n .i64 (-1))]).length)
    (br (kAt [(Sc.n .i64 0), (Sc.n .i64 1), (Sc.n .i64 2), (Sc.n .i64 3), (Sc.n .i64 4), (Sc.n .i64 5), (Sc.n .i64 (-1))] ((t0.length : Int).tmod 7).toNat)
      (some (setAll [(0, .own 3 v1), (1, .p (.al 0)), (6, .p (.sc (Sc.n .i64 t6))), (7, .p (.sc (Sc.n .i64 (atN [(Sc.n .i64 0), (Sc.n .i64 1), (Sc.n .i64 2), (Sc.n .i64 3), (Sc.n .i64 4), (Sc.n .i64 5), (Sc.n .i64 (-1))] ((t0.length : Int).tmod 7).toNat)))), (15, .p (.go 0)), (16, .p (.sc (Sc.n .i64 t6))), (17, .own 3 [(Sc.n .i64 0), (Sc.n .i64 1), (Sc.n .i64 2), (Sc.n .i64 3), (Sc.n .i64 4), (Sc.n .i64 5), (Sc.n .i64 (-1))]), (18, .p (.sl t0)), (19, .p (.sc (Sc.n .i64 (t0.length : Int)))), (20, .p (.sc (Sc.n .i64 ((t0.length : Int).tmod 7)))), (21, .ep 17 (((t0.length : Int).tmod 7).toNat)), (22, .p (.sc (Sc.n .i64 (atN [(Sc.n .i64 0), (Sc.n .i64 1), (Sc.n .i64 2), (Sc.n .i64 3), (Sc.n .i64 4), (Sc.n .i64 5), (Sc.n .i64 (-1))] ((t0.length : Int).tmod 7).toNat))))] fr))
      none)
    none
def f_s_DrawHasCube_Eg2 (v0 : List Sc) (v1 : List Sc) (t0 : List Sc) (t6 : Int) (fr : List AV) : List (Option (List AV)) := [f_s_DrawHasCube_sg2_1 v0 v1 t0 t6 fr, f_s_DrawHasCube_sg2_2 v0 v1 t0 t6 fr, f_s_DrawHasCube_sg2_4 v0 v1 t0 t6 fr, f_s_DrawHasCube_sg2_8 v0 v1 t0 t6 fr, f_s_DrawHasCube_sg2_3 v0 v1 t0 t6 fr, f_s_DrawHasCube_sg2_5 v0 v1 t0 t6 fr, f_s_DrawHasCube_sg2_9 v0 v1 t0 t6 fr, f_s_DrawHasCube_sg2_257 v0 v1 t0 t6 fr, f_s_DrawHasCube_sg2_3 v0 v1 t0 t6 fr, f_s_DrawHasCube_sg2_6 v0 v1 t0 t6 fr, f_s_DrawHasCube_sg2_10 v0 v1 t0 t6 fr, f_s_DrawHasCube_sg2_5 v0 v1 t0 t6 fr, f_s_DrawHasCube_sg2_6 v0 v1 t0 t6 fr, f_s_DrawHasCube_sg2_12 v0 v1 t0 t6 fr, f_s_DrawHasCube_sg2_9 v0 v1 t0 t6 fr, f_s_DrawHasCube_sg2_10 v0 v1 t0 t6 fr, f_s_DrawHasCube_sg2_12 v0 v1 t0 t6 fr, f_s_DrawHasCube_sg2_24 v0 v1 t0 t6 fr, f_s_DrawHasCube_sg2_7 v0 v1 t0 t6 fr, f_s_DrawHasCube_sg2_11 v0 v1 t0 t6 fr, f_s_DrawHasCube_sg2_259 v0 v1 t0 t6 fr, f_s_DrawHasCube_sg2_7 v0 v1 t0 t6 fr, f_s_DrawHasCube_sg2_13 v0 v1 t0 t6 fr, f_s_DrawHasCube_sg2_261 v0 v1 t0 t6 fr, f_s_DrawHasCube_sg2_11 v0 v1 t0 t6 fr, f_s_DrawHasCube_sg2_13 v0 v1 t0 t6 fr, f_s_DrawHasCube_sg2_25 v0 v1 t0 t6 fr, f_s_DrawHasCube_sg2_265 v0 v1 t0 t6 fr, f_s_DrawHasCube_sg2_259 v0 v1 t0 t6 fr, f_s_DrawHasCube_sg2_261 v0 v1 t0 t6 fr, f_s_DrawHasCube_sg2_265 v0 v1 t0 t6 fr, f_s_DrawHasCube_sg2_7 v0 v1 t0 t6 fr, f_s_DrawHasCube_sg2_14 v0 v1 t0 t6 fr, f_s_DrawHasCube_sg2_11 v0 v1 t0 t6 fr, f_s_DrawHasCube_sg2_14 v0 v1 t0 t6 fr, f_s_DrawHasCube_sg2_26 v0 v1 t0 t6 fr, f_s_DrawHasCube_sg2_13 v0 v1 t0 t6 fr, f_s_DrawHasCube_sg2_14 v0 v1 t0 t6 fr, f_s_DrawHasCube_sg2_28 v0 v1 t0 t6 fr, f_s_DrawHasCube_sg2_25 v0 v1 t0 t6 fr, f_s_DrawHasCube_sg2_26 v0 v1 t0 t6 fr, f_s_DrawHasCube_sg2_28 v0 v1 t0 t6 fr, f_s_DrawHasCube_sg2_56 v0 v1 t0 t6 fr, f_s_DrawHasCube_sg2_15 v0 v1 t0 t6 fr, f_s_DrawHasCube_sg2_263 v0 v1 t0 t6 fr, f_s_DrawHasCube_sg2_15 v0 v1 t0 t6 fr, f_s_DrawHasCube_sg2_27 v0 v1 t0 t6 fr, f_s_DrawHasCube_sg2_267 v0 v1 t0 t6 fr, f_s_DrawHasCube_sg2_263 v0 v1 t0 t6 fr, f_s_DrawHasCube_sg2_267 v0 v1 t0 t6 fr, f_s_DrawHasCube_sg2_771 v0 v1 t0 t6 fr, f_s_DrawHasCube_sg2_15 v0 v1 t0 t6 fr, f_s_DrawHasCube_sg2_29 v0 v1 t0 t6 fr, f_s_DrawHasCube_sg2_269 v0 v1 t0 t6 fr, f_s_DrawHasCube_sg2_263 v0 v1 t0 t6 fr, f_s_DrawHasCube_sg2_269 v0 v1 t0 t6 fr, f_s_DrawHasCube_sg2_27 v0 v1 t0 t6 fr, f_s_DrawHasCube_sg2_29 v0 v1 t0 t6 fr, f_s_DrawHasCube_sg2_57 v0 v1 t0 t6 fr, f_s_DrawHasCube_sg2_281 v0 v1 t0 t6 fr, f_s_DrawHasCube_sg2_267 v0 v1 t0 t6 fr, f_s_DrawHasCube_sg2_269 v0 v1 t0 t6 fr, f_s_DrawHasCube_sg2_281 v0 v1 t0 t6 fr, f_s_DrawHasCube_sg2_15 v0 v1 t0 t6 fr, f_s_DrawHasCube_sg2_30 v0 v1 t0 t6 fr, f_s_DrawHasCube_sg2_27 v0 v1 t0 t6 fr, f_s_DrawHasCube_sg2_30 v0 v1 t0 t6 fr, f_s_DrawHasCube_sg2_58 v0 v1 t0 t6 fr, f_s_DrawHasCube_sg2_29 v0 v1 t0 t6 fr, f_s_DrawHasCube_sg2_30 v0 v1 t0 t6 fr, f_s_DrawHasCube_sg2_60 v0 v1 t0 t6 fr, f_s_DrawHasCube_sg2_57 v0 v1 t0 t6 fr, f_s_DrawHasCube_sg2_58 v0 v1 t0 t6 fr, f_s_DrawHasCube_sg2_60 v0 v1 t0 t6 fr, f_s_DrawHasCube_sg2_31 v0 v1 t0 t6 fr, f_s_DrawHasCube_sg2_271 v0 v1 t0 t6 fr, f_s_DrawHasCube_sg2_271 v0 v1 t0 t6 fr, f_s_DrawHasCube_sg2_775 v0 v1 t0 t6 fr, f_s_DrawHasCube_sg2_31 v0 v1 t0 t6 fr, f_s_DrawHasCube_sg2_59 v0 v1 t0 t6 fr, f_s_DrawHasCube_sg2_283 v0 v1 t0 t6 fr, f_s_DrawHasCube_sg2_271 v0 v1 t0 t6 fr, f_s_DrawHasCube_sg2_283 v0 v1 t0 t6 fr, f_s_DrawHasCube_sg2_779 v0 v1 t0 t6 fr, f_s_DrawHasCube_sg2_775 v0 v1 t0 t6 fr, f_s_DrawHasCube_sg2_779 v0 v1 t0 t6 fr, f_s_DrawHasCube_sg2_31 v0 v1 t0 t6 fr, f_s_DrawHasCube_sg2_61 v0 v1 t0 t6 fr, f_s_DrawHasCube_sg2_285 v0 v1 t0 t6 fr, f_s_DrawHasCube_sg2_271 v0 v1 t0 t6 fr, f_s_DrawHasCube_sg2_285 v0 v1 t0 t6 fr, f_s_DrawHasCube_sg2_59 v0 v1 t0 t6 fr, f_s_DrawHasCube_sg2_61 v0 v1 t0 t6 fr, f_s_DrawHasCube_sg2_313 v0 v1 t0 t6 fr, f_s_DrawHasCube_sg2_283 v0 v1 t0 t6 fr, f_s_DrawHasCube_sg2_285 v0 v1 t0 t6 fr, f_s_DrawHasCube_sg2_313 v0 v1 t0 t6 fr, f_s_DrawHasCube_sg2_31 v0 v1 t0 t6 fr, f_s_DrawHasCube_sg2_62 v0 v1 t0 t6 fr, f_s_DrawHasCube_sg2_59 v0 v1 t0 t6 fr, f_s_DrawHasCube_sg2_62 v0 v1 t0 t6 fr, f_s_DrawHasCube_sg2_61 v0 v1 t0 t6 fr, f_s_DrawHasCube_sg2_62 v0 v1 t0 t6 fr, f_s_DrawHasCube_sg2_124 v0 v1 t0 t6 fr, f_s_DrawHasCube_sg2_63 v0 v1 t0 t6 fr, f_s_DrawHasCube_sg2_287 v0 v1 t0 t6 fr, f_s_DrawHasCube_sg2_287 v0 v1 t0 t6 fr, f_s_DrawHasCube_sg2_783 v0 v1 t0 t6 fr, f_s_DrawHasCube_sg2_783 v0 v1 t0 t6 fr, f_s_DrawHasCube_sg2_63 v0 v1 t0 t6 fr, f_s_DrawHasCube_sg2_315 v0 v1 t0 t6 fr, f_s_DrawHasCube_sg2_287 v0 v1 t0 t6 fr, f_s_DrawHasCube_sg2_315 v0 v1 t0 t6 fr, f_s_DrawHasCube_sg2_795 v0 v1 t0 t6 fr, f_s_DrawHasCube_sg2_783 v0 v1 t0 t6 fr, f_s_DrawHasCube_sg2_795 v0 v1 t0 t6 fr, f_s_DrawHasCube_sg2_63 v0 v1 t0 t6 fr, f_s_DrawHasCube_sg2_125 v0 v1 t0 t6 fr, f_s_DrawHasCube_sg2_317 v0 v1 t0 t6 fr, f_s_DrawHasCube_sg2_287 v0 v1 t0 t6 fr, f_s_DrawHasCube_sg2_317 v0 v1 t0 t6 fr, f_s_DrawHasCube_sg2_315 v0 v1 t0 t6 fr, f_s_DrawHasCube_sg2_317 v0 v1 t0 t6 fr, f_s_DrawHasCube_sg2_63 v0 v1 t0 t6 fr, f_s_DrawHasCube_sg2_126 v0 v1 t0 t6 fr, f_s_DrawHasCube_sg2_125 v0 v1 t0 t6 fr, f_s_DrawHasCube_sg2_126 v0 v1 t0 t6 fr, f_s_DrawHasCube_sg2_252 v0 v1 t0 t6 fr, f_s_DrawHasCube_sg2_127 v0 v1 t0 t6 fr, f_s_DrawHasCube_sg2_319 v0 v1 t0 t6 fr, f_s_DrawHasCube_sg2_319 v0 v1 t0 t6 fr, f_s_DrawHasCube_sg2_799 v0 v1 t0 t6 fr, f_s_DrawHasCube_sg2_799 v0 v1 t0 t6 fr, f_s_DrawHasCube_sg2_319 v0 v1 t0 t6 fr, f_s_DrawHasCube_sg2_827 v0 v1 t0 t6 fr, f_s_DrawHasCube_sg2_799 v0 v1 t0 t6 fr, f_s_DrawHasCube_sg2_827 v0 v1 t0 t6 fr, f_s_DrawHasCube_sg2_127 v0 v1 t0 t6 fr, f_s_DrawHasCube_sg2_253 v0 v1 t0 t6 fr, f_s_DrawHasCube_sg2_381 v0 v1 t0 t6 fr, f_s_DrawHasCube_sg2_319 v0 v1 t0 t6 fr, f_s_DrawHasCube_sg2_381 v0 v1 t0 t6 fr, f_s_DrawHasCube_sg2_127 v0 v1 t0 t6 fr, f_s_DrawHasCube_sg2_254 v0 v1 t0 t6 fr, f_s_DrawHasCube_sg2_253 v0 v1 t0 t6 fr, f_s_DrawHasCube_sg2_254 v0 v1 t0 t6 fr, f_s_DrawHasCube_sg2_255 v0 v1 t0 t6 fr, f_s_DrawHasCube_sg2_383 v0 v1 t0 t6 fr, f_s_DrawHasCube_sg2_383 v0 v1 t0 t6 fr, f_s_DrawHasCube_sg2_831 v0 v1 t0 t6 fr, f_s_DrawHasCube_sg2_831 v0 v1 t0 t6 fr, f_s_DrawHasCube_sg2_831 v0 v1 t0 t6 fr, f_s_DrawHasCube_sg2_255 v0 v1 t0 t6 fr, f_s_DrawHasCube_sg2_509 v0 v1 t0 t6 fr, f_s_DrawHasCube_sg2_383 v0 v1 t0 t6 fr, f_s_DrawHasCube_sg2_509 v0 v1 t0 t6 fr, f_s_DrawHasCube_sg2_255 v0 v1 t0 t6 fr, f_s_DrawHasCube_sg2_511 v0 v1 t0 t6 fr, f_s_DrawHasCube_sg2_511 v0 v1 t0 t6 fr, f_s_DrawHasCube_sg2_895 v0 v1 t0 t6 fr, f_s_DrawHasCube_sg2_895 v0 v1 t0 t6 fr, f_s_DrawHasCube_sg2_511 v0 v1 t0 t6 fr, f_s_DrawHasCube_sg2_1023 v0 v1 t0 t6 fr, f_s_DrawHasCube_sg2_1023 v0 v1 t0 t6 fr, f_s_DrawHasCube_sg2_2047 v0 v1 t0 t6 fr]
theorem f_s_DrawHasCube_dLg2 (v0 : List Sc) (v1 : List Sc) (t0 : List Sc) (t6 : Int) : edgeL E0 f_s_DrawHasCube_M H0 f_s_DrawHasCube_F (opsAt (bodyOf Try.f39 100002)) f_s_DrawHasCube_Dg2 (f_s_DrawHasCube_frg2 v0 v1 t0 t6) = f_s_DrawHasCube_Eg2 v0 v1 t0 t6 (f_s_DrawHasCube_frg2 v0 v1 t0 t6) := by kernel_rfl
theorem f_s_DrawHasCube_dRg2 (v0 : List Sc) (v1 : List Sc) (t0 : List Sc) (t6 : Int) : edgeR E0 f_s_DrawHasCube_M H0 f_s_DrawHasCube_F (opsAt (bodyOf Try.f39 100002)) f_s_DrawHasCube_Dg2 (f_s_DrawHasCube_frg2 v0 v1 t0 t6) = f_s_DrawHasCube_Eg2 v0 v1 t0 t6 (f_s_DrawHasCube_frg2 v0 v1 t0 t6) := by kernel_rfl
theorem f_s_DrawHasCube_dg2 (v0 : List Sc) (v1 : List Sc) (t0 : List Sc) (t6 : Int) : edgeL E0 f_s_DrawHasCube_M H0 f_s_DrawHasCube_F (opsAt (bodyOf Try.f39 100002)) f_s_DrawHasCube_Dg2 (f_s_DrawHasCube_frg2 v0 v1 t0 t6) = edgeR E0 f_s_DrawHasCube_M H0 f_s_DrawHasCube_F (opsAt (bodyOf Try.f39 100002)) f_s_DrawHasCube_Dg2 (f_s_DrawHasCube_frg2 v0 v1 t0 t6) := (f_s_DrawHasCube_dLg2 v0 v1 t0 t6).trans (f_s_DrawHasCube_dRg2 v0 v1 t0 t6).symm
theorem f_s_DrawHasCube_eg2 (v0 : List Sc) (v1 : List Sc) (t0 : List Sc) (t6 : Int) : goL E0 f_s_DrawHasCube_M H0 f_s_DrawHasCube_F (opsAt (bodyOf Try.f39 100002)) (Array.replicate (opsAt (bodyOf Try.f39 100002)).size true) (opsAt (bodyOf Try.f39 100002)).toList 0 (f_s_DrawHasCube_frg2 v0 v1 t0 t6) (fun s => some (X.norm, clear (klOf f_s_DrawHasCube_F 100002).2.1 s)) = f_s_DrawHasCube_g2_k v0 v1 t0 t6 (fun e => some (f_s_DrawHasCube_xg2 v0 v1 t0 t6 e)) := by kernel_rfl
theorem f_s_DrawHasCube_lg2 (v0 : List Sc) (v1 : List Sc) (t0 : List Sc) (t6 : Int) (r : Int) (h : f_s_DrawHasCube_g2 v0 v1 t0 t6 = some r) : LS Try.prog f_s_DrawHasCube_F (bodyOf Try.f39 100002) (f_s_DrawHasCube_frg2 v0 v1 t0 t6) (f_s_DrawHasCube_xg2 v0 v1 t0 t6 r) :=
  region_true (S := Unit) (id := 2) (G := fun _ => f_s_DrawHasCube_g2 v0 v1 t0 t6) (Gk := fun _ k => f_s_DrawHasCube_g2_k v0 v1 t0 t6 k) (fr := fun _ => f_s_DrawHasCube_frg2 v0 v1 t0 t6) (f1 := fun e => f_s_DrawHasCube_xg2 v0 v1 t0 t6 e) E0ok f_s_DrawHasCube_Mt f_s_DrawHasCube_bg2 f_s_DrawHasCube_cg2 (fun _ => f_s_DrawHasCube_dg2 v0 v1 t0 t6) (fun _ => rfl) (fun _ => f_s_DrawHasCube_eg2 v0 v1 t0 t6) (fun _ k => f_s_DrawHasCube_pg2 v0 v1 t0 t6 k) () r h
def f_s_DrawHasCube_tg2 (σ : List AV) : Option (Bool × Bool × (X × List AV) × (X × List AV)) := match dec f_s_DrawHasCube_hg2 σ with
  | some [.l v0, .l v1, .l t0, .i t6] => some ((f_s_DrawHasCube_g2 v0 v1 t0 t6).isSome, true, f_s_DrawHasCube_xg2 v0 v1 t0 t6 ((f_s_DrawHasCube_g2 v0 v1 t0 t6).getD 0), (.ret, []))
  | _ => none
theorem f_s_DrawHasCube_ttg2 : TTrue Try.prog f_s_DrawHasCube_F Try.f39 100002 f_s_DrawHasCube_tg2 := by
  intro σ p r r' h
  unfold f_s_DrawHasCube_tg2 at h
  split at h
  · rename_i hd
    rw [← dec_enc hd]
    exact rowR (f_s_DrawHasCube_lg2 _ _ _ _) h
  · cases h
theorem f_s_DrawHasCube_p {R : Type} (code0 : List Sc) (kR : List Sc × Int × Int → Option R) : f_s_DrawHasCube_k code0 kR = (f_s_DrawHasCube_k code0 some).bind kR := by
  simp only [f_s_DrawHasCube_k, boB, someB]
theorem f_s_DrawHasCube_e (code0 : List Sc) : runFn E0 f_s_DrawHasCube_M H0 f_s_DrawHasCube_F (asL (addL 100002 f_s_DrawHasCube_tg2 (noL))) Try.f39 (f_s_DrawHasCube_a code0) (f_s_DrawHasCube_i code0) = f_s_DrawHasCube_k code0 (fun r => some (f_s_DrawHasCube_en r)) := by kernel_rfl
theorem f_s_DrawHasCube_ok (code0 : List Sc) (r : List Sc × Int × Int) (h : f_s_DrawHasCube code0 = some r) : CS Try.prog 39 (f_s_DrawHasCube_a code0) (f_s_DrawHasCube_i code0) (f_s_DrawHasCube_en r).1 (f_s_DrawHasCube_en r).2 :=
  fn_true (Gk := fun k => f_s_DrawHasCube_k code0 k) (en := f_s_DrawHasCube_en) Try.func39 E0ok f_s_DrawHasCube_Mt (addL_true f_s_DrawHasCube_ttg2 (noL_true)) f_s_DrawHasCube_o (f_s_DrawHasCube_e code0) (f_s_DrawHasCube_p code0) h
def f_s_DrawHasCube_c : CRow := fun args inh => match dec2 [.p .sl] [] args inh with
  | some ([.l code0], []) => some ((f_s_DrawHasCube code0).isSome, (f_s_DrawHasCube_en ((f_s_DrawHasCube code0).getD ([], 0, 0))).1, (f_s_DrawHasCube_en ((f_s_DrawHasCube code0).getD ([], 0, 0))).2)
  | _ => none
theorem f_s_DrawHasCube_cc : CTrue Try.prog 39 f_s_DrawHasCube_c := by
  intro args inh rs out h
  unfold f_s_DrawHasCube_c at h
  split at h
  · rename_i hd
    obtain ⟨h1, h2⟩ := dec2_enc hd
    rw [← h1, ← h2]
    exact rowC (f_s_DrawHasCube_ok _) h
  · cases h

def f_i_Group_negate_F : Fi := { nv := 0, nc := 0, m := 0, vt := [], kl := [(0, ([0, 2, 3, 4, 7, 8, 9, 13, 14, 15, 16, 17, 18, 19, 20, 21, 22, 23, 24, 25, 26, 27, 28, 29, 30, 31, 32, 33, 34], [0, 1, 2, 3, 4, 6, 7, 8, 9, 10, 11, 12, 13, 14, 15, 16, 17, 18, 19, 20, 21, 22, 23, 24, 25, 26, 27, 28, 29, 30, 31, 32, 33, 34], [0, 1, 2, 3, 5, 6, 7, 8, 9, 10, 11, 12, 13, 14, 15, 16, 17, 18, 19, 20, 21, 22, 23, 24, 25, 26, 27, 28, 29, 30, 31, 32, 33, 34]))], sk := [], mvs := [], fz := [] }
def f_i_Group_negate_a (g0 : List Sc) (x1 : Int) : List AV := enc [.p .gr, .p (.int .i64)] [.l g0, .i x1]
def f_i_Group_negate_i (g0 : List Sc) (x1 : Int) : List AV := enc [] []
def f_i_Group_negate_en (r : Int) : List AV × List AV := (enc [.p (.int .i64)] [.i r], enc [] [])
def f_i_Group_negate_M : Calling := noC
theorem f_i_Group_negate_Mt : CallOk Try.prog (f_i_Group_negate_M) := noC_true
theorem f_i_Group_negate_o : loopsOnce Try.f149 = true := by kernel_rfl
def f_i_Group_negate_h0 : List Sh := [.u, .p (.int .i64), .u, .u, .u, .p (.int .i64), .p (.int .i64), .u, .u, .u, .p .sl, .p (.int .i64), .p (.int .i64), .u, .u, .u, .u, .u, .u, .u, .u, .u, .u, .u, .u, .u, .u, .u, .u, .u, .u, .u, .u, .u, .u]
def f_i_Group_negate_fr0 (t10 : List Sc) (t11 : Int) (s : Int × Int × Int × Int) : List AV := enc f_i_Group_negate_h0 [.i s.1, .i s.2.1, .i s.2.2.1, .l t10, .i t11, .i s.2.2.2]
def f_i_Group_negate_g0_1 : List Sh := [.u, .u, .u, .u, .u, .p (.int .i64), .u, .u, .u, .u, .u, .u, .u, .u, .u, .u, .u, .u, .u, .u, .u, .u, .u, .u, .u, .u, .u, .u, .u, .u, .u, .u, .u, .u, .u]
def f_i_Group_negate_x0_1 (t10 : List Sc) (t11 : Int) (e : Int) : X × List AV := (.out 0, enc f_i_Group_negate_g0_1 [.i e])
def f_i_Group_negate_x0_2 (t10 : List Sc) (t11 : Int) (_e : Unit) : X × List AV := (.ret, [])
theorem f_i_Group_negate_p0 {R : Type} (t10 : List Sc) (t11 : Int) (s : Int × Int × Int × Int) (kN : Int × Int × Int × Int → Option R) (kA : Int → Option R) (kB : Unit → Option R) : f_i_Group_negate_k0 t10 t11 s.1 s.2.1 s.2.2.1 s.2.2.2 kN kA = (f_i_Group_negate_r0 t10 t11 s).bind (Ro.el kN kA kB) := by
  simp only [f_i_Group_negate_k0, f_i_Group_negate_r0, brB, someB, noneB, Ro.el]
theorem f_i_Group_negate_e0 (t10 : List Sc) (t11 : Int) (s : Int × Int × Int × Int) : EC E0 f_i_Group_negate_M H0 f_i_Group_negate_F (asL (noL)) 0 (bodyOf Try.f149 0) (f_i_Group_negate_fr0 t10 t11 s) (done (klOf f_i_Group_negate_F 0)) = f_i_Group_negate_k0 t10 t11 s.1 s.2.1 s.2.2.1 s.2.2.2 (fun s => some (.norm, f_i_Group_negate_fr0 t10 t11 s)) (fun e => some (f_i_Group_negate_x0_1 t10 t11 e)) := by kernel_rfl
theorem f_i_Group_negate_l0 (t10 : List Sc) (t11 : Int) : ∀ s r, loopL (f_i_Group_negate_r0 t10 t11) s = some r → LS Try.prog f_i_Group_negate_F (bodyOf Try.f149 0) (f_i_Group_negate_fr0 t10 t11 s) (enX (f_i_Group_negate_x0_1 t10 t11) (f_i_Group_negate_x0_2 t10 t11) r) :=
  loop_true E0ok f_i_Group_negate_Mt (noL_true) f_i_Group_negate_o (fun _ h => by cases h) (fun _ h => by cases h) (fun s => (f_i_Group_negate_e0 t10 t11 s).trans (f_i_Group_negate_p0 t10 t11 s _ _ (fun e => some (f_i_Group_negate_x0_2 t10 t11 e))))
def f_i_Group_negate_t0 (σ : List AV) : Option (Bool × Bool × (X × List AV) × (X × List AV)) := match dec f_i_Group_negate_h0 σ with
  | some [.i x1, .i sum5, .i unit6, .l t10, .i t11, .i t12] => some (isOne (loopL (f_i_Group_negate_r0 t10 t11) (x1, sum5, unit6, t12)), true, f_i_Group_negate_x0_1 t10 t11 (getOne 0 (loopL (f_i_Group_negate_r0 t10 t11) (x1, sum5, unit6, t12))), (.ret, []))
  | _ => none
theorem f_i_Group_negate_tt0 : TTrue Try.prog f_i_Group_negate_F Try.f149 0 (f_i_Group_negate_t0) := by
  intro σ p r r' h
  unfold f_i_Group_negate_t0 at h
  split at h
  · rename_i hd
    rw [← dec_enc hd]
    exact row1 (f_i_Group_negate_l0 _ _ _) h
  · cases h
theorem f_i_Group_negate_p {R : Type} (g0 : List Sc) (x1 : Int) (kR : Int → Option R) : f_i_Group_negate_k g0 x1 kR = (f_i_Group_negate_k g0 x1 some).bind kR := by
  simp only [f_i_Group_negate_k, bl1B, someB]
theorem f_i_Group_negate_e (g0 : List Sc) (x1 : Int) : runFn E0 f_i_Group_negate_M H0 f_i_Group_negate_F (asL (addL 0 (f_i_Group_negate_t0) (noL))) Try.f149 (f_i_Group_negate_a g0 x1) (f_i_Group_negate_i g0 x1) = f_i_Group_negate_k g0 x1 (fun r => some (f_i_Group_negate_en r)) := by kernel_rfl
theorem f_i_Group_negate_ok (g0 : List Sc) (x1 : Int) (r : Int) (h : f_i_Group_negate g0 x1 = some r) : CS Try.prog 149 (f_i_Group_negate_a g0 x1) (f_i_Group_negate_i g0 x1) (f_i_Group_negate_en r).1 (f_i_Group_negate_en r).2 :=
  fn_true (Gk := fun k => f_i_Group_negate_k g0 x1 k) (en := f_i_Group_negate_en) Try.func149 E0ok f_i_Group_negate_Mt (addL_true (f_i_Group_negate_tt0) (noL_true)) f_i_Group_negate_o (f_i_Group_negate_e g0 x1) (f_i_Group_negate_p g0 x1) h
def f_i_Group_negate_c : CRow := fun args inh => match dec2 [.p .gr, .p (.int .i64)] [] args inh with
  | some ([.l g0, .i x1], []) => some ((f_i_Group_negate g0 x1).isSome, (f_i_Group_negate_en ((f_i_Group_negate g0 x1).getD 0)).1, (f_i_Group_negate_en ((f_i_Group_negate g0 x1).getD 0)).2)
  | _ => none
theorem f_i_Group_negate_cc : CTrue Try.prog 149 f_i_Group_negate_c := by
  intro args inh rs out h
  unfold f_i_Group_negate_c at h
  split at h
  · rename_i hd
    obtain ⟨h1, h2⟩ := dec2_enc hd
    rw [← h1, ← h2]
    exact rowC (f_i_Group_negate_ok _ _) h
  · cases h

def f_i_HasCube_F : Fi := { nv := 0, nc := 0, m := 0, vt := [], kl := [(0, ([0, 4, 5, 6, 8, 9, 10, 11, 12, 13, 14, 15, 16, 17, 18, 19, 20, 21, 22, 23, 24, 25, 26, 27, 28, 29, 30, 31, 32, 33, 34, 35, 36, 37, 38, 39, 40, 41, 42], [0, 1, 2, 3, 4, 5, 6, 7, 8, 9, 10, 11, 12, 13, 14, 15, 16, 17, 18, 19, 20, 21, 22, 23, 24, 25, 26, 27, 28, 29, 30, 31, 32, 33, 34, 35, 36, 37, 38, 39, 40, 41, 42], [0, 1, 2, 3, 4, 5, 7, 8, 9, 10, 11, 12, 13, 14, 15, 16, 17, 18, 19, 20, 21, 22, 23, 24, 25, 26, 27, 28, 29, 30, 31, 32, 33, 34, 35, 36, 37, 38, 39, 40, 41, 42]))], sk := [], mvs := [], fz := [] }
def f_i_HasCube_a (g0 : List Sc) (a1 : Int) (d2 : Int) : List AV := enc [.p .gr, .p (.int .i64), .p (.int .i64)] [.l g0, .i a1, .i d2]
def f_i_HasCube_i (g0 : List Sc) (a1 : Int) (d2 : Int) : List AV := enc [] []
def f_i_HasCube_en (r : Bool) : List AV × List AV := (enc [.p .boo] [.b r], enc [] [])
def f_i_HasCube_cs (self : (List Sc × Int × Int) → Option (Bool)) : CRow := fun args inh => match dec2 [.p .gr, .p (.int .i64), .p (.int .i64)] [] args inh with
  | some ([.l g0, .i a1, .i d2], []) => some ((self (g0, a1, d2)).isSome, (f_i_HasCube_en ((self (g0, a1, d2)).getD false)).1, (f_i_HasCube_en ((self (g0, a1, d2)).getD false)).2)
  | _ => none
theorem f_i_HasCube_cst (self : (List Sc × Int × Int) → Option (Bool)) (hs : ∀ a r, self a = some r → CS Try.prog 40 (f_i_HasCube_a a.1 a.2.1 a.2.2) (f_i_HasCube_i a.1 a.2.1 a.2.2) (f_i_HasCube_en r).1 (f_i_HasCube_en r).2) : CTrue Try.prog 40 (f_i_HasCube_cs self) := by
  intro args inh rs out h
  unfold f_i_HasCube_cs at h
  split at h
  · rename_i hd
    obtain ⟨h1, h2⟩ := dec2_enc hd
    rw [← h1, ← h2]
    exact rowC (hs _) h
  · cases h
def f_i_HasCube_M (self : (List Sc × Int × Int) → Option (Bool)) : Calling := addC 40 (f_i_HasCube_cs self) (addC 121 f_i_IsSet_c (addC 144 f_i_within_c (addC 122 f_i_OrderOf_c (addC 149 f_i_Group_negate_c (addC 123 f_i_Group_shift_c (noC))))))
theorem f_i_HasCube_Mt (self : (List Sc × Int × Int) → Option (Bool)) (hs : ∀ a r, self a = some r → CS Try.prog 40 (f_i_HasCube_a a.1 a.2.1 a.2.2) (f_i_HasCube_i a.1 a.2.1 a.2.2) (f_i_HasCube_en r).1 (f_i_HasCube_en r).2) : CallOk Try.prog (f_i_HasCube_M self) := addC_true (f_i_HasCube_cst self hs) (addC_true f_i_IsSet_cc (addC_true f_i_within_cc (addC_true f_i_OrderOf_cc (addC_true f_i_Group_negate_cc (addC_true f_i_Group_shift_cc (noC_true))))))
theorem f_i_HasCube_o : loopsOnce Try.f40 = true := by kernel_rfl
def f_i_HasCube_h0 : List Sh := [.u, .p (.int .i64), .p (.int .i64), .p .el, .u, .u, .u, .p (.int .i64), .u, .u, .u, .u, .u, .u, .u, .u, .u, .u, .u, .u, .u, .u, .u, .u, .u, .u, .u, .u, .u, .u, .u, .u, .u, .u, .u, .u, .u, .u, .u, .u, .u, .u, .u]
def f_i_HasCube_fr0 (self : (List Sc × Int × Int) → Option (Bool)) (a1 : Int) (d2 : Int) (g3 : List Sc) (s : Int) : List AV := enc f_i_HasCube_h0 [.i a1, .i d2, .l g3, .i s]
def f_i_HasCube_g0_1 : List Sh := [.u, .u, .u, .u, .u, .u, .u, .u, .u, .u, .u, .u, .u, .u, .u, .u, .u, .u, .u, .u, .u, .u, .u, .u, .u, .u, .u, .u, .u, .u, .u, .u, .u, .u, .u, .u, .u, .u, .u, .u, .u, .u, .u]
def f_i_HasCube_x0_1 (self : (List Sc × Int × Int) → Option (Bool)) (a1 : Int) (d2 : Int) (g3 : List Sc) (e : Unit) : X × List AV := (.out 0, enc f_i_HasCube_g0_1 [])
def f_i_HasCube_g0_2 : List Sh := [.u, .u, .u, .u, .u, .u, .p .boo, .u, .u, .u, .u, .u, .u, .u, .u, .u, .u, .u, .u, .u, .u, .u, .u, .u, .u, .u, .u, .u, .u, .u, .u, .u, .u, .u, .u, .u, .u, .u, .u, .u, .u, .u, .u]
def f_i_HasCube_x0_2 (self : (List Sc × Int × Int) → Option (Bool)) (a1 : Int) (d2 : Int) (g3 : List Sc) (e : Unit) : X × List AV := (.ret, enc f_i_HasCube_g0_2 [.b true])
theorem f_i_HasCube_p0 {R : Type} (self : (List Sc × Int × Int) → Option (Bool)) (a1 : Int) (d2 : Int) (g3 : List Sc) (s : Int) (kN : Int → Option R) (kA : Unit → Option R) (kB : Unit → Option R) : f_i_HasCube_k0 self a1 d2 g3 s kN kA kB = (f_i_HasCube_r0 self a1 d2 g3 s).bind (Ro.el kN kA kB) := by
  simp only [f_i_HasCube_k0, f_i_HasCube_r0, brB, boB, someB, Ro.el]
theorem f_i_HasCube_e0 (self : (List Sc × Int × Int) → Option (Bool)) (a1 : Int) (d2 : Int) (g3 : List Sc) (s : Int) : EC E0 (f_i_HasCube_M self) H0 f_i_HasCube_F (asL (noL)) 0 (bodyOf Try.f40 0) (f_i_HasCube_fr0 self a1 d2 g3 s) (done (klOf f_i_HasCube_F 0)) = f_i_HasCube_k0 self a1 d2 g3 s (fun s => some (.norm, f_i_HasCube_fr0 self a1 d2 g3 s)) (fun e => some (f_i_HasCube_x0_1 self a1 d2 g3 e)) (fun e => some (f_i_HasCube_x0_2 self a1 d2 g3 e)) := by kernel_rfl
theorem f_i_HasCube_l0 (self : (List Sc × Int × Int) → Option (Bool)) (hs : ∀ a r, self a = some r → CS Try.prog 40 (f_i_HasCube_a a.1 a.2.1 a.2.2) (f_i_HasCube_i a.1 a.2.1 a.2.2) (f_i_HasCube_en r).1 (f_i_HasCube_en r).2) (a1 : Int) (d2 : Int) (g3 : List Sc) : ∀ s r, loopL (f_i_HasCube_r0 self a1 d2 g3) s = some r → LS Try.prog f_i_HasCube_F (bodyOf Try.f40 0) (f_i_HasCube_fr0 self a1 d2 g3 s) (enX (f_i_HasCube_x0_1 self a1 d2 g3) (f_i_HasCube_x0_2 self a1 d2 g3) r) :=
  loop_true E0ok (f_i_HasCube_Mt self hs) (noL_true) f_i_HasCube_o (fun _ h => by cases h) (fun _ h => by cases h) (fun s => (f_i_HasCube_e0 self a1 d2 g3 s).trans (f_i_HasCube_p0 self a1 d2 g3 s _ _ (fun e => some (f_i_HasCube_x0_2 self a1 d2 g3 e))))
def f_i_HasCube_t0 (self : (List Sc × Int × Int) → Option (Bool)) (σ : List AV) : Option (Bool × Bool × (X × List AV) × (X × List AV)) := match dec f_i_HasCube_h0 σ with
  | some [.i a1, .i d2, .l g3, .i s7] => some ((loopL (f_i_HasCube_r0 self a1 d2 g3) s7).isSome, isOne (loopL (f_i_HasCube_r0 self a1 d2 g3) s7), f_i_HasCube_x0_1 self a1 d2 g3 (getOne () (loopL (f_i_HasCube_r0 self a1 d2 g3) s7)), f_i_HasCube_x0_2 self a1 d2 g3 (getTwo () (loopL (f_i_HasCube_r0 self a1 d2 g3) s7)))
  | _ => none
theorem f_i_HasCube_tt0 (self : (List Sc × Int × Int) → Option (Bool)) (hs : ∀ a r, self a = some r → CS Try.prog 40 (f_i_HasCube_a a.1 a.2.1 a.2.2) (f_i_HasCube_i a.1 a.2.1 a.2.2) (f_i_HasCube_en r).1 (f_i_HasCube_en r).2) : TTrue Try.prog f_i_HasCube_F Try.f40 0 (f_i_HasCube_t0 self) := by
  intro σ p r r' h
  unfold f_i_HasCube_t0 at h
  split at h
  · rename_i hd
    rw [← dec_enc hd]
    exact row2 (f_i_HasCube_l0 self hs _ _ _ _) h
  · cases h
theorem f_i_HasCube_p {R : Type} (self : (List Sc × Int × Int) → Option (Bool)) (g0 : List Sc) (a1 : Int) (d2 : Int) (kR : Bool → Option R) : f_i_HasCube_k self g0 a1 d2 kR = (f_i_HasCube_k self g0 a1 d2 some).bind kR := by
  simp only [f_i_HasCube_k, brB, boB, blB, someB]
theorem f_i_HasCube_e (self : (List Sc × Int × Int) → Option (Bool)) (g0 : List Sc) (a1 : Int) (d2 : Int) : runFn E0 (f_i_HasCube_M self) H0 f_i_HasCube_F (asL (addL 0 (f_i_HasCube_t0 self) (noL))) Try.f40 (f_i_HasCube_a g0 a1 d2) (f_i_HasCube_i g0 a1 d2) = f_i_HasCube_k self g0 a1 d2 (fun r => some (f_i_HasCube_en r)) := by kernel_rfl
theorem f_i_HasCube_ks (self : (List Sc × Int × Int) → Option (Bool)) (hs : ∀ a r, self a = some r → CS Try.prog 40 (f_i_HasCube_a a.1 a.2.1 a.2.2) (f_i_HasCube_i a.1 a.2.1 a.2.2) (f_i_HasCube_en r).1 (f_i_HasCube_en r).2) (g0 : List Sc) (a1 : Int) (d2 : Int) (r : Bool) (h : f_i_HasCube_k self g0 a1 d2 some = some r) : CS Try.prog 40 (f_i_HasCube_a g0 a1 d2) (f_i_HasCube_i g0 a1 d2) (f_i_HasCube_en r).1 (f_i_HasCube_en r).2 :=
  fn_true (Gk := fun k => f_i_HasCube_k self g0 a1 d2 k) (en := f_i_HasCube_en) Try.func40 E0ok (f_i_HasCube_Mt self hs) (addL_true (f_i_HasCube_tt0 self hs) (noL_true)) f_i_HasCube_o (f_i_HasCube_e self g0 a1 d2) (f_i_HasCube_p self g0 a1 d2) h
theorem f_i_HasCube_ns : ∀ n a r, f_i_HasCube_n n a = some r → CS Try.prog 40 (f_i_HasCube_a a.1 a.2.1 a.2.2) (f_i_HasCube_i a.1 a.2.1 a.2.2) (f_i_HasCube_en r).1 (f_i_HasCube_en r).2
  | 0, _, _, h => by cases h
  | n + 1, a, r, h => f_i_HasCube_ks (f_i_HasCube_n n) (f_i_HasCube_ns n) a.1 a.2.1 a.2.2 r h
theorem f_i_HasCube_ok (g0 : List Sc) (a1 : Int) (d2 : Int) (r : Bool) (h : f_i_HasCube g0 a1 d2 = some r) : CS Try.prog 40 (f_i_HasCube_a g0 a1 d2) (f_i_HasCube_i g0 a1 d2) (f_i_HasCube_en r).1 (f_i_HasCube_en r).2 := by
  obtain ⟨n, hn⟩ := limF_some h
  exact f_i_HasCube_ns n _ r hn
def f_i_HasCube_c : CRow := fun args inh => match dec2 [.p .gr, .p (.int .i64), .p (.int .i64)] [] args inh with
  | some ([.l g0, .i a1, .i d2], []) => some ((f_i_HasCube g0 a1 d2).isSome, (f_i_HasCube_en ((f_i_HasCube g0 a1 d2).getD false)).1, (f_i_HasCube_en ((f_i_HasCube g0 a1 d2).getD false)).2)
  | _ => none
theorem f_i_HasCube_cc : CTrue Try.prog 40 f_i_HasCube_c := by
  intro args inh rs out h
  unfold f_i_HasCube_c at h
  split at h
  · rename_i hd
    obtain ⟨h1, h2⟩ := dec2_enc hd
    rw [← h1, ← h2]
    exact rowC (f_i_HasCube_ok _ _ _) h
  · cases h
end
end Go.Proofs.Ytphbclogflflmaa
