/-
  That the program computes just that (printed by gen2.py).
-/
import Derived.Test.YtdlofeehgkijhaaRuna
set_option linter.unusedVariables false
namespace Go.Proofs.Ytdlofeehgkijhaa
open Go Ev
noncomputable section
def f_i_members_F : Fi := { nv := 0, nc := 0, m := 0, vt := [], kl := [(0, ([1, 2, 5, 6, 7, 8, 9, 10, 11, 12, 13, 14, 15, 16, 17, 18, 19, 20, 21], [0, 1, 2, 4, 5, 6, 7, 8, 9, 10, 11, 12, 13, 14, 15, 16, 17, 18, 19, 20, 21], [0, 1, 3, 4, 5, 6, 7, 8, 9, 10, 11, 12, 13, 14, 15, 16, 17, 18, 19, 20, 21]))], sk := [], mvs := [], fz := [] }
def f_i_members_a (a0 : Int) : List AV := enc [.p (.int .i64)] [.i a0]
def f_i_members_i (a0 : Int) : List AV := enc [] []
def f_i_members_en (r : List Sc) : List AV × List AV := (enc [.p (.al 0)] [], enc [.own 3] [.l r])
def f_i_members_M : Calling := noC
theorem f_i_members_Mt : CallOk Try.prog (f_i_members_M) := noC_true
theorem f_i_members_o : loopsOnce Try.f65 = true := by kernel_rfl
def f_i_members_h0 : List Sh := [.p (.int .i64), .u, .u, .own 3, .p (.int .i64), .u, .u, .u, .u, .u, .u, .u, .u, .u, .u, .u, .u, .u, .u, .u, .u, .u]
def f_i_members_fr0 (a0 : Int) (s : List Sc × Int) : List AV := enc f_i_members_h0 [.i a0, .l s.1, .i s.2]
def f_i_members_g0_1 : List Sh := [.u, .u, .u, .own 3, .u, .u, .u, .u, .u, .u, .u, .u, .u, .u, .u, .u, .u, .u, .u, .u, .u, .u]
def f_i_members_x0_1 (a0 : Int) (e : List Sc) : X × List AV := (.out 0, enc f_i_members_g0_1 [.l e])
def f_i_members_x0_2 (a0 : Int) (_e : Unit) : X × List AV := (.ret, [])
theorem f_i_members_p0 {R : Type} (a0 : Int) (s : List Sc × Int) (kN : List Sc × Int → Option R) (kA : List Sc → Option R) (kB : Unit → Option R) : f_i_members_k0 a0 s.1 s.2 kN kA = (f_i_members_r0 a0 s).bind (Ro.el kN kA kB) := by
  simp only [f_i_members_k0, f_i_members_r0, brB, someB, noneB, Ro.el]
theorem f_i_members_e0 (a0 : Int) (s : List Sc × Int) : EC E0 f_i_members_M H0 f_i_members_F (asL (noL)) 0 (bodyOf Try.f65 0) (f_i_members_fr0 a0 s) (done (klOf f_i_members_F 0)) = f_i_members_k0 a0 s.1 s.2 (fun s => some (.norm, f_i_members_fr0 a0 s)) (fun e => some (f_i_members_x0_1 a0 e)) := by kernel_rfl
theorem f_i_members_l0 (a0 : Int) : ∀ s r, loopL (f_i_members_r0 a0) s = some r → LS Try.prog f_i_members_F (bodyOf Try.f65 0) (f_i_members_fr0 a0 s) (enX (f_i_members_x0_1 a0) (f_i_members_x0_2 a0) r) :=
  loop_true E0ok f_i_members_Mt (noL_true) f_i_members_o (fun _ h => by cases h) (fun _ h => by cases h) (fun s => (f_i_members_e0 a0 s).trans (f_i_members_p0 a0 s _ _ (fun e => some (f_i_members_x0_2 a0 e))))
def f_i_members_t0 (σ : List AV) : Option (Bool × Bool × (X × List AV) × (X × List AV)) := match dec f_i_members_h0 σ with
  | some [.i a0, .l out3, .i x4] => some (isOne (loopL (f_i_members_r0 a0) (out3, x4)), true, f_i_members_x0_1 a0 (getOne [] (loopL (f_i_members_r0 a0) (out3, x4))), (.ret, []))
  | _ => none
theorem f_i_members_tt0 : TTrue Try.prog f_i_members_F Try.f65 0 (f_i_members_t0) := by
  intro σ p r r' h
  unfold f_i_members_t0 at h
  split at h
  · rename_i hd
    rw [← dec_enc hd]
    exact row1 (f_i_members_l0 _ _) h
  · cases h
theorem f_i_members_p {R : Type} (a0 : Int) (kR : List Sc → Option R) : f_i_members_k a0 kR = (f_i_members_k a0 some).bind kR := by
  simp only [f_i_members_k, bl1B, someB]
theorem f_i_members_e (a0 : Int) : runFn E0 f_i_members_M H0 f_i_members_F (asL (addL 0 (f_i_members_t0) (noL))) Try.f65 (f_i_members_a a0) (f_i_members_i a0) = f_i_members_k a0 (fun r => some (f_i_members_en r)) := by kernel_rfl
theorem f_i_members_ok (a0 : Int) (r : List Sc) (h : f_i_members a0 = some r) : CS Try.prog 65 (f_i_members_a a0) (f_i_members_i a0) (f_i_members_en r).1 (f_i_members_en r).2 :=
  fn_true (Gk := fun k => f_i_members_k a0 k) (en := f_i_members_en) Try.func65 E0ok f_i_members_Mt (addL_true (f_i_members_tt0) (noL_true)) f_i_members_o (f_i_members_e a0) (f_i_members_p a0) h
def f_i_members_c : CRow := fun args inh => match dec2 [.p (.int .i64)] [] args inh with
  | some ([.i a0], []) => some ((f_i_members a0).isSome, (f_i_members_en ((f_i_members a0).getD [])).1, (f_i_members_en ((f_i_members a0).getD [])).2)
  | _ => none
theorem f_i_members_cc : CTrue Try.prog 65 f_i_members_c := by
  intro args inh rs out h
  unfold f_i_members_c at h
  split at h
  · rename_i hd
    obtain ⟨h1, h2⟩ := dec2_enc hd
    rw [← h1, ← h2]
    exact rowC (f_i_members_ok _) h
  · cases h

def f_i_keeps_F : Fi := { nv := 0, nc := 0, m := 0, vt := [], kl := [(6, ([0, 1, 6, 7, 8, 13, 16, 17, 18, 19, 20, 21, 22, 23, 24, 25, 28, 29, 30, 31, 32, 33, 34, 35, 36, 37, 38, 39, 40, 41, 42, 43, 44, 45, 46, 47, 48, 49, 50, 51, 52, 53, 54, 55, 56, 57, 58, 59, 60, 61, 62, 63, 64, 65, 66, 67, 68, 69, 70, 71, 72, 73, 74, 75, 76, 77, 78, 79, 80, 81, 82], [0, 1, 6, 7, 8, 11, 12, 13, 16, 17, 18, 19, 20, 21, 22, 23, 24, 25, 28, 29, 30, 31, 32, 33, 34, 35, 36, 37, 38, 39, 40, 41, 42, 43, 44, 45, 46, 47, 48, 49, 50, 51, 52, 53, 54, 55, 56, 57, 58, 59, 60, 61, 62, 63, 64, 65, 66, 67, 68, 69, 70, 71, 72, 73, 74, 75, 76, 77, 78, 79, 80, 81, 82], [0, 1, 2, 3, 4, 5, 6, 7, 9, 10, 11, 12, 13, 14, 15, 16, 17, 18, 19, 20, 21, 22, 23, 24, 25, 26, 27, 28, 29, 30, 31, 32, 33, 34, 35, 36, 37, 38, 39, 40, 41, 42, 43, 44, 45, 46, 47, 48, 49, 50, 51, 52, 53, 54, 55, 56, 57, 58, 59, 60, 61, 62, 63, 64, 65, 66, 67, 68, 69, 70, 71, 72, 73, 74, 75, 76, 77, 78, 79, 80, 81, 82])), (4, ([0, 1, 6, 7, 8, 11, 12, 13, 16, 17, 18, 19, 20, 21, 22, 23, 24, 25, 28, 29, 30, 31, 32, 33, 34, 35, 36, 37, 38, 39, 40, 41, 42, 43, 44, 45, 46, 47, 48, 49, 50, 51, 52, 53, 54, 55, 56, 57, 58, 59, 60, 61, 62, 63, 64, 65, 66, 67, 68, 69, 70, 71, 72, 73, 74, 75, 76, 77, 78, 79, 80, 81, 82], [0, 1, 6, 7, 8, 11, 12, 13, 16, 17, 18, 19, 20, 21, 22, 23, 24, 25, 28, 29, 30, 31, 32, 33, 34, 35, 36, 37, 38, 39, 40, 41, 42, 43, 44, 45, 46, 47, 48, 49, 50, 51, 52, 53, 54, 55, 56, 57, 58, 59, 60, 61, 62, 63, 64, 65, 66, 67, 68, 69, 70, 71, 72, 73, 74, 75, 76, 77, 78, 79, 80, 81, 82], [0, 1, 2, 3, 4, 5, 6, 7, 9, 10, 11, 12, 13, 14, 15, 16, 17, 18, 19, 20, 21, 22, 23, 24, 25, 26, 27, 28, 29, 30, 31, 32, 33, 34, 35, 36, 37, 38, 39, 40, 41, 42, 43, 44, 45, 46, 47, 48, 49, 50, 51, 52, 53, 54, 55, 56, 57, 58, 59, 60, 61, 62, 63, 64, 65, 66, 67, 68, 69, 70, 71, 72, 73, 74, 75, 76, 77, 78, 79, 80, 81, 82])), (2, ([0, 1, 6, 7, 8, 11, 12, 13, 16, 17, 18, 19, 20, 21, 22, 23, 24, 25, 26, 27, 28, 29, 30, 31, 32, 33, 34, 35, 36, 37, 38, 39, 40, 41, 42, 43, 44, 45, 46, 47, 48, 49, 50, 51, 52, 53, 54, 55, 56, 57, 58, 59, 60, 61, 62, 63, 64, 65, 66, 67, 68, 69, 70, 71, 72, 73, 74, 75, 76, 77, 78, 79, 80, 81, 82], [0, 1, 6, 7, 8, 11, 12, 13, 16, 17, 18, 19, 20, 21, 22, 23, 24, 25, 28, 29, 30, 31, 32, 33, 34, 35, 36, 37, 38, 39, 40, 41, 42, 43, 44, 45, 46, 47, 48, 49, 50, 51, 52, 53, 54, 55, 56, 57, 58, 59, 60, 61, 62, 63, 64, 65, 66, 67, 68, 69, 70, 71, 72, 73, 74, 75, 76, 77, 78, 79, 80, 81, 82], [0, 1, 2, 3, 4, 5, 6, 7, 9, 10, 11, 12, 13, 14, 15, 16, 17, 18, 19, 20, 21, 22, 23, 24, 25, 26, 27, 28, 29, 30, 31, 32, 33, 34, 35, 36, 37, 38, 39, 40, 41, 42, 43, 44, 45, 46, 47, 48, 49, 50, 51, 52, 53, 54, 55, 56, 57, 58, 59, 60, 61, 62, 63, 64, 65, 66, 67, 68, 69, 70, 71, 72, 73, 74, 75, 76, 77, 78, 79, 80, 81, 82])), (0, ([0, 1, 6, 7, 8, 9, 10, 11, 12, 13, 16, 17, 18, 19, 20, 21, 22, 23, 24, 25, 26, 27, 28, 29, 30, 31, 32, 33, 34, 35, 36, 37, 38, 39, 40, 41, 42, 43, 44, 45, 46, 47, 48, 49, 50, 51, 52, 53, 54, 55, 56, 57, 58, 59, 60, 61, 62, 63, 64, 65, 66, 67, 68, 69, 70, 71, 72, 73, 74, 75, 76, 77, 78, 79, 80, 81, 82], [0, 1, 6, 7, 8, 11, 12, 13, 16, 17, 18, 19, 20, 21, 22, 23, 24, 25, 28, 29, 30, 31, 32, 33, 34, 35, 36, 37, 38, 39, 40, 41, 42, 43, 44, 45, 46, 47, 48, 49, 50, 51, 52, 53, 54, 55, 56, 57, 58, 59, 60, 61, 62, 63, 64, 65, 66, 67, 68, 69, 70, 71, 72, 73, 74, 75, 76, 77, 78, 79, 80, 81, 82], [0, 1, 2, 3, 4, 5, 6, 7, 9, 10, 11, 12, 13, 14, 15, 16, 17, 18, 19, 20, 21, 22, 23, 24, 25, 26, 27, 28, 29, 30, 31, 32, 33, 34, 35, 36, 37, 38, 39, 40, 41, 42, 43, 44, 45, 46, 47, 48, 49, 50, 51, 52, 53, 54, 55, 56, 57, 58, 59, 60, 61, 62, 63, 64, 65, 66, 67, 68, 69, 70, 71, 72, 73, 74, 75, 76, 77, 78, 79, 80, 81, 82]))], sk := [], mvs := [], fz := [] }
def f_i_keeps_a (L0 : List Sc) (p1 : List Sc) (p2 : List Sc) (p3 : List Sc) : List AV := enc [.p .gr, .p .gr, .p .sl, .p .sl] [.l L0, .l p1, .l p2, .l p3]
def f_i_keeps_i (L0 : List Sc) (p1 : List Sc) (p2 : List Sc) (p3 : List Sc) : List AV := enc [] []
def f_i_keeps_en (r : Bool) : List AV × List AV := (enc [.p .boo] [.b r], enc [] [])
def f_i_keeps_M : Calling := addC 75 f_i_Group_add_c (noC)
theorem f_i_keeps_Mt : CallOk Try.prog (f_i_keeps_M) := addC_true f_i_Group_add_cc (noC_true)
theorem f_i_keeps_o : loopsOnce Try.f67 = true := by kernel_rfl
def f_i_keeps_h6 : List Sh := [.u, .u, .p .sl, .p .sl, .p .el, .p .el, .u, .u, .u, .p (.int .i64), .p (.int .i64), .p (.int .i64), .p (.int .i64), .u, .p (.int .i64), .p (.int .i64), .u, .u, .u, .u, .u, .u, .u, .u, .u, .u, .p (.int .i64), .p (.int .i64), .u, .u, .u, .u, .u, .u, .u, .u, .u, .u, .u, .u, .u, .u, .u, .u, .u, .u, .u, .u, .u, .u, .u, .u, .u, .u, .u, .u, .u, .u, .u, .u, .u, .u, .u, .u, .u, .u, .u, .u, .u, .u, .u, .u, .u, .u, .u, .u, .u, .u, .u, .u, .u, .u, .u]
def f_i_keeps_fr6 (t2 : List Sc) (t3 : List Sc) (t4 : List Sc) (t5 : List Sc) (t9 : Int) (t10 : Int) (t11 : Int) (t14 : Int) (t15 : Int) (t26 : Int) (t27 : Int) (s : Int) : List AV := enc f_i_keeps_h6 [.l t2, .l t3, .l t4, .l t5, .i t9, .i t10, .i t11, .i s, .i t14, .i t15, .i t26, .i t27]
def f_i_keeps_g6_1 : List Sh := [.u, .u, .p .sl, .p .sl, .p .el, .p .el, .u, .u, .u, .p (.int .i64), .p (.int .i64), .u, .u, .u, .p (.int .i64), .p (.int .i64), .u, .u, .u, .u, .u, .u, .u, .u, .u, .u, .p (.int .i64), .p (.int .i64), .u, .u, .u, .u, .u, .u, .u, .u, .u, .u, .u, .u, .u, .u, .u, .u, .u, .u, .u, .u, .u, .u, .u, .u, .u, .u, .u, .u, .u, .u, .u, .u, .u, .u, .u, .u, .u, .u, .u, .u, .u, .u, .u, .u, .u, .u, .u, .u, .u, .u, .u, .u, .u, .u, .u]
def f_i_keeps_x6_1 (t2 : List Sc) (t3 : List Sc) (t4 : List Sc) (t5 : List Sc) (t9 : Int) (t10 : Int) (t11 : Int) (t14 : Int) (t15 : Int) (t26 : Int) (t27 : Int) (e : Unit) : X × List AV := (.out 6, enc f_i_keeps_g6_1 [.l t2, .l t3, .l t4, .l t5, .i t9, .i t10, .i t14, .i t15, .i t26, .i t27])
def f_i_keeps_g6_2 : List Sh := [.u, .u, .u, .u, .u, .u, .u, .u, .p .boo, .u, .u, .u, .u, .u, .u, .u, .u, .u, .u, .u, .u, .u, .u, .u, .u, .u, .u, .u, .u, .u, .u, .u, .u, .u, .u, .u, .u, .u, .u, .u, .u, .u, .u, .u, .u, .u, .u, .u, .u, .u, .u, .u, .u, .u, .u, .u, .u, .u, .u, .u, .u, .u, .u, .u, .u, .u, .u, .u, .u, .u, .u, .u, .u, .u, .u, .u, .u, .u, .u, .u, .u, .u, .u]
def f_i_keeps_x6_2 (t2 : List Sc) (t3 : List Sc) (t4 : List Sc) (t5 : List Sc) (t9 : Int) (t10 : Int) (t11 : Int) (t14 : Int) (t15 : Int) (t26 : Int) (t27 : Int) (e : Unit) : X × List AV := (.ret, enc f_i_keeps_g6_2 [.b false])
theorem f_i_keeps_p6 {R : Type} (t2 : List Sc) (t3 : List Sc) (t4 : List Sc) (t5 : List Sc) (t9 : Int) (t10 : Int) (t11 : Int) (t14 : Int) (t15 : Int) (t26 : Int) (t27 : Int) (s : Int) (kN : Int → Option R) (kA : Unit → Option R) (kB : Unit → Option R) : f_i_keeps_k6 t2 t3 t4 t5 t9 t10 t11 t14 t15 t26 t27 s kN kA kB = (f_i_keeps_r6 t2 t3 t4 t5 t9 t10 t11 t14 t15 t26 t27 s).bind (Ro.el kN kA kB) := by
  simp only [f_i_keeps_k6, f_i_keeps_r6, brB, boB, someB, noneB, Ro.el]
theorem f_i_keeps_e6 (t2 : List Sc) (t3 : List Sc) (t4 : List Sc) (t5 : List Sc) (t9 : Int) (t10 : Int) (t11 : Int) (t14 : Int) (t15 : Int) (t26 : Int) (t27 : Int) (s : Int) : EC E0 f_i_keeps_M H0 f_i_keeps_F (asL (noL)) 6 (bodyOf Try.f67 6) (f_i_keeps_fr6 t2 t3 t4 t5 t9 t10 t11 t14 t15 t26 t27 s) (done (klOf f_i_keeps_F 6)) = f_i_keeps_k6 t2 t3 t4 t5 t9 t10 t11 t14 t15 t26 t27 s (fun s => some (.norm, f_i_keeps_fr6 t2 t3 t4 t5 t9 t10 t11 t14 t15 t26 t27 s)) (fun e => some (f_i_keeps_x6_1 t2 t3 t4 t5 t9 t10 t11 t14 t15 t26 t27 e)) (fun e => some (f_i_keeps_x6_2 t2 t3 t4 t5 t9 t10 t11 t14 t15 t26 t27 e)) := by kernel_rfl
theorem f_i_keeps_l6 (t2 : List Sc) (t3 : List Sc) (t4 : List Sc) (t5 : List Sc) (t9 : Int) (t10 : Int) (t11 : Int) (t14 : Int) (t15 : Int) (t26 : Int) (t27 : Int) : ∀ s r, loopL (f_i_keeps_r6 t2 t3 t4 t5 t9 t10 t11 t14 t15 t26 t27) s = some r → LS Try.prog f_i_keeps_F (bodyOf Try.f67 6) (f_i_keeps_fr6 t2 t3 t4 t5 t9 t10 t11 t14 t15 t26 t27 s) (enX (f_i_keeps_x6_1 t2 t3 t4 t5 t9 t10 t11 t14 t15 t26 t27) (f_i_keeps_x6_2 t2 t3 t4 t5 t9 t10 t11 t14 t15 t26 t27) r) :=
  loop_true E0ok f_i_keeps_Mt (noL_true) f_i_keeps_o (fun _ h => by cases h) (fun _ h => by cases h) (fun s => (f_i_keeps_e6 t2 t3 t4 t5 t9 t10 t11 t14 t15 t26 t27 s).trans (f_i_keeps_p6 t2 t3 t4 t5 t9 t10 t11 t14 t15 t26 t27 s _ _ (fun e => some (f_i_keeps_x6_2 t2 t3 t4 t5 t9 t10 t11 t14 t15 t26 t27 e))))
def f_i_keeps_t6 (σ : List AV) : Option (Bool × Bool × (X × List AV) × (X × List AV)) := match dec f_i_keeps_h6 σ with
  | some [.l t2, .l t3, .l t4, .l t5, .i t9, .i t10, .i t11, .i t12, .i t14, .i t15, .i t26, .i t27] => some ((loopL (f_i_keeps_r6 t2 t3 t4 t5 t9 t10 t11 t14 t15 t26 t27) t12).isSome, isOne (loopL (f_i_keeps_r6 t2 t3 t4 t5 t9 t10 t11 t14 t15 t26 t27) t12), f_i_keeps_x6_1 t2 t3 t4 t5 t9 t10 t11 t14 t15 t26 t27 (getOne () (loopL (f_i_keeps_r6 t2 t3 t4 t5 t9 t10 t11 t14 t15 t26 t27) t12)), f_i_keeps_x6_2 t2 t3 t4 t5 t9 t10 t11 t14 t15 t26 t27 (getTwo () (loopL (f_i_keeps_r6 t2 t3 t4 t5 t9 t10 t11 t14 t15 t26 t27) t12)))
  | _ => none
theorem f_i_keeps_tt6 : TTrue Try.prog f_i_keeps_F Try.f67 6 (f_i_keeps_t6) := by
  intro σ p r r' h
  unfold f_i_keeps_t6 at h
  split at h
  · rename_i hd
    rw [← dec_enc hd]
    exact row2 (f_i_keeps_l6 _ _ _ _ _ _ _ _ _ _ _ _) h
  · cases h
def f_i_keeps_h4 : List Sh := [.u, .u, .p .sl, .p .sl, .p .el, .p .el, .u, .u, .u, .p (.int .i64), .p (.int .i64), .u, .u, .u, .p (.int .i64), .p (.int .i64), .u, .u, .u, .u, .u, .u, .u, .u, .u, .u, .p (.int .i64), .p (.int .i64), .u, .u, .u, .u, .u, .u, .u, .u, .u, .u, .u, .u, .u, .u, .u, .u, .u, .u, .u, .u, .u, .u, .u, .u, .u, .u, .u, .u, .u, .u, .u, .u, .u, .u, .u, .u, .u, .u, .u, .u, .u, .u, .u, .u, .u, .u, .u, .u, .u, .u, .u, .u, .u, .u, .u]
def f_i_keeps_fr4 (t2 : List Sc) (t3 : List Sc) (t4 : List Sc) (t5 : List Sc) (t9 : Int) (t10 : Int) (t14 : Int) (t15 : Int) (t26 : Int) (s : Int) : List AV := enc f_i_keeps_h4 [.l t2, .l t3, .l t4, .l t5, .i t9, .i t10, .i t14, .i t15, .i t26, .i s]
def f_i_keeps_g4_1 : List Sh := [.u, .u, .p .sl, .p .sl, .p .el, .p .el, .u, .u, .u, .p (.int .i64), .p (.int .i64), .u, .u, .u, .p (.int .i64), .p (.int .i64), .u, .u, .u, .u, .u, .u, .u, .u, .u, .u, .p (.int .i64), .p (.int .i64), .u, .u, .u, .u, .u, .u, .u, .u, .u, .u, .u, .u, .u, .u, .u, .u, .u, .u, .u, .u, .u, .u, .u, .u, .u, .u, .u, .u, .u, .u, .u, .u, .u, .u, .u, .u, .u, .u, .u, .u, .u, .u, .u, .u, .u, .u, .u, .u, .u, .u, .u, .u, .u, .u, .u]
def f_i_keeps_x4_1 (t2 : List Sc) (t3 : List Sc) (t4 : List Sc) (t5 : List Sc) (t9 : Int) (t10 : Int) (t14 : Int) (t15 : Int) (t26 : Int) (e : Int) : X × List AV := (.out 4, enc f_i_keeps_g4_1 [.l t2, .l t3, .l t4, .l t5, .i t9, .i t10, .i t14, .i t15, .i t26, .i e])
def f_i_keeps_g4_2 : List Sh := [.u, .u, .u, .u, .u, .u, .u, .u, .p .boo, .u, .u, .u, .u, .u, .u, .u, .u, .u, .u, .u, .u, .u, .u, .u, .u, .u, .u, .u, .u, .u, .u, .u, .u, .u, .u, .u, .u, .u, .u, .u, .u, .u, .u, .u, .u, .u, .u, .u, .u, .u, .u, .u, .u, .u, .u, .u, .u, .u, .u, .u, .u, .u, .u, .u, .u, .u, .u, .u, .u, .u, .u, .u, .u, .u, .u, .u, .u, .u, .u, .u, .u, .u, .u]
def f_i_keeps_x4_2 (t2 : List Sc) (t3 : List Sc) (t4 : List Sc) (t5 : List Sc) (t9 : Int) (t10 : Int) (t14 : Int) (t15 : Int) (t26 : Int) (e : Unit) : X × List AV := (.ret, enc f_i_keeps_g4_2 [.b false])
theorem f_i_keeps_p4 {R : Type} (t2 : List Sc) (t3 : List Sc) (t4 : List Sc) (t5 : List Sc) (t9 : Int) (t10 : Int) (t14 : Int) (t15 : Int) (t26 : Int) (s : Int) (kN : Int → Option R) (kA : Int → Option R) (kB : Unit → Option R) : f_i_keeps_k4 t2 t3 t4 t5 t9 t10 t14 t15 t26 s kN kA kB = (f_i_keeps_r4 t2 t3 t4 t5 t9 t10 t14 t15 t26 s).bind (Ro.el kN kA kB) := by
  simp only [f_i_keeps_k4, f_i_keeps_r4, brB, blB, someB, Ro.el]
theorem f_i_keeps_e4 (t2 : List Sc) (t3 : List Sc) (t4 : List Sc) (t5 : List Sc) (t9 : Int) (t10 : Int) (t14 : Int) (t15 : Int) (t26 : Int) (s : Int) : EC E0 f_i_keeps_M H0 f_i_keeps_F (asL (addL 6 (f_i_keeps_t6) (noL))) 4 (bodyOf Try.f67 4) (f_i_keeps_fr4 t2 t3 t4 t5 t9 t10 t14 t15 t26 s) (done (klOf f_i_keeps_F 4)) = f_i_keeps_k4 t2 t3 t4 t5 t9 t10 t14 t15 t26 s (fun s => some (.norm, f_i_keeps_fr4 t2 t3 t4 t5 t9 t10 t14 t15 t26 s)) (fun e => some (f_i_keeps_x4_1 t2 t3 t4 t5 t9 t10 t14 t15 t26 e)) (fun e => some (f_i_keeps_x4_2 t2 t3 t4 t5 t9 t10 t14 t15 t26 e)) := by kernel_rfl
theorem f_i_keeps_l4 (t2 : List Sc) (t3 : List Sc) (t4 : List Sc) (t5 : List Sc) (t9 : Int) (t10 : Int) (t14 : Int) (t15 : Int) (t26 : Int) : ∀ s r, loopL (f_i_keeps_r4 t2 t3 t4 t5 t9 t10 t14 t15 t26) s = some r → LS Try.prog f_i_keeps_F (bodyOf Try.f67 4) (f_i_keeps_fr4 t2 t3 t4 t5 t9 t10 t14 t15 t26 s) (enX (f_i_keeps_x4_1 t2 t3 t4 t5 t9 t10 t14 t15 t26) (f_i_keeps_x4_2 t2 t3 t4 t5 t9 t10 t14 t15 t26) r) :=
  loop_true E0ok f_i_keeps_Mt (addL_true (f_i_keeps_tt6) (noL_true)) f_i_keeps_o (fun _ h => by cases h) (fun _ h => by cases h) (fun s => (f_i_keeps_e4 t2 t3 t4 t5 t9 t10 t14 t15 t26 s).trans (f_i_keeps_p4 t2 t3 t4 t5 t9 t10 t14 t15 t26 s _ _ (fun e => some (f_i_keeps_x4_2 t2 t3 t4 t5 t9 t10 t14 t15 t26 e))))
def f_i_keeps_t4 (σ : List AV) : Option (Bool × Bool × (X × List AV) × (X × List AV)) := match dec f_i_keeps_h4 σ with
  | some [.l t2, .l t3, .l t4, .l t5, .i t9, .i t10, .i t14, .i t15, .i t26, .i t27] => some ((loopL (f_i_keeps_r4 t2 t3 t4 t5 t9 t10 t14 t15 t26) t27).isSome, isOne (loopL (f_i_keeps_r4 t2 t3 t4 t5 t9 t10 t14 t15 t26) t27), f_i_keeps_x4_1 t2 t3 t4 t5 t9 t10 t14 t15 t26 (getOne 0 (loopL (f_i_keeps_r4 t2 t3 t4 t5 t9 t10 t14 t15 t26) t27)), f_i_keeps_x4_2 t2 t3 t4 t5 t9 t10 t14 t15 t26 (getTwo () (loopL (f_i_keeps_r4 t2 t3 t4 t5 t9 t10 t14 t15 t26) t27)))
  | _ => none
theorem f_i_keeps_tt4 : TTrue Try.prog f_i_keeps_F Try.f67 4 (f_i_keeps_t4) := by
  intro σ p r r' h
  unfold f_i_keeps_t4 at h
  split at h
  · rename_i hd
    rw [← dec_enc hd]
    exact row2 (f_i_keeps_l4 _ _ _ _ _ _ _ _ _ _) h
  · cases h
def f_i_keeps_h2 : List Sh := [.u, .u, .p .sl, .p .sl, .p .el, .p .el, .u, .u, .u, .p (.int .i64), .p (.int .i64), .u, .u, .u, .p (.int .i64), .p (.int .i64), .u, .u, .u, .u, .u, .u, .u, .u, .u, .u, .u, .u, .u, .u, .u, .u, .u, .u, .u, .u, .u, .u, .u, .u, .u, .u, .u, .u, .u, .u, .u, .u, .u, .u, .u, .u, .u, .u, .u, .u, .u, .u, .u, .u, .u, .u, .u, .u, .u, .u, .u, .u, .u, .u, .u, .u, .u, .u, .u, .u, .u, .u, .u, .u, .u, .u, .u]
def f_i_keeps_fr2 (t2 : List Sc) (t3 : List Sc) (t4 : List Sc) (t5 : List Sc) (t9 : Int) (t14 : Int) (t15 : Int) (s : Int) : List AV := enc f_i_keeps_h2 [.l t2, .l t3, .l t4, .l t5, .i t9, .i s, .i t14, .i t15]
def f_i_keeps_g2_1 : List Sh := [.u, .u, .p .sl, .p .sl, .p .el, .p .el, .u, .u, .u, .p (.int .i64), .p (.int .i64), .u, .u, .u, .p (.int .i64), .p (.int .i64), .u, .u, .u, .u, .u, .u, .u, .u, .u, .u, .u, .u, .u, .u, .u, .u, .u, .u, .u, .u, .u, .u, .u, .u, .u, .u, .u, .u, .u, .u, .u, .u, .u, .u, .u, .u, .u, .u, .u, .u, .u, .u, .u, .u, .u, .u, .u, .u, .u, .u, .u, .u, .u, .u, .u, .u, .u, .u, .u, .u, .u, .u, .u, .u, .u, .u, .u]
def f_i_keeps_x2_1 (t2 : List Sc) (t3 : List Sc) (t4 : List Sc) (t5 : List Sc) (t9 : Int) (t14 : Int) (t15 : Int) (e : Int) : X × List AV := (.out 2, enc f_i_keeps_g2_1 [.l t2, .l t3, .l t4, .l t5, .i t9, .i e, .i t14, .i t15])
def f_i_keeps_g2_2 : List Sh := [.u, .u, .u, .u, .u, .u, .u, .u, .p .boo, .u, .u, .u, .u, .u, .u, .u, .u, .u, .u, .u, .u, .u, .u, .u, .u, .u, .u, .u, .u, .u, .u, .u, .u, .u, .u, .u, .u, .u, .u, .u, .u, .u, .u, .u, .u, .u, .u, .u, .u, .u, .u, .u, .u, .u, .u, .u, .u, .u, .u, .u, .u, .u, .u, .u, .u, .u, .u, .u, .u, .u, .u, .u, .u, .u, .u, .u, .u, .u, .u, .u, .u, .u, .u]
def f_i_keeps_x2_2 (t2 : List Sc) (t3 : List Sc) (t4 : List Sc) (t5 : List Sc) (t9 : Int) (t14 : Int) (t15 : Int) (e : Unit) : X × List AV := (.ret, enc f_i_keeps_g2_2 [.b false])
theorem f_i_keeps_p2 {R : Type} (t2 : List Sc) (t3 : List Sc) (t4 : List Sc) (t5 : List Sc) (t9 : Int) (t14 : Int) (t15 : Int) (s : Int) (kN : Int → Option R) (kA : Int → Option R) (kB : Unit → Option R) : f_i_keeps_k2 t2 t3 t4 t5 t9 t14 t15 s kN kA kB = (f_i_keeps_r2 t2 t3 t4 t5 t9 t14 t15 s).bind (Ro.el kN kA kB) := by
  simp only [f_i_keeps_k2, f_i_keeps_r2, brB, blB, someB, Ro.el]
theorem f_i_keeps_e2 (t2 : List Sc) (t3 : List Sc) (t4 : List Sc) (t5 : List Sc) (t9 : Int) (t14 : Int) (t15 : Int) (s : Int) : EC E0 f_i_keeps_M H0 f_i_keeps_F (asL (addL 4 (f_i_keeps_t4) (addL 6 (f_i_keeps_t6) (noL)))) 2 (bodyOf Try.f67 2) (f_i_keeps_fr2 t2 t3 t4 t5 t9 t14 t15 s) (done (klOf f_i_keeps_F 2)) = f_i_keeps_k2 t2 t3 t4 t5 t9 t14 t15 s (fun s => some (.norm, f_i_keeps_fr2 t2 t3 t4 t5 t9 t14 t15 s)) (fun e => some (f_i_keeps_x2_1 t2 t3 t4 t5 t9 t14 t15 e)) (fun e => some (f_i_keeps_x2_2 t2 t3 t4 t5 t9 t14 t15 e)) := by kernel_rfl
theorem f_i_keeps_l2 (t2 : List Sc) (t3 : List Sc) (t4 : List Sc) (t5 : List Sc) (t9 : Int) (t14 : Int) (t15 : Int) : ∀ s r, loopL (f_i_keeps_r2 t2 t3 t4 t5 t9 t14 t15) s = some r → LS Try.prog f_i_keeps_F (bodyOf Try.f67 2) (f_i_keeps_fr2 t2 t3 t4 t5 t9 t14 t15 s) (enX (f_i_keeps_x2_1 t2 t3 t4 t5 t9 t14 t15) (f_i_keeps_x2_2 t2 t3 t4 t5 t9 t14 t15) r) :=
  loop_true E0ok f_i_keeps_Mt (addL_true (f_i_keeps_tt4) (addL_true (f_i_keeps_tt6) (noL_true))) f_i_keeps_o (fun _ h => by cases h) (fun _ h => by cases h) (fun s => (f_i_keeps_e2 t2 t3 t4 t5 t9 t14 t15 s).trans (f_i_keeps_p2 t2 t3 t4 t5 t9 t14 t15 s _ _ (fun e => some (f_i_keeps_x2_2 t2 t3 t4 t5 t9 t14 t15 e))))
def f_i_keeps_t2 (σ : List AV) : Option (Bool × Bool × (X × List AV) × (X × List AV)) := match dec f_i_keeps_h2 σ with
  | some [.l t2, .l t3, .l t4, .l t5, .i t9, .i t10, .i t14, .i t15] => some ((loopL (f_i_keeps_r2 t2 t3 t4 t5 t9 t14 t15) t10).isSome, isOne (loopL (f_i_keeps_r2 t2 t3 t4 t5 t9 t14 t15) t10), f_i_keeps_x2_1 t2 t3 t4 t5 t9 t14 t15 (getOne 0 (loopL (f_i_keeps_r2 t2 t3 t4 t5 t9 t14 t15) t10)), f_i_keeps_x2_2 t2 t3 t4 t5 t9 t14 t15 (getTwo () (loopL (f_i_keeps_r2 t2 t3 t4 t5 t9 t14 t15) t10)))
  | _ => none
theorem f_i_keeps_tt2 : TTrue Try.prog f_i_keeps_F Try.f67 2 (f_i_keeps_t2) := by
  intro σ p r r' h
  unfold f_i_keeps_t2 at h
  split at h
  · rename_i hd
    rw [← dec_enc hd]
    exact row2 (f_i_keeps_l2 _ _ _ _ _ _ _ _) h
  · cases h
def f_i_keeps_h0 : List Sh := [.u, .u, .p .sl, .p .sl, .p .el, .p .el, .u, .u, .u, .u, .u, .u, .u, .u, .p (.int .i64), .p (.int .i64), .u, .u, .u, .u, .u, .u, .u, .u, .u, .u, .u, .u, .u, .u, .u, .u, .u, .u, .u, .u, .u, .u, .u, .u, .u, .u, .u, .u, .u, .u, .u, .u, .u, .u, .u, .u, .u, .u, .u, .u, .u, .u, .u, .u, .u, .u, .u, .u, .u, .u, .u, .u, .u, .u, .u, .u, .u, .u, .u, .u, .u, .u, .u, .u, .u, .u, .u]
def f_i_keeps_fr0 (t2 : List Sc) (t3 : List Sc) (t4 : List Sc) (t5 : List Sc) (t14 : Int) (s : Int) : List AV := enc f_i_keeps_h0 [.l t2, .l t3, .l t4, .l t5, .i t14, .i s]
def f_i_keeps_g0_1 : List Sh := [.u, .u, .p .sl, .p .sl, .p .el, .p .el, .u, .u, .u, .u, .u, .u, .u, .u, .p (.int .i64), .p (.int .i64), .u, .u, .u, .u, .u, .u, .u, .u, .u, .u, .u, .u, .u, .u, .u, .u, .u, .u, .u, .u, .u, .u, .u, .u, .u, .u, .u, .u, .u, .u, .u, .u, .u, .u, .u, .u, .u, .u, .u, .u, .u, .u, .u, .u, .u, .u, .u, .u, .u, .u, .u, .u, .u, .u, .u, .u, .u, .u, .u, .u, .u, .u, .u, .u, .u, .u, .u]
def f_i_keeps_x0_1 (t2 : List Sc) (t3 : List Sc) (t4 : List Sc) (t5 : List Sc) (t14 : Int) (e : Int) : X × List AV := (.out 0, enc f_i_keeps_g0_1 [.l t2, .l t3, .l t4, .l t5, .i t14, .i e])
def f_i_keeps_g0_2 : List Sh := [.u, .u, .u, .u, .u, .u, .u, .u, .p .boo, .u, .u, .u, .u, .u, .u, .u, .u, .u, .u, .u, .u, .u, .u, .u, .u, .u, .u, .u, .u, .u, .u, .u, .u, .u, .u, .u, .u, .u, .u, .u, .u, .u, .u, .u, .u, .u, .u, .u, .u, .u, .u, .u, .u, .u, .u, .u, .u, .u, .u, .u, .u, .u, .u, .u, .u, .u, .u, .u, .u, .u, .u, .u, .u, .u, .u, .u, .u, .u, .u, .u, .u, .u, .u]
def f_i_keeps_x0_2 (t2 : List Sc) (t3 : List Sc) (t4 : List Sc) (t5 : List Sc) (t14 : Int) (e : Unit) : X × List AV := (.ret, enc f_i_keeps_g0_2 [.b false])
theorem f_i_keeps_p0 {R : Type} (t2 : List Sc) (t3 : List Sc) (t4 : List Sc) (t5 : List Sc) (t14 : Int) (s : Int) (kN : Int → Option R) (kA : Int → Option R) (kB : Unit → Option R) : f_i_keeps_k0 t2 t3 t4 t5 t14 s kN kA kB = (f_i_keeps_r0 t2 t3 t4 t5 t14 s).bind (Ro.el kN kA kB) := by
  simp only [f_i_keeps_k0, f_i_keeps_r0, brB, blB, someB, Ro.el]
theorem f_i_keeps_e0 (t2 : List Sc) (t3 : List Sc) (t4 : List Sc) (t5 : List Sc) (t14 : Int) (s : Int) : EC E0 f_i_keeps_M H0 f_i_keeps_F (asL (addL 2 (f_i_keeps_t2) (addL 4 (f_i_keeps_t4) (addL 6 (f_i_keeps_t6) (noL))))) 0 (bodyOf Try.f67 0) (f_i_keeps_fr0 t2 t3 t4 t5 t14 s) (done (klOf f_i_keeps_F 0)) = f_i_keeps_k0 t2 t3 t4 t5 t14 s (fun s => some (.norm, f_i_keeps_fr0 t2 t3 t4 t5 t14 s)) (fun e => some (f_i_keeps_x0_1 t2 t3 t4 t5 t14 e)) (fun e => some (f_i_keeps_x0_2 t2 t3 t4 t5 t14 e)) := by kernel_rfl
theorem f_i_keeps_l0 (t2 : List Sc) (t3 : List Sc) (t4 : List Sc) (t5 : List Sc) (t14 : Int) : ∀ s r, loopL (f_i_keeps_r0 t2 t3 t4 t5 t14) s = some r → LS Try.prog f_i_keeps_F (bodyOf Try.f67 0) (f_i_keeps_fr0 t2 t3 t4 t5 t14 s) (enX (f_i_keeps_x0_1 t2 t3 t4 t5 t14) (f_i_keeps_x0_2 t2 t3 t4 t5 t14) r) :=
  loop_true E0ok f_i_keeps_Mt (addL_true (f_i_keeps_tt2) (addL_true (f_i_keeps_tt4) (addL_true (f_i_keeps_tt6) (noL_true)))) f_i_keeps_o (fun _ h => by cases h) (fun _ h => by cases h) (fun s => (f_i_keeps_e0 t2 t3 t4 t5 t14 s).trans (f_i_keeps_p0 t2 t3 t4 t5 t14 s _ _ (fun e => some (f_i_keeps_x0_2 t2 t3 t4 t5 t14 e))))
def f_i_keeps_t0 (σ : List AV) : Option (Bool × Bool × (X × List AV) × (X × List AV)) := match dec f_i_keeps_h0 σ with
  | some [.l t2, .l t3, .l t4, .l t5, .i t14, .i t15] => some ((loopL (f_i_keeps_r0 t2 t3 t4 t5 t14) t15).isSome, isOne (loopL (f_i_keeps_r0 t2 t3 t4 t5 t14) t15), f_i_keeps_x0_1 t2 t3 t4 t5 t14 (getOne 0 (loopL (f_i_keeps_r0 t2 t3 t4 t5 t14) t15)), f_i_keeps_x0_2 t2 t3 t4 t5 t14 (getTwo () (loopL (f_i_keeps_r0 t2 t3 t4 t5 t14) t15)))
  | _ => none
theorem f_i_keeps_tt0 : TTrue Try.prog f_i_keeps_F Try.f67 0 (f_i_keeps_t0) := by
  intro σ p r r' h
  unfold f_i_keeps_t0 at h
  split at h
  · rename_i hd
    rw [← dec_enc hd]
    exact row2 (f_i_keeps_l0 _ _ _ _ _ _) h
  · cases h
theorem f_i_keeps_p {R : Type} (L0 : List Sc) (p1 : List Sc) (p2 : List Sc) (p3 : List Sc) (kR : Bool → Option R) : f_i_keeps_k L0 p1 p2 p3 kR = (f_i_keeps_k L0 p1 p2 p3 some).bind kR := by
  simp only [f_i_keeps_k, blB, someB]
theorem f_i_keeps_e (L0 : List Sc) (p1 : List Sc) (p2 : List Sc) (p3 : List Sc) : runFn E0 f_i_keeps_M H0 f_i_keeps_F (asL (addL 0 (f_i_keeps_t0) (addL 2 (f_i_keeps_t2) (addL 4 (f_i_keeps_t4) (addL 6 (f_i_keeps_t6) (noL)))))) Try.f67 (f_i_keeps_a L0 p1 p2 p3) (f_i_keeps_i L0 p1 p2 p3) = f_i_keeps_k L0 p1 p2 p3 (fun r => some (f_i_keeps_en r)) := by kernel_rfl
theorem f_i_keeps_ok (L0 : List Sc) (p1 : List Sc) (p2 : List Sc) (p3 : List Sc) (r : Bool) (h : f_i_keeps L0 p1 p2 p3 = some r) : CS Try.prog 67 (f_i_keeps_a L0 p1 p2 p3) (f_i_keeps_i L0 p1 p2 p3) (f_i_keeps_en r).1 (f_i_keeps_en r).2 :=
  fn_true (Gk := fun k => f_i_keeps_k L0 p1 p2 p3 k) (en := f_i_keeps_en) Try.func67 E0ok f_i_keeps_Mt (addL_true (f_i_keeps_tt0) (addL_true (f_i_keeps_tt2) (addL_true (f_i_keeps_tt4) (addL_true (f_i_keeps_tt6) (noL_true))))) f_i_keeps_o (f_i_keeps_e L0 p1 p2 p3) (f_i_keeps_p L0 p1 p2 p3) h
def f_i_keeps_c : CRow := fun args inh => match dec2 [.p .gr, .p .gr, .p .sl, .p .sl] [] args inh with
  | some ([.l L0, .l p1, .l p2, .l p3], []) => some ((f_i_keeps L0 p1 p2 p3).isSome, (f_i_keeps_en ((f_i_keeps L0 p1 p2 p3).getD false)).1, (f_i_keeps_en ((f_i_keeps L0 p1 p2 p3).getD false)).2)
  | _ => none
theorem f_i_keeps_cc : CTrue Try.prog 67 f_i_keeps_c := by
  intro args inh rs out h
  unfold f_i_keeps_c at h
  split at h
  · rename_i hd
    obtain ⟨h1, h2⟩ := dec2_enc hd
    rw [← h1, ← h2]
    exact rowC (f_i_keeps_ok _ _ _ _) h
  · cases h

def f_i_CountFreimanMaps_1_F : Fi := { nv := 4, nc := 4, m := 4, vt := [], kl := [(0, ([5, 6, 7, 9, 11, 12, 13, 14, 15, 16, 17, 18, 19, 20, 21, 22, 23, 24, 27, 28, 29, 30, 31, 32, 33, 34, 35, 36, 37], [4, 5, 6, 7, 8, 9, 10, 11, 12, 13, 14, 15, 16, 17, 18, 19, 20, 21, 22, 23, 24, 25, 26, 27, 28, 29, 30, 31, 32, 33, 34, 35, 36, 37], [4, 5, 6, 7, 8, 9, 10, 11, 12, 13, 14, 15, 16, 17, 18, 19, 20, 21, 22, 23, 24, 25, 26, 27, 28, 29, 30, 31, 32, 33, 34, 35, 36, 37]))], sk := [], mvs := [], fz := [] }
def f_i_CountFreimanMaps_1_a (i0 : Int) (p2 : List Sc) (p3 : List Sc) (h0 : List Sc) (h1 : List Sc) (h2 : Int) (h3_0 : List Sc) (h3_1 : List Sc) : List AV := enc [.p (.int .i64), .p (.pt 0 1), .p .el, .p .el, .p (.pt 1 1), .p (.pt 2 1), .p (.pt 3 1)] [.i i0, .l p2, .l p3]
def f_i_CountFreimanMaps_1_i (i0 : Int) (p2 : List Sc) (p3 : List Sc) (h0 : List Sc) (h1 : List Sc) (h2 : Int) (h3_0 : List Sc) (h3_1 : List Sc) : List AV := enc [.own 3, .own 3, .p (.int .i64), .fn 66 [.pt 0 1, .el, .el, .pt 1 1, .pt 2 1, .pt 3 1]] [.l h0, .l h1, .i h2, .l h3_0, .l h3_1]
def f_i_CountFreimanMaps_1_en (r : List Sc × List Sc × Int × List Sc × List Sc) : List AV × List AV := (enc [] [], enc [.own 3, .own 3, .p (.int .i64), .fn 66 [.pt 0 1, .el, .el, .pt 1 1, .pt 2 1, .pt 3 1]] [.l r.1, .l r.2.1, .i r.2.2.1, .l r.2.2.2.1, .l r.2.2.2.2])
def f_i_CountFreimanMaps_1_cs (self : (Int × List Sc × List Sc × List Sc × List Sc × Int × List Sc × List Sc) → Option (List Sc × List Sc × Int × List Sc × List Sc)) : CRow := fun args inh => match dec2 [.p (.int .i64), .p (.pt 0 1), .p .el, .p .el, .p (.pt 1 1), .p (.pt 2 1), .p (.pt 3 1)] [.own 3, .own 3, .p (.int .i64), .fn 66 [.pt 0 1, .el, .el, .pt 1 1, .pt 2 1, .pt 3 1]] args inh with
  | some ([.i i0, .l p2, .l p3], [.l h0, .l h1, .i h2, .l h3_0, .l h3_1]) => some ((self (i0, p2, p3, h0, h1, h2, h3_0, h3_1)).isSome, (f_i_CountFreimanMaps_1_en ((self (i0, p2, p3, h0, h1, h2, h3_0, h3_1)).getD ([], [], 0, [], []))).1, (f_i_CountFreimanMaps_1_en ((self (i0, p2, p3, h0, h1, h2, h3_0, h3_1)).getD ([], [], 0, [], []))).2)
  | _ => none
theorem f_i_CountFreimanMaps_1_cst (self : (Int × List Sc × List Sc × List Sc × List Sc × Int × List Sc × List Sc) → Option (List Sc × List Sc × Int × List Sc × List Sc)) (hs : ∀ a r, self a = some r → CS Try.prog 66 (f_i_CountFreimanMaps_1_a a.1 a.2.1 a.2.2.1 a.2.2.2.1 a.2.2.2.2.1 a.2.2.2.2.2.1 a.2.2.2.2.2.2.1 a.2.2.2.2.2.2.2) (f_i_CountFreimanMaps_1_i a.1 a.2.1 a.2.2.1 a.2.2.2.1 a.2.2.2.2.1 a.2.2.2.2.2.1 a.2.2.2.2.2.2.1 a.2.2.2.2.2.2.2) (f_i_CountFreimanMaps_1_en r).1 (f_i_CountFreimanMaps_1_en r).2) : CTrue Try.prog 66 (f_i_CountFreimanMaps_1_cs self) := by
  intro args inh rs out h
  unfold f_i_CountFreimanMaps_1_cs at h
  split at h
  · rename_i hd
    obtain ⟨h1, h2⟩ := dec2_enc hd
    rw [← h1, ← h2]
    exact rowC (hs _) h
  · cases h
def f_i_CountFreimanMaps_1_M (self : (Int × List Sc × List Sc × List Sc × List Sc × Int × List Sc × List Sc) → Option (List Sc × List Sc × Int × List Sc × List Sc)) : Calling := addC 66 (f_i_CountFreimanMaps_1_cs self) (addC 67 f_i_keeps_c (addC 53 f_i_OrderOf_c (noC)))
theorem f_i_CountFreimanMaps_1_Mt (self : (Int × List Sc × List Sc × List Sc × List Sc × Int × List Sc × List Sc) → Option (List Sc × List Sc × Int × List Sc × List Sc)) (hs : ∀ a r, self a = some r → CS Try.prog 66 (f_i_CountFreimanMaps_1_a a.1 a.2.1 a.2.2.1 a.2.2.2.1 a.2.2.2.2.1 a.2.2.2.2.2.1 a.2.2.2.2.2.2.1 a.2.2.2.2.2.2.2) (f_i_CountFreimanMaps_1_i a.1 a.2.1 a.2.2.1 a.2.2.2.1 a.2.2.2.2.1 a.2.2.2.2.2.1 a.2.2.2.2.2.2.1 a.2.2.2.2.2.2.2) (f_i_CountFreimanMaps_1_en r).1 (f_i_CountFreimanMaps_1_en r).2) : CallOk Try.prog (f_i_CountFreimanMaps_1_M self) := addC_true (f_i_CountFreimanMaps_1_cst self hs) (addC_true f_i_keeps_cc (addC_true f_i_OrderOf_cc (noC_true)))
theorem f_i_CountFreimanMaps_1_o : loopsOnce Try.f66 = true := by kernel_rfl
def f_i_CountFreimanMaps_1_h0 : List Sh := [.own 3, .own 3, .p (.int .i64), .fn 66 [.pt 0 1, .el, .el, .pt 1 1, .pt 2 1, .pt 3 1], .p (.int .i64), .u, .u, .u, .p (.pt 1 1), .u, .p (.pt 3 1), .u, .u, .u, .u, .u, .u, .u, .u, .u, .u, .u, .u, .u, .u, .p (.int .i64), .p (.int .i64), .u, .u, .u, .u, .u, .u, .u, .u, .u, .u, .u]
def f_i_CountFreimanMaps_1_fr0 (self : (Int × List Sc × List Sc × List Sc × List Sc × Int × List Sc × List Sc) → Option (List Sc × List Sc × Int × List Sc × List Sc)) (i0 : Int) (t21 : Int) (s : List Sc × List Sc × Int × List Sc × List Sc × Int) : List AV := enc f_i_CountFreimanMaps_1_h0 [.l s.1, .l s.2.1, .i s.2.2.1, .l s.2.2.2.1, .l s.2.2.2.2.1, .i i0, .i t21, .i s.2.2.2.2.2]
def f_i_CountFreimanMaps_1_g0_1 : List Sh := [.own 3, .own 3, .p (.int .i64), .fn 66 [.pt 0 1, .el, .el, .pt 1 1, .pt 2 1, .pt 3 1], .u, .u, .u, .u, .u, .u, .u, .u, .u, .u, .u, .u, .u, .u, .u, .u, .u, .u, .u, .u, .u, .u, .u, .u, .u, .u, .u, .u, .u, .u, .u, .u, .u, .u]
def f_i_CountFreimanMaps_1_x0_1 (self : (Int × List Sc × List Sc × List Sc × List Sc × Int × List Sc × List Sc) → Option (List Sc × List Sc × Int × List Sc × List Sc)) (i0 : Int) (t21 : Int) (e : List Sc × List Sc × Int × List Sc × List Sc) : X × List AV := (.out 0, enc f_i_CountFreimanMaps_1_g0_1 [.l e.1, .l e.2.1, .i e.2.2.1, .l e.2.2.2.1, .l e.2.2.2.2])
def f_i_CountFreimanMaps_1_x0_2 (self : (Int × List Sc × List Sc × List Sc × List Sc × Int × List Sc × List Sc) → Option (List Sc × List Sc × Int × List Sc × List Sc)) (i0 : Int) (t21 : Int) (_e : Unit) : X × List AV := (.ret, [])
theorem f_i_CountFreimanMaps_1_p0 {R : Type} (self : (Int × List Sc × List Sc × List Sc × List Sc × Int × List Sc × List Sc) → Option (List Sc × List Sc × Int × List Sc × List Sc)) (i0 : Int) (t21 : Int) (s : List Sc × List Sc × Int × List Sc × List Sc × Int) (kN : List Sc × List Sc × Int × List Sc × List Sc × Int → Option R) (kA : List Sc × List Sc × Int × List Sc × List Sc → Option R) (kB : Unit → Option R) : f_i_CountFreimanMaps_1_k0 self i0 t21 s.1 s.2.1 s.2.2.1 s.2.2.2.1 s.2.2.2.2.1 s.2.2.2.2.2 kN kA = (f_i_CountFreimanMaps_1_r0 self i0 t21 s).bind (Ro.el kN kA kB) := by
  simp only [f_i_CountFreimanMaps_1_k0, f_i_CountFreimanMaps_1_r0, brB, boB, someB, noneB, Ro.el]
theorem f_i_CountFreimanMaps_1_e0 (self : (Int × List Sc × List Sc × List Sc × List Sc × Int × List Sc × List Sc) → Option (List Sc × List Sc × Int × List Sc × List Sc)) (i0 : Int) (t21 : Int) (s : List Sc × List Sc × Int × List Sc × List Sc × Int) : EC E0 (f_i_CountFreimanMaps_1_M self) H0 f_i_CountFreimanMaps_1_F (asL (noL)) 0 (bodyOf Try.f66 0) (f_i_CountFreimanMaps_1_fr0 self i0 t21 s) (done (klOf f_i_CountFreimanMaps_1_F 0)) = f_i_CountFreimanMaps_1_k0 self i0 t21 s.1 s.2.1 s.2.2.1 s.2.2.2.1 s.2.2.2.2.1 s.2.2.2.2.2 (fun s => some (.norm, f_i_CountFreimanMaps_1_fr0 self i0 t21 s)) (fun e => some (f_i_CountFreimanMaps_1_x0_1 self i0 t21 e)) := by kernel_rfl
theorem f_i_CountFreimanMaps_1_l0 (self : (Int × List Sc × List Sc × List Sc × List Sc × Int × List Sc × List Sc) → Option (List Sc × List Sc × Int × List Sc × List Sc)) (hs : ∀ a r, self a = some r → CS Try.prog 66 (f_i_CountFreimanMaps_1_a a.1 a.2.1 a.2.2.1 a.2.2.2.1 a.2.2.2.2.1 a.2.2.2.2.2.1 a.2.2.2.2.2.2.1 a.2.2.2.2.2.2.2) (f_i_CountFreimanMaps_1_i a.1 a.2.1 a.2.2.1 a.2.2.2.1 a.2.2.2.2.1 a.2.2.2.2.2.1 a.2.2.2.2.2.2.1 a.2.2.2.2.2.2.2) (f_i_CountFreimanMaps_1_en r).1 (f_i_CountFreimanMaps_1_en r).2) (i0 : Int) (t21 : Int) : ∀ s r, loopL (f_i_CountFreimanMaps_1_r0 self i0 t21) s = some r → LS Try.prog f_i_CountFreimanMaps_1_F (bodyOf Try.f66 0) (f_i_CountFreimanMaps_1_fr0 self i0 t21 s) (enX (f_i_CountFreimanMaps_1_x0_1 self i0 t21) (f_i_CountFreimanMaps_1_x0_2 self i0 t21) r) :=
  loop_true E0ok (f_i_CountFreimanMaps_1_Mt self hs) (noL_true) f_i_CountFreimanMaps_1_o (fun _ h => by cases h) (fun _ h => by cases h) (fun s => (f_i_CountFreimanMaps_1_e0 self i0 t21 s).trans (f_i_CountFreimanMaps_1_p0 self i0 t21 s _ _ (fun e => some (f_i_CountFreimanMaps_1_x0_2 self i0 t21 e))))
def f_i_CountFreimanMaps_1_t0 (self : (Int × List Sc × List Sc × List Sc × List Sc × Int × List Sc × List Sc) → Option (List Sc × List Sc × Int × List Sc × List Sc)) (σ : List AV) : Option (Bool × Bool × (X × List AV) × (X × List AV)) := match dec f_i_CountFreimanMaps_1_h0 σ with
  | some [.l v0, .l v1, .i v2, .l v3_0, .l v3_1, .i i0, .i t21, .i t22] => some (isOne (loopL (f_i_CountFreimanMaps_1_r0 self i0 t21) (v0, v1, v2, v3_0, v3_1, t22)), true, f_i_CountFreimanMaps_1_x0_1 self i0 t21 (getOne ([], [], 0, [], []) (loopL (f_i_CountFreimanMaps_1_r0 self i0 t21) (v0, v1, v2, v3_0, v3_1, t22))), (.ret, []))
  | _ => none
theorem f_i_CountFreimanMaps_1_tt0 (self : (Int × List Sc × List Sc × List Sc × List Sc × Int × List Sc × List Sc) → Option (List Sc × List Sc × Int × List Sc × List Sc)) (hs : ∀ a r, self a = some r → CS Try.prog 66 (f_i_CountFreimanMaps_1_a a.1 a.2.1 a.2.2.1 a.2.2.2.1 a.2.2.2.2.1 a.2.2.2.2.2.1 a.2.2.2.2.2.2.1 a.2.2.2.2.2.2.2) (f_i_CountFreimanMaps_1_i a.1 a.2.1 a.2.2.1 a.2.2.2.1 a.2.2.2.2.1 a.2.2.2.2.2.1 a.2.2.2.2.2.2.1 a.2.2.2.2.2.2.2) (f_i_CountFreimanMaps_1_en r).1 (f_i_CountFreimanMaps_1_en r).2) : TTrue Try.prog f_i_CountFreimanMaps_1_F Try.f66 0 (f_i_CountFreimanMaps_1_t0 self) := by
  intro σ p r r' h
  unfold f_i_CountFreimanMaps_1_t0 at h
  split at h
  · rename_i hd
    rw [← dec_enc hd]
    exact row1 (f_i_CountFreimanMaps_1_l0 self hs _ _ _) h
  · cases h
theorem f_i_CountFreimanMaps_1_p {R : Type} (self : (Int × List Sc × List Sc × List Sc × List Sc × Int × List Sc × List Sc) → Option (List Sc × List Sc × Int × List Sc × List Sc)) (i0 : Int) (p2 : List Sc) (p3 : List Sc) (h0 : List Sc) (h1 : List Sc) (h2 : Int) (h3_0 : List Sc) (h3_1 : List Sc) (kR : List Sc × List Sc × Int × List Sc × List Sc → Option R) : f_i_CountFreimanMaps_1_k self i0 p2 p3 h0 h1 h2 h3_0 h3_1 kR = (f_i_CountFreimanMaps_1_k self i0 p2 p3 h0 h1 h2 h3_0 h3_1 some).bind kR := by
  simp only [f_i_CountFreimanMaps_1_k, brB, boB, bl1B, someB]
theorem f_i_CountFreimanMaps_1_e (self : (Int × List Sc × List Sc × List Sc × List Sc × Int × List Sc × List Sc) → Option (List Sc × List Sc × Int × List Sc × List Sc)) (i0 : Int) (p2 : List Sc) (p3 : List Sc) (h0 : List Sc) (h1 : List Sc) (h2 : Int) (h3_0 : List Sc) (h3_1 : List Sc) : runFn E0 (f_i_CountFreimanMaps_1_M self) H0 f_i_CountFreimanMaps_1_F (asL (addL 0 (f_i_CountFreimanMaps_1_t0 self) (noL))) Try.f66 (f_i_CountFreimanMaps_1_a i0 p2 p3 h0 h1 h2 h3_0 h3_1) (f_i_CountFreimanMaps_1_i i0 p2 p3 h0 h1 h2 h3_0 h3_1) = f_i_CountFreimanMaps_1_k self i0 p2 p3 h0 h1 h2 h3_0 h3_1 (fun r => some (f_i_CountFreimanMaps_1_en r)) := by kernel_rfl
theorem f_i_CountFreimanMaps_1_ks (self : (Int × List Sc × List Sc × List Sc × List Sc × Int × List Sc × List Sc) → Option (List Sc × List Sc × Int × List Sc × List Sc)) (hs : ∀ a r, self a = some r → CS Try.prog 66 (f_i_CountFreimanMaps_1_a a.1 a.2.1 a.2.2.1 a.2.2.2.1 a.2.2.2.2.1 a.2.2.2.2.2.1 a.2.2.2.2.2.2.1 a.2.2.2.2.2.2.2) (f_i_CountFreimanMaps_1_i a.1 a.2.1 a.2.2.1 a.2.2.2.1 a.2.2.2.2.1 a.2.2.2.2.2.1 a.2.2.2.2.2.2.1 a.2.2.2.2.2.2.2) (f_i_CountFreimanMaps_1_en r).1 (f_i_CountFreimanMaps_1_en r).2) (i0 : Int) (p2 : List Sc) (p3 : List Sc) (h0 : List Sc) (h1 : List Sc) (h2 : Int) (h3_0 : List Sc) (h3_1 : List Sc) (r : List Sc × List Sc × Int × List Sc × List Sc) (h : f_i_CountFreimanMaps_1_k self i0 p2 p3 h0 h1 h2 h3_0 h3_1 some = some r) : CS Try.prog 66 (f_i_CountFreimanMaps_1_a i0 p2 p3 h0 h1 h2 h3_0 h3_1) (f_i_CountFreimanMaps_1_i i0 p2 p3 h0 h1 h2 h3_0 h3_1) (f_i_CountFreimanMaps_1_en r).1 (f_i_CountFreimanMaps_1_en r).2 :=
  fn_true (Gk := fun k => f_i_CountFreimanMaps_1_k self i0 p2 p3 h0 h1 h2 h3_0 h3_1 k) (en := f_i_CountFreimanMaps_1_en) Try.func66 E0ok (f_i_CountFreimanMaps_1_Mt self hs) (addL_true (f_i_CountFreimanMaps_1_tt0 self hs) (noL_true)) f_i_CountFreimanMaps_1_o (f_i_CountFreimanMaps_1_e self i0 p2 p3 h0 h1 h2 h3_0 h3_1) (f_i_CountFreimanMaps_1_p self i0 p2 p3 h0 h1 h2 h3_0 h3_1) h
theorem f_i_CountFreimanMaps_1_ns : ∀ n a r, f_i_CountFreimanMaps_1_n n a = some r → CS Try.prog 66 (f_i_CountFreimanMaps_1_a a.1 a.2.1 a.2.2.1 a.2.2.2.1 a.2.2.2.2.1 a.2.2.2.2.2.1 a.2.2.2.2.2.2.1 a.2.2.2.2.2.2.2) (f_i_CountFreimanMaps_1_i a.1 a.2.1 a.2.2.1 a.2.2.2.1 a.2.2.2.2.1 a.2.2.2.2.2.1 a.2.2.2.2.2.2.1 a.2.2.2.2.2.2.2) (f_i_CountFreimanMaps_1_en r).1 (f_i_CountFreimanMaps_1_en r).2
  | 0, _, _, h => by cases h
  | n + 1, a, r, h => f_i_CountFreimanMaps_1_ks (f_i_CountFreimanMaps_1_n n) (f_i_CountFreimanMaps_1_ns n) a.1 a.2.1 a.2.2.1 a.2.2.2.1 a.2.2.2.2.1 a.2.2.2.2.2.1 a.2.2.2.2.2.2.1 a.2.2.2.2.2.2.2 r h
theorem f_i_CountFreimanMaps_1_ok (i0 : Int) (p2 : List Sc) (p3 : List Sc) (h0 : List Sc) (h1 : List Sc) (h2 : Int) (h3_0 : List Sc) (h3_1 : List Sc) (r : List Sc × List Sc × Int × List Sc × List Sc) (h : f_i_CountFreimanMaps_1 i0 p2 p3 h0 h1 h2 h3_0 h3_1 = some r) : CS Try.prog 66 (f_i_CountFreimanMaps_1_a i0 p2 p3 h0 h1 h2 h3_0 h3_1) (f_i_CountFreimanMaps_1_i i0 p2 p3 h0 h1 h2 h3_0 h3_1) (f_i_CountFreimanMaps_1_en r).1 (f_i_CountFreimanMaps_1_en r).2 := by
  obtain ⟨n, hn⟩ := limF_some h
  exact f_i_CountFreimanMaps_1_ns n _ r hn
def f_i_CountFreimanMaps_1_c : CRow := fun args inh => match dec2 [.p (.int .i64), .p (.pt 0 1), .p .el, .p .el, .p (.pt 1 1), .p (.pt 2 1), .p (.pt 3 1)] [.own 3, .own 3, .p (.int .i64), .fn 66 [.pt 0 1, .el, .el, .pt 1 1, .pt 2 1, .pt 3 1]] args inh with
  | some ([.i i0, .l p2, .l p3], [.l h0, .l h1, .i h2, .l h3_0, .l h3_1]) => some ((f_i_CountFreimanMaps_1 i0 p2 p3 h0 h1 h2 h3_0 h3_1).isSome, (f_i_CountFreimanMaps_1_en ((f_i_CountFreimanMaps_1 i0 p2 p3 h0 h1 h2 h3_0 h3_1).getD ([], [], 0, [], []))).1, (f_i_CountFreimanMaps_1_en ((f_i_CountFreimanMaps_1 i0 p2 p3 h0 h1 h2 h3_0 h3_1).getD ([], [], 0, [], []))).2)
  | _ => none
theorem f_i_CountFreimanMaps_1_cc : CTrue Try.prog 66 f_i_CountFreimanMaps_1_c := by
  intro args inh rs out h
  unfold f_i_CountFreimanMaps_1_c at h
  split at h
  · rename_i hd
    obtain ⟨h1, h2⟩ := dec2_enc hd
    rw [← h1, ← h2]
    exact rowC (f_i_CountFreimanMaps_1_ok _ _ _ _ _ _ _ _) h
  · cases h

def f_i_CountFreimanMaps_F : Fi := { nv := 4, nc := 4, m := 0, vt := [(7, 0), (8, 1), (9, 2), (10, 3)], kl := [], sk := [], mvs := [], fz := [] }
def f_i_CountFreimanMaps_a (g0 : List Sc) (h1 : List Sc) (a2 : Int) : List AV := enc [.p .gr, .p .gr, .p (.int .i64)] [.l g0, .l h1, .i a2]
def f_i_CountFreimanMaps_i (g0 : List Sc) (h1 : List Sc) (a2 : Int) : List AV := enc [] []
def f_i_CountFreimanMaps_en (r : Int) : List AV × List AV := (enc [.p (.int .i64)] [.i r], enc [] [])
def f_i_CountFreimanMaps_M : Calling := addC 63 f_i_IsSet_c (addC 64 f_i_bits_c (addC 54 f_i_within_c (addC 53 f_i_OrderOf_c (addC 65 f_i_members_c (addC 66 f_i_CountFreimanMaps_1_c (noC))))))
theorem f_i_CountFreimanMaps_Mt : CallOk Try.prog (f_i_CountFreimanMaps_M) := addC_true f_i_IsSet_cc (addC_true f_i_bits_cc (addC_true f_i_within_cc (addC_true f_i_OrderOf_cc (addC_true f_i_members_cc (addC_true f_i_CountFreimanMaps_1_cc (noC_true))))))
theorem f_i_CountFreimanMaps_o : loopsOnce Try.f29 = true := by kernel_rfl
theorem f_i_CountFreimanMaps_p {R : Type} (g0 : List Sc) (h1 : List Sc) (a2 : Int) (kR : Int → Option R) : f_i_CountFreimanMaps_k g0 h1 a2 kR = (f_i_CountFreimanMaps_k g0 h1 a2 some).bind kR := by
  simp only [f_i_CountFreimanMaps_k, brB, boB, someB, noneB]
theorem f_i_CountFreimanMaps_e (g0 : List Sc) (h1 : List Sc) (a2 : Int) : runFn E0 f_i_CountFreimanMaps_M H0 f_i_CountFreimanMaps_F (asL (noL)) Try.f29 (f_i_CountFreimanMaps_a g0 h1 a2) (f_i_CountFreimanMaps_i g0 h1 a2) = f_i_CountFreimanMaps_k g0 h1 a2 (fun r => some (f_i_CountFreimanMaps_en r)) := by kernel_rfl
theorem f_i_CountFreimanMaps_ok (g0 : List Sc) (h1 : List Sc) (a2 : Int) (r : Int) (h : f_i_CountFreimanMaps g0 h1 a2 = some r) : CS Try.prog 29 (f_i_CountFreimanMaps_a g0 h1 a2) (f_i_CountFreimanMaps_i g0 h1 a2) (f_i_CountFreimanMaps_en r).1 (f_i_CountFreimanMaps_en r).2 :=
  fn_true (Gk := fun k => f_i_CountFreimanMaps_k g0 h1 a2 k) (en := f_i_CountFreimanMaps_en) Try.func29 E0ok f_i_CountFreimanMaps_Mt (noL_true) f_i_CountFreimanMaps_o (f_i_CountFreimanMaps_e g0 h1 a2) (f_i_CountFreimanMaps_p g0 h1 a2) h
def f_i_CountFreimanMaps_c : CRow := fun args inh => match dec2 [.p .gr, .p .gr, .p (.int .i64)] [] args inh with
  | some ([.l g0, .l h1, .i a2], []) => some ((f_i_CountFreimanMaps g0 h1 a2).isSome, (f_i_CountFreimanMaps_en ((f_i_CountFreimanMaps g0 h1 a2).getD 0)).1, (f_i_CountFreimanMaps_en ((f_i_CountFreimanMaps g0 h1 a2).getD 0)).2)
  | _ => none
theorem f_i_CountFreimanMaps_cc : CTrue Try.prog 29 f_i_CountFreimanMaps_c := by
  intro args inh rs out h
  unfold f_i_CountFreimanMaps_c at h
  split at h
  · rename_i hd
    obtain ⟨h1, h2⟩ := dec2_enc hd
    rw [← h1, ← h2]
    exact rowC (f_i_CountFreimanMaps_ok _ _ _) h
  · cases h

def f_l_FnExactCountFreimanMaps_F : Fi := { nv := 4, nc := 2, m := 0, vt := [(9, 0), (10, 1), (29, 2), (31, 3)], kl := [], sk := [], mvs := [2, 3], fz := [] }
def f_l_FnExactCountFreimanMaps_a (aG0 : List Sc) (aH1 : List Sc) (aA2 : Int) : List AV := enc [.p .gr, .p .gr, .p (.int .i64)] [.l aG0, .l aH1, .i aA2]
def f_l_FnExactCountFreimanMaps_i (aG0 : List Sc) (aH1 : List Sc) (aA2 : Int) : List AV := enc [] []
def f_l_FnExactCountFreimanMaps_en (r : Bool) : List AV × List AV := (enc [.p .boo] [.b r], enc [] [])
def f_l_FnExactCountFreimanMaps_M : Calling := addC 15 f_l_szGroup_c (addC 17 f_l_toGroup_c (addC 28 f_s_CountFreimanMaps_c (addC 29 f_i_CountFreimanMaps_c (addC 19 f_l_eqGroup_c (noC)))))
theorem f_l_FnExactCountFreimanMaps_Mt : CallOk Try.prog (f_l_FnExactCountFreimanMaps_M) := addC_true f_l_szGroup_cc (addC_true f_l_toGroup_cc (addC_true f_s_CountFreimanMaps_cc (addC_true f_i_CountFreimanMaps_cc (addC_true f_l_eqGroup_cc (noC_true)))))
theorem f_l_FnExactCountFreimanMaps_o : loopsOnce Try.f6 = true := by kernel_rfl
theorem f_l_FnExactCountFreimanMaps_p {R : Type} (aG0 : List Sc) (aH1 : List Sc) (aA2 : Int) (kR : Bool → Option R) : f_l_FnExactCountFreimanMaps_k aG0 aH1 aA2 kR = (f_l_FnExactCountFreimanMaps_k aG0 aH1 aA2 some).bind kR := by
  simp only [f_l_FnExactCountFreimanMaps_k, brB, boB, someB]
theorem f_l_FnExactCountFreimanMaps_e (aG0 : List Sc) (aH1 : List Sc) (aA2 : Int) : runFn E0 f_l_FnExactCountFreimanMaps_M H0 f_l_FnExactCountFreimanMaps_F (asL (noL)) Try.f6 (f_l_FnExactCountFreimanMaps_a aG0 aH1 aA2) (f_l_FnExactCountFreimanMaps_i aG0 aH1 aA2) = f_l_FnExactCountFreimanMaps_k aG0 aH1 aA2 (fun r => some (f_l_FnExactCountFreimanMaps_en r)) := by kernel_rfl
theorem f_l_FnExactCountFreimanMaps_ok (aG0 : List Sc) (aH1 : List Sc) (aA2 : Int) (r : Bool) (h : f_l_FnExactCountFreimanMaps aG0 aH1 aA2 = some r) : CS Try.prog 6 (f_l_FnExactCountFreimanMaps_a aG0 aH1 aA2) (f_l_FnExactCountFreimanMaps_i aG0 aH1 aA2) (f_l_FnExactCountFreimanMaps_en r).1 (f_l_FnExactCountFreimanMaps_en r).2 :=
  fn_true (Gk := fun k => f_l_FnExactCountFreimanMaps_k aG0 aH1 aA2 k) (en := f_l_FnExactCountFreimanMaps_en) Try.func6 E0ok f_l_FnExactCountFreimanMaps_Mt (noL_true) f_l_FnExactCountFreimanMaps_o (f_l_FnExactCountFreimanMaps_e aG0 aH1 aA2) (f_l_FnExactCountFreimanMaps_p aG0 aH1 aA2) h
def f_l_FnExactCountFreimanMaps_c : CRow := fun args inh => match dec2 [.p .gr, .p .gr, .p (.int .i64)] [] args inh with
  | some ([.l aG0, .l aH1, .i aA2], []) => some ((f_l_FnExactCountFreimanMaps aG0 aH1 aA2).isSome, (f_l_FnExactCountFreimanMaps_en ((f_l_FnExactCountFreimanMaps aG0 aH1 aA2).getD false)).1, (f_l_FnExactCountFreimanMaps_en ((f_l_FnExactCountFreimanMaps aG0 aH1 aA2).getD false)).2)
  | _ => none
theorem f_l_FnExactCountFreimanMaps_cc : CTrue Try.prog 6 f_l_FnExactCountFreimanMaps_c := by
  intro args inh rs out h
  unfold f_l_FnExactCountFreimanMaps_c at h
  split at h
  · rename_i hd
    obtain ⟨h1, h2⟩ := dec2_enc hd
    rw [← h1, ← h2]
    exact rowC (f_l_FnExactCountFreimanMaps_ok _ _ _) h
  · cases h

def f_s_l2Negate_F : Fi := { nv := 0, nc := 0, m := 0, vt := [], kl := [(0, ([0, 3, 4, 8, 9, 10, 11, 12, 13, 14, 15, 16, 17, 18, 19, 20, 21, 22, 23, 24, 25, 26, 27, 28, 29, 30, 31, 32, 33, 34, 35, 36, 37, 38], [0, 1, 2, 3, 4, 6, 7, 8, 9, 10, 11, 12, 13, 14, 15, 16, 17, 18, 19, 20, 21, 22, 23, 24, 25, 26, 27, 28, 29, 30, 31, 32, 33, 34, 35, 36, 37, 38], [0, 1, 2, 3, 5, 6, 7, 8, 9, 10, 11, 12, 13, 14, 15, 16, 17, 18, 19, 20, 21, 22, 23, 24, 25, 26, 27, 28, 29, 30, 31, 32, 33, 34, 35, 36, 37, 38]))], sk := [], mvs := [], fz := [] }
def f_s_l2Negate_a (g0 : List Sc) (x1 : Int) : List AV := enc [.p .gr, .p (.int .i64)] [.l g0, .i x1]
def f_s_l2Negate_i (g0 : List Sc) (x1 : Int) : List AV := enc [] []
def f_s_l2Negate_en (r : Int) : List AV × List AV := (enc [.p (.int .i64)] [.i r], enc [] [])
def f_s_l2Negate_M : Calling := noC
theorem f_s_l2Negate_Mt : CallOk Try.prog (f_s_l2Negate_M) := noC_true
theorem f_s_l2Negate_o : loopsOnce Try.f72 = true := by kernel_rfl
def f_s_l2Negate_h0 : List Sh := [.u, .p (.int .i64), .p .el, .u, .u, .p (.int .i64), .p (.int .i64), .p (.int .i64), .u, .u, .u, .u, .u, .u, .u, .u, .u, .u, .u, .u, .u, .u, .u, .u, .u, .u, .u, .u, .u, .u, .u, .u, .u, .u, .u, .u, .u, .u, .u]
def f_s_l2Negate_fr0 (g2 : List Sc) (s : Int × Int × Int × Int) : List AV := enc f_s_l2Negate_h0 [.i s.1, .l g2, .i s.2.1, .i s.2.2.1, .i s.2.2.2]
def f_s_l2Negate_g0_1 : List Sh := [.u, .u, .u, .u, .u, .p (.int .i64), .u, .u, .u, .u, .u, .u, .u, .u, .u, .u, .u, .u, .u, .u, .u, .u, .u, .u, .u, .u, .u, .u, .u, .u, .u, .u, .u, .u, .u, .u, .u, .u, .u]
def f_s_l2Negate_x0_1 (g2 : List Sc) (e : Int) : X × List AV := (.out 0, enc f_s_l2Negate_g0_1 [.i e])
def f_s_l2Negate_x0_2 (g2 : List Sc) (_e : Unit) : X × List AV := (.ret, [])
theorem f_s_l2Negate_p0 {R : Type} (g2 : List Sc) (s : Int × Int × Int × Int) (kN : Int × Int × Int × Int → Option R) (kA : Int → Option R) (kB : Unit → Option R) : f_s_l2Negate_k0 g2 s.1 s.2.1 s.2.2.1 s.2.2.2 kN kA = (f_s_l2Negate_r0 g2 s).bind (Ro.el kN kA kB) := by
  simp only [f_s_l2Negate_k0, f_s_l2Negate_r0, brB, someB, noneB, Ro.el]
theorem f_s_l2Negate_e0 (g2 : List Sc) (s : Int × Int × Int × Int) : EC E0 f_s_l2Negate_M H0 f_s_l2Negate_F (asL (noL)) 0 (bodyOf Try.f72 0) (f_s_l2Negate_fr0 g2 s) (done (klOf f_s_l2Negate_F 0)) = f_s_l2Negate_k0 g2 s.1 s.2.1 s.2.2.1 s.2.2.2 (fun s => some (.norm, f_s_l2Negate_fr0 g2 s)) (fun e => some (f_s_l2Negate_x0_1 g2 e)) := by kernel_rfl
theorem f_s_l2Negate_l0 (g2 : List Sc) : ∀ s r, loopL (f_s_l2Negate_r0 g2) s = some r → LS Try.prog f_s_l2Negate_F (bodyOf Try.f72 0) (f_s_l2Negate_fr0 g2 s) (enX (f_s_l2Negate_x0_1 g2) (f_s_l2Negate_x0_2 g2) r) :=
  loop_true E0ok f_s_l2Negate_Mt (noL_true) f_s_l2Negate_o (fun _ h => by cases h) (fun _ h => by cases h) (fun s => (f_s_l2Negate_e0 g2 s).trans (f_s_l2Negate_p0 g2 s _ _ (fun e => some (f_s_l2Negate_x0_2 g2 e))))
def f_s_l2Negate_t0 (σ : List AV) : Option (Bool × Bool × (X × List AV) × (X × List AV)) := match dec f_s_l2Negate_h0 σ with
  | some [.i x1, .l g2, .i z5, .i step6, .i i7] => some (isOne (loopL (f_s_l2Negate_r0 g2) (x1, z5, step6, i7)), true, f_s_l2Negate_x0_1 g2 (getOne 0 (loopL (f_s_l2Negate_r0 g2) (x1, z5, step6, i7))), (.ret, []))
  | _ => none
theorem f_s_l2Negate_tt0 : TTrue Try.prog f_s_l2Negate_F Try.f72 0 (f_s_l2Negate_t0) := by
  intro σ p r r' h
  unfold f_s_l2Negate_t0 at h
  split at h
  · rename_i hd
    rw [← dec_enc hd]
    exact row1 (f_s_l2Negate_l0 _ _) h
  · cases h
theorem f_s_l2Negate_p {R : Type} (g0 : List Sc) (x1 : Int) (kR : Int → Option R) : f_s_l2Negate_k g0 x1 kR = (f_s_l2Negate_k g0 x1 some).bind kR := by
  simp only [f_s_l2Negate_k, bl1B, someB]
theorem f_s_l2Negate_e (g0 : List Sc) (x1 : Int) : runFn E0 f_s_l2Negate_M H0 f_s_l2Negate_F (asL (addL 0 (f_s_l2Negate_t0) (noL))) Try.f72 (f_s_l2Negate_a g0 x1) (f_s_l2Negate_i g0 x1) = f_s_l2Negate_k g0 x1 (fun r => some (f_s_l2Negate_en r)) := by kernel_rfl
theorem f_s_l2Negate_ok (g0 : List Sc) (x1 : Int) (r : Int) (h : f_s_l2Negate g0 x1 = some r) : CS Try.prog 72 (f_s_l2Negate_a g0 x1) (f_s_l2Negate_i g0 x1) (f_s_l2Negate_en r).1 (f_s_l2Negate_en r).2 :=
  fn_true (Gk := fun k => f_s_l2Negate_k g0 x1 k) (en := f_s_l2Negate_en) Try.func72 E0ok f_s_l2Negate_Mt (addL_true (f_s_l2Negate_tt0) (noL_true)) f_s_l2Negate_o (f_s_l2Negate_e g0 x1) (f_s_l2Negate_p g0 x1) h
def f_s_l2Negate_c : CRow := fun args inh => match dec2 [.p .gr, .p (.int .i64)] [] args inh with
  | some ([.l g0, .i x1], []) => some ((f_s_l2Negate g0 x1).isSome, (f_s_l2Negate_en ((f_s_l2Negate g0 x1).getD 0)).1, (f_s_l2Negate_en ((f_s_l2Negate g0 x1).getD 0)).2)
  | _ => none
theorem f_s_l2Negate_cc : CTrue Try.prog 72 f_s_l2Negate_c := by
  intro args inh rs out h
  unfold f_s_l2Negate_c at h
  split at h
  · rename_i hd
    obtain ⟨h1, h2⟩ := dec2_enc hd
    rw [← h1, ← h2]
    exact rowC (f_s_l2Negate_ok _ _) h
  · cases h

def f_s_l20Search_F : Fi := { nv := 0, nc := 0, m := 0, vt := [], kl := [(2, ([0, 7, 8, 9, 10, 11, 12, 17, 18, 19, 20, 21, 22, 23, 24, 25, 26, 27, 28, 29, 30, 31, 32, 33, 34, 35, 36, 37, 38, 39, 40, 41, 42, 43, 44, 45, 46, 47, 48, 49, 50, 51, 52, 53, 54, 55, 56, 57, 58, 59, 60, 61, 62, 63, 64, 65, 66, 67, 68, 69, 70, 71, 72, 73, 74, 75, 76, 77, 78, 79, 80], [0, 1, 2, 3, 4, 5, 6, 7, 8, 9, 10, 11, 12, 13, 15, 16, 17, 18, 19, 20, 21, 22, 23, 24, 25, 26, 27, 28, 29, 30, 31, 32, 33, 34, 35, 36, 37, 38, 39, 40, 41, 42, 43, 44, 45, 46, 47, 48, 49, 50, 51, 52, 53, 54, 55, 56, 57, 58, 59, 60, 61, 62, 63, 64, 65, 66, 67, 68, 69, 70, 71, 72, 73, 74, 75, 76, 77, 78, 79, 80], [0, 1, 2, 3, 4, 5, 6, 7, 8, 9, 10, 11, 13, 14, 15, 16, 17, 18, 19, 20, 21, 22, 23, 24, 25, 26, 27, 28, 29, 30, 31, 32, 33, 34, 35, 36, 37, 38, 39, 40, 41, 42, 43, 44, 45, 46, 47, 48, 49, 50, 51, 52, 53, 54, 55, 56, 57, 58, 59, 60, 61, 62, 63, 64, 65, 66, 67, 68, 69, 70, 71, 72, 73, 74, 75, 76, 77, 78, 79, 80])), (0, ([0, 7, 8, 9, 10, 11, 12, 14, 15, 16, 17, 18, 19, 20, 21, 22, 23, 24, 25, 26, 27, 28, 29, 30, 31, 32, 33, 34, 35, 36, 37, 38, 39, 40, 41, 42, 43, 44, 45, 46, 47, 48, 49, 50, 51, 52, 53, 54, 55, 56, 57, 58, 59, 60, 61, 62, 63, 64, 65, 66, 67, 68, 69, 70, 71, 72, 73, 74, 75, 76, 77, 78, 79, 80], [0, 7, 8, 9, 10, 11, 12, 14, 15, 16, 17, 18, 19, 20, 21, 22, 23, 24, 25, 26, 27, 28, 29, 30, 31, 32, 33, 34, 35, 36, 37, 38, 39, 40, 41, 42, 43, 44, 45, 46, 47, 48, 49, 50, 51, 52, 53, 54, 55, 56, 57, 58, 59, 60, 61, 62, 63, 64, 65, 66, 67, 68, 69, 70, 71, 72, 73, 74, 75, 76, 77, 78, 79, 80], [0, 1, 2, 3, 4, 5, 6, 7, 8, 9, 10, 11, 13, 14, 15, 16, 17, 18, 19, 20, 21, 22, 23, 24, 25, 26, 27, 28, 29, 30, 31, 32, 33, 34, 35, 36, 37, 38, 39, 40, 41, 42, 43, 44, 45, 46, 47, 48, 49, 50, 51, 52, 53, 54, 55, 56, 57, 58, 59, 60, 61, 62, 63, 64, 65, 66, 67, 68, 69, 70, 71, 72, 73, 74, 75, 76, 77, 78, 79, 80]))], sk := [], mvs := [], fz := [] }
def f_s_l20Search_a (L0 : List Sc) (p1 : Int) (p2 : Int) (p3 : Int) (p4 : Int) (p5 : Int) : List AV := enc [.p .gr, .p (.int .i64), .p (.int .i64), .p (.int .i64), .p (.int .i64), .p (.int .i64)] [.l L0, .i p1, .i p2, .i p3, .i p4, .i p5]
def f_s_l20Search_i (L0 : List Sc) (p1 : Int) (p2 : Int) (p3 : Int) (p4 : Int) (p5 : Int) : List AV := enc [] []
def f_s_l20Search_en (r : List Sc) : List AV × List AV := (enc [.p (.al 0)] [], enc [.own 3] [.l r])
def f_s_l20Search_cs (self : (List Sc × Int × Int × Int × Int × Int) → Option (List Sc)) : CRow := fun args inh => match dec2 [.p .gr, .p (.int .i64), .p (.int .i64), .p (.int .i64), .p (.int .i64), .p (.int .i64)] [] args inh with
  | some ([.l L0, .i p1, .i p2, .i p3, .i p4, .i p5], []) => some ((self (L0, p1, p2, p3, p4, p5)).isSome, (f_s_l20Search_en ((self (L0, p1, p2, p3, p4, p5)).getD [])).1, (f_s_l20Search_en ((self (L0, p1, p2, p3, p4, p5)).getD [])).2)
  | _ => none
theorem f_s_l20Search_cst (self : (List Sc × Int × Int × Int × Int × Int) → Option (List Sc)) (hs : ∀ a r, self a = some r → CS Try.prog 68 (f_s_l20Search_a a.1 a.2.1 a.2.2.1 a.2.2.2.1 a.2.2.2.2.1 a.2.2.2.2.2) (f_s_l20Search_i a.1 a.2.1 a.2.2.1 a.2.2.2.1 a.2.2.2.2.1 a.2.2.2.2.2) (f_s_l20Search_en r).1 (f_s_l20Search_en r).2) : CTrue Try.prog 68 (f_s_l20Search_cs self) := by
  intro args inh rs out h
  unfold f_s_l20Search_cs at h
  split at h
  · rename_i hd
    obtain ⟨h1, h2⟩ := dec2_enc hd
    rw [← h1, ← h2]
    exact rowC (hs _) h
  · cases h
def f_s_l20Search_M (self : (List Sc × Int × Int × Int × Int × Int) → Option (List Sc)) : Calling := addC 68 (f_s_l20Search_cs self) (addC 62 f_s_l3List_c (addC 72 f_s_l2Negate_c (addC 71 f_s_l2Add_c (addC 90 f_s_l3Shift_c (noC)))))
theorem f_s_l20Search_Mt (self : (List Sc × Int × Int × Int × Int × Int) → Option (List Sc)) (hs : ∀ a r, self a = some r → CS Try.prog 68 (f_s_l20Search_a a.1 a.2.1 a.2.2.1 a.2.2.2.1 a.2.2.2.2.1 a.2.2.2.2.2) (f_s_l20Search_i a.1 a.2.1 a.2.2.1 a.2.2.2.1 a.2.2.2.2.1 a.2.2.2.2.2) (f_s_l20Search_en r).1 (f_s_l20Search_en r).2) : CallOk Try.prog (f_s_l20Search_M self) := addC_true (f_s_l20Search_cst self hs) (addC_true f_s_l3List_cc (addC_true f_s_l2Negate_cc (addC_true f_s_l2Add_cc (addC_true f_s_l3Shift_cc (noC_true)))))
theorem f_s_l20Search_o : loopsOnce Try.f68 = true := by kernel_rfl
def f_s_l20Search_h0 : List Sh := [.u, .p (.int .i64), .p (.int .i64), .p (.int .i64), .p (.int .i64), .p (.int .i64), .p .el, .u, .u, .u, .u, .u, .u, .p (.int .i64), .u, .u, .u, .u, .u, .u, .u, .u, .u, .u, .u, .u, .u, .u, .u, .u, .u, .u, .u, .u, .u, .u, .u, .u, .u, .u, .u, .u, .u, .u, .u, .u, .u, .u, .u, .u, .u, .u, .u, .u, .u, .u, .u, .u, .u, .u, .u, .u, .u, .u, .u, .u, .u, .u, .u, .u, .u, .u, .u, .u, .u, .u, .u, .u, .u, .u, .u]
def f_s_l20Search_fr0 (self : (List Sc × Int × Int × Int × Int × Int) → Option (List Sc)) (t1 : Int) (t2 : Int) (t3 : Int) (t4 : Int) (t5 : Int) (t6 : List Sc) (s : Int) : List AV := enc f_s_l20Search_h0 [.i t1, .i t2, .i t3, .i t4, .i t5, .l t6, .i s]
def f_s_l20Search_g0_1 : List Sh := [.u, .p (.int .i64), .p (.int .i64), .p (.int .i64), .p (.int .i64), .p (.int .i64), .p .el, .u, .u, .u, .u, .u, .u, .p (.int .i64), .u, .u, .u, .u, .u, .u, .u, .u, .u, .u, .u, .u, .u, .u, .u, .u, .u, .u, .u, .u, .u, .u, .u, .u, .u, .u, .u, .u, .u, .u, .u, .u, .u, .u, .u, .u, .u, .u, .u, .u, .u, .u, .u, .u, .u, .u, .u, .u, .u, .u, .u, .u, .u, .u, .u, .u, .u, .u, .u, .u, .u, .u, .u, .u, .u, .u, .u]
def f_s_l20Search_x0_1 (self : (List Sc × Int × Int × Int × Int × Int) → Option (List Sc)) (t1 : Int) (t2 : Int) (t3 : Int) (t4 : Int) (t5 : Int) (t6 : List Sc) (e : Int) : X × List AV := (.out 0, enc f_s_l20Search_g0_1 [.i t1, .i t2, .i t3, .i t4, .i t5, .l t6, .i e])
def f_s_l20Search_x0_2 (self : (List Sc × Int × Int × Int × Int × Int) → Option (List Sc)) (t1 : Int) (t2 : Int) (t3 : Int) (t4 : Int) (t5 : Int) (t6 : List Sc) (_e : Unit) : X × List AV := (.ret, [])
theorem f_s_l20Search_p0 {R : Type} (self : (List Sc × Int × Int × Int × Int × Int) → Option (List Sc)) (t1 : Int) (t2 : Int) (t3 : Int) (t4 : Int) (t5 : Int) (t6 : List Sc) (s : Int) (kN : Int → Option R) (kA : Int → Option R) (kB : Unit → Option R) : f_s_l20Search_k0 self t1 t2 t3 t4 t5 t6 s kN kA = (f_s_l20Search_r0 self t1 t2 t3 t4 t5 t6 s).bind (Ro.el kN kA kB) := by
  simp only [f_s_l20Search_k0, f_s_l20Search_r0, brB, someB, noneB, Ro.el]
theorem f_s_l20Search_e0 (self : (List Sc × Int × Int × Int × Int × Int) → Option (List Sc)) (t1 : Int) (t2 : Int) (t3 : Int) (t4 : Int) (t5 : Int) (t6 : List Sc) (s : Int) : EC E0 (f_s_l20Search_M self) H0 f_s_l20Search_F (asL (noL)) 0 (bodyOf Try.f68 0) (f_s_l20Search_fr0 self t1 t2 t3 t4 t5 t6 s) (done (klOf f_s_l20Search_F 0)) = f_s_l20Search_k0 self t1 t2 t3 t4 t5 t6 s (fun s => some (.norm, f_s_l20Search_fr0 self t1 t2 t3 t4 t5 t6 s)) (fun e => some (f_s_l20Search_x0_1 self t1 t2 t3 t4 t5 t6 e)) := by kernel_rfl
theorem f_s_l20Search_l0 (self : (List Sc × Int × Int × Int × Int × Int) → Option (List Sc)) (hs : ∀ a r, self a = some r → CS Try.prog 68 (f_s_l20Search_a a.1 a.2.1 a.2.2.1 a.2.2.2.1 a.2.2.2.2.1 a.2.2.2.2.2) (f_s_l20Search_i a.1 a.2.1 a.2.2.1 a.2.2.2.1 a.2.2.2.2.1 a.2.2.2.2.2) (f_s_l20Search_en r).1 (f_s_l20Search_en r).2) (t1 : Int) (t2 : Int) (t3 : Int) (t4 : Int) (t5 : Int) (t6 : List Sc) : ∀ s r, loopL (f_s_l20Search_r0 self t1 t2 t3 t4 t5 t6) s = some r → LS Try.prog f_s_l20Search_F (bodyOf Try.f68 0) (f_s_l20Search_fr0 self t1 t2 t3 t4 t5 t6 s) (enX (f_s_l20Search_x0_1 self t1 t2 t3 t4 t5 t6) (f_s_l20Search_x0_2 self t1 t2 t3 t4 t5 t6) r) :=
  loop_true E0ok (f_s_l20Search_Mt self hs) (noL_true) f_s_l20Search_o (fun _ h => by cases h) (fun _ h => by cases h) (fun s => (f_s_l20Search_e0 self t1 t2 t3 t4 t5 t6 s).trans (f_s_l20Search_p0 self t1 t2 t3 t4 t5 t6 s _ _ (fun e => some (f_s_l20Search_x0_2 self t1 t2 t3 t4 t5 t6 e))))
def f_s_l20Search_t0 (self : (List Sc × Int × Int × Int × Int × Int) → Option (List Sc)) (σ : List AV) : Option (Bool × Bool × (X × List AV) × (X × List AV)) := match dec f_s_l20Search_h0 σ with
  | some [.i t1, .i t2, .i t3, .i t4, .i t5, .l t6, .i t13] => some (isOne (loopL (f_s_l20Search_r0 self t1 t2 t3 t4 t5 t6) t13), true, f_s_l20Search_x0_1 self t1 t2 t3 t4 t5 t6 (getOne 0 (loopL (f_s_l20Search_r0 self t1 t2 t3 t4 t5 t6) t13)), (.ret, []))
  | _ => none
theorem f_s_l20Search_tt0 (self : (List Sc × Int × Int × Int × Int × Int) → Option (List Sc)) (hs : ∀ a r, self a = some r → CS Try.prog 68 (f_s_l20Search_a a.1 a.2.1 a.2.2.1 a.2.2.2.1 a.2.2.2.2.1 a.2.2.2.2.2) (f_s_l20Search_i a.1 a.2.1 a.2.2.1 a.2.2.2.1 a.2.2.2.2.1 a.2.2.2.2.2) (f_s_l20Search_en r).1 (f_s_l20Search_en r).2) : TTrue Try.prog f_s_l20Search_F Try.f68 0 (f_s_l20Search_t0 self) := by
  intro σ p r r' h
  unfold f_s_l20Search_t0 at h
  split at h
  · rename_i hd
    rw [← dec_enc hd]
    exact row1 (f_s_l20Search_l0 self hs _ _ _ _ _ _ _) h
  · cases h
def f_s_l20Search_h2 : List Sh := [.u, .p (.int .i64), .p (.int .i64), .p (.int .i64), .p (.int .i64), .p (.int .i64), .p .el, .u, .u, .u, .u, .u, .u, .p (.int .i64), .own 3, .own 3, .p (.int .i64), .u, .u, .u, .u, .u, .u, .u, .u, .u, .u, .u, .u, .u, .u, .u, .u, .u, .u, .u, .u, .u, .u, .u, .u, .u, .u, .u, .u, .u, .u, .u, .u, .u, .u, .u, .u, .u, .u, .u, .u, .u, .u, .u, .u, .u, .u, .u, .u, .u, .u, .u, .u, .u, .u, .u, .u, .u, .u, .u, .u, .u, .u, .u, .u]
def f_s_l20Search_fr2 (self : (List Sc × Int × Int × Int × Int × Int) → Option (List Sc)) (t1 : Int) (t2 : Int) (t3 : Int) (t4 : Int) (t5 : Int) (t6 : List Sc) (t13 : Int) (s : List Sc × List Sc × Int) : List AV := enc f_s_l20Search_h2 [.i t1, .i t2, .i t3, .i t4, .i t5, .l t6, .i t13, .l s.1, .l s.2.1, .i s.2.2]
def f_s_l20Search_g2_1 : List Sh := [.u, .u, .u, .u, .u, .u, .u, .u, .u, .u, .u, .u, .u, .u, .own 3, .u, .u, .u, .u, .u, .u, .u, .u, .u, .u, .u, .u, .u, .u, .u, .u, .u, .u, .u, .u, .u, .u, .u, .u, .u, .u, .u, .u, .u, .u, .u, .u, .u, .u, .u, .u, .u, .u, .u, .u, .u, .u, .u, .u, .u, .u, .u, .u, .u, .u, .u, .u, .u, .u, .u, .u, .u, .u, .u, .u, .u, .u, .u, .u, .u, .u]
def f_s_l20Search_x2_1 (self : (List Sc × Int × Int × Int × Int × Int) → Option (List Sc)) (t1 : Int) (t2 : Int) (t3 : Int) (t4 : Int) (t5 : Int) (t6 : List Sc) (t13 : Int) (e : List Sc) : X × List AV := (.out 2, enc f_s_l20Search_g2_1 [.l e])
def f_s_l20Search_x2_2 (self : (List Sc × Int × Int × Int × Int × Int) → Option (List Sc)) (t1 : Int) (t2 : Int) (t3 : Int) (t4 : Int) (t5 : Int) (t6 : List Sc) (t13 : Int) (_e : Unit) : X × List AV := (.ret, [])
theorem f_s_l20Search_p2 {R : Type} (self : (List Sc × Int × Int × Int × Int × Int) → Option (List Sc)) (t1 : Int) (t2 : Int) (t3 : Int) (t4 : Int) (t5 : Int) (t6 : List Sc) (t13 : Int) (s : List Sc × List Sc × Int) (kN : List Sc × List Sc × Int → Option R) (kA : List Sc → Option R) (kB : Unit → Option R) : f_s_l20Search_k2 self t1 t2 t3 t4 t5 t6 t13 s.1 s.2.1 s.2.2 kN kA = (f_s_l20Search_r2 self t1 t2 t3 t4 t5 t6 t13 s).bind (Ro.el kN kA kB) := by
  simp only [f_s_l20Search_k2, f_s_l20Search_r2, brB, boB, someB, noneB, Ro.el]
theorem f_s_l20Search_e2 (self : (List Sc × Int × Int × Int × Int × Int) → Option (List Sc)) (t1 : Int) (t2 : Int) (t3 : Int) (t4 : Int) (t5 : Int) (t6 : List Sc) (t13 : Int) (s : List Sc × List Sc × Int) : EC E0 (f_s_l20Search_M self) H0 f_s_l20Search_F (asL (addL 0 (f_s_l20Search_t0 self) (noL))) 2 (bodyOf Try.f68 2) (f_s_l20Search_fr2 self t1 t2 t3 t4 t5 t6 t13 s) (done (klOf f_s_l20Search_F 2)) = f_s_l20Search_k2 self t1 t2 t3 t4 t5 t6 t13 s.1 s.2.1 s.2.2 (fun s => some (.norm, f_s_l20Search_fr2 self t1 t2 t3 t4 t5 t6 t13 s)) (fun e => some (f_s_l20Search_x2_1 self t1 t2 t3 t4 t5 t6 t13 e)) := by kernel_rfl
theorem f_s_l20Search_l2 (self : (List Sc × Int × Int × Int × Int × Int) → Option (List Sc)) (hs : ∀ a r, self a = some r → CS Try.prog 68 (f_s_l20Search_a a.1 a.2.1 a.2.2.1 a.2.2.2.1 a.2.2.2.2.1 a.2.2.2.2.2) (f_s_l20Search_i a.1 a.2.1 a.2.2.1 a.2.2.2.1 a.2.2.2.2.1 a.2.2.2.2.2) (f_s_l20Search_en r).1 (f_s_l20Search_en r).2) (t1 : Int) (t2 : Int) (t3 : Int) (t4 : Int) (t5 : Int) (t6 : List Sc) (t13 : Int) : ∀ s r, loopL (f_s_l20Search_r2 self t1 t2 t3 t4 t5 t6 t13) s = some r → LS Try.prog f_s_l20Search_F (bodyOf Try.f68 2) (f_s_l20Search_fr2 self t1 t2 t3 t4 t5 t6 t13 s) (enX (f_s_l20Search_x2_1 self t1 t2 t3 t4 t5 t6 t13) (f_s_l20Search_x2_2 self t1 t2 t3 t4 t5 t6 t13) r) :=
  loop_true E0ok (f_s_l20Search_Mt self hs) (addL_true (f_s_l20Search_tt0 self hs) (noL_true)) f_s_l20Search_o (fun _ h => by cases h) (fun _ h => by cases h) (fun s => (f_s_l20Search_e2 self t1 t2 t3 t4 t5 t6 t13 s).trans (f_s_l20Search_p2 self t1 t2 t3 t4 t5 t6 t13 s _ _ (fun e => some (f_s_l20Search_x2_2 self t1 t2 t3 t4 t5 t6 t13 e))))
def f_s_l20Search_t2 (self : (List Sc × Int × Int × Int × Int × Int) → Option (List Sc)) (σ : List AV) : Option (Bool × Bool × (X × List AV) × (X × List AV)) := match dec f_s_l20Search_h2 σ with
  | some [.i t1, .i t2, .i t3, .i t4, .i t5, .l t6, .i t13, .l t14, .l t15, .i t16] => some (isOne (loopL (f_s_l20Search_r2 self t1 t2 t3 t4 t5 t6 t13) (t14, t15, t16)), true, f_s_l20Search_x2_1 self t1 t2 t3 t4 t5 t6 t13 (getOne [] (loopL (f_s_l20Search_r2 self t1 t2 t3 t4 t5 t6 t13) (t14, t15, t16))), (.ret, []))
  | _ => none
theorem f_s_l20Search_tt2 (self : (List Sc × Int × Int × Int × Int × Int) → Option (List Sc)) (hs : ∀ a r, self a = some r → CS Try.prog 68 (f_s_l20Search_a a.1 a.2.1 a.2.2.1 a.2.2.2.1 a.2.2.2.2.1 a.2.2.2.2.2) (f_s_l20Search_i a.1 a.2.1 a.2.2.1 a.2.2.2.1 a.2.2.2.2.1 a.2.2.2.2.2) (f_s_l20Search_en r).1 (f_s_l20Search_en r).2) : TTrue Try.prog f_s_l20Search_F Try.f68 2 (f_s_l20Search_t2 self) := by
  intro σ p r r' h
  unfold f_s_l20Search_t2 at h
  split at h
  · rename_i hd
    rw [← dec_enc hd]
    exact row1 (f_s_l20Search_l2 self hs _ _ _ _ _ _ _ _) h
  · cases h
theorem f_s_l20Search_p {R : Type} (self : (List Sc × Int × Int × Int × Int × Int) → Option (List Sc)) (L0 : List Sc) (p1 : Int) (p2 : Int) (p3 : Int) (p4 : Int) (p5 : Int) (kR : List Sc → Option R) : f_s_l20Search_k self L0 p1 p2 p3 p4 p5 kR = (f_s_l20Search_k self L0 p1 p2 p3 p4 p5 some).bind kR := by
  simp only [f_s_l20Search_k, brB, boB, bl1B, someB]
theorem f_s_l20Search_e (self : (List Sc × Int × Int × Int × Int × Int) → Option (List Sc)) (L0 : List Sc) (p1 : Int) (p2 : Int) (p3 : Int) (p4 : Int) (p5 : Int) : runFn E0 (f_s_l20Search_M self) H0 f_s_l20Search_F (asL (addL 2 (f_s_l20Search_t2 self) (addL 0 (f_s_l20Search_t0 self) (noL)))) Try.f68 (f_s_l20Search_a L0 p1 p2 p3 p4 p5) (f_s_l20Search_i L0 p1 p2 p3 p4 p5) = f_s_l20Search_k self L0 p1 p2 p3 p4 p5 (fun r => some (f_s_l20Search_en r)) := by kernel_rfl
theorem f_s_l20Search_ks (self : (List Sc × Int × Int × Int × Int × Int) → Option (List Sc)) (hs : ∀ a r, self a = some r → CS Try.prog 68 (f_s_l20Search_a a.1 a.2.1 a.2.2.1 a.2.2.2.1 a.2.2.2.2.1 a.2.2.2.2.2) (f_s_l20Search_i a.1 a.2.1 a.2.2.1 a.2.2.2.1 a.2.2.2.2.1 a.2.2.2.2.2) (f_s_l20Search_en r).1 (f_s_l20Search_en r).2) (L0 : List Sc) (p1 : Int) (p2 : Int) (p3 : Int) (p4 : Int) (p5 : Int) (r : List Sc) (h : f_s_l20Search_k self L0 p1 p2 p3 p4 p5 some = some r) : CS Try.prog 68 (f_s_l20Search_a L0 p1 p2 p3 p4 p5) (f_s_l20Search_i L0 p1 p2 p3 p4 p5) (f_s_l20Search_en r).1 (f_s_l20Search_en r).2 :=
  fn_true (Gk := fun k => f_s_l20Search_k self L0 p1 p2 p3 p4 p5 k) (en := f_s_l20Search_en) Try.func68 E0ok (f_s_l20Search_Mt self hs) (addL_true (f_s_l20Search_tt2 self hs) (addL_true (f_s_l20Search_tt0 self hs) (noL_true))) f_s_l20Search_o (f_s_l20Search_e self L0 p1 p2 p3 p4 p5) (f_s_l20Search_p self L0 p1 p2 p3 p4 p5) h
theorem f_s_l20Search_ns : ∀ n a r, f_s_l20Search_n n a = some r → CS Try.prog 68 (f_s_l20Search_a a.1 a.2.1 a.2.2.1 a.2.2.2.1 a.2.2.2.2.1 a.2.2.2.2.2) (f_s_l20Search_i a.1 a.2.1 a.2.2.1 a.2.2.2.1 a.2.2.2.2.1 a.2.2.2.2.2) (f_s_l20Search_en r).1 (f_s_l20Search_en r).2
  | 0, _, _, h => by cases h
  | n + 1, a, r, h => f_s_l20Search_ks (f_s_l20Search_n n) (f_s_l20Search_ns n) a.1 a.2.1 a.2.2.1 a.2.2.2.1 a.2.2.2.2.1 a.2.2.2.2.2 r h
theorem f_s_l20Search_ok (L0 : List Sc) (p1 : Int) (p2 : Int) (p3 : Int) (p4 : Int) (p5 : Int) (r : List Sc) (h : f_s_l20Search L0 p1 p2 p3 p4 p5 = some r) : CS Try.prog 68 (f_s_l20Search_a L0 p1 p2 p3 p4 p5) (f_s_l20Search_i L0 p1 p2 p3 p4 p5) (f_s_l20Search_en r).1 (f_s_l20Search_en r).2 := by
  obtain ⟨n, hn⟩ := limF_some h
  exact f_s_l20Search_ns n _ r hn
def f_s_l20Search_c : CRow := fun args inh => match dec2 [.p .gr, .p (.int .i64), .p (.int .i64), .p (.int .i64), .p (.int .i64), .p (.int .i64)] [] args inh with
  | some ([.l L0, .i p1, .i p2, .i p3, .i p4, .i p5], []) => some ((f_s_l20Search L0 p1 p2 p3 p4 p5).isSome, (f_s_l20Search_en ((f_s_l20Search L0 p1 p2 p3 p4 p5).getD [])).1, (f_s_l20Search_en ((f_s_l20Search L0 p1 p2 p3 p4 p5).getD [])).2)
  | _ => none
theorem f_s_l20Search_cc : CTrue Try.prog 68 f_s_l20Search_c := by
  intro args inh rs out h
  unfold f_s_l20Search_c at h
  split at h
  · rename_i hd
    obtain ⟨h1, h2⟩ := dec2_enc hd
    rw [← h1, ← h2]
    exact rowC (f_s_l20Search_ok _ _ _ _ _ _) h
  · cases h

def f_s_FindTile_F : Fi := { nv := 0, nc := 0, m := 0, vt := [], kl := [], sk := [], mvs := [], fz := [] }
def f_s_FindTile_a (g0 : List Sc) (a1 : Int) : List AV := enc [.p .gr, .p (.int .i64)] [.l g0, .i a1]
def f_s_FindTile_i (g0 : List Sc) (a1 : Int) : List AV := enc [] []
def f_s_FindTile_en (r : Int × Bool) : List AV × List AV := (enc [.p (.int .i64), .p .boo] [.i r.1, .b r.2], enc [] [])
def f_s_FindTile_M : Calling := addC 59 f_s_IsSet_c (addC 49 f_s_l2Order_c (addC 68 f_s_l20Search_c (noC)))
theorem f_s_FindTile_Mt : CallOk Try.prog (f_s_FindTile_M) := addC_true f_s_IsSet_cc (addC_true f_s_l2Order_cc (addC_true f_s_l20Search_cc (noC_true)))
theorem f_s_FindTile_o : loopsOnce Try.f30 = true := by kernel_rfl
theorem f_s_FindTile_p {R : Type} (g0 : List Sc) (a1 : Int) (kR : Int × Bool → Option R) : f_s_FindTile_k g0 a1 kR = (f_s_FindTile_k g0 a1 some).bind kR := by
  simp only [f_s_FindTile_k, brB, boB, someB, noneB]
theorem f_s_FindTile_e (g0 : List Sc) (a1 : Int) : runFn E0 f_s_FindTile_M H0 f_s_FindTile_F (asL (noL)) Try.f30 (f_s_FindTile_a g0 a1) (f_s_FindTile_i g0 a1) = f_s_FindTile_k g0 a1 (fun r => some (f_s_FindTile_en r)) := by kernel_rfl
theorem f_s_FindTile_ok (g0 : List Sc) (a1 : Int) (r : Int × Bool) (h : f_s_FindTile g0 a1 = some r) : CS Try.prog 30 (f_s_FindTile_a g0 a1) (f_s_FindTile_i g0 a1) (f_s_FindTile_en r).1 (f_s_FindTile_en r).2 :=
  fn_true (Gk := fun k => f_s_FindTile_k g0 a1 k) (en := f_s_FindTile_en) Try.func30 E0ok f_s_FindTile_Mt (noL_true) f_s_FindTile_o (f_s_FindTile_e g0 a1) (f_s_FindTile_p g0 a1) h
def f_s_FindTile_c : CRow := fun args inh => match dec2 [.p .gr, .p (.int .i64)] [] args inh with
  | some ([.l g0, .i a1], []) => some ((f_s_FindTile g0 a1).isSome, (f_s_FindTile_en ((f_s_FindTile g0 a1).getD (0, false))).1, (f_s_FindTile_en ((f_s_FindTile g0 a1).getD (0, false))).2)
  | _ => none
theorem f_s_FindTile_cc : CTrue Try.prog 30 f_s_FindTile_c := by
  intro args inh rs out h
  unfold f_s_FindTile_c at h
  split at h
  · rename_i hd
    obtain ⟨h1, h2⟩ := dec2_enc hd
    rw [← h1, ← h2]
    exact rowC (f_s_FindTile_ok _ _) h
  · cases h

def f_i_FullSet_F : Fi := { nv := 0, nc := 0, m := 0, vt := [], kl := [], sk := [], mvs := [], fz := [] }
def f_i_FullSet_a (g0 : List Sc) : List AV := enc [.p .gr] [.l g0]
def f_i_FullSet_i (g0 : List Sc) : List AV := enc [] []
def f_i_FullSet_en (r : Int) : List AV × List AV := (enc [.p (.int .i64)] [.i r], enc [] [])
def f_i_FullSet_M : Calling := addC 52 f_i_IsGroup_c (addC 53 f_i_OrderOf_c (noC))
theorem f_i_FullSet_Mt : CallOk Try.prog (f_i_FullSet_M) := addC_true f_i_IsGroup_cc (addC_true f_i_OrderOf_cc (noC_true))
theorem f_i_FullSet_o : loopsOnce Try.f94 = true := by kernel_rfl
theorem f_i_FullSet_p {R : Type} (g0 : List Sc) (kR : Int → Option R) : f_i_FullSet_k g0 kR = (f_i_FullSet_k g0 some).bind kR := by
  simp only [f_i_FullSet_k, brB, boB, someB, noneB]
theorem f_i_FullSet_e (g0 : List Sc) : runFn E0 f_i_FullSet_M H0 f_i_FullSet_F (asL (noL)) Try.f94 (f_i_FullSet_a g0) (f_i_FullSet_i g0) = f_i_FullSet_k g0 (fun r => some (f_i_FullSet_en r)) := by kernel_rfl
theorem f_i_FullSet_ok (g0 : List Sc) (r : Int) (h : f_i_FullSet g0 = some r) : CS Try.prog 94 (f_i_FullSet_a g0) (f_i_FullSet_i g0) (f_i_FullSet_en r).1 (f_i_FullSet_en r).2 :=
  fn_true (Gk := fun k => f_i_FullSet_k g0 k) (en := f_i_FullSet_en) Try.func94 E0ok f_i_FullSet_Mt (noL_true) f_i_FullSet_o (f_i_FullSet_e g0) (f_i_FullSet_p g0) h
def f_i_FullSet_c : CRow := fun args inh => match dec2 [.p .gr] [] args inh with
  | some ([.l g0], []) => some ((f_i_FullSet g0).isSome, (f_i_FullSet_en ((f_i_FullSet g0).getD 0)).1, (f_i_FullSet_en ((f_i_FullSet g0).getD 0)).2)
  | _ => none
theorem f_i_FullSet_cc : CTrue Try.prog 94 f_i_FullSet_c := by
  intro args inh rs out h
  unfold f_i_FullSet_c at h
  split at h
  · rename_i hd
    obtain ⟨h1, h2⟩ := dec2_enc hd
    rw [← h1, ← h2]
    exact rowC (f_i_FullSet_ok _) h
  · cases h

def f_i_Group_negate_F : Fi := { nv := 0, nc := 0, m := 0, vt := [], kl := [(0, ([0, 2, 3, 4, 7, 8, 9, 13, 14, 15, 16, 17, 18, 19, 20, 21, 22, 23, 24, 25, 26, 27, 28, 29, 30, 31, 32, 33, 34], [0, 1, 2, 3, 4, 6, 7, 8, 9, 10, 11, 12, 13, 14, 15, 16, 17, 18, 19, 20, 21, 22, 23, 24, 25, 26, 27, 28, 29, 30, 31, 32, 33, 34], [0, 1, 2, 3, 5, 6, 7, 8, 9, 10, 11, 12, 13, 14, 15, 16, 17, 18, 19, 20, 21, 22, 23, 24, 25, 26, 27, 28, 29, 30, 31, 32, 33, 34]))], sk := [], mvs := [], fz := [] }
def f_i_Group_negate_a (g0 : List Sc) (x1 : Int) : List AV := enc [.p .gr, .p (.int .i64)] [.l g0, .i x1]
def f_i_Group_negate_i (g0 : List Sc) (x1 : Int) : List AV := enc [] []
def f_i_Group_negate_en (r : Int) : List AV × List AV := (enc [.p (.int .i64)] [.i r], enc [] [])
def f_i_Group_negate_M : Calling := noC
theorem f_i_Group_negate_Mt : CallOk Try.prog (f_i_Group_negate_M) := noC_true
theorem f_i_Group_negate_o : loopsOnce Try.f99 = true := by kernel_rfl
def f_i_Group_negate_h0 : List Sh := [.u, .p (.int .i64), .u, .u, .u, .p (.int .i64), .p (.int .i64), .u, .u, .u, .p .sl, .p (.int .i64), .p (.int .i64), .u, .u, .u, .u, .u, .u, .u, .u, .u, .u, .u, .u, .u, .u, .u, .u, .u, .u, .u, .u, .u, .u]
def f_i_Group_negate_fr0 (t10 : List Sc) (t11 : Int) (s : Int × Int × Int × Int) : List AV := enc f_i_Group_negate_h0 [.i s.1, .i s.2.1, .i s.2.2.1, .l t10, .i t11, .i s.2.2.2]
def f_i_Group_negate_g0_1 : List Sh := [.u, .u, .u, .u, .u, .p (.int .i64), .u, .u, .u, .u, .u, .u, .u, .u, .u, .u, .u, .u, .u, .u, .u, .u, .u, .u, .u, .u, .u, .u, .u, .u, .u, .u, .u, .u, .u]
def f_i_Group_negate_x0_1 (t10 : List Sc) (t11 : Int) (e : Int) : X × List AV := (.out 0, enc f_i_Group_negate_g0_1 [.i e])
def f_i_Group_negate_x0_2 (t10 : List Sc) (t11 : Int) (_e : Unit) : X × List AV := (.ret, [])
theorem f_i_Group_negate_p0 {R : Type} (t10 : List Sc) (t11 : Int) (s : Int × Int × Int × Int) (kN : Int × Int × Int × Int → Option R) (kA : Int → Option R) (kB : Unit → Option R) : f_i_Group_negate_k0 t10 t11 s.1 s.2.1 s.2.2.1 s.2.2.2 kN kA = (f_i_Group_negate_r0 t10 t11 s).bind (Ro.el kN kA kB) := by
  simp only [f_i_Group_negate_k0, f_i_Group_negate_r0, brB, someB, noneB, Ro.el]
theorem f_i_Group_negate_e0 (t10 : List Sc) (t11 : Int) (s : Int × Int × Int × Int) : EC E0 f_i_Group_negate_M H0 f_i_Group_negate_F (asL (noL)) 0 (bodyOf Try.f99 0) (f_i_Group_negate_fr0 t10 t11 s) (done (klOf f_i_Group_negate_F 0)) = f_i_Group_negate_k0 t10 t11 s.1 s.2.1 s.2.2.1 s.2.2.2 (fun s => some (.norm, f_i_Group_negate_fr0 t10 t11 s)) (fun e => some (f_i_Group_negate_x0_1 t10 t11 e)) := by kernel_rfl
theorem f_i_Group_negate_l0 (t10 : List Sc) (t11 : Int) : ∀ s r, loopL (f_i_Group_negate_r0 t10 t11) s = some r → LS Try.prog f_i_Group_negate_F (bodyOf Try.f99 0) (f_i_Group_negate_fr0 t10 t11 s) (enX (f_i_Group_negate_x0_1 t10 t11) (f_i_Group_negate_x0_2 t10 t11) r) :=
  loop_true E0ok f_i_Group_negate_Mt (noL_true) f_i_Group_negate_o (fun _ h => by cases h) (fun _ h => by cases h) (fun s => (f_i_Group_negate_e0 t10 t11 s).trans (f_i_Group_negate_p0 t10 t11 s _ _ (fun e => some (f_i_Group_negate_x0_2 t10 t11 e))))
def f_i_Group_negate_t0 (σ : List AV) : Option (Bool × Bool × (X × List AV) × (X × List AV)) := match dec f_i_Group_negate_h0 σ with
  | some [.i x1, .i sum5, .i unit6, .l t10, .i t11, .i t12] => some (isOne (loopL (f_i_Group_negate_r0 t10 t11) (x1, sum5, unit6, t12)), true, f_i_Group_negate_x0_1 t10 t11 (getOne 0 (loopL (f_i_Group_negate_r0 t10 t11) (x1, sum5, unit6, t12))), (.ret, []))
  | _ => none
theorem f_i_Group_negate_tt0 : TTrue Try.prog f_i_Group_negate_F Try.f99 0 (f_i_Group_negate_t0) := by
  intro σ p r r' h
  unfold f_i_Group_negate_t0 at h
  split at h
  · rename_i hd
    rw [← dec_enc hd]
    exact row1 (f_i_Group_negate_l0 _ _ _) h
  · cases h
theorem f_i_Group_negate_p {R : Type} (g0 : List Sc) (x1 : Int) (kR : Int → Option R) : f_i_Group_negate_k g0 x1 kR = (f_i_Group_negate_k g0 x1 some).bind kR := by
  simp only [f_i_Group_negate_k, bl1B, someB]
theorem f_i_Group_negate_e (g0 : List Sc) (x1 : Int) : runFn E0 f_i_Group_negate_M H0 f_i_Group_negate_F (asL (addL 0 (f_i_Group_negate_t0) (noL))) Try.f99 (f_i_Group_negate_a g0 x1) (f_i_Group_negate_i g0 x1) = f_i_Group_negate_k g0 x1 (fun r => some (f_i_Group_negate_en r)) := by kernel_rfl
theorem f_i_Group_negate_ok (g0 : List Sc) (x1 : Int) (r : Int) (h : f_i_Group_negate g0 x1 = some r) : CS Try.prog 99 (f_i_Group_negate_a g0 x1) (f_i_Group_negate_i g0 x1) (f_i_Group_negate_en r).1 (f_i_Group_negate_en r).2 :=
  fn_true (Gk := fun k => f_i_Group_negate_k g0 x1 k) (en := f_i_Group_negate_en) Try.func99 E0ok f_i_Group_negate_Mt (addL_true (f_i_Group_negate_tt0) (noL_true)) f_i_Group_negate_o (f_i_Group_negate_e g0 x1) (f_i_Group_negate_p g0 x1) h
def f_i_Group_negate_c : CRow := fun args inh => match dec2 [.p .gr, .p (.int .i64)] [] args inh with
  | some ([.l g0, .i x1], []) => some ((f_i_Group_negate g0 x1).isSome, (f_i_Group_negate_en ((f_i_Group_negate g0 x1).getD 0)).1, (f_i_Group_negate_en ((f_i_Group_negate g0 x1).getD 0)).2)
  | _ => none
theorem f_i_Group_negate_cc : CTrue Try.prog 99 f_i_Group_negate_c := by
  intro args inh rs out h
  unfold f_i_Group_negate_c at h
  split at h
  · rename_i hd
    obtain ⟨h1, h2⟩ := dec2_enc hd
    rw [← h1, ← h2]
    exact rowC (f_i_Group_negate_ok _ _) h
  · cases h

def f_i_Group_minus_F : Fi := { nv := 0, nc := 0, m := 0, vt := [], kl := [], sk := [], mvs := [], fz := [] }
def f_i_Group_minus_a (g0 : List Sc) (x1 : Int) (y2 : Int) : List AV := enc [.p .gr, .p (.int .i64), .p (.int .i64)] [.l g0, .i x1, .i y2]
def f_i_Group_minus_i (g0 : List Sc) (x1 : Int) (y2 : Int) : List AV := enc [] []
def f_i_Group_minus_en (r : Int) : List AV × List AV := (enc [.p (.int .i64)] [.i r], enc [] [])
def f_i_Group_minus_M : Calling := addC 99 f_i_Group_negate_c (addC 75 f_i_Group_add_c (noC))
theorem f_i_Group_minus_Mt : CallOk Try.prog (f_i_Group_minus_M) := addC_true f_i_Group_negate_cc (addC_true f_i_Group_add_cc (noC_true))
theorem f_i_Group_minus_o : loopsOnce Try.f95 = true := by kernel_rfl
theorem f_i_Group_minus_p {R : Type} (g0 : List Sc) (x1 : Int) (y2 : Int) (kR : Int → Option R) : f_i_Group_minus_k g0 x1 y2 kR = (f_i_Group_minus_k g0 x1 y2 some).bind kR := by
  simp only [f_i_Group_minus_k, boB, someB]
theorem f_i_Group_minus_e (g0 : List Sc) (x1 : Int) (y2 : Int) : runFn E0 f_i_Group_minus_M H0 f_i_Group_minus_F (asL (noL)) Try.f95 (f_i_Group_minus_a g0 x1 y2) (f_i_Group_minus_i g0 x1 y2) = f_i_Group_minus_k g0 x1 y2 (fun r => some (f_i_Group_minus_en r)) := by kernel_rfl
theorem f_i_Group_minus_ok (g0 : List Sc) (x1 : Int) (y2 : Int) (r : Int) (h : f_i_Group_minus g0 x1 y2 = some r) : CS Try.prog 95 (f_i_Group_minus_a g0 x1 y2) (f_i_Group_minus_i g0 x1 y2) (f_i_Group_minus_en r).1 (f_i_Group_minus_en r).2 :=
  fn_true (Gk := fun k => f_i_Group_minus_k g0 x1 y2 k) (en := f_i_Group_minus_en) Try.func95 E0ok f_i_Group_minus_Mt (noL_true) f_i_Group_minus_o (f_i_Group_minus_e g0 x1 y2) (f_i_Group_minus_p g0 x1 y2) h
def f_i_Group_minus_c : CRow := fun args inh => match dec2 [.p .gr, .p (.int .i64), .p (.int .i64)] [] args inh with
  | some ([.l g0, .i x1, .i y2], []) => some ((f_i_Group_minus g0 x1 y2).isSome, (f_i_Group_minus_en ((f_i_Group_minus g0 x1 y2).getD 0)).1, (f_i_Group_minus_en ((f_i_Group_minus g0 x1 y2).getD 0)).2)
  | _ => none
theorem f_i_Group_minus_cc : CTrue Try.prog 95 f_i_Group_minus_c := by
  intro args inh rs out h
  unfold f_i_Group_minus_c at h
  split at h
  · rename_i hd
    obtain ⟨h1, h2⟩ := dec2_enc hd
    rw [← h1, ← h2]
    exact rowC (f_i_Group_minus_ok _ _ _) h
  · cases h

def f_i_tiles_1_F : Fi := { nv := 2, nc := 2, m := 2, vt := [], kl := [(2, ([9, 10, 12, 13, 14, 15, 16, 17, 18, 19, 20, 21, 22, 23, 24, 25, 26, 27, 28, 29, 33, 34, 35, 36, 37, 38, 39, 40, 41, 42, 43, 44, 45, 46, 47, 48, 49, 50, 51, 52, 53, 54, 55, 56, 57, 58, 59, 60, 61, 62, 63], [2, 3, 4, 5, 6, 7, 8, 9, 10, 11, 12, 13, 14, 15, 16, 17, 18, 19, 20, 21, 22, 23, 24, 25, 26, 27, 28, 29, 30, 31, 32, 33, 34, 35, 36, 37, 38, 39, 40, 41, 42, 43, 44, 45, 46, 47, 48, 49, 50, 51, 52, 53, 54, 55, 56, 57, 58, 59, 60, 61, 62, 63], [2, 3, 4, 5, 6, 7, 8, 9, 10, 11, 12, 13, 14, 15, 16, 17, 18, 19, 20, 21, 22, 23, 24, 25, 26, 27, 28, 29, 30, 31, 32, 33, 34, 35, 36, 37, 38, 39, 40, 41, 42, 43, 44, 45, 46, 47, 48, 49, 50, 51, 52, 53, 54, 55, 56, 57, 58, 59, 60, 61, 62, 63])), (0, ([9, 10, 12, 13, 14, 15, 16, 17, 18, 19, 20, 21, 22, 23, 24, 25, 26, 27, 28, 29, 30, 31, 32, 33, 34, 35, 36, 37, 38, 39, 40, 41, 42, 43, 44, 45, 46, 47, 48, 49, 50, 51, 52, 53, 54, 55, 56, 57, 58, 59, 60, 61, 62, 63], [9, 10, 12, 13, 14, 15, 16, 17, 18, 19, 20, 21, 22, 23, 24, 25, 26, 27, 28, 29, 30, 31, 32, 33, 34, 35, 36, 37, 38, 39, 40, 41, 42, 43, 44, 45, 46, 47, 48, 49, 50, 51, 52, 53, 54, 55, 56, 57, 58, 59, 60, 61, 62, 63], [2, 3, 4, 5, 6, 7, 8, 9, 10, 11, 12, 13, 14, 15, 16, 17, 18, 19, 20, 21, 22, 23, 24, 25, 26, 27, 28, 29, 30, 31, 32, 33, 34, 35, 36, 37, 38, 39, 40, 41, 42, 43, 44, 45, 46, 47, 48, 49, 50, 51, 52, 53, 54, 55, 56, 57, 58, 59, 60, 61, 62, 63]))], sk := [], mvs := [], fz := [] }
def f_i_tiles_1_a (shifts0 : Int) (reached1 : Int) (p2 : List Sc) (p4 : Int) (p5 : Int) (h0 : List Sc) (h1_0 : List Sc) (h1_1 : Int) (h1_2 : Int) : List AV := enc [.p (.int .i64), .p (.int .i64), .p .el, .p (.pt 0 1), .p (.evi .i64), .p (.evi .i64), .p (.pt 1 1)] [.i shifts0, .i reached1, .l p2, .i p4, .i p5]
def f_i_tiles_1_i (shifts0 : Int) (reached1 : Int) (p2 : List Sc) (p4 : Int) (p5 : Int) (h0 : List Sc) (h1_0 : List Sc) (h1_1 : Int) (h1_2 : Int) : List AV := enc [.own 3, .fn 93 [.el, .pt 0 1, .evi .i64, .evi .i64, .pt 1 1]] [.l h0, .l h1_0, .i h1_1, .i h1_2]
def f_i_tiles_1_en (r : List Sc × List Sc × Int × Int) : List AV × List AV := (enc [] [], enc [.own 3, .fn 93 [.el, .pt 0 1, .evi .i64, .evi .i64, .pt 1 1]] [.l r.1, .l r.2.1, .i r.2.2.1, .i r.2.2.2])
def f_i_tiles_1_cs (self : (Int × Int × List Sc × Int × Int × List Sc × List Sc × Int × Int) → Option (List Sc × List Sc × Int × Int)) : CRow := fun args inh => match dec2 [.p (.int .i64), .p (.int .i64), .p .el, .p (.pt 0 1), .p (.evi .i64), .p (.evi .i64), .p (.pt 1 1)] [.own 3, .fn 93 [.el, .pt 0 1, .evi .i64, .evi .i64, .pt 1 1]] args inh with
  | some ([.i shifts0, .i reached1, .l p2, .i p4, .i p5], [.l h0, .l h1_0, .i h1_1, .i h1_2]) => some ((self (shifts0, reached1, p2, p4, p5, h0, h1_0, h1_1, h1_2)).isSome, (f_i_tiles_1_en ((self (shifts0, reached1, p2, p4, p5, h0, h1_0, h1_1, h1_2)).getD ([], [], 0, 0))).1, (f_i_tiles_1_en ((self (shifts0, reached1, p2, p4, p5, h0, h1_0, h1_1, h1_2)).getD ([], [], 0, 0))).2)
  | _ => none
theorem f_i_tiles_1_cst (self : (Int × Int × List Sc × Int × Int × List Sc × List Sc × Int × Int) → Option (List Sc × List Sc × Int × Int)) (hs : ∀ a r, self a = some r → CS Try.prog 93 (f_i_tiles_1_a a.1 a.2.1 a.2.2.1 a.2.2.2.1 a.2.2.2.2.1 a.2.2.2.2.2.1 a.2.2.2.2.2.2.1 a.2.2.2.2.2.2.2.1 a.2.2.2.2.2.2.2.2) (f_i_tiles_1_i a.1 a.2.1 a.2.2.1 a.2.2.2.1 a.2.2.2.2.1 a.2.2.2.2.2.1 a.2.2.2.2.2.2.1 a.2.2.2.2.2.2.2.1 a.2.2.2.2.2.2.2.2) (f_i_tiles_1_en r).1 (f_i_tiles_1_en r).2) : CTrue Try.prog 93 (f_i_tiles_1_cs self) := by
  intro args inh rs out h
  unfold f_i_tiles_1_cs at h
  split at h
  · rename_i hd
    obtain ⟨h1, h2⟩ := dec2_enc hd
    rw [← h1, ← h2]
    exact rowC (hs _) h
  · cases h
def f_i_tiles_1_M (self : (Int × Int × List Sc × Int × Int × List Sc × List Sc × Int × Int) → Option (List Sc × List Sc × Int × Int)) : Calling := addC 93 (f_i_tiles_1_cs self) (addC 94 f_i_FullSet_c (addC 83 f_i_in_c (addC 65 f_i_members_c (addC 95 f_i_Group_minus_c (addC 91 f_i_Group_shift_c (noC))))))
theorem f_i_tiles_1_Mt (self : (Int × Int × List Sc × Int × Int × List Sc × List Sc × Int × Int) → Option (List Sc × List Sc × Int × Int)) (hs : ∀ a r, self a = some r → CS Try.prog 93 (f_i_tiles_1_a a.1 a.2.1 a.2.2.1 a.2.2.2.1 a.2.2.2.2.1 a.2.2.2.2.2.1 a.2.2.2.2.2.2.1 a.2.2.2.2.2.2.2.1 a.2.2.2.2.2.2.2.2) (f_i_tiles_1_i a.1 a.2.1 a.2.2.1 a.2.2.2.1 a.2.2.2.2.1 a.2.2.2.2.2.1 a.2.2.2.2.2.2.1 a.2.2.2.2.2.2.2.1 a.2.2.2.2.2.2.2.2) (f_i_tiles_1_en r).1 (f_i_tiles_1_en r).2) : CallOk Try.prog (f_i_tiles_1_M self) := addC_true (f_i_tiles_1_cst self hs) (addC_true f_i_FullSet_cc (addC_true f_i_in_cc (addC_true f_i_members_cc (addC_true f_i_Group_minus_cc (addC_true f_i_Group_shift_cc (noC_true))))))
theorem f_i_tiles_1_o : loopsOnce Try.f93 = true := by kernel_rfl
def f_i_tiles_1_h0 : List Sh := [.own 3, .fn 93 [.el, .pt 0 1, .evi .i64, .evi .i64, .pt 1 1], .p (.int .i64), .p (.int .i64), .p .el, .p (.pt 0 1), .p (.evi .i64), .p (.evi .i64), .p (.pt 1 1), .u, .u, .p (.int .i64), .u, .u, .u, .u, .u, .u, .u, .u, .u, .u, .u, .u, .u, .u, .u, .u, .u, .u, .u, .u, .u, .u, .u, .u, .u, .u, .u, .u, .u, .u, .u, .u, .u, .u, .u, .u, .u, .u, .u, .u, .u, .u, .u, .u, .u, .u, .u, .u, .u, .u, .u, .u]
def f_i_tiles_1_fr0 (self : (Int × Int × List Sc × Int × Int × List Sc × List Sc × Int × Int) → Option (List Sc × List Sc × Int × Int)) (shifts0 : Int) (reached1 : Int) (t2 : List Sc) (t4 : Int) (t5 : Int) (s : List Sc × List Sc × Int × Int × Int) : List AV := enc f_i_tiles_1_h0 [.l s.1, .l s.2.1, .i s.2.2.1, .i s.2.2.2.1, .i shifts0, .i reached1, .l t2, .i t4, .i t5, .i s.2.2.2.2]
def f_i_tiles_1_g0_1 : List Sh := [.own 3, .fn 93 [.el, .pt 0 1, .evi .i64, .evi .i64, .pt 1 1], .p (.int .i64), .p (.int .i64), .p .el, .p (.pt 0 1), .p (.evi .i64), .p (.evi .i64), .p (.pt 1 1), .u, .u, .p (.int .i64), .u, .u, .u, .u, .u, .u, .u, .u, .u, .u, .u, .u, .u, .u, .u, .u, .u, .u, .u, .u, .u, .u, .u, .u, .u, .u, .u, .u, .u, .u, .u, .u, .u, .u, .u, .u, .u, .u, .u, .u, .u, .u, .u, .u, .u, .u, .u, .u, .u, .u, .u, .u]
def f_i_tiles_1_x0_1 (self : (Int × Int × List Sc × Int × Int × List Sc × List Sc × Int × Int) → Option (List Sc × List Sc × Int × Int)) (shifts0 : Int) (reached1 : Int) (t2 : List Sc) (t4 : Int) (t5 : Int) (e : List Sc × List Sc × Int × Int × Int) : X × List AV := (.out 0, enc f_i_tiles_1_g0_1 [.l e.1, .l e.2.1, .i e.2.2.1, .i e.2.2.2.1, .i shifts0, .i reached1, .l t2, .i t4, .i t5, .i e.2.2.2.2])
def f_i_tiles_1_x0_2 (self : (Int × Int × List Sc × Int × Int × List Sc × List Sc × Int × Int) → Option (List Sc × List Sc × Int × Int)) (shifts0 : Int) (reached1 : Int) (t2 : List Sc) (t4 : Int) (t5 : Int) (_e : Unit) : X × List AV := (.ret, [])
theorem f_i_tiles_1_p0 {R : Type} (self : (Int × Int × List Sc × Int × Int × List Sc × List Sc × Int × Int) → Option (List Sc × List Sc × Int × Int)) (shifts0 : Int) (reached1 : Int) (t2 : List Sc) (t4 : Int) (t5 : Int) (s : List Sc × List Sc × Int × Int × Int) (kN : List Sc × List Sc × Int × Int × Int → Option R) (kA : List Sc × List Sc × Int × Int × Int → Option R) (kB : Unit → Option R) : f_i_tiles_1_k0 self shifts0 reached1 t2 t4 t5 s.1 s.2.1 s.2.2.1 s.2.2.2.1 s.2.2.2.2 kN kA = (f_i_tiles_1_r0 self shifts0 reached1 t2 t4 t5 s).bind (Ro.el kN kA kB) := by
  simp only [f_i_tiles_1_k0, f_i_tiles_1_r0, brB, boB, someB, Ro.el]
theorem f_i_tiles_1_e0 (self : (Int × Int × List Sc × Int × Int × List Sc × List Sc × Int × Int) → Option (List Sc × List Sc × Int × Int)) (shifts0 : Int) (reached1 : Int) (t2 : List Sc) (t4 : Int) (t5 : Int) (s : List Sc × List Sc × Int × Int × Int) : EC E0 (f_i_tiles_1_M self) H0 f_i_tiles_1_F (asL (noL)) 0 (bodyOf Try.f93 0) (f_i_tiles_1_fr0 self shifts0 reached1 t2 t4 t5 s) (done (klOf f_i_tiles_1_F 0)) = f_i_tiles_1_k0 self shifts0 reached1 t2 t4 t5 s.1 s.2.1 s.2.2.1 s.2.2.2.1 s.2.2.2.2 (fun s => some (.norm, f_i_tiles_1_fr0 self shifts0 reached1 t2 t4 t5 s)) (fun e => some (f_i_tiles_1_x0_1 self shifts0 reached1 t2 t4 t5 e)) := by kernel_rfl
theorem f_i_tiles_1_l0 (self : (Int × Int × List Sc × Int × Int × List Sc × List Sc × Int × Int) → Option (List Sc × List Sc × Int × Int)) (hs : ∀ a r, self a = some r → CS Try.prog 93 (f_i_tiles_1_a a.1 a.2.1 a.2.2.1 a.2.2.2.1 a.2.2.2.2.1 a.2.2.2.2.2.1 a.2.2.2.2.2.2.1 a.2.2.2.2.2.2.2.1 a.2.2.2.2.2.2.2.2) (f_i_tiles_1_i a.1 a.2.1 a.2.2.1 a.2.2.2.1 a.2.2.2.2.1 a.2.2.2.2.2.1 a.2.2.2.2.2.2.1 a.2.2.2.2.2.2.2.1 a.2.2.2.2.2.2.2.2) (f_i_tiles_1_en r).1 (f_i_tiles_1_en r).2) (shifts0 : Int) (reached1 : Int) (t2 : List Sc) (t4 : Int) (t5 : Int) : ∀ s r, loopL (f_i_tiles_1_r0 self shifts0 reached1 t2 t4 t5) s = some r → LS Try.prog f_i_tiles_1_F (bodyOf Try.f93 0) (f_i_tiles_1_fr0 self shifts0 reached1 t2 t4 t5 s) (enX (f_i_tiles_1_x0_1 self shifts0 reached1 t2 t4 t5) (f_i_tiles_1_x0_2 self shifts0 reached1 t2 t4 t5) r) :=
  loop_true E0ok (f_i_tiles_1_Mt self hs) (noL_true) f_i_tiles_1_o (fun _ h => by cases h) (fun _ h => by cases h) (fun s => (f_i_tiles_1_e0 self shifts0 reached1 t2 t4 t5 s).trans (f_i_tiles_1_p0 self shifts0 reached1 t2 t4 t5 s _ _ (fun e => some (f_i_tiles_1_x0_2 self shifts0 reached1 t2 t4 t5 e))))
def f_i_tiles_1_t0 (self : (Int × Int × List Sc × Int × Int × List Sc × List Sc × Int × Int) → Option (List Sc × List Sc × Int × Int)) (σ : List AV) : Option (Bool × Bool × (X × List AV) × (X × List AV)) := match dec f_i_tiles_1_h0 σ with
  | some [.l v0, .l v1_0, .i v1_1, .i v1_2, .i shifts0, .i reached1, .l t2, .i t4, .i t5, .i e9] => some (isOne (loopL (f_i_tiles_1_r0 self shifts0 reached1 t2 t4 t5) (v0, v1_0, v1_1, v1_2, e9)), true, f_i_tiles_1_x0_1 self shifts0 reached1 t2 t4 t5 (getOne ([], [], 0, 0, 0) (loopL (f_i_tiles_1_r0 self shifts0 reached1 t2 t4 t5) (v0, v1_0, v1_1, v1_2, e9))), (.ret, []))
  | _ => none
theorem f_i_tiles_1_tt0 (self : (Int × Int × List Sc × Int × Int × List Sc × List Sc × Int × Int) → Option (List Sc × List Sc × Int × Int)) (hs : ∀ a r, self a = some r → CS Try.prog 93 (f_i_tiles_1_a a.1 a.2.1 a.2.2.1 a.2.2.2.1 a.2.2.2.2.1 a.2.2.2.2.2.1 a.2.2.2.2.2.2.1 a.2.2.2.2.2.2.2.1 a.2.2.2.2.2.2.2.2) (f_i_tiles_1_i a.1 a.2.1 a.2.2.1 a.2.2.2.1 a.2.2.2.2.1 a.2.2.2.2.2.1 a.2.2.2.2.2.2.1 a.2.2.2.2.2.2.2.1 a.2.2.2.2.2.2.2.2) (f_i_tiles_1_en r).1 (f_i_tiles_1_en r).2) : TTrue Try.prog f_i_tiles_1_F Try.f93 0 (f_i_tiles_1_t0 self) := by
  intro σ p r r' h
  unfold f_i_tiles_1_t0 at h
  split at h
  · rename_i hd
    rw [← dec_enc hd]
    exact row1 (f_i_tiles_1_l0 self hs _ _ _ _ _ _) h
  · cases h
def f_i_tiles_1_h2 : List Sh := [.own 3, .fn 93 [.el, .pt 0 1, .evi .i64, .evi .i64, .pt 1 1], .p (.int .i64), .p (.int .i64), .p .el, .p (.pt 0 1), .p (.evi .i64), .p (.evi .i64), .p (.pt 1 1), .u, .u, .p (.int .i64), .u, .u, .u, .u, .u, .u, .u, .u, .u, .u, .u, .u, .u, .u, .u, .u, .u, .u, .own 3, .p (.int .i64), .p (.int .i64), .u, .u, .u, .u, .u, .u, .u, .u, .u, .u, .u, .u, .u, .u, .u, .u, .u, .u, .u, .u, .u, .u, .u, .u, .u, .u, .u, .u, .u, .u, .u]
def f_i_tiles_1_fr2 (self : (Int × Int × List Sc × Int × Int × List Sc × List Sc × Int × Int) → Option (List Sc × List Sc × Int × Int)) (shifts0 : Int) (reached1 : Int) (t2 : List Sc) (t4 : Int) (t5 : Int) (e9 : Int) (t29 : Int) (s : List Sc × List Sc × Int × Int × List Sc × Int) : List AV := enc f_i_tiles_1_h2 [.l s.1, .l s.2.1, .i s.2.2.1, .i s.2.2.2.1, .i shifts0, .i reached1, .l t2, .i t4, .i t5, .i e9, .l s.2.2.2.2.1, .i t29, .i s.2.2.2.2.2]
def f_i_tiles_1_g2_1 : List Sh := [.own 3, .fn 93 [.el, .pt 0 1, .evi .i64, .evi .i64, .pt 1 1], .u, .u, .u, .u, .u, .u, .u, .u, .u, .u, .u, .u, .u, .u, .u, .u, .u, .u, .u, .u, .u, .u, .u, .u, .u, .u, .u, .u, .u, .u, .u, .u, .u, .u, .u, .u, .u, .u, .u, .u, .u, .u, .u, .u, .u, .u, .u, .u, .u, .u, .u, .u, .u, .u, .u, .u, .u, .u, .u, .u, .u, .u]
def f_i_tiles_1_x2_1 (self : (Int × Int × List Sc × Int × Int × List Sc × List Sc × Int × Int) → Option (List Sc × List Sc × Int × Int)) (shifts0 : Int) (reached1 : Int) (t2 : List Sc) (t4 : Int) (t5 : Int) (e9 : Int) (t29 : Int) (e : List Sc × List Sc × Int × Int) : X × List AV := (.out 2, enc f_i_tiles_1_g2_1 [.l e.1, .l e.2.1, .i e.2.2.1, .i e.2.2.2])
def f_i_tiles_1_x2_2 (self : (Int × Int × List Sc × Int × Int × List Sc × List Sc × Int × Int) → Option (List Sc × List Sc × Int × Int)) (shifts0 : Int) (reached1 : Int) (t2 : List Sc) (t4 : Int) (t5 : Int) (e9 : Int) (t29 : Int) (_e : Unit) : X × List AV := (.ret, [])
theorem f_i_tiles_1_p2 {R : Type} (self : (Int × Int × List Sc × Int × Int × List Sc × List Sc × Int × Int) → Option (List Sc × List Sc × Int × Int)) (shifts0 : Int) (reached1 : Int) (t2 : List Sc) (t4 : Int) (t5 : Int) (e9 : Int) (t29 : Int) (s : List Sc × List Sc × Int × Int × List Sc × Int) (kN : List Sc × List Sc × Int × Int × List Sc × Int → Option R) (kA : List Sc × List Sc × Int × Int → Option R) (kB : Unit → Option R) : f_i_tiles_1_k2 self shifts0 reached1 t2 t4 t5 e9 t29 s.1 s.2.1 s.2.2.1 s.2.2.2.1 s.2.2.2.2.1 s.2.2.2.2.2 kN kA = (f_i_tiles_1_r2 self shifts0 reached1 t2 t4 t5 e9 t29 s).bind (Ro.el kN kA kB) := by
  simp only [f_i_tiles_1_k2, f_i_tiles_1_r2, brB, boB, someB, noneB, Ro.el]
theorem f_i_tiles_1_e2 (self : (Int × Int × List Sc × Int × Int × List Sc × List Sc × Int × Int) → Option (List Sc × List Sc × Int × Int)) (shifts0 : Int) (reached1 : Int) (t2 : List Sc) (t4 : Int) (t5 : Int) (e9 : Int) (t29 : Int) (s : List Sc × List Sc × Int × Int × List Sc × Int) : EC E0 (f_i_tiles_1_M self) H0 f_i_tiles_1_F (asL (addL 0 (f_i_tiles_1_t0 self) (noL))) 2 (bodyOf Try.f93 2) (f_i_tiles_1_fr2 self shifts0 reached1 t2 t4 t5 e9 t29 s) (done (klOf f_i_tiles_1_F 2)) = f_i_tiles_1_k2 self shifts0 reached1 t2 t4 t5 e9 t29 s.1 s.2.1 s.2.2.1 s.2.2.2.1 s.2.2.2.2.1 s.2.2.2.2.2 (fun s => some (.norm, f_i_tiles_1_fr2 self shifts0 reached1 t2 t4 t5 e9 t29 s)) (fun e => some (f_i_tiles_1_x2_1 self shifts0 reached1 t2 t4 t5 e9 t29 e)) := by kernel_rfl
theorem f_i_tiles_1_l2 (self : (Int × Int × List Sc × Int × Int × List Sc × List Sc × Int × Int) → Option (List Sc × List Sc × Int × Int)) (hs : ∀ a r, self a = some r → CS Try.prog 93 (f_i_tiles_1_a a.1 a.2.1 a.2.2.1 a.2.2.2.1 a.2.2.2.2.1 a.2.2.2.2.2.1 a.2.2.2.2.2.2.1 a.2.2.2.2.2.2.2.1 a.2.2.2.2.2.2.2.2) (f_i_tiles_1_i a.1 a.2.1 a.2.2.1 a.2.2.2.1 a.2.2.2.2.1 a.2.2.2.2.2.1 a.2.2.2.2.2.2.1 a.2.2.2.2.2.2.2.1 a.2.2.2.2.2.2.2.2) (f_i_tiles_1_en r).1 (f_i_tiles_1_en r).2) (shifts0 : Int) (reached1 : Int) (t2 : List Sc) (t4 : Int) (t5 : Int) (e9 : Int) (t29 : Int) : ∀ s r, loopL (f_i_tiles_1_r2 self shifts0 reached1 t2 t4 t5 e9 t29) s = some r → LS Try.prog f_i_tiles_1_F (bodyOf Try.f93 2) (f_i_tiles_1_fr2 self shifts0 reached1 t2 t4 t5 e9 t29 s) (enX (f_i_tiles_1_x2_1 self shifts0 reached1 t2 t4 t5 e9 t29) (f_i_tiles_1_x2_2 self shifts0 reached1 t2 t4 t5 e9 t29) r) :=
  loop_true E0ok (f_i_tiles_1_Mt self hs) (addL_true (f_i_tiles_1_tt0 self hs) (noL_true)) f_i_tiles_1_o (fun _ h => by cases h) (fun _ h => by cases h) (fun s => (f_i_tiles_1_e2 self shifts0 reached1 t2 t4 t5 e9 t29 s).trans (f_i_tiles_1_p2 self shifts0 reached1 t2 t4 t5 e9 t29 s _ _ (fun e => some (f_i_tiles_1_x2_2 self shifts0 reached1 t2 t4 t5 e9 t29 e))))
def f_i_tiles_1_t2 (self : (Int × Int × List Sc × Int × Int × List Sc × List Sc × Int × Int) → Option (List Sc × List Sc × Int × Int)) (σ : List AV) : Option (Bool × Bool × (X × List AV) × (X × List AV)) := match dec f_i_tiles_1_h2 σ with
  | some [.l v0, .l v1_0, .i v1_1, .i v1_2, .i shifts0, .i reached1, .l t2, .i t4, .i t5, .i e9, .l t28, .i t29, .i t30] => some (isOne (loopL (f_i_tiles_1_r2 self shifts0 reached1 t2 t4 t5 e9 t29) (v0, v1_0, v1_1, v1_2, t28, t30)), true, f_i_tiles_1_x2_1 self shifts0 reached1 t2 t4 t5 e9 t29 (getOne ([], [], 0, 0) (loopL (f_i_tiles_1_r2 self shifts0 reached1 t2 t4 t5 e9 t29) (v0, v1_0, v1_1, v1_2, t28, t30))), (.ret, []))
  | _ => none
theorem f_i_tiles_1_tt2 (self : (Int × Int × List Sc × Int × Int × List Sc × List Sc × Int × Int) → Option (List Sc × List Sc × Int × Int)) (hs : ∀ a r, self a = some r → CS Try.prog 93 (f_i_tiles_1_a a.1 a.2.1 a.2.2.1 a.2.2.2.1 a.2.2.2.2.1 a.2.2.2.2.2.1 a.2.2.2.2.2.2.1 a.2.2.2.2.2.2.2.1 a.2.2.2.2.2.2.2.2) (f_i_tiles_1_i a.1 a.2.1 a.2.2.1 a.2.2.2.1 a.2.2.2.2.1 a.2.2.2.2.2.1 a.2.2.2.2.2.2.1 a.2.2.2.2.2.2.2.1 a.2.2.2.2.2.2.2.2) (f_i_tiles_1_en r).1 (f_i_tiles_1_en r).2) : TTrue Try.prog f_i_tiles_1_F Try.f93 2 (f_i_tiles_1_t2 self) := by
  intro σ p r r' h
  unfold f_i_tiles_1_t2 at h
  split at h
  · rename_i hd
    rw [← dec_enc hd]
    exact row1 (f_i_tiles_1_l2 self hs _ _ _ _ _ _ _ _) h
  · cases h
theorem f_i_tiles_1_p {R : Type} (self : (Int × Int × List Sc × Int × Int × List Sc × List Sc × Int × Int) → Option (List Sc × List Sc × Int × Int)) (shifts0 : Int) (reached1 : Int) (p2 : List Sc) (p4 : Int) (p5 : Int) (h0 : List Sc) (h1_0 : List Sc) (h1_1 : Int) (h1_2 : Int) (kR : List Sc × List Sc × Int × Int → Option R) : f_i_tiles_1_k self shifts0 reached1 p2 p4 p5 h0 h1_0 h1_1 h1_2 kR = (f_i_tiles_1_k self shifts0 reached1 p2 p4 p5 h0 h1_0 h1_1 h1_2 some).bind kR := by
  simp only [f_i_tiles_1_k, brB, boB, bl1B, someB, noneB]
theorem f_i_tiles_1_e (self : (Int × Int × List Sc × Int × Int × List Sc × List Sc × Int × Int) → Option (List Sc × List Sc × Int × Int)) (shifts0 : Int) (reached1 : Int) (p2 : List Sc) (p4 : Int) (p5 : Int) (h0 : List Sc) (h1_0 : List Sc) (h1_1 : Int) (h1_2 : Int) : runFn E0 (f_i_tiles_1_M self) H0 f_i_tiles_1_F (asL (addL 2 (f_i_tiles_1_t2 self) (addL 0 (f_i_tiles_1_t0 self) (noL)))) Try.f93 (f_i_tiles_1_a shifts0 reached1 p2 p4 p5 h0 h1_0 h1_1 h1_2) (f_i_tiles_1_i shifts0 reached1 p2 p4 p5 h0 h1_0 h1_1 h1_2) = f_i_tiles_1_k self shifts0 reached1 p2 p4 p5 h0 h1_0 h1_1 h1_2 (fun r => some (f_i_tiles_1_en r)) := by kernel_rfl
theorem f_i_tiles_1_ks (self : (Int × Int × List Sc × Int × Int × List Sc × List Sc × Int × Int) → Option (List Sc × List Sc × Int × Int)) (hs : ∀ a r, self a = some r → CS Try.prog 93 (f_i_tiles_1_a a.1 a.2.1 a.2.2.1 a.2.2.2.1 a.2.2.2.2.1 a.2.2.2.2.2.1 a.2.2.2.2.2.2.1 a.2.2.2.2.2.2.2.1 a.2.2.2.2.2.2.2.2) (f_i_tiles_1_i a.1 a.2.1 a.2.2.1 a.2.2.2.1 a.2.2.2.2.1 a.2.2.2.2.2.1 a.2.2.2.2.2.2.1 a.2.2.2.2.2.2.2.1 a.2.2.2.2.2.2.2.2) (f_i_tiles_1_en r).1 (f_i_tiles_1_en r).2) (shifts0 : Int) (reached1 : Int) (p2 : List Sc) (p4 : Int) (p5 : Int) (h0 : List Sc) (h1_0 : List Sc) (h1_1 : Int) (h1_2 : Int) (r : List Sc × List Sc × Int × Int) (h : f_i_tiles_1_k self shifts0 reached1 p2 p4 p5 h0 h1_0 h1_1 h1_2 some = some r) : CS Try.prog 93 (f_i_tiles_1_a shifts0 reached1 p2 p4 p5 h0 h1_0 h1_1 h1_2) (f_i_tiles_1_i shifts0 reached1 p2 p4 p5 h0 h1_0 h1_1 h1_2) (f_i_tiles_1_en r).1 (f_i_tiles_1_en r).2 :=
  fn_true (Gk := fun k => f_i_tiles_1_k self shifts0 reached1 p2 p4 p5 h0 h1_0 h1_1 h1_2 k) (en := f_i_tiles_1_en) Try.func93 E0ok (f_i_tiles_1_Mt self hs) (addL_true (f_i_tiles_1_tt2 self hs) (addL_true (f_i_tiles_1_tt0 self hs) (noL_true))) f_i_tiles_1_o (f_i_tiles_1_e self shifts0 reached1 p2 p4 p5 h0 h1_0 h1_1 h1_2) (f_i_tiles_1_p self shifts0 reached1 p2 p4 p5 h0 h1_0 h1_1 h1_2) h
theorem f_i_tiles_1_ns : ∀ n a r, f_i_tiles_1_n n a = some r → CS Try.prog 93 (f_i_tiles_1_a a.1 a.2.1 a.2.2.1 a.2.2.2.1 a.2.2.2.2.1 a.2.2.2.2.2.1 a.2.2.2.2.2.2.1 a.2.2.2.2.2.2.2.1 a.2.2.2.2.2.2.2.2) (f_i_tiles_1_i a.1 a.2.1 a.2.2.1 a.2.2.2.1 a.2.2.2.2.1 a.2.2.2.2.2.1 a.2.2.2.2.2.2.1 a.2.2.2.2.2.2.2.1 a.2.2.2.2.2.2.2.2) (f_i_tiles_1_en r).1 (f_i_tiles_1_en r).2
  | 0, _, _, h => by cases h
  | n + 1, a, r, h => f_i_tiles_1_ks (f_i_tiles_1_n n) (f_i_tiles_1_ns n) a.1 a.2.1 a.2.2.1 a.2.2.2.1 a.2.2.2.2.1 a.2.2.2.2.2.1 a.2.2.2.2.2.2.1 a.2.2.2.2.2.2.2.1 a.2.2.2.2.2.2.2.2 r h
theorem f_i_tiles_1_ok (shifts0 : Int) (reached1 : Int) (p2 : List Sc) (p4 : Int) (p5 : Int) (h0 : List Sc) (h1_0 : List Sc) (h1_1 : Int) (h1_2 : Int) (r : List Sc × List Sc × Int × Int) (h : f_i_tiles_1 shifts0 reached1 p2 p4 p5 h0 h1_0 h1_1 h1_2 = some r) : CS Try.prog 93 (f_i_tiles_1_a shifts0 reached1 p2 p4 p5 h0 h1_0 h1_1 h1_2) (f_i_tiles_1_i shifts0 reached1 p2 p4 p5 h0 h1_0 h1_1 h1_2) (f_i_tiles_1_en r).1 (f_i_tiles_1_en r).2 := by
  obtain ⟨n, hn⟩ := limF_some h
  exact f_i_tiles_1_ns n _ r hn
def f_i_tiles_1_c : CRow := fun args inh => match dec2 [.p (.int .i64), .p (.int .i64), .p .el, .p (.pt 0 1), .p (.evi .i64), .p (.evi .i64), .p (.pt 1 1)] [.own 3, .fn 93 [.el, .pt 0 1, .evi .i64, .evi .i64, .pt 1 1]] args inh with
  | some ([.i shifts0, .i reached1, .l p2, .i p4, .i p5], [.l h0, .l h1_0, .i h1_1, .i h1_2]) => some ((f_i_tiles_1 shifts0 reached1 p2 p4 p5 h0 h1_0 h1_1 h1_2).isSome, (f_i_tiles_1_en ((f_i_tiles_1 shifts0 reached1 p2 p4 p5 h0 h1_0 h1_1 h1_2).getD ([], [], 0, 0))).1, (f_i_tiles_1_en ((f_i_tiles_1 shifts0 reached1 p2 p4 p5 h0 h1_0 h1_1 h1_2).getD ([], [], 0, 0))).2)
  | _ => none
theorem f_i_tiles_1_cc : CTrue Try.prog 93 f_i_tiles_1_c := by
  intro args inh rs out h
  unfold f_i_tiles_1_c at h
  split at h
  · rename_i hd
    obtain ⟨h1, h2⟩ := dec2_enc hd
    rw [← h1, ← h2]
    exact rowC (f_i_tiles_1_ok _ _ _ _ _ _ _ _ _) h
  · cases h

def f_i_tiles_F : Fi := { nv := 2, nc := 2, m := 0, vt := [(7, 0), (8, 1)], kl := [], sk := [], mvs := [], fz := [] }
def f_i_tiles_a (g0 : List Sc) (a1 : Int) (most2 : Int) : List AV := enc [.p .gr, .p (.int .i64), .p (.int .i64)] [.l g0, .i a1, .i most2]
def f_i_tiles_i (g0 : List Sc) (a1 : Int) (most2 : Int) : List AV := enc [] []
def f_i_tiles_en (r : List Sc) : List AV × List AV := (enc [.p (.al 0)] [], enc [.own 3] [.l r])
def f_i_tiles_M : Calling := addC 93 f_i_tiles_1_c (noC)
theorem f_i_tiles_Mt : CallOk Try.prog (f_i_tiles_M) := addC_true f_i_tiles_1_cc (noC_true)
theorem f_i_tiles_o : loopsOnce Try.f69 = true := by kernel_rfl
theorem f_i_tiles_p {R : Type} (g0 : List Sc) (a1 : Int) (most2 : Int) (kR : List Sc → Option R) : f_i_tiles_k g0 a1 most2 kR = (f_i_tiles_k g0 a1 most2 some).bind kR := by
  simp only [f_i_tiles_k, boB, someB]
theorem f_i_tiles_e (g0 : List Sc) (a1 : Int) (most2 : Int) : runFn E0 f_i_tiles_M H0 f_i_tiles_F (asL (noL)) Try.f69 (f_i_tiles_a g0 a1 most2) (f_i_tiles_i g0 a1 most2) = f_i_tiles_k g0 a1 most2 (fun r => some (f_i_tiles_en r)) := by kernel_rfl
theorem f_i_tiles_ok (g0 : List Sc) (a1 : Int) (most2 : Int) (r : List Sc) (h : f_i_tiles g0 a1 most2 = some r) : CS Try.prog 69 (f_i_tiles_a g0 a1 most2) (f_i_tiles_i g0 a1 most2) (f_i_tiles_en r).1 (f_i_tiles_en r).2 :=
  fn_true (Gk := fun k => f_i_tiles_k g0 a1 most2 k) (en := f_i_tiles_en) Try.func69 E0ok f_i_tiles_Mt (noL_true) f_i_tiles_o (f_i_tiles_e g0 a1 most2) (f_i_tiles_p g0 a1 most2) h
def f_i_tiles_c : CRow := fun args inh => match dec2 [.p .gr, .p (.int .i64), .p (.int .i64)] [] args inh with
  | some ([.l g0, .i a1, .i most2], []) => some ((f_i_tiles g0 a1 most2).isSome, (f_i_tiles_en ((f_i_tiles g0 a1 most2).getD [])).1, (f_i_tiles_en ((f_i_tiles g0 a1 most2).getD [])).2)
  | _ => none
theorem f_i_tiles_cc : CTrue Try.prog 69 f_i_tiles_c := by
  intro args inh rs out h
  unfold f_i_tiles_c at h
  split at h
  · rename_i hd
    obtain ⟨h1, h2⟩ := dec2_enc hd
    rw [← h1, ← h2]
    exact rowC (f_i_tiles_ok _ _ _) h
  · cases h

def f_i_FindTile_F : Fi := { nv := 0, nc := 0, m := 0, vt := [], kl := [], sk := [], mvs := [], fz := [] }
def f_i_FindTile_a (g0 : List Sc) (a1 : Int) : List AV := enc [.p .gr, .p (.int .i64)] [.l g0, .i a1]
def f_i_FindTile_i (g0 : List Sc) (a1 : Int) : List AV := enc [] []
def f_i_FindTile_en (r : Int × Bool) : List AV × List AV := (enc [.p (.int .i64), .p .boo] [.i r.1, .b r.2], enc [] [])
def f_i_FindTile_M : Calling := addC 63 f_i_IsSet_c (addC 69 f_i_tiles_c (noC))
theorem f_i_FindTile_Mt : CallOk Try.prog (f_i_FindTile_M) := addC_true f_i_IsSet_cc (addC_true f_i_tiles_cc (noC_true))
theorem f_i_FindTile_o : loopsOnce Try.f31 = true := by kernel_rfl
theorem f_i_FindTile_p {R : Type} (g0 : List Sc) (a1 : Int) (kR : Int × Bool → Option R) : f_i_FindTile_k g0 a1 kR = (f_i_FindTile_k g0 a1 some).bind kR := by
  simp only [f_i_FindTile_k, brB, boB, someB, noneB]
theorem f_i_FindTile_e (g0 : List Sc) (a1 : Int) : runFn E0 f_i_FindTile_M H0 f_i_FindTile_F (asL (noL)) Try.f31 (f_i_FindTile_a g0 a1) (f_i_FindTile_i g0 a1) = f_i_FindTile_k g0 a1 (fun r => some (f_i_FindTile_en r)) := by kernel_rfl
theorem f_i_FindTile_ok (g0 : List Sc) (a1 : Int) (r : Int × Bool) (h : f_i_FindTile g0 a1 = some r) : CS Try.prog 31 (f_i_FindTile_a g0 a1) (f_i_FindTile_i g0 a1) (f_i_FindTile_en r).1 (f_i_FindTile_en r).2 :=
  fn_true (Gk := fun k => f_i_FindTile_k g0 a1 k) (en := f_i_FindTile_en) Try.func31 E0ok f_i_FindTile_Mt (noL_true) f_i_FindTile_o (f_i_FindTile_e g0 a1) (f_i_FindTile_p g0 a1) h
def f_i_FindTile_c : CRow := fun args inh => match dec2 [.p .gr, .p (.int .i64)] [] args inh with
  | some ([.l g0, .i a1], []) => some ((f_i_FindTile g0 a1).isSome, (f_i_FindTile_en ((f_i_FindTile g0 a1).getD (0, false))).1, (f_i_FindTile_en ((f_i_FindTile g0 a1).getD (0, false))).2)
  | _ => none
theorem f_i_FindTile_cc : CTrue Try.prog 31 f_i_FindTile_c := by
  intro args inh rs out h
  unfold f_i_FindTile_c at h
  split at h
  · rename_i hd
    obtain ⟨h1, h2⟩ := dec2_enc hd
    rw [← h1, ← h2]
    exact rowC (f_i_FindTile_ok _ _) h
  · cases h

def f_l_FnExactFindTile_F : Fi := { nv := 3, nc := 1, m := 0, vt := [(8, 0), (18, 1), (24, 2)], kl := [], sk := [], mvs := [1, 2], fz := [] }
def f_l_FnExactFindTile_a (aG0 : List Sc) (aA1 : Int) : List AV := enc [.p .gr, .p (.int .i64)] [.l aG0, .i aA1]
def f_l_FnExactFindTile_i (aG0 : List Sc) (aA1 : Int) : List AV := enc [] []
def f_l_FnExactFindTile_en (r : Bool) : List AV × List AV := (enc [.p .boo] [.b r], enc [] [])
def f_l_FnExactFindTile_M : Calling := addC 15 f_l_szGroup_c (addC 17 f_l_toGroup_c (addC 30 f_s_FindTile_c (addC 31 f_i_FindTile_c (addC 19 f_l_eqGroup_c (noC)))))
theorem f_l_FnExactFindTile_Mt : CallOk Try.prog (f_l_FnExactFindTile_M) := addC_true f_l_szGroup_cc (addC_true f_l_toGroup_cc (addC_true f_s_FindTile_cc (addC_true f_i_FindTile_cc (addC_true f_l_eqGroup_cc (noC_true)))))
theorem f_l_FnExactFindTile_o : loopsOnce Try.f7 = true := by kernel_rfl
theorem f_l_FnExactFindTile_p {R : Type} (aG0 : List Sc) (aA1 : Int) (kR : Bool → Option R) : f_l_FnExactFindTile_k aG0 aA1 kR = (f_l_FnExactFindTile_k aG0 aA1 some).bind kR := by
  simp only [f_l_FnExactFindTile_k, brB, boB, someB]
theorem f_l_FnExactFindTile_e (aG0 : List Sc) (aA1 : Int) : runFn E0 f_l_FnExactFindTile_M H0 f_l_FnExactFindTile_F (asL (noL)) Try.f7 (f_l_FnExactFindTile_a aG0 aA1) (f_l_FnExactFindTile_i aG0 aA1) = f_l_FnExactFindTile_k aG0 aA1 (fun r => some (f_l_FnExactFindTile_en r)) := by kernel_rfl
theorem f_l_FnExactFindTile_ok (aG0 : List Sc) (aA1 : Int) (r : Bool) (h : f_l_FnExactFindTile aG0 aA1 = some r) : CS Try.prog 7 (f_l_FnExactFindTile_a aG0 aA1) (f_l_FnExactFindTile_i aG0 aA1) (f_l_FnExactFindTile_en r).1 (f_l_FnExactFindTile_en r).2 :=
  fn_true (Gk := fun k => f_l_FnExactFindTile_k aG0 aA1 k) (en := f_l_FnExactFindTile_en) Try.func7 E0ok f_l_FnExactFindTile_Mt (noL_true) f_l_FnExactFindTile_o (f_l_FnExactFindTile_e aG0 aA1) (f_l_FnExactFindTile_p aG0 aA1) h
def f_l_FnExactFindTile_c : CRow := fun args inh => match dec2 [.p .gr, .p (.int .i64)] [] args inh with
  | some ([.l aG0, .i aA1], []) => some ((f_l_FnExactFindTile aG0 aA1).isSome, (f_l_FnExactFindTile_en ((f_l_FnExactFindTile aG0 aA1).getD false)).1, (f_l_FnExactFindTile_en ((f_l_FnExactFindTile aG0 aA1).getD false)).2)
  | _ => none
theorem f_l_FnExactFindTile_cc : CTrue Try.prog 7 f_l_FnExactFindTile_c := by
  intro args inh rs out h
  unfold f_l_FnExactFindTile_c at h
  split at h
  · rename_i hd
    obtain ⟨h1, h2⟩ := dec2_enc hd
    rw [← h1, ← h2]
    exact rowC (f_l_FnExactFindTile_ok _ _) h
  · cases h

def f_s_OrderOf_F : Fi := { nv := 0, nc := 0, m := 0, vt := [], kl := [], sk := [], mvs := [], fz := [] }
def f_s_OrderOf_a (g0 : List Sc) : List AV := enc [.p .gr] [.l g0]
def f_s_OrderOf_i (g0 : List Sc) : List AV := enc [] []
def f_s_OrderOf_en (r : Int) : List AV × List AV := (enc [.p (.int .i64)] [.i r], enc [] [])
def f_s_OrderOf_M : Calling := addC 48 f_s_IsGroup_c (addC 49 f_s_l2Order_c (noC))
theorem f_s_OrderOf_Mt : CallOk Try.prog (f_s_OrderOf_M) := addC_true f_s_IsGroup_cc (addC_true f_s_l2Order_cc (noC_true))
theorem f_s_OrderOf_o : loopsOnce Try.f105 = true := by kernel_rfl
theorem f_s_OrderOf_p {R : Type} (g0 : List Sc) (kR : Int → Option R) : f_s_OrderOf_k g0 kR = (f_s_OrderOf_k g0 some).bind kR := by
  simp only [f_s_OrderOf_k, brB, boB, someB]
theorem f_s_OrderOf_e (g0 : List Sc) : runFn E0 f_s_OrderOf_M H0 f_s_OrderOf_F (asL (noL)) Try.f105 (f_s_OrderOf_a g0) (f_s_OrderOf_i g0) = f_s_OrderOf_k g0 (fun r => some (f_s_OrderOf_en r)) := by kernel_rfl
theorem f_s_OrderOf_ok (g0 : List Sc) (r : Int) (h : f_s_OrderOf g0 = some r) : CS Try.prog 105 (f_s_OrderOf_a g0) (f_s_OrderOf_i g0) (f_s_OrderOf_en r).1 (f_s_OrderOf_en r).2 :=
  fn_true (Gk := fun k => f_s_OrderOf_k g0 k) (en := f_s_OrderOf_en) Try.func105 E0ok f_s_OrderOf_Mt (noL_true) f_s_OrderOf_o (f_s_OrderOf_e g0) (f_s_OrderOf_p g0) h
def f_s_OrderOf_c : CRow := fun args inh => match dec2 [.p .gr] [] args inh with
  | some ([.l g0], []) => some ((f_s_OrderOf g0).isSome, (f_s_OrderOf_en ((f_s_OrderOf g0).getD 0)).1, (f_s_OrderOf_en ((f_s_OrderOf g0).getD 0)).2)
  | _ => none
theorem f_s_OrderOf_cc : CTrue Try.prog 105 f_s_OrderOf_c := by
  intro args inh rs out h
  unfold f_s_OrderOf_c at h
  split at h
  · rename_i hd
    obtain ⟨h1, h2⟩ := dec2_enc hd
    rw [← h1, ← h2]
    exact rowC (f_s_OrderOf_ok _) h
  · cases h

def f_s_l2Is_F : Fi := { nv := 0, nc := 0, m := 0, vt := [], kl := [], sk := [], mvs := [], fz := [] }
def f_s_l2Is_a (g0 : List Sc) (x1 : Int) : List AV := enc [.p .gr, .p (.int .i64)] [.l g0, .i x1]
def f_s_l2Is_i (g0 : List Sc) (x1 : Int) : List AV := enc [] []
def f_s_l2Is_en (r : Bool) : List AV × List AV := (enc [.p .boo] [.b r], enc [] [])
def f_s_l2Is_M : Calling := addC 105 f_s_OrderOf_c (noC)
theorem f_s_l2Is_Mt : CallOk Try.prog (f_s_l2Is_M) := addC_true f_s_OrderOf_cc (noC_true)
theorem f_s_l2Is_o : loopsOnce Try.f96 = true := by kernel_rfl
theorem f_s_l2Is_p {R : Type} (g0 : List Sc) (x1 : Int) (kR : Bool → Option R) : f_s_l2Is_k g0 x1 kR = (f_s_l2Is_k g0 x1 some).bind kR := by
  simp only [f_s_l2Is_k, brB, boB, someB]
theorem f_s_l2Is_e (g0 : List Sc) (x1 : Int) : runFn E0 f_s_l2Is_M H0 f_s_l2Is_F (asL (noL)) Try.f96 (f_s_l2Is_a g0 x1) (f_s_l2Is_i g0 x1) = f_s_l2Is_k g0 x1 (fun r => some (f_s_l2Is_en r)) := by kernel_rfl
theorem f_s_l2Is_ok (g0 : List Sc) (x1 : Int) (r : Bool) (h : f_s_l2Is g0 x1 = some r) : CS Try.prog 96 (f_s_l2Is_a g0 x1) (f_s_l2Is_i g0 x1) (f_s_l2Is_en r).1 (f_s_l2Is_en r).2 :=
  fn_true (Gk := fun k => f_s_l2Is_k g0 x1 k) (en := f_s_l2Is_en) Try.func96 E0ok f_s_l2Is_Mt (noL_true) f_s_l2Is_o (f_s_l2Is_e g0 x1) (f_s_l2Is_p g0 x1) h
def f_s_l2Is_c : CRow := fun args inh => match dec2 [.p .gr, .p (.int .i64)] [] args inh with
  | some ([.l g0, .i x1], []) => some ((f_s_l2Is g0 x1).isSome, (f_s_l2Is_en ((f_s_l2Is g0 x1).getD false)).1, (f_s_l2Is_en ((f_s_l2Is g0 x1).getD false)).2)
  | _ => none
theorem f_s_l2Is_cc : CTrue Try.prog 96 f_s_l2Is_c := by
  intro args inh rs out h
  unfold f_s_l2Is_c at h
  split at h
  · rename_i hd
    obtain ⟨h1, h2⟩ := dec2_enc hd
    rw [← h1, ← h2]
    exact rowC (f_s_l2Is_ok _ _) h
  · cases h

def f_s_IsSequence_F : Fi := { nv := 0, nc := 0, m := 0, vt := [], kl := [(0, ([0, 3, 4, 6, 7, 8, 9, 10, 11, 12, 13, 14, 15, 16, 17, 18, 19, 20, 21, 22, 23, 24, 25, 26, 27, 28, 29, 30, 31, 32, 33, 34, 35, 36, 37, 38, 39, 40, 41], [0, 3, 4, 5, 6, 7, 8, 9, 10, 11, 12, 13, 14, 15, 16, 17, 18, 19, 20, 21, 22, 23, 24, 25, 26, 27, 28, 29, 30, 31, 32, 33, 34, 35, 36, 37, 38, 39, 40, 41], [0, 1, 2, 3, 5, 6, 7, 8, 9, 10, 11, 12, 13, 14, 15, 16, 17, 18, 19, 20, 21, 22, 23, 24, 25, 26, 27, 28, 29, 30, 31, 32, 33, 34, 35, 36, 37, 38, 39, 40, 41]))], sk := [], mvs := [], fz := [] }
def f_s_IsSequence_a (g0 : List Sc) (l1 : List Sc) : List AV := enc [.p .gr, .p .sl] [.l g0, .l l1]
def f_s_IsSequence_i (g0 : List Sc) (l1 : List Sc) : List AV := enc [] []
def f_s_IsSequence_en (r : Bool) : List AV × List AV := (enc [.p .boo] [.b r], enc [] [])
def f_s_IsSequence_M : Calling := addC 96 f_s_l2Is_c (addC 48 f_s_IsGroup_c (noC))
theorem f_s_IsSequence_Mt : CallOk Try.prog (f_s_IsSequence_M) := addC_true f_s_l2Is_cc (addC_true f_s_IsGroup_cc (noC_true))
theorem f_s_IsSequence_o : loopsOnce Try.f70 = true := by kernel_rfl
def f_s_IsSequence_h0 : List Sh := [.u, .p .sl, .p .el, .u, .u, .p (.int .i64), .u, .u, .u, .u, .u, .u, .u, .u, .u, .u, .u, .u, .u, .u, .u, .u, .u, .u, .u, .u, .u, .u, .u, .u, .u, .u, .u, .u, .u, .u, .u, .u, .u, .u, .u, .u]
def f_s_IsSequence_fr0 (l1 : List Sc) (g2 : List Sc) (s : Int) : List AV := enc f_s_IsSequence_h0 [.l l1, .l g2, .i s]
def f_s_IsSequence_g0_1 : List Sh := [.u, .p .sl, .p .el, .u, .u, .u, .u, .u, .u, .u, .u, .u, .u, .u, .u, .u, .u, .u, .u, .u, .u, .u, .u, .u, .u, .u, .u, .u, .u, .u, .u, .u, .u, .u, .u, .u, .u, .u, .u, .u, .u, .u]
def f_s_IsSequence_x0_1 (l1 : List Sc) (g2 : List Sc) (e : Unit) : X × List AV := (.out 0, enc f_s_IsSequence_g0_1 [.l l1, .l g2])
def f_s_IsSequence_g0_2 : List Sh := [.u, .u, .u, .u, .p .boo, .u, .u, .u, .u, .u, .u, .u, .u, .u, .u, .u, .u, .u, .u, .u, .u, .u, .u, .u, .u, .u, .u, .u, .u, .u, .u, .u, .u, .u, .u, .u, .u, .u, .u, .u, .u, .u]
def f_s_IsSequence_x0_2 (l1 : List Sc) (g2 : List Sc) (e : Unit) : X × List AV := (.ret, enc f_s_IsSequence_g0_2 [.b false])
theorem f_s_IsSequence_p0 {R : Type} (l1 : List Sc) (g2 : List Sc) (s : Int) (kN : Int → Option R) (kA : Unit → Option R) (kB : Unit → Option R) : f_s_IsSequence_k0 l1 g2 s kN kA kB = (f_s_IsSequence_r0 l1 g2 s).bind (Ro.el kN kA kB) := by
  simp only [f_s_IsSequence_k0, f_s_IsSequence_r0, brB, boB, someB, noneB, Ro.el]
theorem f_s_IsSequence_e0 (l1 : List Sc) (g2 : List Sc) (s : Int) : EC E0 f_s_IsSequence_M H0 f_s_IsSequence_F (asL (noL)) 0 (bodyOf Try.f70 0) (f_s_IsSequence_fr0 l1 g2 s) (done (klOf f_s_IsSequence_F 0)) = f_s_IsSequence_k0 l1 g2 s (fun s => some (.norm, f_s_IsSequence_fr0 l1 g2 s)) (fun e => some (f_s_IsSequence_x0_1 l1 g2 e)) (fun e => some (f_s_IsSequence_x0_2 l1 g2 e)) := by kernel_rfl
theorem f_s_IsSequence_l0 (l1 : List Sc) (g2 : List Sc) : ∀ s r, loopL (f_s_IsSequence_r0 l1 g2) s = some r → LS Try.prog f_s_IsSequence_F (bodyOf Try.f70 0) (f_s_IsSequence_fr0 l1 g2 s) (enX (f_s_IsSequence_x0_1 l1 g2) (f_s_IsSequence_x0_2 l1 g2) r) :=
  loop_true E0ok f_s_IsSequence_Mt (noL_true) f_s_IsSequence_o (fun _ h => by cases h) (fun _ h => by cases h) (fun s => (f_s_IsSequence_e0 l1 g2 s).trans (f_s_IsSequence_p0 l1 g2 s _ _ (fun e => some (f_s_IsSequence_x0_2 l1 g2 e))))
def f_s_IsSequence_t0 (σ : List AV) : Option (Bool × Bool × (X × List AV) × (X × List AV)) := match dec f_s_IsSequence_h0 σ with
  | some [.l l1, .l g2, .i i5] => some ((loopL (f_s_IsSequence_r0 l1 g2) i5).isSome, isOne (loopL (f_s_IsSequence_r0 l1 g2) i5), f_s_IsSequence_x0_1 l1 g2 (getOne () (loopL (f_s_IsSequence_r0 l1 g2) i5)), f_s_IsSequence_x0_2 l1 g2 (getTwo () (loopL (f_s_IsSequence_r0 l1 g2) i5)))
  | _ => none
theorem f_s_IsSequence_tt0 : TTrue Try.prog f_s_IsSequence_F Try.f70 0 (f_s_IsSequence_t0) := by
  intro σ p r r' h
  unfold f_s_IsSequence_t0 at h
  split at h
  · rename_i hd
    rw [← dec_enc hd]
    exact row2 (f_s_IsSequence_l0 _ _ _) h
  · cases h
theorem f_s_IsSequence_p {R : Type} (g0 : List Sc) (l1 : List Sc) (kR : Bool → Option R) : f_s_IsSequence_k g0 l1 kR = (f_s_IsSequence_k g0 l1 some).bind kR := by
  simp only [f_s_IsSequence_k, brB, boB, blB, someB]
theorem f_s_IsSequence_e (g0 : List Sc) (l1 : List Sc) : runFn E0 f_s_IsSequence_M H0 f_s_IsSequence_F (asL (addL 0 (f_s_IsSequence_t0) (noL))) Try.f70 (f_s_IsSequence_a g0 l1) (f_s_IsSequence_i g0 l1) = f_s_IsSequence_k g0 l1 (fun r => some (f_s_IsSequence_en r)) := by kernel_rfl
theorem f_s_IsSequence_ok (g0 : List Sc) (l1 : List Sc) (r : Bool) (h : f_s_IsSequence g0 l1 = some r) : CS Try.prog 70 (f_s_IsSequence_a g0 l1) (f_s_IsSequence_i g0 l1) (f_s_IsSequence_en r).1 (f_s_IsSequence_en r).2 :=
  fn_true (Gk := fun k => f_s_IsSequence_k g0 l1 k) (en := f_s_IsSequence_en) Try.func70 E0ok f_s_IsSequence_Mt (addL_true (f_s_IsSequence_tt0) (noL_true)) f_s_IsSequence_o (f_s_IsSequence_e g0 l1) (f_s_IsSequence_p g0 l1) h
def f_s_IsSequence_c : CRow := fun args inh => match dec2 [.p .gr, .p .sl] [] args inh with
  | some ([.l g0, .l l1], []) => some ((f_s_IsSequence g0 l1).isSome, (f_s_IsSequence_en ((f_s_IsSequence g0 l1).getD false)).1, (f_s_IsSequence_en ((f_s_IsSequence g0 l1).getD false)).2)
  | _ => none
theorem f_s_IsSequence_cc : CTrue Try.prog 70 f_s_IsSequence_c := by
  intro args inh rs out h
  unfold f_s_IsSequence_c at h
  split at h
  · rename_i hd
    obtain ⟨h1, h2⟩ := dec2_enc hd
    rw [← h1, ← h2]
    exact rowC (f_s_IsSequence_ok _ _) h
  · cases h

def f_s_WeightedZero_F : Fi := { nv := 0, nc := 0, m := 0, vt := [], kl := [(4, ([0, 3, 4, 5, 7, 13, 14, 15, 16, 17, 18, 19, 20, 21, 22, 23, 24, 25, 26, 27, 28, 29, 30, 31, 32, 33, 34, 35, 36, 37, 38, 39, 40, 41, 42, 43, 44, 45, 46, 47, 48, 49, 50, 51, 52, 53, 54, 55, 56, 57, 58, 59, 60, 61, 62, 63, 64, 65, 66, 67, 68, 69, 70, 71, 72, 73, 74, 75, 76, 77, 78, 79, 80], [0, 3, 4, 5, 7, 10, 12, 13, 14, 15, 16, 17, 18, 19, 20, 21, 22, 23, 24, 25, 26, 27, 28, 29, 30, 31, 32, 33, 34, 35, 36, 37, 38, 39, 40, 41, 42, 43, 44, 45, 46, 47, 48, 49, 50, 51, 52, 53, 54, 55, 56, 57, 58, 59, 60, 61, 62, 63, 64, 65, 66, 67, 68, 69, 70, 71, 72, 73, 74, 75, 76, 77, 78, 79, 80], [0, 1, 2, 3, 6, 7, 8, 9, 10, 11, 12, 13, 14, 15, 16, 17, 18, 19, 20, 21, 22, 23, 24, 25, 26, 27, 28, 29, 30, 31, 32, 33, 34, 35, 36, 37, 38, 39, 40, 41, 42, 43, 44, 45, 46, 47, 48, 49, 50, 51, 52, 53, 54, 55, 56, 57, 58, 59, 60, 61, 62, 63, 64, 65, 66, 67, 68, 69, 70, 71, 72, 73, 74, 75, 76, 77, 78, 79, 80])), (2, ([0, 3, 4, 5, 7, 9, 10, 11, 12, 13, 14, 15, 16, 17, 18, 19, 20, 21, 22, 23, 24, 25, 26, 27, 28, 29, 30, 31, 32, 33, 34, 35, 36, 37, 38, 39, 40, 41, 42, 43, 44, 45, 46, 47, 48, 49, 50, 51, 52, 53, 54, 55, 56, 57, 58, 59, 60, 61, 62, 63, 64, 65, 66, 67, 68, 69, 70, 71, 72, 73, 74, 75, 76, 77, 78, 79, 80], [0, 3, 4, 5, 7, 10, 12, 13, 14, 15, 16, 17, 18, 19, 20, 21, 22, 23, 24, 25, 26, 27, 28, 29, 30, 31, 32, 33, 34, 35, 36, 37, 38, 39, 40, 41, 42, 43, 44, 45, 46, 47, 48, 49, 50, 51, 52, 53, 54, 55, 56, 57, 58, 59, 60, 61, 62, 63, 64, 65, 66, 67, 68, 69, 70, 71, 72, 73, 74, 75, 76, 77, 78, 79, 80], [0, 1, 2, 3, 6, 7, 8, 9, 10, 11, 12, 13, 14, 15, 16, 17, 18, 19, 20, 21, 22, 23, 24, 25, 26, 27, 28, 29, 30, 31, 32, 33, 34, 35, 36, 37, 38, 39, 40, 41, 42, 43, 44, 45, 46, 47, 48, 49, 50, 51, 52, 53, 54, 55, 56, 57, 58, 59, 60, 61, 62, 63, 64, 65, 66, 67, 68, 69, 70, 71, 72, 73, 74, 75, 76, 77, 78, 79, 80])), (0, ([0, 3, 4, 5, 8, 9, 10, 11, 12, 13, 14, 15, 16, 17, 18, 19, 20, 21, 22, 23, 24, 25, 26, 27, 28, 29, 30, 31, 32, 33, 34, 35, 36, 37, 38, 39, 40, 41, 42, 43, 44, 45, 46, 47, 48, 49, 50, 51, 52, 53, 54, 55, 56, 57, 58, 59, 60, 61, 62, 63, 64, 65, 66, 67, 68, 69, 70, 71, 72, 73, 74, 75, 76, 77, 78, 79, 80], [0, 3, 4, 5, 7, 8, 9, 10, 11, 12, 13, 14, 15, 16, 17, 18, 19, 20, 21, 22, 23, 24, 25, 26, 27, 28, 29, 30, 31, 32, 33, 34, 35, 36, 37, 38, 39, 40, 41, 42, 43, 44, 45, 46, 47, 48, 49, 50, 51, 52, 53, 54, 55, 56, 57, 58, 59, 60, 61, 62, 63, 64, 65, 66, 67, 68, 69, 70, 71, 72, 73, 74, 75, 76, 77, 78, 79, 80], [0, 1, 2, 3, 6, 7, 8, 9, 10, 11, 12, 13, 14, 15, 16, 17, 18, 19, 20, 21, 22, 23, 24, 25, 26, 27, 28, 29, 30, 31, 32, 33, 34, 35, 36, 37, 38, 39, 40, 41, 42, 43, 44, 45, 46, 47, 48, 49, 50, 51, 52, 53, 54, 55, 56, 57, 58, 59, 60, 61, 62, 63, 64, 65, 66, 67, 68, 69, 70, 71, 72, 73, 74, 75, 76, 77, 78, 79, 80]))], sk := [], mvs := [], fz := [] }
def f_s_WeightedZero_a (L0 : List Sc) (p1 : List Sc) : List AV := enc [.p .gr, .p .sl] [.l L0, .l p1]
def f_s_WeightedZero_i (L0 : List Sc) (p1 : List Sc) : List AV := enc [] []
def f_s_WeightedZero_en (r : List Sc × Bool) : List AV × List AV := (enc [.p (.al 0), .p .boo] [.b r.2], enc [.own 3] [.l r.1])
def f_s_WeightedZero_M : Calling := addC 70 f_s_IsSequence_c (addC 71 f_s_l2Add_c (addC 72 f_s_l2Negate_c (noC)))
theorem f_s_WeightedZero_Mt : CallOk Try.prog (f_s_WeightedZero_M) := addC_true f_s_IsSequence_cc (addC_true f_s_l2Add_cc (addC_true f_s_l2Negate_cc (noC_true)))
theorem f_s_WeightedZero_o : loopsOnce Try.f32 = true := by kernel_rfl
def f_s_WeightedZero_h0 : List Sh := [.u, .p .sl, .p .el, .u, .u, .u, .p (.int .i64), .p (.int .i64), .u, .u, .u, .u, .u, .u, .u, .u, .u, .u, .u, .u, .u, .u, .u, .u, .u, .u, .u, .u, .u, .u, .u, .u, .u, .u, .u, .u, .u, .u, .u, .u, .u, .u, .u, .u, .u, .u, .u, .u, .u, .u, .u, .u, .u, .u, .u, .u, .u, .u, .u, .u, .u, .u, .u, .u, .u, .u, .u, .u, .u, .u, .u, .u, .u, .u, .u, .u, .u, .u, .u, .u, .u]
def f_s_WeightedZero_fr0 (t1 : List Sc) (t2 : List Sc) (s : Int × Int) : List AV := enc f_s_WeightedZero_h0 [.l t1, .l t2, .i s.1, .i s.2]
def f_s_WeightedZero_g0_1 : List Sh := [.u, .p .sl, .p .el, .u, .u, .u, .p (.int .i64), .u, .u, .u, .u, .u, .u, .u, .u, .u, .u, .u, .u, .u, .u, .u, .u, .u, .u, .u, .u, .u, .u, .u, .u, .u, .u, .u, .u, .u, .u, .u, .u, .u, .u, .u, .u, .u, .u, .u, .u, .u, .u, .u, .u, .u, .u, .u, .u, .u, .u, .u, .u, .u, .u, .u, .u, .u, .u, .u, .u, .u, .u, .u, .u, .u, .u, .u, .u, .u, .u, .u, .u, .u, .u]
def f_s_WeightedZero_x0_1 (t1 : List Sc) (t2 : List Sc) (e : Int) : X × List AV := (.out 0, enc f_s_WeightedZero_g0_1 [.l t1, .l t2, .i e])
def f_s_WeightedZero_x0_2 (t1 : List Sc) (t2 : List Sc) (_e : Unit) : X × List AV := (.ret, [])
theorem f_s_WeightedZero_p0 {R : Type} (t1 : List Sc) (t2 : List Sc) (s : Int × Int) (kN : Int × Int → Option R) (kA : Int → Option R) (kB : Unit → Option R) : f_s_WeightedZero_k0 t1 t2 s.1 s.2 kN kA = (f_s_WeightedZero_r0 t1 t2 s).bind (Ro.el kN kA kB) := by
  simp only [f_s_WeightedZero_k0, f_s_WeightedZero_r0, brB, someB, Ro.el]
theorem f_s_WeightedZero_e0 (t1 : List Sc) (t2 : List Sc) (s : Int × Int) : EC E0 f_s_WeightedZero_M H0 f_s_WeightedZero_F (asL (noL)) 0 (bodyOf Try.f32 0) (f_s_WeightedZero_fr0 t1 t2 s) (done (klOf f_s_WeightedZero_F 0)) = f_s_WeightedZero_k0 t1 t2 s.1 s.2 (fun s => some (.norm, f_s_WeightedZero_fr0 t1 t2 s)) (fun e => some (f_s_WeightedZero_x0_1 t1 t2 e)) := by kernel_rfl
theorem f_s_WeightedZero_l0 (t1 : List Sc) (t2 : List Sc) : ∀ s r, loopL (f_s_WeightedZero_r0 t1 t2) s = some r → LS Try.prog f_s_WeightedZero_F (bodyOf Try.f32 0) (f_s_WeightedZero_fr0 t1 t2 s) (enX (f_s_WeightedZero_x0_1 t1 t2) (f_s_WeightedZero_x0_2 t1 t2) r) :=
  loop_true E0ok f_s_WeightedZero_Mt (noL_true) f_s_WeightedZero_o (fun _ h => by cases h) (fun _ h => by cases h) (fun s => (f_s_WeightedZero_e0 t1 t2 s).trans (f_s_WeightedZero_p0 t1 t2 s _ _ (fun e => some (f_s_WeightedZero_x0_2 t1 t2 e))))
def f_s_WeightedZero_t0 (σ : List AV) : Option (Bool × Bool × (X × List AV) × (X × List AV)) := match dec f_s_WeightedZero_h0 σ with
  | some [.l t1, .l t2, .i t6, .i t7] => some (isOne (loopL (f_s_WeightedZero_r0 t1 t2) (t6, t7)), true, f_s_WeightedZero_x0_1 t1 t2 (getOne 0 (loopL (f_s_WeightedZero_r0 t1 t2) (t6, t7))), (.ret, []))
  | _ => none
theorem f_s_WeightedZero_tt0 : TTrue Try.prog f_s_WeightedZero_F Try.f32 0 (f_s_WeightedZero_t0) := by
  intro σ p r r' h
  unfold f_s_WeightedZero_t0 at h
  split at h
  · rename_i hd
    rw [← dec_enc hd]
    exact row1 (f_s_WeightedZero_l0 _ _ _) h
  · cases h
def f_s_WeightedZero_h4 : List Sh := [.u, .p .sl, .p .el, .u, .u, .u, .p (.int .i64), .u, .p (.int .i64), .own 3, .p (.int .i64), .p (.int .i64), .p (.int .i64), .u, .u, .u, .u, .u, .u, .u, .u, .u, .u, .u, .u, .u, .u, .u, .u, .u, .u, .u, .u, .u, .u, .u, .u, .u, .u, .u, .u, .u, .u, .u, .u, .u, .u, .u, .u, .u, .u, .u, .u, .u, .u, .u, .u, .u, .u, .u, .u, .u, .u, .u, .u, .u, .u, .u, .u, .u, .u, .u, .u, .u, .u, .u, .u, .u, .u, .u, .u]
def f_s_WeightedZero_fr4 (t1 : List Sc) (t2 : List Sc) (t6 : Int) (t8 : Int) (s : List Sc × Int × Int × Int) : List AV := enc f_s_WeightedZero_h4 [.l t1, .l t2, .i t6, .i t8, .l s.1, .i s.2.1, .i s.2.2.1, .i s.2.2.2]
def f_s_WeightedZero_g4_1 : List Sh := [.u, .p .sl, .p .el, .u, .u, .u, .p (.int .i64), .u, .p (.int .i64), .own 3, .u, .p (.int .i64), .u, .u, .u, .u, .u, .u, .u, .u, .u, .u, .u, .u, .u, .u, .u, .u, .u, .u, .u, .u, .u, .u, .u, .u, .u, .u, .u, .u, .u, .u, .u, .u, .u, .u, .u, .u, .u, .u, .u, .u, .u, .u, .u, .u, .u, .u, .u, .u, .u, .u, .u, .u, .u, .u, .u, .u, .u, .u, .u, .u, .u, .u, .u, .u, .u, .u, .u, .u, .u]
def f_s_WeightedZero_x4_1 (t1 : List Sc) (t2 : List Sc) (t6 : Int) (t8 : Int) (e : List Sc × Int) : X × List AV := (.out 4, enc f_s_WeightedZero_g4_1 [.l t1, .l t2, .i t6, .i t8, .l e.1, .i e.2])
def f_s_WeightedZero_x4_2 (t1 : List Sc) (t2 : List Sc) (t6 : Int) (t8 : Int) (_e : Unit) : X × List AV := (.ret, [])
theorem f_s_WeightedZero_p4 {R : Type} (t1 : List Sc) (t2 : List Sc) (t6 : Int) (t8 : Int) (s : List Sc × Int × Int × Int) (kN : List Sc × Int × Int × Int → Option R) (kA : List Sc × Int → Option R) (kB : Unit → Option R) : f_s_WeightedZero_k4 t1 t2 t6 t8 s.1 s.2.1 s.2.2.1 s.2.2.2 kN kA = (f_s_WeightedZero_r4 t1 t2 t6 t8 s).bind (Ro.el kN kA kB) := by
  simp only [f_s_WeightedZero_k4, f_s_WeightedZero_r4, brB, boB, someB, noneB, Ro.el]
theorem f_s_WeightedZero_e4 (t1 : List Sc) (t2 : List Sc) (t6 : Int) (t8 : Int) (s : List Sc × Int × Int × Int) : EC E0 f_s_WeightedZero_M H0 f_s_WeightedZero_F (asL (addL 0 (f_s_WeightedZero_t0) (noL))) 4 (bodyOf Try.f32 4) (f_s_WeightedZero_fr4 t1 t2 t6 t8 s) (done (klOf f_s_WeightedZero_F 4)) = f_s_WeightedZero_k4 t1 t2 t6 t8 s.1 s.2.1 s.2.2.1 s.2.2.2 (fun s => some (.norm, f_s_WeightedZero_fr4 t1 t2 t6 t8 s)) (fun e => some (f_s_WeightedZero_x4_1 t1 t2 t6 t8 e)) := by kernel_rfl
theorem f_s_WeightedZero_l4 (t1 : List Sc) (t2 : List Sc) (t6 : Int) (t8 : Int) : ∀ s r, loopL (f_s_WeightedZero_r4 t1 t2 t6 t8) s = some r → LS Try.prog f_s_WeightedZero_F (bodyOf Try.f32 4) (f_s_WeightedZero_fr4 t1 t2 t6 t8 s) (enX (f_s_WeightedZero_x4_1 t1 t2 t6 t8) (f_s_WeightedZero_x4_2 t1 t2 t6 t8) r) :=
  loop_true E0ok f_s_WeightedZero_Mt (addL_true (f_s_WeightedZero_tt0) (noL_true)) f_s_WeightedZero_o (fun _ h => by cases h) (fun _ h => by cases h) (fun s => (f_s_WeightedZero_e4 t1 t2 t6 t8 s).trans (f_s_WeightedZero_p4 t1 t2 t6 t8 s _ _ (fun e => some (f_s_WeightedZero_x4_2 t1 t2 t6 t8 e))))
def f_s_WeightedZero_t4 (σ : List AV) : Option (Bool × Bool × (X × List AV) × (X × List AV)) := match dec f_s_WeightedZero_h4 σ with
  | some [.l t1, .l t2, .i t6, .i t8, .l t9, .i t10, .i t11, .i t12] => some (isOne (loopL (f_s_WeightedZero_r4 t1 t2 t6 t8) (t9, t10, t11, t12)), true, f_s_WeightedZero_x4_1 t1 t2 t6 t8 (getOne ([], 0) (loopL (f_s_WeightedZero_r4 t1 t2 t6 t8) (t9, t10, t11, t12))), (.ret, []))
  | _ => none
theorem f_s_WeightedZero_tt4 : TTrue Try.prog f_s_WeightedZero_F Try.f32 4 (f_s_WeightedZero_t4) := by
  intro σ p r r' h
  unfold f_s_WeightedZero_t4 at h
  split at h
  · rename_i hd
    rw [← dec_enc hd]
    exact row1 (f_s_WeightedZero_l4 _ _ _ _ _) h
  · cases h
def f_s_WeightedZero_h2 : List Sh := [.u, .p .sl, .p .el, .u, .u, .u, .p (.int .i64), .u, .p (.int .i64), .u, .u, .u, .u, .u, .u, .u, .u, .u, .u, .u, .u, .u, .u, .u, .u, .u, .u, .u, .u, .u, .u, .u, .u, .u, .u, .u, .u, .u, .u, .u, .u, .u, .u, .u, .u, .u, .u, .u, .u, .u, .u, .u, .u, .u, .u, .u, .u, .u, .u, .u, .u, .u, .u, .u, .u, .u, .u, .u, .u, .u, .u, .u, .u, .u, .u, .u, .u, .u, .u, .u, .u]
def f_s_WeightedZero_fr2 (t1 : List Sc) (t2 : List Sc) (t6 : Int) (s : Int) : List AV := enc f_s_WeightedZero_h2 [.l t1, .l t2, .i t6, .i s]
def f_s_WeightedZero_g2_1 : List Sh := [.u, .p .sl, .p .el, .u, .u, .u, .p (.int .i64), .u, .p (.int .i64), .u, .u, .u, .u, .u, .u, .u, .u, .u, .u, .u, .u, .u, .u, .u, .u, .u, .u, .u, .u, .u, .u, .u, .u, .u, .u, .u, .u, .u, .u, .u, .u, .u, .u, .u, .u, .u, .u, .u, .u, .u, .u, .u, .u, .u, .u, .u, .u, .u, .u, .u, .u, .u, .u, .u, .u, .u, .u, .u, .u, .u, .u, .u, .u, .u, .u, .u, .u, .u, .u, .u, .u]
def f_s_WeightedZero_x2_1 (t1 : List Sc) (t2 : List Sc) (t6 : Int) (e : Int) : X × List AV := (.out 2, enc f_s_WeightedZero_g2_1 [.l t1, .l t2, .i t6, .i e])
def f_s_WeightedZero_g2_2 : List Sh := [.u, .u, .u, .u, .own 3, .p .boo, .u, .u, .u, .u, .u, .u, .u, .u, .u, .u, .u, .u, .u, .u, .u, .u, .u, .u, .u, .u, .u, .u, .u, .u, .u, .u, .u, .u, .u, .u, .u, .u, .u, .u, .u, .u, .u, .u, .u, .u, .u, .u, .u, .u, .u, .u, .u, .u, .u, .u, .u, .u, .u, .u, .u, .u, .u, .u, .u, .u, .u, .u, .u, .u, .u, .u, .u, .u, .u, .u, .u, .u, .u, .u, .u]
def f_s_WeightedZero_x2_2 (t1 : List Sc) (t2 : List Sc) (t6 : Int) (e : List Sc) : X × List AV := (.ret, enc f_s_WeightedZero_g2_2 [.l e, .b true])
theorem f_s_WeightedZero_p2 {R : Type} (t1 : List Sc) (t2 : List Sc) (t6 : Int) (s : Int) (kN : Int → Option R) (kA : Int → Option R) (kB : List Sc → Option R) : f_s_WeightedZero_k2 t1 t2 t6 s kN kA kB = (f_s_WeightedZero_r2 t1 t2 t6 s).bind (Ro.el kN kA kB) := by
  simp only [f_s_WeightedZero_k2, f_s_WeightedZero_r2, brB, bl1B, someB, noneB, Ro.el]
theorem f_s_WeightedZero_e2 (t1 : List Sc) (t2 : List Sc) (t6 : Int) (s : Int) : EC E0 f_s_WeightedZero_M H0 f_s_WeightedZero_F (asL (addL 4 (f_s_WeightedZero_t4) (addL 0 (f_s_WeightedZero_t0) (noL)))) 2 (bodyOf Try.f32 2) (f_s_WeightedZero_fr2 t1 t2 t6 s) (done (klOf f_s_WeightedZero_F 2)) = f_s_WeightedZero_k2 t1 t2 t6 s (fun s => some (.norm, f_s_WeightedZero_fr2 t1 t2 t6 s)) (fun e => some (f_s_WeightedZero_x2_1 t1 t2 t6 e)) (fun e => some (f_s_WeightedZero_x2_2 t1 t2 t6 e)) := by kernel_rfl
theorem f_s_WeightedZero_l2 (t1 : List Sc) (t2 : List Sc) (t6 : Int) : ∀ s r, loopL (f_s_WeightedZero_r2 t1 t2 t6) s = some r → LS Try.prog f_s_WeightedZero_F (bodyOf Try.f32 2) (f_s_WeightedZero_fr2 t1 t2 t6 s) (enX (f_s_WeightedZero_x2_1 t1 t2 t6) (f_s_WeightedZero_x2_2 t1 t2 t6) r) :=
  loop_true E0ok f_s_WeightedZero_Mt (addL_true (f_s_WeightedZero_tt4) (addL_true (f_s_WeightedZero_tt0) (noL_true))) f_s_WeightedZero_o (fun _ h => by cases h) (fun _ h => by cases h) (fun s => (f_s_WeightedZero_e2 t1 t2 t6 s).trans (f_s_WeightedZero_p2 t1 t2 t6 s _ _ (fun e => some (f_s_WeightedZero_x2_2 t1 t2 t6 e))))
def f_s_WeightedZero_t2 (σ : List AV) : Option (Bool × Bool × (X × List AV) × (X × List AV)) := match dec f_s_WeightedZero_h2 σ with
  | some [.l t1, .l t2, .i t6, .i t8] => some ((loopL (f_s_WeightedZero_r2 t1 t2 t6) t8).isSome, isOne (loopL (f_s_WeightedZero_r2 t1 t2 t6) t8), f_s_WeightedZero_x2_1 t1 t2 t6 (getOne 0 (loopL (f_s_WeightedZero_r2 t1 t2 t6) t8)), f_s_WeightedZero_x2_2 t1 t2 t6 (getTwo [] (loopL (f_s_WeightedZero_r2 t1 t2 t6) t8)))
  | _ => none
theorem f_s_WeightedZero_tt2 : TTrue Try.prog f_s_WeightedZero_F Try.f32 2 (f_s_WeightedZero_t2) := by
  intro σ p r r' h
  unfold f_s_WeightedZero_t2 at h
  split at h
  · rename_i hd
    rw [← dec_enc hd]
    exact row2 (f_s_WeightedZero_l2 _ _ _ _) h
  · cases h
theorem f_s_WeightedZero_p {R : Type} (L0 : List Sc) (p1 : List Sc) (kR : List Sc × Bool → Option R) : f_s_WeightedZero_k L0 p1 kR = (f_s_WeightedZero_k L0 p1 some).bind kR := by
  simp only [f_s_WeightedZero_k, brB, boB, bl1B, blB, someB]
theorem f_s_WeightedZero_e (L0 : List Sc) (p1 : List Sc) : runFn E0 f_s_WeightedZero_M H0 f_s_WeightedZero_F (asL (addL 2 (f_s_WeightedZero_t2) (addL 4 (f_s_WeightedZero_t4) (addL 0 (f_s_WeightedZero_t0) (noL))))) Try.f32 (f_s_WeightedZero_a L0 p1) (f_s_WeightedZero_i L0 p1) = f_s_WeightedZero_k L0 p1 (fun r => some (f_s_WeightedZero_en r)) := by kernel_rfl
theorem f_s_WeightedZero_ok (L0 : List Sc) (p1 : List Sc) (r : List Sc × Bool) (h : f_s_WeightedZero L0 p1 = some r) : CS Try.prog 32 (f_s_WeightedZero_a L0 p1) (f_s_WeightedZero_i L0 p1) (f_s_WeightedZero_en r).1 (f_s_WeightedZero_en r).2 :=
  fn_true (Gk := fun k => f_s_WeightedZero_k L0 p1 k) (en := f_s_WeightedZero_en) Try.func32 E0ok f_s_WeightedZero_Mt (addL_true (f_s_WeightedZero_tt2) (addL_true (f_s_WeightedZero_tt4) (addL_true (f_s_WeightedZero_tt0) (noL_true)))) f_s_WeightedZero_o (f_s_WeightedZero_e L0 p1) (f_s_WeightedZero_p L0 p1) h
def f_s_WeightedZero_c : CRow := fun args inh => match dec2 [.p .gr, .p .sl] [] args inh with
  | some ([.l L0, .l p1], []) => some ((f_s_WeightedZero L0 p1).isSome, (f_s_WeightedZero_en ((f_s_WeightedZero L0 p1).getD ([], false))).1, (f_s_WeightedZero_en ((f_s_WeightedZero L0 p1).getD ([], false))).2)
  | _ => none
theorem f_s_WeightedZero_cc : CTrue Try.prog 32 f_s_WeightedZero_c := by
  intro args inh rs out h
  unfold f_s_WeightedZero_c at h
  split at h
  · rename_i hd
    obtain ⟨h1, h2⟩ := dec2_enc hd
    rw [← h1, ← h2]
    exact rowC (f_s_WeightedZero_ok _ _) h
  · cases h

def f_i_Group_has_F : Fi := { nv := 0, nc := 0, m := 0, vt := [], kl := [], sk := [], mvs := [], fz := [] }
def f_i_Group_has_a (g0 : List Sc) (x1 : Int) : List AV := enc [.p .gr, .p (.int .i64)] [.l g0, .i x1]
def f_i_Group_has_i (g0 : List Sc) (x1 : Int) : List AV := enc [] []
def f_i_Group_has_en (r : Bool) : List AV × List AV := (enc [.p .boo] [.b r], enc [] [])
def f_i_Group_has_M : Calling := addC 53 f_i_OrderOf_c (addC 54 f_i_within_c (noC))
theorem f_i_Group_has_Mt : CallOk Try.prog (f_i_Group_has_M) := addC_true f_i_OrderOf_cc (addC_true f_i_within_cc (noC_true))
theorem f_i_Group_has_o : loopsOnce Try.f97 = true := by kernel_rfl
theorem f_i_Group_has_p {R : Type} (g0 : List Sc) (x1 : Int) (kR : Bool → Option R) : f_i_Group_has_k g0 x1 kR = (f_i_Group_has_k g0 x1 some).bind kR := by
  simp only [f_i_Group_has_k, boB, someB]
theorem f_i_Group_has_e (g0 : List Sc) (x1 : Int) : runFn E0 f_i_Group_has_M H0 f_i_Group_has_F (asL (noL)) Try.f97 (f_i_Group_has_a g0 x1) (f_i_Group_has_i g0 x1) = f_i_Group_has_k g0 x1 (fun r => some (f_i_Group_has_en r)) := by kernel_rfl
theorem f_i_Group_has_ok (g0 : List Sc) (x1 : Int) (r : Bool) (h : f_i_Group_has g0 x1 = some r) : CS Try.prog 97 (f_i_Group_has_a g0 x1) (f_i_Group_has_i g0 x1) (f_i_Group_has_en r).1 (f_i_Group_has_en r).2 :=
  fn_true (Gk := fun k => f_i_Group_has_k g0 x1 k) (en := f_i_Group_has_en) Try.func97 E0ok f_i_Group_has_Mt (noL_true) f_i_Group_has_o (f_i_Group_has_e g0 x1) (f_i_Group_has_p g0 x1) h
def f_i_Group_has_c : CRow := fun args inh => match dec2 [.p .gr, .p (.int .i64)] [] args inh with
  | some ([.l g0, .i x1], []) => some ((f_i_Group_has g0 x1).isSome, (f_i_Group_has_en ((f_i_Group_has g0 x1).getD false)).1, (f_i_Group_has_en ((f_i_Group_has g0 x1).getD false)).2)
  | _ => none
theorem f_i_Group_has_cc : CTrue Try.prog 97 f_i_Group_has_c := by
  intro args inh rs out h
  unfold f_i_Group_has_c at h
  split at h
  · rename_i hd
    obtain ⟨h1, h2⟩ := dec2_enc hd
    rw [← h1, ← h2]
    exact rowC (f_i_Group_has_ok _ _) h
  · cases h

def f_cmp_isNaN_F : Fi := { nv := 0, nc := 0, m := 0, vt := [], kl := [], sk := [], mvs := [], fz := [] }
def f_cmp_isNaN_a (x0 : Int) : List AV := enc [.p (.int .i64)] [.i x0]
def f_cmp_isNaN_i (x0 : Int) : List AV := enc [] []
def f_cmp_isNaN_en (r : Bool) : List AV × List AV := (enc [.p .boo] [.b r], enc [] [])
def f_cmp_isNaN_M : Calling := noC
theorem f_cmp_isNaN_Mt : CallOk Try.prog (f_cmp_isNaN_M) := noC_true
theorem f_cmp_isNaN_o : loopsOnce Try.f119 = true := by kernel_rfl
theorem f_cmp_isNaN_p {R : Type} (x0 : Int) (kR : Bool → Option R) : f_cmp_isNaN_k x0 kR = (f_cmp_isNaN_k x0 some).bind kR := by
  simp only [f_cmp_isNaN_k, someB]
theorem f_cmp_isNaN_e (x0 : Int) : runFn E0 f_cmp_isNaN_M H0 f_cmp_isNaN_F (asL (noL)) Try.f119 (f_cmp_isNaN_a x0) (f_cmp_isNaN_i x0) = f_cmp_isNaN_k x0 (fun r => some (f_cmp_isNaN_en r)) := by kernel_rfl
theorem f_cmp_isNaN_ok (x0 : Int) (r : Bool) (h : f_cmp_isNaN x0 = some r) : CS Try.prog 119 (f_cmp_isNaN_a x0) (f_cmp_isNaN_i x0) (f_cmp_isNaN_en r).1 (f_cmp_isNaN_en r).2 :=
  fn_true (Gk := fun k => f_cmp_isNaN_k x0 k) (en := f_cmp_isNaN_en) Try.func119 E0ok f_cmp_isNaN_Mt (noL_true) f_cmp_isNaN_o (f_cmp_isNaN_e x0) (f_cmp_isNaN_p x0) h
def f_cmp_isNaN_c : CRow := fun args inh => match dec2 [.p (.int .i64)] [] args inh with
  | some ([.i x0], []) => some ((f_cmp_isNaN x0).isSome, (f_cmp_isNaN_en ((f_cmp_isNaN x0).getD false)).1, (f_cmp_isNaN_en ((f_cmp_isNaN x0).getD false)).2)
  | _ => none
theorem f_cmp_isNaN_cc : CTrue Try.prog 119 f_cmp_isNaN_c := by
  intro args inh rs out h
  unfold f_cmp_isNaN_c at h
  split at h
  · rename_i hd
    obtain ⟨h1, h2⟩ := dec2_enc hd
    rw [← h1, ← h2]
    exact rowC (f_cmp_isNaN_ok _) h
  · cases h

def f_cmp_Less_F : Fi := { nv := 0, nc := 0, m := 0, vt := [], kl := [], sk := [], mvs := [], fz := [] }
def f_cmp_Less_a (x0 : Int) (y1 : Int) : List AV := enc [.p (.int .i64), .p (.int .i64)] [.i x0, .i y1]
def f_cmp_Less_i (x0 : Int) (y1 : Int) : List AV := enc [] []
def f_cmp_Less_en (r : Bool) : List AV × List AV := (enc [.p .boo] [.b r], enc [] [])
def f_cmp_Less_M : Calling := addC 119 f_cmp_isNaN_c (noC)
theorem f_cmp_Less_Mt : CallOk Try.prog (f_cmp_Less_M) := addC_true f_cmp_isNaN_cc (noC_true)
theorem f_cmp_Less_o : loopsOnce Try.f106 = true := by kernel_rfl
theorem f_cmp_Less_p {R : Type} (x0 : Int) (y1 : Int) (kR : Bool → Option R) : f_cmp_Less_k x0 y1 kR = (f_cmp_Less_k x0 y1 some).bind kR := by
  simp only [f_cmp_Less_k, brB, boB, someB]
theorem f_cmp_Less_e (x0 : Int) (y1 : Int) : runFn E0 f_cmp_Less_M H0 f_cmp_Less_F (asL (noL)) Try.f106 (f_cmp_Less_a x0 y1) (f_cmp_Less_i x0 y1) = f_cmp_Less_k x0 y1 (fun r => some (f_cmp_Less_en r)) := by kernel_rfl
theorem f_cmp_Less_ok (x0 : Int) (y1 : Int) (r : Bool) (h : f_cmp_Less x0 y1 = some r) : CS Try.prog 106 (f_cmp_Less_a x0 y1) (f_cmp_Less_i x0 y1) (f_cmp_Less_en r).1 (f_cmp_Less_en r).2 :=
  fn_true (Gk := fun k => f_cmp_Less_k x0 y1 k) (en := f_cmp_Less_en) Try.func106 E0ok f_cmp_Less_Mt (noL_true) f_cmp_Less_o (f_cmp_Less_e x0 y1) (f_cmp_Less_p x0 y1) h
def f_cmp_Less_c : CRow := fun args inh => match dec2 [.p (.int .i64), .p (.int .i64)] [] args inh with
  | some ([.i x0, .i y1], []) => some ((f_cmp_Less x0 y1).isSome, (f_cmp_Less_en ((f_cmp_Less x0 y1).getD false)).1, (f_cmp_Less_en ((f_cmp_Less x0 y1).getD false)).2)
  | _ => none
theorem f_cmp_Less_cc : CTrue Try.prog 106 f_cmp_Less_c := by
  intro args inh rs out h
  unfold f_cmp_Less_c at h
  split at h
  · rename_i hd
    obtain ⟨h1, h2⟩ := dec2_enc hd
    rw [← h1, ← h2]
    exact rowC (f_cmp_Less_ok _ _) h
  · cases h

def f_slices_IsSorted_F : Fi := { nv := 0, nc := 0, m := 0, vt := [], kl := [(0, ([1, 2, 4, 5, 6, 7, 8, 9, 10, 11, 12, 13, 14, 15, 16, 17, 18, 19, 20], [0, 1, 2, 3, 4, 5, 6, 7, 8, 9, 10, 11, 12, 13, 14, 15, 16, 17, 18, 19, 20], [0, 1, 3, 4, 5, 6, 7, 8, 9, 10, 11, 12, 13, 14, 15, 16, 17, 18, 19, 20]))], sk := [], mvs := [], fz := [] }
def f_slices_IsSorted_a (x0 : List Sc) : List AV := enc [.p .sl] [.l x0]
def f_slices_IsSorted_i (x0 : List Sc) : List AV := enc [] []
def f_slices_IsSorted_en (r : Bool) : List AV × List AV := (enc [.p .boo] [.b r], enc [] [])
def f_slices_IsSorted_M : Calling := addC 106 f_cmp_Less_c (noC)
theorem f_slices_IsSorted_Mt : CallOk Try.prog (f_slices_IsSorted_M) := addC_true f_cmp_Less_cc (noC_true)
theorem f_slices_IsSorted_o : loopsOnce Try.f98 = true := by kernel_rfl
def f_slices_IsSorted_h0 : List Sh := [.p .sl, .u, .u, .p (.int .i64), .u, .u, .u, .u, .u, .u, .u, .u, .u, .u, .u, .u, .u, .u, .u, .u, .u]
def f_slices_IsSorted_fr0 (x0 : List Sc) (s : Int) : List AV := enc f_slices_IsSorted_h0 [.l x0, .i s]
def f_slices_IsSorted_g0_1 : List Sh := [.u, .u, .u, .u, .u, .u, .u, .u, .u, .u, .u, .u, .u, .u, .u, .u, .u, .u, .u, .u, .u]
def f_slices_IsSorted_x0_1 (x0 : List Sc) (e : Unit) : X × List AV := (.out 0, enc f_slices_IsSorted_g0_1 [])
def f_slices_IsSorted_g0_2 : List Sh := [.u, .u, .p .boo, .u, .u, .u, .u, .u, .u, .u, .u, .u, .u, .u, .u, .u, .u, .u, .u, .u, .u]
def f_slices_IsSorted_x0_2 (x0 : List Sc) (e : Unit) : X × List AV := (.ret, enc f_slices_IsSorted_g0_2 [.b false])
theorem f_slices_IsSorted_p0 {R : Type} (x0 : List Sc) (s : Int) (kN : Int → Option R) (kA : Unit → Option R) (kB : Unit → Option R) : f_slices_IsSorted_k0 x0 s kN kA kB = (f_slices_IsSorted_r0 x0 s).bind (Ro.el kN kA kB) := by
  simp only [f_slices_IsSorted_k0, f_slices_IsSorted_r0, brB, boB, someB, noneB, Ro.el]
theorem f_slices_IsSorted_e0 (x0 : List Sc) (s : Int) : EC E0 f_slices_IsSorted_M H0 f_slices_IsSorted_F (asL (noL)) 0 (bodyOf Try.f98 0) (f_slices_IsSorted_fr0 x0 s) (done (klOf f_slices_IsSorted_F 0)) = f_slices_IsSorted_k0 x0 s (fun s => some (.norm, f_slices_IsSorted_fr0 x0 s)) (fun e => some (f_slices_IsSorted_x0_1 x0 e)) (fun e => some (f_slices_IsSorted_x0_2 x0 e)) := by kernel_rfl
theorem f_slices_IsSorted_l0 (x0 : List Sc) : ∀ s r, loopL (f_slices_IsSorted_r0 x0) s = some r → LS Try.prog f_slices_IsSorted_F (bodyOf Try.f98 0) (f_slices_IsSorted_fr0 x0 s) (enX (f_slices_IsSorted_x0_1 x0) (f_slices_IsSorted_x0_2 x0) r) :=
  loop_true E0ok f_slices_IsSorted_Mt (noL_true) f_slices_IsSorted_o (fun _ h => by cases h) (fun _ h => by cases h) (fun s => (f_slices_IsSorted_e0 x0 s).trans (f_slices_IsSorted_p0 x0 s _ _ (fun e => some (f_slices_IsSorted_x0_2 x0 e))))
def f_slices_IsSorted_t0 (σ : List AV) : Option (Bool × Bool × (X × List AV) × (X × List AV)) := match dec f_slices_IsSorted_h0 σ with
  | some [.l x0, .i i3] => some ((loopL (f_slices_IsSorted_r0 x0) i3).isSome, isOne (loopL (f_slices_IsSorted_r0 x0) i3), f_slices_IsSorted_x0_1 x0 (getOne () (loopL (f_slices_IsSorted_r0 x0) i3)), f_slices_IsSorted_x0_2 x0 (getTwo () (loopL (f_slices_IsSorted_r0 x0) i3)))
  | _ => none
theorem f_slices_IsSorted_tt0 : TTrue Try.prog f_slices_IsSorted_F Try.f98 0 (f_slices_IsSorted_t0) := by
  intro σ p r r' h
  unfold f_slices_IsSorted_t0 at h
  split at h
  · rename_i hd
    rw [← dec_enc hd]
    exact row2 (f_slices_IsSorted_l0 _ _) h
  · cases h
theorem f_slices_IsSorted_p {R : Type} (x0 : List Sc) (kR : Bool → Option R) : f_slices_IsSorted_k x0 kR = (f_slices_IsSorted_k x0 some).bind kR := by
  simp only [f_slices_IsSorted_k, blB, someB]
theorem f_slices_IsSorted_e (x0 : List Sc) : runFn E0 f_slices_IsSorted_M H0 f_slices_IsSorted_F (asL (addL 0 (f_slices_IsSorted_t0) (noL))) Try.f98 (f_slices_IsSorted_a x0) (f_slices_IsSorted_i x0) = f_slices_IsSorted_k x0 (fun r => some (f_slices_IsSorted_en r)) := by kernel_rfl
theorem f_slices_IsSorted_ok (x0 : List Sc) (r : Bool) (h : f_slices_IsSorted x0 = some r) : CS Try.prog 98 (f_slices_IsSorted_a x0) (f_slices_IsSorted_i x0) (f_slices_IsSorted_en r).1 (f_slices_IsSorted_en r).2 :=
  fn_true (Gk := fun k => f_slices_IsSorted_k x0 k) (en := f_slices_IsSorted_en) Try.func98 E0ok f_slices_IsSorted_Mt (addL_true (f_slices_IsSorted_tt0) (noL_true)) f_slices_IsSorted_o (f_slices_IsSorted_e x0) (f_slices_IsSorted_p x0) h
def f_slices_IsSorted_c : CRow := fun args inh => match dec2 [.p .sl] [] args inh with
  | some ([.l x0], []) => some ((f_slices_IsSorted x0).isSome, (f_slices_IsSorted_en ((f_slices_IsSorted x0).getD false)).1, (f_slices_IsSorted_en ((f_slices_IsSorted x0).getD false)).2)
  | _ => none
theorem f_slices_IsSorted_cc : CTrue Try.prog 98 f_slices_IsSorted_c := by
  intro args inh rs out h
  unfold f_slices_IsSorted_c at h
  split at h
  · rename_i hd
    obtain ⟨h1, h2⟩ := dec2_enc hd
    rw [← h1, ← h2]
    exact rowC (f_slices_IsSorted_ok _) h
  · cases h

def f_i_IsSequence_F : Fi := { nv := 0, nc := 0, m := 0, vt := [], kl := [(0, ([0, 3, 4, 5, 6, 10, 11, 12, 13, 14, 15, 16, 17, 18, 19, 20, 21, 22, 23, 24, 25, 26, 27, 28], [0, 3, 4, 5, 6, 7, 8, 9, 10, 11, 12, 13, 14, 15, 16, 17, 18, 19, 20, 21, 22, 23, 24, 25, 26, 27, 28], [0, 1, 2, 3, 5, 6, 7, 8, 9, 10, 11, 12, 13, 14, 15, 16, 17, 18, 19, 20, 21, 22, 23, 24, 25, 26, 27, 28]))], sk := [], mvs := [], fz := [] }
def f_i_IsSequence_a (g0 : List Sc) (l1 : List Sc) : List AV := enc [.p .gr, .p .sl] [.l g0, .l l1]
def f_i_IsSequence_i (g0 : List Sc) (l1 : List Sc) : List AV := enc [] []
def f_i_IsSequence_en (r : Bool) : List AV × List AV := (enc [.p .boo] [.b r], enc [] [])
def f_i_IsSequence_M : Calling := addC 97 f_i_Group_has_c (addC 52 f_i_IsGroup_c (addC 98 f_slices_IsSorted_c (noC)))
theorem f_i_IsSequence_Mt : CallOk Try.prog (f_i_IsSequence_M) := addC_true f_i_Group_has_cc (addC_true f_i_IsGroup_cc (addC_true f_slices_IsSorted_cc (noC_true)))
theorem f_i_IsSequence_o : loopsOnce Try.f73 = true := by kernel_rfl
def f_i_IsSequence_h0 : List Sh := [.u, .p .sl, .p .el, .u, .u, .u, .u, .p .sl, .p (.int .i64), .p (.int .i64), .u, .u, .u, .u, .u, .u, .u, .u, .u, .u, .u, .u, .u, .u, .u, .u, .u, .u, .u]
def f_i_IsSequence_fr0 (l1 : List Sc) (g2 : List Sc) (t7 : List Sc) (t8 : Int) (s : Int) : List AV := enc f_i_IsSequence_h0 [.l l1, .l g2, .l t7, .i t8, .i s]
def f_i_IsSequence_g0_1 : List Sh := [.u, .p .sl, .p .el, .u, .u, .u, .u, .u, .u, .u, .u, .u, .u, .u, .u, .u, .u, .u, .u, .u, .u, .u, .u, .u, .u, .u, .u, .u, .u]
def f_i_IsSequence_x0_1 (l1 : List Sc) (g2 : List Sc) (t7 : List Sc) (t8 : Int) (e : Unit) : X × List AV := (.out 0, enc f_i_IsSequence_g0_1 [.l l1, .l g2])
def f_i_IsSequence_g0_2 : List Sh := [.u, .u, .u, .u, .p .boo, .u, .u, .u, .u, .u, .u, .u, .u, .u, .u, .u, .u, .u, .u, .u, .u, .u, .u, .u, .u, .u, .u, .u, .u]
def f_i_IsSequence_x0_2 (l1 : List Sc) (g2 : List Sc) (t7 : List Sc) (t8 : Int) (e : Unit) : X × List AV := (.ret, enc f_i_IsSequence_g0_2 [.b false])
theorem f_i_IsSequence_p0 {R : Type} (l1 : List Sc) (g2 : List Sc) (t7 : List Sc) (t8 : Int) (s : Int) (kN : Int → Option R) (kA : Unit → Option R) (kB : Unit → Option R) : f_i_IsSequence_k0 l1 g2 t7 t8 s kN kA kB = (f_i_IsSequence_r0 l1 g2 t7 t8 s).bind (Ro.el kN kA kB) := by
  simp only [f_i_IsSequence_k0, f_i_IsSequence_r0, brB, boB, someB, noneB, Ro.el]
theorem f_i_IsSequence_e0 (l1 : List Sc) (g2 : List Sc) (t7 : List Sc) (t8 : Int) (s : Int) : EC E0 f_i_IsSequence_M H0 f_i_IsSequence_F (asL (noL)) 0 (bodyOf Try.f73 0) (f_i_IsSequence_fr0 l1 g2 t7 t8 s) (done (klOf f_i_IsSequence_F 0)) = f_i_IsSequence_k0 l1 g2 t7 t8 s (fun s => some (.norm, f_i_IsSequence_fr0 l1 g2 t7 t8 s)) (fun e => some (f_i_IsSequence_x0_1 l1 g2 t7 t8 e)) (fun e => some (f_i_IsSequence_x0_2 l1 g2 t7 t8 e)) := by kernel_rfl
theorem f_i_IsSequence_l0 (l1 : List Sc) (g2 : List Sc) (t7 : List Sc) (t8 : Int) : ∀ s r, loopL (f_i_IsSequence_r0 l1 g2 t7 t8) s = some r → LS Try.prog f_i_IsSequence_F (bodyOf Try.f73 0) (f_i_IsSequence_fr0 l1 g2 t7 t8 s) (enX (f_i_IsSequence_x0_1 l1 g2 t7 t8) (f_i_IsSequence_x0_2 l1 g2 t7 t8) r) :=
  loop_true E0ok f_i_IsSequence_Mt (noL_true) f_i_IsSequence_o (fun _ h => by cases h) (fun _ h => by cases h) (fun s => (f_i_IsSequence_e0 l1 g2 t7 t8 s).trans (f_i_IsSequence_p0 l1 g2 t7 t8 s _ _ (fun e => some (f_i_IsSequence_x0_2 l1 g2 t7 t8 e))))
def f_i_IsSequence_t0 (σ : List AV) : Option (Bool × Bool × (X × List AV) × (X × List AV)) := match dec f_i_IsSequence_h0 σ with
  | some [.l l1, .l g2, .l t7, .i t8, .i t9] => some ((loopL (f_i_IsSequence_r0 l1 g2 t7 t8) t9).isSome, isOne (loopL (f_i_IsSequence_r0 l1 g2 t7 t8) t9), f_i_IsSequence_x0_1 l1 g2 t7 t8 (getOne () (loopL (f_i_IsSequence_r0 l1 g2 t7 t8) t9)), f_i_IsSequence_x0_2 l1 g2 t7 t8 (getTwo () (loopL (f_i_IsSequence_r0 l1 g2 t7 t8) t9)))
  | _ => none
theorem f_i_IsSequence_tt0 : TTrue Try.prog f_i_IsSequence_F Try.f73 0 (f_i_IsSequence_t0) := by
  intro σ p r r' h
  unfold f_i_IsSequence_t0 at h
  split at h
  · rename_i hd
    rw [← dec_enc hd]
    exact row2 (f_i_IsSequence_l0 _ _ _ _ _) h
  · cases h
theorem f_i_IsSequence_p {R : Type} (g0 : List Sc) (l1 : List Sc) (kR : Bool → Option R) : f_i_IsSequence_k g0 l1 kR = (f_i_IsSequence_k g0 l1 some).bind kR := by
  simp only [f_i_IsSequence_k, brB, boB, blB, someB]
theorem f_i_IsSequence_e (g0 : List Sc) (l1 : List Sc) : runFn E0 f_i_IsSequence_M H0 f_i_IsSequence_F (asL (addL 0 (f_i_IsSequence_t0) (noL))) Try.f73 (f_i_IsSequence_a g0 l1) (f_i_IsSequence_i g0 l1) = f_i_IsSequence_k g0 l1 (fun r => some (f_i_IsSequence_en r)) := by kernel_rfl
theorem f_i_IsSequence_ok (g0 : List Sc) (l1 : List Sc) (r : Bool) (h : f_i_IsSequence g0 l1 = some r) : CS Try.prog 73 (f_i_IsSequence_a g0 l1) (f_i_IsSequence_i g0 l1) (f_i_IsSequence_en r).1 (f_i_IsSequence_en r).2 :=
  fn_true (Gk := fun k => f_i_IsSequence_k g0 l1 k) (en := f_i_IsSequence_en) Try.func73 E0ok f_i_IsSequence_Mt (addL_true (f_i_IsSequence_tt0) (noL_true)) f_i_IsSequence_o (f_i_IsSequence_e g0 l1) (f_i_IsSequence_p g0 l1) h
def f_i_IsSequence_c : CRow := fun args inh => match dec2 [.p .gr, .p .sl] [] args inh with
  | some ([.l g0, .l l1], []) => some ((f_i_IsSequence g0 l1).isSome, (f_i_IsSequence_en ((f_i_IsSequence g0 l1).getD false)).1, (f_i_IsSequence_en ((f_i_IsSequence g0 l1).getD false)).2)
  | _ => none
theorem f_i_IsSequence_cc : CTrue Try.prog 73 f_i_IsSequence_c := by
  intro args inh rs out h
  unfold f_i_IsSequence_c at h
  split at h
  · rename_i hd
    obtain ⟨h1, h2⟩ := dec2_enc hd
    rw [← h1, ← h2]
    exact rowC (f_i_IsSequence_ok _ _) h
  · cases h

def f_i_Group_times_F : Fi := { nv := 0, nc := 0, m := 0, vt := [], kl := [(0, ([0, 2, 4, 5, 6, 8, 9, 10, 11, 12, 13, 14, 17, 18, 19, 20, 21, 22, 23], [0, 1, 2, 3, 4, 5, 6, 8, 9, 10, 11, 12, 13, 14, 15, 16, 17, 18, 19, 20, 21, 22, 23], [0, 1, 2, 3, 4, 5, 7, 8, 9, 10, 11, 12, 13, 14, 15, 16, 17, 18, 19, 20, 21, 22, 23]))], sk := [], mvs := [], fz := [] }
def f_i_Group_times_a (g0 : List Sc) (x1 : Int) (n2 : Int) : List AV := enc [.p .gr, .p (.int .i64), .p (.int .i64)] [.l g0, .i x1, .i n2]
def f_i_Group_times_i (g0 : List Sc) (x1 : Int) (n2 : Int) : List AV := enc [] []
def f_i_Group_times_en (r : Int) : List AV × List AV := (enc [.p (.int .i64)] [.i r], enc [] [])
def f_i_Group_times_M : Calling := addC 99 f_i_Group_negate_c (addC 75 f_i_Group_add_c (noC))
theorem f_i_Group_times_Mt : CallOk Try.prog (f_i_Group_times_M) := addC_true f_i_Group_negate_cc (addC_true f_i_Group_add_cc (noC_true))
theorem f_i_Group_times_o : loopsOnce Try.f76 = true := by kernel_rfl
def f_i_Group_times_h0 : List Sh := [.u, .p (.int .i64), .u, .p .el, .u, .u, .u, .p (.int .i64), .u, .u, .u, .u, .u, .u, .u, .p (.int .i64), .p (.int .i64), .u, .u, .u, .u, .u, .u, .u]
def f_i_Group_times_fr0 (x1 : Int) (g3 : List Sc) (t15 : Int) (s : Int × Int) : List AV := enc f_i_Group_times_h0 [.i x1, .l g3, .i s.1, .i t15, .i s.2]
def f_i_Group_times_g0_1 : List Sh := [.u, .u, .u, .u, .u, .u, .u, .p (.int .i64), .u, .u, .u, .u, .u, .u, .u, .u, .u, .u, .u, .u, .u, .u, .u, .u]
def f_i_Group_times_x0_1 (x1 : Int) (g3 : List Sc) (t15 : Int) (e : Int) : X × List AV := (.out 0, enc f_i_Group_times_g0_1 [.i e])
def f_i_Group_times_x0_2 (x1 : Int) (g3 : List Sc) (t15 : Int) (_e : Unit) : X × List AV := (.ret, [])
theorem f_i_Group_times_p0 {R : Type} (x1 : Int) (g3 : List Sc) (t15 : Int) (s : Int × Int) (kN : Int × Int → Option R) (kA : Int → Option R) (kB : Unit → Option R) : f_i_Group_times_k0 x1 g3 t15 s.1 s.2 kN kA = (f_i_Group_times_r0 x1 g3 t15 s).bind (Ro.el kN kA kB) := by
  simp only [f_i_Group_times_k0, f_i_Group_times_r0, brB, boB, someB, Ro.el]
theorem f_i_Group_times_e0 (x1 : Int) (g3 : List Sc) (t15 : Int) (s : Int × Int) : EC E0 f_i_Group_times_M H0 f_i_Group_times_F (asL (noL)) 0 (bodyOf Try.f76 0) (f_i_Group_times_fr0 x1 g3 t15 s) (done (klOf f_i_Group_times_F 0)) = f_i_Group_times_k0 x1 g3 t15 s.1 s.2 (fun s => some (.norm, f_i_Group_times_fr0 x1 g3 t15 s)) (fun e => some (f_i_Group_times_x0_1 x1 g3 t15 e)) := by kernel_rfl
theorem f_i_Group_times_l0 (x1 : Int) (g3 : List Sc) (t15 : Int) : ∀ s r, loopL (f_i_Group_times_r0 x1 g3 t15) s = some r → LS Try.prog f_i_Group_times_F (bodyOf Try.f76 0) (f_i_Group_times_fr0 x1 g3 t15 s) (enX (f_i_Group_times_x0_1 x1 g3 t15) (f_i_Group_times_x0_2 x1 g3 t15) r) :=
  loop_true E0ok f_i_Group_times_Mt (noL_true) f_i_Group_times_o (fun _ h => by cases h) (fun _ h => by cases h) (fun s => (f_i_Group_times_e0 x1 g3 t15 s).trans (f_i_Group_times_p0 x1 g3 t15 s _ _ (fun e => some (f_i_Group_times_x0_2 x1 g3 t15 e))))
def f_i_Group_times_t0 (σ : List AV) : Option (Bool × Bool × (X × List AV) × (X × List AV)) := match dec f_i_Group_times_h0 σ with
  | some [.i x1, .l g3, .i sum7, .i t15, .i t16] => some (isOne (loopL (f_i_Group_times_r0 x1 g3 t15) (sum7, t16)), true, f_i_Group_times_x0_1 x1 g3 t15 (getOne 0 (loopL (f_i_Group_times_r0 x1 g3 t15) (sum7, t16))), (.ret, []))
  | _ => none
theorem f_i_Group_times_tt0 : TTrue Try.prog f_i_Group_times_F Try.f76 0 (f_i_Group_times_t0) := by
  intro σ p r r' h
  unfold f_i_Group_times_t0 at h
  split at h
  · rename_i hd
    rw [← dec_enc hd]
    exact row1 (f_i_Group_times_l0 _ _ _ _) h
  · cases h
theorem f_i_Group_times_p {R : Type} (g0 : List Sc) (x1 : Int) (n2 : Int) (kR : Int → Option R) : f_i_Group_times_k g0 x1 n2 kR = (f_i_Group_times_k g0 x1 n2 some).bind kR := by
  simp only [f_i_Group_times_k, brB, boB, bl1B, someB]
theorem f_i_Group_times_e (g0 : List Sc) (x1 : Int) (n2 : Int) : runFn E0 f_i_Group_times_M H0 f_i_Group_times_F (asL (addL 0 (f_i_Group_times_t0) (noL))) Try.f76 (f_i_Group_times_a g0 x1 n2) (f_i_Group_times_i g0 x1 n2) = f_i_Group_times_k g0 x1 n2 (fun r => some (f_i_Group_times_en r)) := by kernel_rfl
theorem f_i_Group_times_ok (g0 : List Sc) (x1 : Int) (n2 : Int) (r : Int) (h : f_i_Group_times g0 x1 n2 = some r) : CS Try.prog 76 (f_i_Group_times_a g0 x1 n2) (f_i_Group_times_i g0 x1 n2) (f_i_Group_times_en r).1 (f_i_Group_times_en r).2 :=
  fn_true (Gk := fun k => f_i_Group_times_k g0 x1 n2 k) (en := f_i_Group_times_en) Try.func76 E0ok f_i_Group_times_Mt (addL_true (f_i_Group_times_tt0) (noL_true)) f_i_Group_times_o (f_i_Group_times_e g0 x1 n2) (f_i_Group_times_p g0 x1 n2) h
def f_i_Group_times_c : CRow := fun args inh => match dec2 [.p .gr, .p (.int .i64), .p (.int .i64)] [] args inh with
  | some ([.l g0, .i x1, .i n2], []) => some ((f_i_Group_times g0 x1 n2).isSome, (f_i_Group_times_en ((f_i_Group_times g0 x1 n2).getD 0)).1, (f_i_Group_times_en ((f_i_Group_times g0 x1 n2).getD 0)).2)
  | _ => none
theorem f_i_Group_times_cc : CTrue Try.prog 76 f_i_Group_times_c := by
  intro args inh rs out h
  unfold f_i_Group_times_c at h
  split at h
  · rename_i hd
    obtain ⟨h1, h2⟩ := dec2_enc hd
    rw [← h1, ← h2]
    exact rowC (f_i_Group_times_ok _ _ _) h
  · cases h

def f_i_WeightedZero_1_F : Fi := { nv := 2, nc := 2, m := 2, vt := [], kl := [(0, ([9, 10, 11, 12, 13, 14, 15, 16, 17, 18, 19, 20, 21, 22, 23, 27, 28, 29, 30, 31, 32, 33, 34, 35, 36, 37, 38, 39, 40, 41, 42, 43, 44, 45, 46, 47, 48, 49, 50, 51, 52, 53], [2, 3, 4, 5, 6, 7, 8, 9, 10, 11, 12, 13, 14, 15, 16, 17, 18, 19, 20, 21, 22, 23, 24, 25, 26, 27, 28, 29, 30, 31, 32, 33, 34, 35, 36, 37, 38, 39, 40, 41, 42, 43, 44, 45, 46, 47, 48, 49, 50, 51, 52, 53], [2, 3, 4, 5, 6, 7, 8, 9, 10, 11, 13, 14, 15, 16, 17, 18, 19, 20, 21, 22, 23, 24, 25, 26, 27, 28, 29, 30, 31, 32, 33, 34, 35, 36, 37, 38, 39, 40, 41, 42, 43, 44, 45, 46, 47, 48, 49, 50, 51, 52, 53]))], sk := [], mvs := [], fz := [] }
def f_i_WeightedZero_1_a (i0 : Int) (sum1 : Int) (some2 : Bool) (p3 : List Sc) (p6 : List Sc) (h0 : List Sc) (h1_0 : List Sc) (h1_1 : List Sc) : List AV := enc [.p (.int .i64), .p (.int .i64), .p .boo, .p .el, .p (.pt 0 1), .p (.pt 1 1), .p .el] [.i i0, .i sum1, .b some2, .l p3, .l p6]
def f_i_WeightedZero_1_i (i0 : Int) (sum1 : Int) (some2 : Bool) (p3 : List Sc) (p6 : List Sc) (h0 : List Sc) (h1_0 : List Sc) (h1_1 : List Sc) : List AV := enc [.own 3, .fn 74 [.el, .pt 0 1, .pt 1 1, .el]] [.l h0, .l h1_0, .l h1_1]
def f_i_WeightedZero_1_en (r : Bool × List Sc × List Sc × List Sc) : List AV × List AV := (enc [.p .boo] [.b r.1], enc [.own 3, .fn 74 [.el, .pt 0 1, .pt 1 1, .el]] [.l r.2.1, .l r.2.2.1, .l r.2.2.2])
def f_i_WeightedZero_1_cs (self : (Int × Int × Bool × List Sc × List Sc × List Sc × List Sc × List Sc) → Option (Bool × List Sc × List Sc × List Sc)) : CRow := fun args inh => match dec2 [.p (.int .i64), .p (.int .i64), .p .boo, .p .el, .p (.pt 0 1), .p (.pt 1 1), .p .el] [.own 3, .fn 74 [.el, .pt 0 1, .pt 1 1, .el]] args inh with
  | some ([.i i0, .i sum1, .b some2, .l p3, .l p6], [.l h0, .l h1_0, .l h1_1]) => some ((self (i0, sum1, some2, p3, p6, h0, h1_0, h1_1)).isSome, (f_i_WeightedZero_1_en ((self (i0, sum1, some2, p3, p6, h0, h1_0, h1_1)).getD (false, [], [], []))).1, (f_i_WeightedZero_1_en ((self (i0, sum1, some2, p3, p6, h0, h1_0, h1_1)).getD (false, [], [], []))).2)
  | _ => none
theorem f_i_WeightedZero_1_cst (self : (Int × Int × Bool × List Sc × List Sc × List Sc × List Sc × List Sc) → Option (Bool × List Sc × List Sc × List Sc)) (hs : ∀ a r, self a = some r → CS Try.prog 74 (f_i_WeightedZero_1_a a.1 a.2.1 a.2.2.1 a.2.2.2.1 a.2.2.2.2.1 a.2.2.2.2.2.1 a.2.2.2.2.2.2.1 a.2.2.2.2.2.2.2) (f_i_WeightedZero_1_i a.1 a.2.1 a.2.2.1 a.2.2.2.1 a.2.2.2.2.1 a.2.2.2.2.2.1 a.2.2.2.2.2.2.1 a.2.2.2.2.2.2.2) (f_i_WeightedZero_1_en r).1 (f_i_WeightedZero_1_en r).2) : CTrue Try.prog 74 (f_i_WeightedZero_1_cs self) := by
  intro args inh rs out h
  unfold f_i_WeightedZero_1_cs at h
  split at h
  · rename_i hd
    obtain ⟨h1, h2⟩ := dec2_enc hd
    rw [← h1, ← h2]
    exact rowC (hs _) h
  · cases h
def f_i_WeightedZero_1_M (self : (Int × Int × Bool × List Sc × List Sc × List Sc × List Sc × List Sc) → Option (Bool × List Sc × List Sc × List Sc)) : Calling := addC 74 (f_i_WeightedZero_1_cs self) (addC 76 f_i_Group_times_c (addC 75 f_i_Group_add_c (noC)))
theorem f_i_WeightedZero_1_Mt (self : (Int × Int × Bool × List Sc × List Sc × List Sc × List Sc × List Sc) → Option (Bool × List Sc × List Sc × List Sc)) (hs : ∀ a r, self a = some r → CS Try.prog 74 (f_i_WeightedZero_1_a a.1 a.2.1 a.2.2.1 a.2.2.2.1 a.2.2.2.2.1 a.2.2.2.2.2.1 a.2.2.2.2.2.2.1 a.2.2.2.2.2.2.2) (f_i_WeightedZero_1_i a.1 a.2.1 a.2.2.1 a.2.2.2.1 a.2.2.2.2.1 a.2.2.2.2.2.1 a.2.2.2.2.2.2.1 a.2.2.2.2.2.2.2) (f_i_WeightedZero_1_en r).1 (f_i_WeightedZero_1_en r).2) : CallOk Try.prog (f_i_WeightedZero_1_M self) := addC_true (f_i_WeightedZero_1_cst self hs) (addC_true f_i_Group_times_cc (addC_true f_i_Group_add_cc (noC_true)))
theorem f_i_WeightedZero_1_o : loopsOnce Try.f74 = true := by kernel_rfl
def f_i_WeightedZero_1_h0 : List Sh := [.own 3, .fn 74 [.el, .pt 0 1, .pt 1 1, .el], .p (.int .i64), .p (.int .i64), .p .boo, .p .el, .p (.pt 0 1), .p (.pt 1 1), .p .el, .u, .u, .u, .u, .u, .u, .u, .u, .u, .u, .u, .u, .u, .u, .u, .own 3, .p (.int .i64), .p (.int .i64), .u, .u, .u, .u, .u, .u, .u, .u, .u, .u, .u, .u, .u, .u, .u, .u, .u, .u, .u, .u, .u, .u, .u, .u, .u, .u, .u]
def f_i_WeightedZero_1_fr0 (self : (Int × Int × Bool × List Sc × List Sc × List Sc × List Sc × List Sc) → Option (Bool × List Sc × List Sc × List Sc)) (i0 : Int) (sum1 : Int) (some2 : Bool) (t3 : List Sc) (t6 : List Sc) (t23 : Int) (s : List Sc × List Sc × List Sc × List Sc × Int) : List AV := enc f_i_WeightedZero_1_h0 [.l s.1, .l s.2.1, .l s.2.2.1, .i i0, .i sum1, .b some2, .l t3, .l t6, .l s.2.2.2.1, .i t23, .i s.2.2.2.2]
def f_i_WeightedZero_1_g0_1 : List Sh := [.own 3, .fn 74 [.el, .pt 0 1, .pt 1 1, .el], .u, .u, .u, .u, .u, .u, .u, .u, .u, .u, .u, .u, .u, .u, .u, .u, .u, .u, .u, .u, .u, .u, .u, .u, .u, .u, .u, .u, .u, .u, .u, .u, .u, .u, .u, .u, .u, .u, .u, .u, .u, .u, .u, .u, .u, .u, .u, .u, .u, .u, .u, .u]
def f_i_WeightedZero_1_x0_1 (self : (Int × Int × Bool × List Sc × List Sc × List Sc × List Sc × List Sc) → Option (Bool × List Sc × List Sc × List Sc)) (i0 : Int) (sum1 : Int) (some2 : Bool) (t3 : List Sc) (t6 : List Sc) (t23 : Int) (e : List Sc × List Sc × List Sc) : X × List AV := (.out 0, enc f_i_WeightedZero_1_g0_1 [.l e.1, .l e.2.1, .l e.2.2])
def f_i_WeightedZero_1_g0_2 : List Sh := [.own 3, .fn 74 [.el, .pt 0 1, .pt 1 1, .el], .u, .u, .u, .u, .u, .u, .u, .u, .u, .u, .p .boo, .u, .u, .u, .u, .u, .u, .u, .u, .u, .u, .u, .u, .u, .u, .u, .u, .u, .u, .u, .u, .u, .u, .u, .u, .u, .u, .u, .u, .u, .u, .u, .u, .u, .u, .u, .u, .u, .u, .u, .u, .u]
def f_i_WeightedZero_1_x0_2 (self : (Int × Int × Bool × List Sc × List Sc × List Sc × List Sc × List Sc) → Option (Bool × List Sc × List Sc × List Sc)) (i0 : Int) (sum1 : Int) (some2 : Bool) (t3 : List Sc) (t6 : List Sc) (t23 : Int) (e : List Sc × List Sc × List Sc) : X × List AV := (.ret, enc f_i_WeightedZero_1_g0_2 [.l e.1, .l e.2.1, .l e.2.2, .b true])
theorem f_i_WeightedZero_1_p0 {R : Type} (self : (Int × Int × Bool × List Sc × List Sc × List Sc × List Sc × List Sc) → Option (Bool × List Sc × List Sc × List Sc)) (i0 : Int) (sum1 : Int) (some2 : Bool) (t3 : List Sc) (t6 : List Sc) (t23 : Int) (s : List Sc × List Sc × List Sc × List Sc × Int) (kN : List Sc × List Sc × List Sc × List Sc × Int → Option R) (kA : List Sc × List Sc × List Sc → Option R) (kB : List Sc × List Sc × List Sc → Option R) : f_i_WeightedZero_1_k0 self i0 sum1 some2 t3 t6 t23 s.1 s.2.1 s.2.2.1 s.2.2.2.1 s.2.2.2.2 kN kA kB = (f_i_WeightedZero_1_r0 self i0 sum1 some2 t3 t6 t23 s).bind (Ro.el kN kA kB) := by
  simp only [f_i_WeightedZero_1_k0, f_i_WeightedZero_1_r0, brB, boB, someB, noneB, Ro.el]
theorem f_i_WeightedZero_1_e0 (self : (Int × Int × Bool × List Sc × List Sc × List Sc × List Sc × List Sc) → Option (Bool × List Sc × List Sc × List Sc)) (i0 : Int) (sum1 : Int) (some2 : Bool) (t3 : List Sc) (t6 : List Sc) (t23 : Int) (s : List Sc × List Sc × List Sc × List Sc × Int) : EC E0 (f_i_WeightedZero_1_M self) H0 f_i_WeightedZero_1_F (asL (noL)) 0 (bodyOf Try.f74 0) (f_i_WeightedZero_1_fr0 self i0 sum1 some2 t3 t6 t23 s) (done (klOf f_i_WeightedZero_1_F 0)) = f_i_WeightedZero_1_k0 self i0 sum1 some2 t3 t6 t23 s.1 s.2.1 s.2.2.1 s.2.2.2.1 s.2.2.2.2 (fun s => some (.norm, f_i_WeightedZero_1_fr0 self i0 sum1 some2 t3 t6 t23 s)) (fun e => some (f_i_WeightedZero_1_x0_1 self i0 sum1 some2 t3 t6 t23 e)) (fun e => some (f_i_WeightedZero_1_x0_2 self i0 sum1 some2 t3 t6 t23 e)) := by kernel_rfl
theorem f_i_WeightedZero_1_l0 (self : (Int × Int × Bool × List Sc × List Sc × List Sc × List Sc × List Sc) → Option (Bool × List Sc × List Sc × List Sc)) (hs : ∀ a r, self a = some r → CS Try.prog 74 (f_i_WeightedZero_1_a a.1 a.2.1 a.2.2.1 a.2.2.2.1 a.2.2.2.2.1 a.2.2.2.2.2.1 a.2.2.2.2.2.2.1 a.2.2.2.2.2.2.2) (f_i_WeightedZero_1_i a.1 a.2.1 a.2.2.1 a.2.2.2.1 a.2.2.2.2.1 a.2.2.2.2.2.1 a.2.2.2.2.2.2.1 a.2.2.2.2.2.2.2) (f_i_WeightedZero_1_en r).1 (f_i_WeightedZero_1_en r).2) (i0 : Int) (sum1 : Int) (some2 : Bool) (t3 : List Sc) (t6 : List Sc) (t23 : Int) : ∀ s r, loopL (f_i_WeightedZero_1_r0 self i0 sum1 some2 t3 t6 t23) s = some r → LS Try.prog f_i_WeightedZero_1_F (bodyOf Try.f74 0) (f_i_WeightedZero_1_fr0 self i0 sum1 some2 t3 t6 t23 s) (enX (f_i_WeightedZero_1_x0_1 self i0 sum1 some2 t3 t6 t23) (f_i_WeightedZero_1_x0_2 self i0 sum1 some2 t3 t6 t23) r) :=
  loop_true E0ok (f_i_WeightedZero_1_Mt self hs) (noL_true) f_i_WeightedZero_1_o (fun _ h => by cases h) (fun _ h => by cases h) (fun s => (f_i_WeightedZero_1_e0 self i0 sum1 some2 t3 t6 t23 s).trans (f_i_WeightedZero_1_p0 self i0 sum1 some2 t3 t6 t23 s _ _ (fun e => some (f_i_WeightedZero_1_x0_2 self i0 sum1 some2 t3 t6 t23 e))))
def f_i_WeightedZero_1_t0 (self : (Int × Int × Bool × List Sc × List Sc × List Sc × List Sc × List Sc) → Option (Bool × List Sc × List Sc × List Sc)) (σ : List AV) : Option (Bool × Bool × (X × List AV) × (X × List AV)) := match dec f_i_WeightedZero_1_h0 σ with
  | some [.l v0, .l v1_0, .l v1_1, .i i0, .i sum1, .b some2, .l t3, .l t6, .l t22, .i t23, .i t24] => some ((loopL (f_i_WeightedZero_1_r0 self i0 sum1 some2 t3 t6 t23) (v0, v1_0, v1_1, t22, t24)).isSome, isOne (loopL (f_i_WeightedZero_1_r0 self i0 sum1 some2 t3 t6 t23) (v0, v1_0, v1_1, t22, t24)), f_i_WeightedZero_1_x0_1 self i0 sum1 some2 t3 t6 t23 (getOne ([], [], []) (loopL (f_i_WeightedZero_1_r0 self i0 sum1 some2 t3 t6 t23) (v0, v1_0, v1_1, t22, t24))), f_i_WeightedZero_1_x0_2 self i0 sum1 some2 t3 t6 t23 (getTwo ([], [], []) (loopL (f_i_WeightedZero_1_r0 self i0 sum1 some2 t3 t6 t23) (v0, v1_0, v1_1, t22, t24))))
  | _ => none
theorem f_i_WeightedZero_1_tt0 (self : (Int × Int × Bool × List Sc × List Sc × List Sc × List Sc × List Sc) → Option (Bool × List Sc × List Sc × List Sc)) (hs : ∀ a r, self a = some r → CS Try.prog 74 (f_i_WeightedZero_1_a a.1 a.2.1 a.2.2.1 a.2.2.2.1 a.2.2.2.2.1 a.2.2.2.2.2.1 a.2.2.2.2.2.2.1 a.2.2.2.2.2.2.2) (f_i_WeightedZero_1_i a.1 a.2.1 a.2.2.1 a.2.2.2.1 a.2.2.2.2.1 a.2.2.2.2.2.1 a.2.2.2.2.2.2.1 a.2.2.2.2.2.2.2) (f_i_WeightedZero_1_en r).1 (f_i_WeightedZero_1_en r).2) : TTrue Try.prog f_i_WeightedZero_1_F Try.f74 0 (f_i_WeightedZero_1_t0 self) := by
  intro σ p r r' h
  unfold f_i_WeightedZero_1_t0 at h
  split at h
  · rename_i hd
    rw [← dec_enc hd]
    exact row2 (f_i_WeightedZero_1_l0 self hs _ _ _ _ _ _ _) h
  · cases h
theorem f_i_WeightedZero_1_p {R : Type} (self : (Int × Int × Bool × List Sc × List Sc × List Sc × List Sc × List Sc) → Option (Bool × List Sc × List Sc × List Sc)) (i0 : Int) (sum1 : Int) (some2 : Bool) (p3 : List Sc) (p6 : List Sc) (h0 : List Sc) (h1_0 : List Sc) (h1_1 : List Sc) (kR : Bool × List Sc × List Sc × List Sc → Option R) : f_i_WeightedZero_1_k self i0 sum1 some2 p3 p6 h0 h1_0 h1_1 kR = (f_i_WeightedZero_1_k self i0 sum1 some2 p3 p6 h0 h1_0 h1_1 some).bind kR := by
  simp only [f_i_WeightedZero_1_k, brB, blB, someB]
theorem f_i_WeightedZero_1_e (self : (Int × Int × Bool × List Sc × List Sc × List Sc × List Sc × List Sc) → Option (Bool × List Sc × List Sc × List Sc)) (i0 : Int) (sum1 : Int) (some2 : Bool) (p3 : List Sc) (p6 : List Sc) (h0 : List Sc) (h1_0 : List Sc) (h1_1 : List Sc) : runFn E0 (f_i_WeightedZero_1_M self) H0 f_i_WeightedZero_1_F (asL (addL 0 (f_i_WeightedZero_1_t0 self) (noL))) Try.f74 (f_i_WeightedZero_1_a i0 sum1 some2 p3 p6 h0 h1_0 h1_1) (f_i_WeightedZero_1_i i0 sum1 some2 p3 p6 h0 h1_0 h1_1) = f_i_WeightedZero_1_k self i0 sum1 some2 p3 p6 h0 h1_0 h1_1 (fun r => some (f_i_WeightedZero_1_en r)) := by kernel_rfl
theorem f_i_WeightedZero_1_ks (self : (Int × Int × Bool × List Sc × List Sc × List Sc × List Sc × List Sc) → Option (Bool × List Sc × List Sc × List Sc)) (hs : ∀ a r, self a = some r → CS Try.prog 74 (f_i_WeightedZero_1_a a.1 a.2.1 a.2.2.1 a.2.2.2.1 a.2.2.2.2.1 a.2.2.2.2.2.1 a.2.2.2.2.2.2.1 a.2.2.2.2.2.2.2) (f_i_WeightedZero_1_i a.1 a.2.1 a.2.2.1 a.2.2.2.1 a.2.2.2.2.1 a.2.2.2.2.2.1 a.2.2.2.2.2.2.1 a.2.2.2.2.2.2.2) (f_i_WeightedZero_1_en r).1 (f_i_WeightedZero_1_en r).2) (i0 : Int) (sum1 : Int) (some2 : Bool) (p3 : List Sc) (p6 : List Sc) (h0 : List Sc) (h1_0 : List Sc) (h1_1 : List Sc) (r : Bool × List Sc × List Sc × List Sc) (h : f_i_WeightedZero_1_k self i0 sum1 some2 p3 p6 h0 h1_0 h1_1 some = some r) : CS Try.prog 74 (f_i_WeightedZero_1_a i0 sum1 some2 p3 p6 h0 h1_0 h1_1) (f_i_WeightedZero_1_i i0 sum1 some2 p3 p6 h0 h1_0 h1_1) (f_i_WeightedZero_1_en r).1 (f_i_WeightedZero_1_en r).2 :=
  fn_true (Gk := fun k => f_i_WeightedZero_1_k self i0 sum1 some2 p3 p6 h0 h1_0 h1_1 k) (en := f_i_WeightedZero_1_en) Try.func74 E0ok (f_i_WeightedZero_1_Mt self hs) (addL_true (f_i_WeightedZero_1_tt0 self hs) (noL_true)) f_i_WeightedZero_1_o (f_i_WeightedZero_1_e self i0 sum1 some2 p3 p6 h0 h1_0 h1_1) (f_i_WeightedZero_1_p self i0 sum1 some2 p3 p6 h0 h1_0 h1_1) h
theorem f_i_WeightedZero_1_ns : ∀ n a r, f_i_WeightedZero_1_n n a = some r → CS Try.prog 74 (f_i_WeightedZero_1_a a.1 a.2.1 a.2.2.1 a.2.2.2.1 a.2.2.2.2.1 a.2.2.2.2.2.1 a.2.2.2.2.2.2.1 a.2.2.2.2.2.2.2) (f_i_WeightedZero_1_i a.1 a.2.1 a.2.2.1 a.2.2.2.1 a.2.2.2.2.1 a.2.2.2.2.2.1 a.2.2.2.2.2.2.1 a.2.2.2.2.2.2.2) (f_i_WeightedZero_1_en r).1 (f_i_WeightedZero_1_en r).2
  | 0, _, _, h => by cases h
  | n + 1, a, r, h => f_i_WeightedZero_1_ks (f_i_WeightedZero_1_n n) (f_i_WeightedZero_1_ns n) a.1 a.2.1 a.2.2.1 a.2.2.2.1 a.2.2.2.2.1 a.2.2.2.2.2.1 a.2.2.2.2.2.2.1 a.2.2.2.2.2.2.2 r h
theorem f_i_WeightedZero_1_ok (i0 : Int) (sum1 : Int) (some2 : Bool) (p3 : List Sc) (p6 : List Sc) (h0 : List Sc) (h1_0 : List Sc) (h1_1 : List Sc) (r : Bool × List Sc × List Sc × List Sc) (h : f_i_WeightedZero_1 i0 sum1 some2 p3 p6 h0 h1_0 h1_1 = some r) : CS Try.prog 74 (f_i_WeightedZero_1_a i0 sum1 some2 p3 p6 h0 h1_0 h1_1) (f_i_WeightedZero_1_i i0 sum1 some2 p3 p6 h0 h1_0 h1_1) (f_i_WeightedZero_1_en r).1 (f_i_WeightedZero_1_en r).2 := by
  obtain ⟨n, hn⟩ := limF_some h
  exact f_i_WeightedZero_1_ns n _ r hn
def f_i_WeightedZero_1_c : CRow := fun args inh => match dec2 [.p (.int .i64), .p (.int .i64), .p .boo, .p .el, .p (.pt 0 1), .p (.pt 1 1), .p .el] [.own 3, .fn 74 [.el, .pt 0 1, .pt 1 1, .el]] args inh with
  | some ([.i i0, .i sum1, .b some2, .l p3, .l p6], [.l h0, .l h1_0, .l h1_1]) => some ((f_i_WeightedZero_1 i0 sum1 some2 p3 p6 h0 h1_0 h1_1).isSome, (f_i_WeightedZero_1_en ((f_i_WeightedZero_1 i0 sum1 some2 p3 p6 h0 h1_0 h1_1).getD (false, [], [], []))).1, (f_i_WeightedZero_1_en ((f_i_WeightedZero_1 i0 sum1 some2 p3 p6 h0 h1_0 h1_1).getD (false, [], [], []))).2)
  | _ => none
theorem f_i_WeightedZero_1_cc : CTrue Try.prog 74 f_i_WeightedZero_1_c := by
  intro args inh rs out h
  unfold f_i_WeightedZero_1_c at h
  split at h
  · rename_i hd
    obtain ⟨h1, h2⟩ := dec2_enc hd
    rw [← h1, ← h2]
    exact rowC (f_i_WeightedZero_1_ok _ _ _ _ _ _ _ _) h
  · cases h

def f_i_WeightedZero_F : Fi := { nv := 2, nc := 2, m := 0, vt := [(6, 0), (7, 1)], kl := [], sk := [], mvs := [], fz := [] }
def f_i_WeightedZero_a (g0 : List Sc) (l1 : List Sc) : List AV := enc [.p .gr, .p .sl] [.l g0, .l l1]
def f_i_WeightedZero_i (g0 : List Sc) (l1 : List Sc) : List AV := enc [] []
def f_i_WeightedZero_en (r : List Sc × Bool) : List AV × List AV := (enc [.p (.al 0), .p .boo] [.b r.2], enc [.own 3] [.l r.1])
def f_i_WeightedZero_M : Calling := addC 73 f_i_IsSequence_c (addC 74 f_i_WeightedZero_1_c (noC))
theorem f_i_WeightedZero_Mt : CallOk Try.prog (f_i_WeightedZero_M) := addC_true f_i_IsSequence_cc (addC_true f_i_WeightedZero_1_cc (noC_true))
theorem f_i_WeightedZero_o : loopsOnce Try.f34 = true := by kernel_rfl
theorem f_i_WeightedZero_p {R : Type} (g0 : List Sc) (l1 : List Sc) (kR : List Sc × Bool → Option R) : f_i_WeightedZero_k g0 l1 kR = (f_i_WeightedZero_k g0 l1 some).bind kR := by
  simp only [f_i_WeightedZero_k, brB, boB, someB, noneB]
theorem f_i_WeightedZero_e (g0 : List Sc) (l1 : List Sc) : runFn E0 f_i_WeightedZero_M H0 f_i_WeightedZero_F (asL (noL)) Try.f34 (f_i_WeightedZero_a g0 l1) (f_i_WeightedZero_i g0 l1) = f_i_WeightedZero_k g0 l1 (fun r => some (f_i_WeightedZero_en r)) := by kernel_rfl
theorem f_i_WeightedZero_ok (g0 : List Sc) (l1 : List Sc) (r : List Sc × Bool) (h : f_i_WeightedZero g0 l1 = some r) : CS Try.prog 34 (f_i_WeightedZero_a g0 l1) (f_i_WeightedZero_i g0 l1) (f_i_WeightedZero_en r).1 (f_i_WeightedZero_en r).2 :=
  fn_true (Gk := fun k => f_i_WeightedZero_k g0 l1 k) (en := f_i_WeightedZero_en) Try.func34 E0ok f_i_WeightedZero_Mt (noL_true) f_i_WeightedZero_o (f_i_WeightedZero_e g0 l1) (f_i_WeightedZero_p g0 l1) h
def f_i_WeightedZero_c : CRow := fun args inh => match dec2 [.p .gr, .p .sl] [] args inh with
  | some ([.l g0, .l l1], []) => some ((f_i_WeightedZero g0 l1).isSome, (f_i_WeightedZero_en ((f_i_WeightedZero g0 l1).getD ([], false))).1, (f_i_WeightedZero_en ((f_i_WeightedZero g0 l1).getD ([], false))).2)
  | _ => none
theorem f_i_WeightedZero_cc : CTrue Try.prog 34 f_i_WeightedZero_c := by
  intro args inh rs out h
  unfold f_i_WeightedZero_c at h
  split at h
  · rename_i hd
    obtain ⟨h1, h2⟩ := dec2_enc hd
    rw [← h1, ← h2]
    exact rowC (f_i_WeightedZero_ok _ _) h
  · cases h

def f_l_FnExactWeightedZero_F : Fi := { nv := 7, nc := 1, m := 0, vt := [(8, 0), (27, 1), (30, 2), (34, 3), (40, 4), (94, 5), (97, 6)], kl := [], sk := [], mvs := [1, 2, 3, 4, 5, 6], fz := [] }
def f_l_FnExactWeightedZero_a (L0 : List Sc) (p1 : List Sc) : List AV := enc [.p .gr, .p .sl] [.l L0, .l p1]
def f_l_FnExactWeightedZero_i (L0 : List Sc) (p1 : List Sc) : List AV := enc [] []
def f_l_FnExactWeightedZero_en (r : Bool) : List AV × List AV := (enc [.p .boo] [.b r], enc [] [])
def f_l_FnExactWeightedZero_M : Calling := addC 15 f_l_szGroup_c (addC 17 f_l_toGroup_c (addC 33 f_l_toIntS_c (addC 32 f_s_WeightedZero_c (addC 34 f_i_WeightedZero_c (addC 24 f_l_eqIntS_c (addC 19 f_l_eqGroup_c (addC 25 f_l_markGroup_io_c (addC 26 f_l_markIntS_io_c (addC 27 f_l_heldIntS_c (noC))))))))))
theorem f_l_FnExactWeightedZero_Mt : CallOk Try.prog (f_l_FnExactWeightedZero_M) := addC_true f_l_szGroup_cc (addC_true f_l_toGroup_cc (addC_true f_l_toIntS_cc (addC_true f_s_WeightedZero_cc (addC_true f_i_WeightedZero_cc (addC_true f_l_eqIntS_cc (addC_true f_l_eqGroup_cc (addC_true f_l_markGroup_io_cc (addC_true f_l_markIntS_io_cc (addC_true f_l_heldIntS_cc (noC_true))))))))))
theorem f_l_FnExactWeightedZero_o : loopsOnce Try.f8 = true := by kernel_rfl
theorem f_l_FnExactWeightedZero_p {R : Type} (L0 : List Sc) (p1 : List Sc) (kR : Bool → Option R) : f_l_FnExactWeightedZero_k L0 p1 kR = (f_l_FnExactWeightedZero_k L0 p1 some).bind kR := by
  simp only [f_l_FnExactWeightedZero_k, brB, boB, someB]
theorem f_l_FnExactWeightedZero_e (L0 : List Sc) (p1 : List Sc) : runFn E0 f_l_FnExactWeightedZero_M H0 f_l_FnExactWeightedZero_F (asL (noL)) Try.f8 (f_l_FnExactWeightedZero_a L0 p1) (f_l_FnExactWeightedZero_i L0 p1) = f_l_FnExactWeightedZero_k L0 p1 (fun r => some (f_l_FnExactWeightedZero_en r)) := by kernel_rfl
theorem f_l_FnExactWeightedZero_ok (L0 : List Sc) (p1 : List Sc) (r : Bool) (h : f_l_FnExactWeightedZero L0 p1 = some r) : CS Try.prog 8 (f_l_FnExactWeightedZero_a L0 p1) (f_l_FnExactWeightedZero_i L0 p1) (f_l_FnExactWeightedZero_en r).1 (f_l_FnExactWeightedZero_en r).2 :=
  fn_true (Gk := fun k => f_l_FnExactWeightedZero_k L0 p1 k) (en := f_l_FnExactWeightedZero_en) Try.func8 E0ok f_l_FnExactWeightedZero_Mt (noL_true) f_l_FnExactWeightedZero_o (f_l_FnExactWeightedZero_e L0 p1) (f_l_FnExactWeightedZero_p L0 p1) h
def f_l_FnExactWeightedZero_c : CRow := fun args inh => match dec2 [.p .gr, .p .sl] [] args inh with
  | some ([.l L0, .l p1], []) => some ((f_l_FnExactWeightedZero L0 p1).isSome, (f_l_FnExactWeightedZero_en ((f_l_FnExactWeightedZero L0 p1).getD false)).1, (f_l_FnExactWeightedZero_en ((f_l_FnExactWeightedZero L0 p1).getD false)).2)
  | _ => none
theorem f_l_FnExactWeightedZero_cc : CTrue Try.prog 8 f_l_FnExactWeightedZero_c := by
  intro args inh rs out h
  unfold f_l_FnExactWeightedZero_c at h
  split at h
  · rename_i hd
    obtain ⟨h1, h2⟩ := dec2_enc hd
    rw [← h1, ← h2]
    exact rowC (f_l_FnExactWeightedZero_ok _ _) h
  · cases h

def f_s_ExponentOf_F : Fi := { nv := 0, nc := 0, m := 0, vt := [], kl := [(2, ([0, 2, 6, 7, 8, 9, 10, 11, 12, 13, 14, 15, 16, 17, 18, 19, 20, 21, 22, 23, 24, 25, 26, 27, 28, 29], [0, 2, 3, 6, 7, 8, 9, 10, 11, 12, 13, 14, 15, 16, 17, 18, 19, 20, 21, 22, 23, 24, 25, 26, 27, 28, 29], [0, 1, 3, 4, 5, 6, 7, 8, 9, 10, 11, 12, 13, 14, 15, 16, 17, 18, 19, 20, 21, 22, 23, 24, 25, 26, 27, 28, 29])), (0, ([0, 2, 5, 6, 7, 8, 9, 10, 11, 12, 13, 14, 15, 16, 17, 18, 19, 20, 21, 22, 23, 24, 25, 26, 27, 28, 29], [0, 2, 6, 7, 8, 9, 10, 11, 12, 13, 14, 15, 16, 17, 18, 19, 20, 21, 22, 23, 24, 25, 26, 27, 28, 29], [0, 1, 3, 4, 5, 6, 7, 8, 9, 10, 11, 12, 13, 14, 15, 16, 17, 18, 19, 20, 21, 22, 23, 24, 25, 26, 27, 28, 29]))], sk := [], mvs := [], fz := [] }
def f_s_ExponentOf_a (g0 : List Sc) : List AV := enc [.p .gr] [.l g0]
def f_s_ExponentOf_i (g0 : List Sc) : List AV := enc [] []
def f_s_ExponentOf_en (r : Int) : List AV × List AV := (enc [.p (.int .i64)] [.i r], enc [] [])
def f_s_ExponentOf_M : Calling := addC 48 f_s_IsGroup_c (noC)
theorem f_s_ExponentOf_Mt : CallOk Try.prog (f_s_ExponentOf_M) := addC_true f_s_IsGroup_cc (noC_true)
theorem f_s_ExponentOf_o : loopsOnce Try.f80 = true := by kernel_rfl
def f_s_ExponentOf_h2 : List Sh := [.u, .p .el, .u, .p (.int .i64), .p (.int .i64), .p (.int .i64), .u, .u, .u, .u, .u, .u, .u, .u, .u, .u, .u, .u, .u, .u, .u, .u, .u, .u, .u, .u, .u, .u, .u, .u]
def f_s_ExponentOf_fr2 (g1 : List Sc) (e3 : Int) (i4 : Int) (s : Int) : List AV := enc f_s_ExponentOf_h2 [.l g1, .i e3, .i i4, .i s]
def f_s_ExponentOf_g2_1 : List Sh := [.u, .p .el, .u, .u, .p (.int .i64), .p (.int .i64), .u, .u, .u, .u, .u, .u, .u, .u, .u, .u, .u, .u, .u, .u, .u, .u, .u, .u, .u, .u, .u, .u, .u, .u]
def f_s_ExponentOf_x2_1 (g1 : List Sc) (e3 : Int) (i4 : Int) (e : Int) : X × List AV := (.out 2, enc f_s_ExponentOf_g2_1 [.l g1, .i i4, .i e])
def f_s_ExponentOf_x2_2 (g1 : List Sc) (e3 : Int) (i4 : Int) (_e : Unit) : X × List AV := (.ret, [])
theorem f_s_ExponentOf_p2 {R : Type} (g1 : List Sc) (e3 : Int) (i4 : Int) (s : Int) (kN : Int → Option R) (kA : Int → Option R) (kB : Unit → Option R) : f_s_ExponentOf_k2 g1 e3 i4 s kN kA = (f_s_ExponentOf_r2 g1 e3 i4 s).bind (Ro.el kN kA kB) := by
  simp only [f_s_ExponentOf_k2, f_s_ExponentOf_r2, brB, someB, noneB, Ro.el]
theorem f_s_ExponentOf_e2 (g1 : List Sc) (e3 : Int) (i4 : Int) (s : Int) : EC E0 f_s_ExponentOf_M H0 f_s_ExponentOf_F (asL (noL)) 2 (bodyOf Try.f80 2) (f_s_ExponentOf_fr2 g1 e3 i4 s) (done (klOf f_s_ExponentOf_F 2)) = f_s_ExponentOf_k2 g1 e3 i4 s (fun s => some (.norm, f_s_ExponentOf_fr2 g1 e3 i4 s)) (fun e => some (f_s_ExponentOf_x2_1 g1 e3 i4 e)) := by kernel_rfl
theorem f_s_ExponentOf_l2 (g1 : List Sc) (e3 : Int) (i4 : Int) : ∀ s r, loopL (f_s_ExponentOf_r2 g1 e3 i4) s = some r → LS Try.prog f_s_ExponentOf_F (bodyOf Try.f80 2) (f_s_ExponentOf_fr2 g1 e3 i4 s) (enX (f_s_ExponentOf_x2_1 g1 e3 i4) (f_s_ExponentOf_x2_2 g1 e3 i4) r) :=
  loop_true E0ok f_s_ExponentOf_Mt (noL_true) f_s_ExponentOf_o (fun _ h => by cases h) (fun _ h => by cases h) (fun s => (f_s_ExponentOf_e2 g1 e3 i4 s).trans (f_s_ExponentOf_p2 g1 e3 i4 s _ _ (fun e => some (f_s_ExponentOf_x2_2 g1 e3 i4 e))))
def f_s_ExponentOf_t2 (σ : List AV) : Option (Bool × Bool × (X × List AV) × (X × List AV)) := match dec f_s_ExponentOf_h2 σ with
  | some [.l g1, .i e3, .i i4, .i x5] => some (isOne (loopL (f_s_ExponentOf_r2 g1 e3 i4) x5), true, f_s_ExponentOf_x2_1 g1 e3 i4 (getOne 0 (loopL (f_s_ExponentOf_r2 g1 e3 i4) x5)), (.ret, []))
  | _ => none
theorem f_s_ExponentOf_tt2 : TTrue Try.prog f_s_ExponentOf_F Try.f80 2 (f_s_ExponentOf_t2) := by
  intro σ p r r' h
  unfold f_s_ExponentOf_t2 at h
  split at h
  · rename_i hd
    rw [← dec_enc hd]
    exact row1 (f_s_ExponentOf_l2 _ _ _ _) h
  · cases h
def f_s_ExponentOf_h0 : List Sh := [.u, .p .el, .u, .p (.int .i64), .p (.int .i64), .u, .u, .u, .u, .u, .u, .u, .u, .u, .u, .u, .u, .u, .u, .u, .u, .u, .u, .u, .u, .u, .u, .u, .u, .u]
def f_s_ExponentOf_fr0 (g1 : List Sc) (s : Int × Int) : List AV := enc f_s_ExponentOf_h0 [.l g1, .i s.1, .i s.2]
def f_s_ExponentOf_g0_1 : List Sh := [.u, .p .el, .u, .p (.int .i64), .p (.int .i64), .u, .u, .u, .u, .u, .u, .u, .u, .u, .u, .u, .u, .u, .u, .u, .u, .u, .u, .u, .u, .u, .u, .u, .u, .u]
def f_s_ExponentOf_x0_1 (g1 : List Sc) (e : Int × Int) : X × List AV := (.out 0, enc f_s_ExponentOf_g0_1 [.l g1, .i e.1, .i e.2])
def f_s_ExponentOf_x0_2 (g1 : List Sc) (_e : Unit) : X × List AV := (.ret, [])
theorem f_s_ExponentOf_p0 {R : Type} (g1 : List Sc) (s : Int × Int) (kN : Int × Int → Option R) (kA : Int × Int → Option R) (kB : Unit → Option R) : f_s_ExponentOf_k0 g1 s.1 s.2 kN kA = (f_s_ExponentOf_r0 g1 s).bind (Ro.el kN kA kB) := by
  simp only [f_s_ExponentOf_k0, f_s_ExponentOf_r0, brB, bl1B, someB, Ro.el]
theorem f_s_ExponentOf_e0 (g1 : List Sc) (s : Int × Int) : EC E0 f_s_ExponentOf_M H0 f_s_ExponentOf_F (asL (addL 2 (f_s_ExponentOf_t2) (noL))) 0 (bodyOf Try.f80 0) (f_s_ExponentOf_fr0 g1 s) (done (klOf f_s_ExponentOf_F 0)) = f_s_ExponentOf_k0 g1 s.1 s.2 (fun s => some (.norm, f_s_ExponentOf_fr0 g1 s)) (fun e => some (f_s_ExponentOf_x0_1 g1 e)) := by kernel_rfl
theorem f_s_ExponentOf_l0 (g1 : List Sc) : ∀ s r, loopL (f_s_ExponentOf_r0 g1) s = some r → LS Try.prog f_s_ExponentOf_F (bodyOf Try.f80 0) (f_s_ExponentOf_fr0 g1 s) (enX (f_s_ExponentOf_x0_1 g1) (f_s_ExponentOf_x0_2 g1) r) :=
  loop_true E0ok f_s_ExponentOf_Mt (addL_true (f_s_ExponentOf_tt2) (noL_true)) f_s_ExponentOf_o (fun _ h => by cases h) (fun _ h => by cases h) (fun s => (f_s_ExponentOf_e0 g1 s).trans (f_s_ExponentOf_p0 g1 s _ _ (fun e => some (f_s_ExponentOf_x0_2 g1 e))))
def f_s_ExponentOf_t0 (σ : List AV) : Option (Bool × Bool × (X × List AV) × (X × List AV)) := match dec f_s_ExponentOf_h0 σ with
  | some [.l g1, .i e3, .i i4] => some (isOne (loopL (f_s_ExponentOf_r0 g1) (e3, i4)), true, f_s_ExponentOf_x0_1 g1 (getOne (0, 0) (loopL (f_s_ExponentOf_r0 g1) (e3, i4))), (.ret, []))
  | _ => none
theorem f_s_ExponentOf_tt0 : TTrue Try.prog f_s_ExponentOf_F Try.f80 0 (f_s_ExponentOf_t0) := by
  intro σ p r r' h
  unfold f_s_ExponentOf_t0 at h
  split at h
  · rename_i hd
    rw [← dec_enc hd]
    exact row1 (f_s_ExponentOf_l0 _ _) h
  · cases h
theorem f_s_ExponentOf_p {R : Type} (g0 : List Sc) (kR : Int → Option R) : f_s_ExponentOf_k g0 kR = (f_s_ExponentOf_k g0 some).bind kR := by
  simp only [f_s_ExponentOf_k, brB, boB, bl1B, someB]
theorem f_s_ExponentOf_e (g0 : List Sc) : runFn E0 f_s_ExponentOf_M H0 f_s_ExponentOf_F (asL (addL 0 (f_s_ExponentOf_t0) (addL 2 (f_s_ExponentOf_t2) (noL)))) Try.f80 (f_s_ExponentOf_a g0) (f_s_ExponentOf_i g0) = f_s_ExponentOf_k g0 (fun r => some (f_s_ExponentOf_en r)) := by kernel_rfl
theorem f_s_ExponentOf_ok (g0 : List Sc) (r : Int) (h : f_s_ExponentOf g0 = some r) : CS Try.prog 80 (f_s_ExponentOf_a g0) (f_s_ExponentOf_i g0) (f_s_ExponentOf_en r).1 (f_s_ExponentOf_en r).2 :=
  fn_true (Gk := fun k => f_s_ExponentOf_k g0 k) (en := f_s_ExponentOf_en) Try.func80 E0ok f_s_ExponentOf_Mt (addL_true (f_s_ExponentOf_tt0) (addL_true (f_s_ExponentOf_tt2) (noL_true))) f_s_ExponentOf_o (f_s_ExponentOf_e g0) (f_s_ExponentOf_p g0) h
def f_s_ExponentOf_c : CRow := fun args inh => match dec2 [.p .gr] [] args inh with
  | some ([.l g0], []) => some ((f_s_ExponentOf g0).isSome, (f_s_ExponentOf_en ((f_s_ExponentOf g0).getD 0)).1, (f_s_ExponentOf_en ((f_s_ExponentOf g0).getD 0)).2)
  | _ => none
theorem f_s_ExponentOf_cc : CTrue Try.prog 80 f_s_ExponentOf_c := by
  intro args inh rs out h
  unfold f_s_ExponentOf_c at h
  split at h
  · rename_i hd
    obtain ⟨h1, h2⟩ := dec2_enc hd
    rw [← h1, ← h2]
    exact rowC (f_s_ExponentOf_ok _) h
  · cases h

def f_s_SubsumsOfLength_F : Fi := { nv := 0, nc := 0, m := 0, vt := [], kl := [(2, ([0, 4, 5, 6, 10, 11, 12, 13, 14, 15, 16, 17, 18, 19, 20, 21, 22, 23, 24, 25, 26, 27, 28, 29, 30, 31, 32, 33, 34, 35, 36, 37, 38, 39, 40, 41, 42, 43, 44, 45, 46, 47, 48, 49, 50, 51, 52, 53, 54, 55, 56, 57, 58, 59], [0, 4, 5, 6, 9, 10, 11, 12, 13, 14, 15, 16, 17, 18, 19, 20, 21, 22, 23, 24, 25, 26, 27, 28, 29, 30, 31, 32, 33, 34, 35, 36, 37, 38, 39, 40, 41, 42, 43, 44, 45, 46, 47, 48, 49, 50, 51, 52, 53, 54, 55, 56, 57, 58, 59], [0, 1, 2, 3, 4, 5, 7, 8, 9, 10, 11, 12, 13, 14, 15, 16, 17, 18, 19, 20, 21, 22, 23, 24, 25, 26, 27, 28, 29, 30, 31, 32, 33, 34, 35, 36, 37, 38, 39, 40, 41, 42, 43, 44, 45, 46, 47, 48, 49, 50, 51, 52, 53, 54, 55, 56, 57, 58, 59])), (0, ([0, 4, 5, 6, 9, 10, 11, 12, 13, 14, 15, 16, 17, 18, 19, 20, 21, 22, 23, 24, 25, 26, 27, 28, 29, 30, 31, 32, 33, 34, 35, 36, 37, 38, 39, 40, 41, 42, 43, 44, 45, 46, 47, 48, 49, 50, 51, 52, 53, 54, 55, 56, 57, 58, 59], [0, 4, 5, 6, 9, 10, 11, 12, 13, 14, 15, 16, 17, 18, 19, 20, 21, 22, 23, 24, 25, 26, 27, 28, 29, 30, 31, 32, 33, 34, 35, 36, 37, 38, 39, 40, 41, 42, 43, 44, 45, 46, 47, 48, 49, 50, 51, 52, 53, 54, 55, 56, 57, 58, 59], [0, 1, 2, 3, 4, 5, 7, 8, 9, 10, 11, 12, 13, 14, 15, 16, 17, 18, 19, 20, 21, 22, 23, 24, 25, 26, 27, 28, 29, 30, 31, 32, 33, 34, 35, 36, 37, 38, 39, 40, 41, 42, 43, 44, 45, 46, 47, 48, 49, 50, 51, 52, 53, 54, 55, 56, 57, 58, 59]))], sk := [], mvs := [], fz := [] }
def f_s_SubsumsOfLength_a (g0 : List Sc) (l1 : List Sc) (k2 : Int) : List AV := enc [.p .gr, .p .sl, .p (.int .i64)] [.l g0, .l l1, .i k2]
def f_s_SubsumsOfLength_i (g0 : List Sc) (l1 : List Sc) (k2 : Int) : List AV := enc [] []
def f_s_SubsumsOfLength_en (r : Int) : List AV × List AV := (enc [.p (.int .i64)] [.i r], enc [] [])
def f_s_SubsumsOfLength_M : Calling := addC 70 f_s_IsSequence_c (addC 50 f_s_l1In_c (addC 90 f_s_l3Shift_c (noC)))
theorem f_s_SubsumsOfLength_Mt : CallOk Try.prog (f_s_SubsumsOfLength_M) := addC_true f_s_IsSequence_cc (addC_true f_s_l1In_cc (addC_true f_s_l3Shift_cc (noC_true)))
theorem f_s_SubsumsOfLength_o : loopsOnce Try.f107 = true := by kernel_rfl
def f_s_SubsumsOfLength_h2 : List Sh := [.u, .p .sl, .p (.int .i64), .p .el, .u, .u, .u, .own 3, .p (.int .i64), .p (.int .i64), .u, .u, .u, .u, .u, .u, .u, .u, .u, .u, .u, .u, .u, .u, .u, .u, .u, .u, .u, .u, .u, .u, .u, .u, .u, .u, .u, .u, .u, .u, .u, .u, .u, .u, .u, .u, .u, .u, .u, .u, .u, .u, .u, .u, .u, .u, .u, .u, .u, .u]
def f_s_SubsumsOfLength_fr2 (l1 : List Sc) (k2 : Int) (g3 : List Sc) (i8 : Int) (s : List Sc × Int) : List AV := enc f_s_SubsumsOfLength_h2 [.l l1, .i k2, .l g3, .l s.1, .i i8, .i s.2]
def f_s_SubsumsOfLength_g2_1 : List Sh := [.u, .p .sl, .p (.int .i64), .p .el, .u, .u, .u, .own 3, .p (.int .i64), .u, .u, .u, .u, .u, .u, .u, .u, .u, .u, .u, .u, .u, .u, .u, .u, .u, .u, .u, .u, .u, .u, .u, .u, .u, .u, .u, .u, .u, .u, .u, .u, .u, .u, .u, .u, .u, .u, .u, .u, .u, .u, .u, .u, .u, .u, .u, .u, .u, .u, .u]
def f_s_SubsumsOfLength_x2_1 (l1 : List Sc) (k2 : Int) (g3 : List Sc) (i8 : Int) (e : List Sc) : X × List AV := (.out 2, enc f_s_SubsumsOfLength_g2_1 [.l l1, .i k2, .l g3, .l e, .i i8])
def f_s_SubsumsOfLength_x2_2 (l1 : List Sc) (k2 : Int) (g3 : List Sc) (i8 : Int) (_e : Unit) : X × List AV := (.ret, [])
theorem f_s_SubsumsOfLength_p2 {R : Type} (l1 : List Sc) (k2 : Int) (g3 : List Sc) (i8 : Int) (s : List Sc × Int) (kN : List Sc × Int → Option R) (kA : List Sc → Option R) (kB : Unit → Option R) : f_s_SubsumsOfLength_k2 l1 k2 g3 i8 s.1 s.2 kN kA = (f_s_SubsumsOfLength_r2 l1 k2 g3 i8 s).bind (Ro.el kN kA kB) := by
  simp only [f_s_SubsumsOfLength_k2, f_s_SubsumsOfLength_r2, brB, boB, someB, noneB, Ro.el]
theorem f_s_SubsumsOfLength_e2 (l1 : List Sc) (k2 : Int) (g3 : List Sc) (i8 : Int) (s : List Sc × Int) : EC E0 f_s_SubsumsOfLength_M H0 f_s_SubsumsOfLength_F (asL (noL)) 2 (bodyOf Try.f107 2) (f_s_SubsumsOfLength_fr2 l1 k2 g3 i8 s) (done (klOf f_s_SubsumsOfLength_F 2)) = f_s_SubsumsOfLength_k2 l1 k2 g3 i8 s.1 s.2 (fun s => some (.norm, f_s_SubsumsOfLength_fr2 l1 k2 g3 i8 s)) (fun e => some (f_s_SubsumsOfLength_x2_1 l1 k2 g3 i8 e)) := by kernel_rfl
theorem f_s_SubsumsOfLength_l2 (l1 : List Sc) (k2 : Int) (g3 : List Sc) (i8 : Int) : ∀ s r, loopL (f_s_SubsumsOfLength_r2 l1 k2 g3 i8) s = some r → LS Try.prog f_s_SubsumsOfLength_F (bodyOf Try.f107 2) (f_s_SubsumsOfLength_fr2 l1 k2 g3 i8 s) (enX (f_s_SubsumsOfLength_x2_1 l1 k2 g3 i8) (f_s_SubsumsOfLength_x2_2 l1 k2 g3 i8) r) :=
  loop_true E0ok f_s_SubsumsOfLength_Mt (noL_true) f_s_SubsumsOfLength_o (fun _ h => by cases h) (fun _ h => by cases h) (fun s => (f_s_SubsumsOfLength_e2 l1 k2 g3 i8 s).trans (f_s_SubsumsOfLength_p2 l1 k2 g3 i8 s _ _ (fun e => some (f_s_SubsumsOfLength_x2_2 l1 k2 g3 i8 e))))
def f_s_SubsumsOfLength_t2 (σ : List AV) : Option (Bool × Bool × (X × List AV) × (X × List AV)) := match dec f_s_SubsumsOfLength_h2 σ with
  | some [.l l1, .i k2, .l g3, .l t7, .i i8, .i n9] => some (isOne (loopL (f_s_SubsumsOfLength_r2 l1 k2 g3 i8) (t7, n9)), true, f_s_SubsumsOfLength_x2_1 l1 k2 g3 i8 (getOne [] (loopL (f_s_SubsumsOfLength_r2 l1 k2 g3 i8) (t7, n9))), (.ret, []))
  | _ => none
theorem f_s_SubsumsOfLength_tt2 : TTrue Try.prog f_s_SubsumsOfLength_F Try.f107 2 (f_s_SubsumsOfLength_t2) := by
  intro σ p r r' h
  unfold f_s_SubsumsOfLength_t2 at h
  split at h
  · rename_i hd
    rw [← dec_enc hd]
    exact row1 (f_s_SubsumsOfLength_l2 _ _ _ _ _) h
  · cases h
def f_s_SubsumsOfLength_h0 : List Sh := [.u, .p .sl, .p (.int .i64), .p .el, .u, .u, .u, .own 3, .p (.int .i64), .u, .u, .u, .u, .u, .u, .u, .u, .u, .u, .u, .u, .u, .u, .u, .u, .u, .u, .u, .u, .u, .u, .u, .u, .u, .u, .u, .u, .u, .u, .u, .u, .u, .u, .u, .u, .u, .u, .u, .u, .u, .u, .u, .u, .u, .u, .u, .u, .u, .u, .u]
def f_s_SubsumsOfLength_fr0 (l1 : List Sc) (k2 : Int) (g3 : List Sc) (s : List Sc × Int) : List AV := enc f_s_SubsumsOfLength_h0 [.l l1, .i k2, .l g3, .l s.1, .i s.2]
def f_s_SubsumsOfLength_g0_1 : List Sh := [.u, .p .sl, .p (.int .i64), .p .el, .u, .u, .u, .own 3, .p (.int .i64), .u, .u, .u, .u, .u, .u, .u, .u, .u, .u, .u, .u, .u, .u, .u, .u, .u, .u, .u, .u, .u, .u, .u, .u, .u, .u, .u, .u, .u, .u, .u, .u, .u, .u, .u, .u, .u, .u, .u, .u, .u, .u, .u, .u, .u, .u, .u, .u, .u, .u, .u]
def f_s_SubsumsOfLength_x0_1 (l1 : List Sc) (k2 : Int) (g3 : List Sc) (e : List Sc × Int) : X × List AV := (.out 0, enc f_s_SubsumsOfLength_g0_1 [.l l1, .i k2, .l g3, .l e.1, .i e.2])
def f_s_SubsumsOfLength_x0_2 (l1 : List Sc) (k2 : Int) (g3 : List Sc) (_e : Unit) : X × List AV := (.ret, [])
theorem f_s_SubsumsOfLength_p0 {R : Type} (l1 : List Sc) (k2 : Int) (g3 : List Sc) (s : List Sc × Int) (kN : List Sc × Int → Option R) (kA : List Sc × Int → Option R) (kB : Unit → Option R) : f_s_SubsumsOfLength_k0 l1 k2 g3 s.1 s.2 kN kA = (f_s_SubsumsOfLength_r0 l1 k2 g3 s).bind (Ro.el kN kA kB) := by
  simp only [f_s_SubsumsOfLength_k0, f_s_SubsumsOfLength_r0, brB, bl1B, someB, Ro.el]
theorem f_s_SubsumsOfLength_e0 (l1 : List Sc) (k2 : Int) (g3 : List Sc) (s : List Sc × Int) : EC E0 f_s_SubsumsOfLength_M H0 f_s_SubsumsOfLength_F (asL (addL 2 (f_s_SubsumsOfLength_t2) (noL))) 0 (bodyOf Try.f107 0) (f_s_SubsumsOfLength_fr0 l1 k2 g3 s) (done (klOf f_s_SubsumsOfLength_F 0)) = f_s_SubsumsOfLength_k0 l1 k2 g3 s.1 s.2 (fun s => some (.norm, f_s_SubsumsOfLength_fr0 l1 k2 g3 s)) (fun e => some (f_s_SubsumsOfLength_x0_1 l1 k2 g3 e)) := by kernel_rfl
theorem f_s_SubsumsOfLength_l0 (l1 : List Sc) (k2 : Int) (g3 : List Sc) : ∀ s r, loopL (f_s_SubsumsOfLength_r0 l1 k2 g3) s = some r → LS Try.prog f_s_SubsumsOfLength_F (bodyOf Try.f107 0) (f_s_SubsumsOfLength_fr0 l1 k2 g3 s) (enX (f_s_SubsumsOfLength_x0_1 l1 k2 g3) (f_s_SubsumsOfLength_x0_2 l1 k2 g3) r) :=
  loop_true E0ok f_s_SubsumsOfLength_Mt (addL_true (f_s_SubsumsOfLength_tt2) (noL_true)) f_s_SubsumsOfLength_o (fun _ h => by cases h) (fun _ h => by cases h) (fun s => (f_s_SubsumsOfLength_e0 l1 k2 g3 s).trans (f_s_SubsumsOfLength_p0 l1 k2 g3 s _ _ (fun e => some (f_s_SubsumsOfLength_x0_2 l1 k2 g3 e))))
def f_s_SubsumsOfLength_t0 (σ : List AV) : Option (Bool × Bool × (X × List AV) × (X × List AV)) := match dec f_s_SubsumsOfLength_h0 σ with
  | some [.l l1, .i k2, .l g3, .l t7, .i i8] => some (isOne (loopL (f_s_SubsumsOfLength_r0 l1 k2 g3) (t7, i8)), true, f_s_SubsumsOfLength_x0_1 l1 k2 g3 (getOne ([], 0) (loopL (f_s_SubsumsOfLength_r0 l1 k2 g3) (t7, i8))), (.ret, []))
  | _ => none
theorem f_s_SubsumsOfLength_tt0 : TTrue Try.prog f_s_SubsumsOfLength_F Try.f107 0 (f_s_SubsumsOfLength_t0) := by
  intro σ p r r' h
  unfold f_s_SubsumsOfLength_t0 at h
  split at h
  · rename_i hd
    rw [← dec_enc hd]
    exact row1 (f_s_SubsumsOfLength_l0 _ _ _ _) h
  · cases h
theorem f_s_SubsumsOfLength_p {R : Type} (g0 : List Sc) (l1 : List Sc) (k2 : Int) (kR : Int → Option R) : f_s_SubsumsOfLength_k g0 l1 k2 kR = (f_s_SubsumsOfLength_k g0 l1 k2 some).bind kR := by
  simp only [f_s_SubsumsOfLength_k, brB, boB, bl1B, someB, noneB]
theorem f_s_SubsumsOfLength_e (g0 : List Sc) (l1 : List Sc) (k2 : Int) : runFn E0 f_s_SubsumsOfLength_M H0 f_s_SubsumsOfLength_F (asL (addL 0 (f_s_SubsumsOfLength_t0) (addL 2 (f_s_SubsumsOfLength_t2) (noL)))) Try.f107 (f_s_SubsumsOfLength_a g0 l1 k2) (f_s_SubsumsOfLength_i g0 l1 k2) = f_s_SubsumsOfLength_k g0 l1 k2 (fun r => some (f_s_SubsumsOfLength_en r)) := by kernel_rfl
theorem f_s_SubsumsOfLength_ok (g0 : List Sc) (l1 : List Sc) (k2 : Int) (r : Int) (h : f_s_SubsumsOfLength g0 l1 k2 = some r) : CS Try.prog 107 (f_s_SubsumsOfLength_a g0 l1 k2) (f_s_SubsumsOfLength_i g0 l1 k2) (f_s_SubsumsOfLength_en r).1 (f_s_SubsumsOfLength_en r).2 :=
  fn_true (Gk := fun k => f_s_SubsumsOfLength_k g0 l1 k2 k) (en := f_s_SubsumsOfLength_en) Try.func107 E0ok f_s_SubsumsOfLength_Mt (addL_true (f_s_SubsumsOfLength_tt0) (addL_true (f_s_SubsumsOfLength_tt2) (noL_true))) f_s_SubsumsOfLength_o (f_s_SubsumsOfLength_e g0 l1 k2) (f_s_SubsumsOfLength_p g0 l1 k2) h
def f_s_SubsumsOfLength_c : CRow := fun args inh => match dec2 [.p .gr, .p .sl, .p (.int .i64)] [] args inh with
  | some ([.l g0, .l l1, .i k2], []) => some ((f_s_SubsumsOfLength g0 l1 k2).isSome, (f_s_SubsumsOfLength_en ((f_s_SubsumsOfLength g0 l1 k2).getD 0)).1, (f_s_SubsumsOfLength_en ((f_s_SubsumsOfLength g0 l1 k2).getD 0)).2)
  | _ => none
theorem f_s_SubsumsOfLength_cc : CTrue Try.prog 107 f_s_SubsumsOfLength_c := by
  intro args inh rs out h
  unfold f_s_SubsumsOfLength_c at h
  split at h
  · rename_i hd
    obtain ⟨h1, h2⟩ := dec2_enc hd
    rw [← h1, ← h2]
    exact rowC (f_s_SubsumsOfLength_ok _ _ _) h
  · cases h

def f_s_l18Has_F : Fi := { nv := 0, nc := 0, m := 0, vt := [], kl := [], sk := [], mvs := [], fz := [] }
def f_s_l18Has_a (g0 : List Sc) (l1 : List Sc) (e2 : Int) : List AV := enc [.p .gr, .p .sl, .p (.int .i64)] [.l g0, .l l1, .i e2]
def f_s_l18Has_i (g0 : List Sc) (l1 : List Sc) (e2 : Int) : List AV := enc [] []
def f_s_l18Has_en (r : Bool) : List AV × List AV := (enc [.p .boo] [.b r], enc [] [])
def f_s_l18Has_M : Calling := addC 107 f_s_SubsumsOfLength_c (noC)
theorem f_s_l18Has_Mt : CallOk Try.prog (f_s_l18Has_M) := addC_true f_s_SubsumsOfLength_cc (noC_true)
theorem f_s_l18Has_o : loopsOnce Try.f100 = true := by kernel_rfl
theorem f_s_l18Has_p {R : Type} (g0 : List Sc) (l1 : List Sc) (e2 : Int) (kR : Bool → Option R) : f_s_l18Has_k g0 l1 e2 kR = (f_s_l18Has_k g0 l1 e2 some).bind kR := by
  simp only [f_s_l18Has_k, brB, boB, someB]
theorem f_s_l18Has_e (g0 : List Sc) (l1 : List Sc) (e2 : Int) : runFn E0 f_s_l18Has_M H0 f_s_l18Has_F (asL (noL)) Try.f100 (f_s_l18Has_a g0 l1 e2) (f_s_l18Has_i g0 l1 e2) = f_s_l18Has_k g0 l1 e2 (fun r => some (f_s_l18Has_en r)) := by kernel_rfl
theorem f_s_l18Has_ok (g0 : List Sc) (l1 : List Sc) (e2 : Int) (r : Bool) (h : f_s_l18Has g0 l1 e2 = some r) : CS Try.prog 100 (f_s_l18Has_a g0 l1 e2) (f_s_l18Has_i g0 l1 e2) (f_s_l18Has_en r).1 (f_s_l18Has_en r).2 :=
  fn_true (Gk := fun k => f_s_l18Has_k g0 l1 e2 k) (en := f_s_l18Has_en) Try.func100 E0ok f_s_l18Has_Mt (noL_true) f_s_l18Has_o (f_s_l18Has_e g0 l1 e2) (f_s_l18Has_p g0 l1 e2) h
def f_s_l18Has_c : CRow := fun args inh => match dec2 [.p .gr, .p .sl, .p (.int .i64)] [] args inh with
  | some ([.l g0, .l l1, .i e2], []) => some ((f_s_l18Has g0 l1 e2).isSome, (f_s_l18Has_en ((f_s_l18Has g0 l1 e2).getD false)).1, (f_s_l18Has_en ((f_s_l18Has g0 l1 e2).getD false)).2)
  | _ => none
theorem f_s_l18Has_cc : CTrue Try.prog 100 f_s_l18Has_c := by
  intro args inh rs out h
  unfold f_s_l18Has_c at h
  split at h
  · rename_i hd
    obtain ⟨h1, h2⟩ := dec2_enc hd
    rw [← h1, ← h2]
    exact rowC (f_s_l18Has_ok _ _ _) h
  · cases h
end
end Go.Proofs.Ytdlofeehgkijhaa
