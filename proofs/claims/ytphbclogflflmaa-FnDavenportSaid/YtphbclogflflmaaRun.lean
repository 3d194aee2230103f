/-
  That the program computes just that (printed by gen2.py).
-/
import Derived.Test.YtphbclogflflmaaRuna
set_option linter.unusedVariables false
namespace Go.Proofs.Ytphbclogflflmaa
open Go Ev
noncomputable section
def f_s_DrawCountZeroFree_F : Fi := { nv := 6, nc := 5, m := 0, vt := [(2, 0), (5, 1), (7, 2), (9, 5)], kl := [(100003, ([5, 6, 7, 9, 12, 13, 14, 15, 16, 17, 18], [1, 2, 3, 4, 5, 6, 7, 10, 11, 12, 13, 14, 15, 16, 17, 18], []))], sk := [], mvs := [5], fz := [], tb := [3] }
def f_s_DrawCountZeroFree_a (code0 : List Sc) : List AV := enc [.p .sl] [.l code0]
def f_s_DrawCountZeroFree_i (code0 : List Sc) : List AV := enc [] []
def f_s_DrawCountZeroFree_en (r : List Sc × Int) : List AV × List AV := (enc [.p (.go 0), .p (.int .i64)] [.i r.2], enc [.own 3] [.l r.1])
def f_s_DrawCountZeroFree_M : Calling := addC 162 f_s_l1New_c (addC 186 f_s_l17Group_io_c (addC 166 f_s_l1Below_io_c (noC)))
theorem f_s_DrawCountZeroFree_Mt : CallOk Try.prog (f_s_DrawCountZeroFree_M) := addC_true f_s_l1New_cc (addC_true f_s_l17Group_io_cc (addC_true f_s_l1Below_io_cc (noC_true)))
theorem f_s_DrawCountZeroFree_o : loopsOnce Try.f91 = true := by kernel_rfl
def f_s_DrawCountZeroFree_hg3 : List Sh := [.p .sl, .own 3, .p .sl, .p (.int .i64), .p (.int .i64), .u, .u, .u, .p (.pt 0 1), .u, .p (.pt 2 3), .p (.pt 1 1), .u, .u, .u, .u, .u, .u, .u]
def f_s_DrawCountZeroFree_frg3 (v0 : List Sc) (v1 : List Sc) (v2 : List Sc) (v3 : Int) (v4 : Int) : List AV := enc f_s_DrawCountZeroFree_hg3 [.l v0, .l v1, .l v2, .i v3, .i v4]
def f_s_DrawCountZeroFree_xg3 (v0 : List Sc) (v1 : List Sc) (v2 : List Sc) (v3 : Int) (v4 : Int) (e : Int) : X × List AV := (.norm, enc [.own 3, .u, .u, .u, .u, .u, .u, .u, .p (.pt 0 1), .p (.int .i64), .u, .u, .u, .u, .u, .u, .u, .u, .u] [.l v1, .i e])
theorem f_s_DrawCountZeroFree_pg3 {R : Type} (v0 : List Sc) (v1 : List Sc) (v2 : List Sc) (v3 : Int) (v4 : Int) (kA : Int → Option R) : f_s_DrawCountZeroFree_g3_k v0 v1 v2 v3 v4 kA = (f_s_DrawCountZeroFree_g3 v0 v1 v2 v3 v4).bind kA := by
  simp only [f_s_DrawCountZeroFree_g3_k, f_s_DrawCountZeroFree_g3, boB, someB]
theorem f_s_DrawCountZeroFree_bg3 : bodyOf Try.f91 100003 = .region 3 (opsAt (bodyOf Try.f91 100003)) true := by kernel_rfl
def f_s_DrawCountZeroFree_Dg3 : List (Array Bool) := [#[false, false, false, false, false], #[true, false, false, false, false], #[false, true, false, false, false], #[true, true, false, false, false], #[false, true, true, false, false], #[true, true, true, false, false], #[true, true, true, true, false], #[true, true, true, true, true]]
theorem f_s_DrawCountZeroFree_cg3 : closedB (opsAt (bodyOf Try.f91 100003)) f_s_DrawCountZeroFree_Dg3 = true := by kernel_rfl
def f_s_DrawCountZeroFree_sg3_0 (v0 : List Sc) (v1 : List Sc) (v2 : List Sc) (v3 : Int) (v4 : Int) (fr : List AV) : Option (List AV) :=
  some (setAll [] fr)
def f_s_DrawCountZeroFree_sg3_1 (v0 : List Sc) (v1 : List Sc) (v2 : List Sc) (v3 : Int) (v4 : Int) (fr : List AV) : Option (List AV) :=
  some (setAll [(16, .p (.go 1))] fr)
def f_s_DrawCountZeroFree_sg3_2 (v0 : List Sc) (v1 : List Sc) (v2 : List Sc) (v3 : Int) (v4 : Int) (fr : List AV) : Option (List AV) :=
  some (setAll [(17, .p (.pt 2 3))] fr)
def f_s_DrawCountZeroFree_sg3_3 (v0 : List Sc) (v1 : List Sc) (v2 : List Sc) (v3 : Int) (v4 : Int) (fr : List AV) : Option (List AV) :=
  some (setAll [(16, .p (.go 1)), (17, .p (.pt 2 3))] fr)
def f_s_DrawCountZeroFree_sg3_6 (v0 : List Sc) (v1 : List Sc) (v2 : List Sc) (v3 : Int) (v4 : Int) (fr : List AV) : Option (List AV) :=
  bo (f_s_l1Below_io 6 v2 v3 v4) (0, [], 0, 0) fun r4 =>
  some (setAll [(2, .p (.sl r4.2.1)), (3, .p (.sc (Sc.n .i64 r4.2.2.1))), (4, .p (.sc (Sc.n .i64 r4.2.2.2))), (17, .p (.pt 2 3)), (18, .p (.sc (Sc.n .i64 r4.1)))] fr)
def f_s_DrawCountZeroFree_sg3_7 (v0 : List Sc) (v1 : List Sc) (v2 : List Sc) (v3 : Int) (v4 : Int) (fr : List AV) : Option (List AV) :=
  bo (f_s_l1Below_io 6 v2 v3 v4) (0, [], 0, 0) fun r5 =>
  some (setAll [(2, .p (.sl r5.2.1)), (3, .p (.sc (Sc.n .i64 r5.2.2.1))), (4, .p (.sc (Sc.n .i64 r5.2.2.2))), (16, .p (.go 1)), (17, .p (.pt 2 3)), (18, .p (.sc (Sc.n .i64 r5.1)))] fr)
def f_s_DrawCountZeroFree_sg3_15 (v0 : List Sc) (v1 : List Sc) (v2 : List Sc) (v3 : Int) (v4 : Int) (fr : List AV) : Option (List AV) :=
  bo (f_s_l1Below_io 6 v2 v3 v4) (0, [], 0, 0) fun r6 =>
  some (setAll [(0, .own 3 v1), (1, .p (.al 0)), (2, .p (.sl r6.2.1)), (3, .p (.sc (Sc.n .i64 r6.2.2.1))), (4, .p (.sc (Sc.n .i64 r6.2.2.2))), (16, .p (.go 0)), (17, .p (.pt 2 3)), (18, .p (.sc (Sc.n .i64 r6.1)))] fr)
def f_s_DrawCountZeroFree_sg3_31 (v0 : List Sc) (v1 : List Sc) (v2 : List Sc) (v3 : Int) (v4 : Int) (fr : List AV) : Option (List AV) :=
  bo (f_s_l1Below_io 6 v2 v3 v4) (0, [], 0, 0) fun r7 =>
  some (setAll [(0, .own 3 v1), (1, .p (.al 0)), (2, .p (.sl r7.2.1)), (3, .p (.sc (Sc.n .i64 r7.2.2.1))), (4, .p (.sc (Sc.n .i64 r7.2.2.2))), (9, .p (.sc (Sc.n .i64 r7.1))), (16, .p (.go 0)), (17, .p (.pt 2 3)), (18, .p (.sc (Sc.n .i64 r7.1)))] fr)
def f_s_DrawCountZeroFree_Eg3 (v0 : List Sc) (v1 : List Sc) (v2 : List Sc) (v3 : Int) (v4 : Int) (fr : List AV) : List (Option (List AV)) := [f_s_DrawCountZeroFree_sg3_1 v0 v1 v2 v3 v4 fr, f_s_DrawCountZeroFree_sg3_2 v0 v1 v2 v3 v4 fr, f_s_DrawCountZeroFree_sg3_3 v0 v1 v2 v3 v4 fr, f_s_DrawCountZeroFree_sg3_3 v0 v1 v2 v3 v4 fr, f_s_DrawCountZeroFree_sg3_6 v0 v1 v2 v3 v4 fr, f_s_DrawCountZeroFree_sg3_7 v0 v1 v2 v3 v4 fr, f_s_DrawCountZeroFree_sg3_7 v0 v1 v2 v3 v4 fr, f_s_DrawCountZeroFree_sg3_15 v0 v1 v2 v3 v4 fr, f_s_DrawCountZeroFree_sg3_31 v0 v1 v2 v3 v4 fr]
theorem f_s_DrawCountZeroFree_dLg3 (v0 : List Sc) (v1 : List Sc) (v2 : List Sc) (v3 : Int) (v4 : Int) : edgeL E0 f_s_DrawCountZeroFree_M H0 f_s_DrawCountZeroFree_F (opsAt (bodyOf Try.f91 100003)) f_s_DrawCountZeroFree_Dg3 (f_s_DrawCountZeroFree_frg3 v0 v1 v2 v3 v4) = f_s_DrawCountZeroFree_Eg3 v0 v1 v2 v3 v4 (f_s_DrawCountZeroFree_frg3 v0 v1 v2 v3 v4) := by kernel_rfl
theorem f_s_DrawCountZeroFree_dRg3 (v0 : List Sc) (v1 : List Sc) (v2 : List Sc) (v3 : Int) (v4 : Int) : edgeR E0 f_s_DrawCountZeroFree_M H0 f_s_DrawCountZeroFree_F (opsAt (bodyOf Try.f91 100003)) f_s_DrawCountZeroFree_Dg3 (f_s_DrawCountZeroFree_frg3 v0 v1 v2 v3 v4) = f_s_DrawCountZeroFree_Eg3 v0 v1 v2 v3 v4 (f_s_DrawCountZeroFree_frg3 v0 v1 v2 v3 v4) := by kernel_rfl
theorem f_s_DrawCountZeroFree_dg3 (v0 : List Sc) (v1 : List Sc) (v2 : List Sc) (v3 : Int) (v4 : Int) : edgeL E0 f_s_DrawCountZeroFree_M H0 f_s_DrawCountZeroFree_F (opsAt (bodyOf Try.f91 100003)) f_s_DrawCountZeroFree_Dg3 (f_s_DrawCountZeroFree_frg3 v0 v1 v2 v3 v4) = edgeR E0 f_s_DrawCountZeroFree_M H0 f_s_DrawCountZeroFree_F (opsAt (bodyOf Try.f91 100003)) f_s_DrawCountZeroFree_Dg3 (f_s_DrawCountZeroFree_frg3 v0 v1 v2 v3 v4) := (f_s_DrawCountZeroFree_dLg3 v0 v1 v2 v3 v4).trans (f_s_DrawCountZeroFree_dRg3 v0 v1 v2 v3 v4).symm
theorem f_s_DrawCountZeroFree_eg3 (v0 : List Sc) (v1 : List Sc) (v2 : List Sc) (v3 : Int) (v4 : Int) : goL E0 f_s_DrawCountZeroFree_M H0 f_s_DrawCountZeroFree_F (opsAt (bodyOf Try.f91 100003)) (Array.replicate (opsAt (bodyOf Try.f91 100003)).size true) (opsAt (bodyOf Try.f91 100003)).toList 0 (f_s_DrawCountZeroFree_frg3 v0 v1 v2 v3 v4) (fun s => some (X.norm, clear (klOf f_s_DrawCountZeroFree_F 100003).2.1 s)) = f_s_DrawCountZeroFree_g3_k v0 v1 v2 v3 v4 (fun e => some (f_s_DrawCountZeroFree_xg3 v0 v1 v2 v3 v4 e)) := by kernel_rfl
theorem f_s_DrawCountZeroFree_lg3 (v0 : List Sc) (v1 : List Sc) (v2 : List Sc) (v3 : Int) (v4 : Int) (r : Int) (h : f_s_DrawCountZeroFree_g3 v0 v1 v2 v3 v4 = some r) : LS Try.prog f_s_DrawCountZeroFree_F (bodyOf Try.f91 100003) (f_s_DrawCountZeroFree_frg3 v0 v1 v2 v3 v4) (f_s_DrawCountZeroFree_xg3 v0 v1 v2 v3 v4 r) :=
  region_true (S := Unit) (id := 3) (G := fun _ => f_s_DrawCountZeroFree_g3 v0 v1 v2 v3 v4) (Gk := fun _ k => f_s_DrawCountZeroFree_g3_k v0 v1 v2 v3 v4 k) (fr := fun _ => f_s_DrawCountZeroFree_frg3 v0 v1 v2 v3 v4) (f1 := fun e => f_s_DrawCountZeroFree_xg3 v0 v1 v2 v3 v4 e) E0ok f_s_DrawCountZeroFree_Mt f_s_DrawCountZeroFree_bg3 f_s_DrawCountZeroFree_cg3 (fun _ => f_s_DrawCountZeroFree_dg3 v0 v1 v2 v3 v4) (fun _ => rfl) (fun _ => f_s_DrawCountZeroFree_eg3 v0 v1 v2 v3 v4) (fun _ k => f_s_DrawCountZeroFree_pg3 v0 v1 v2 v3 v4 k) () r h
def f_s_DrawCountZeroFree_tg3 (σ : List AV) : Option (Bool × Bool × (X × List AV) × (X × List AV)) := match dec f_s_DrawCountZeroFree_hg3 σ with
  | some [.l v0, .l v1, .l v2, .i v3, .i v4] => some ((f_s_DrawCountZeroFree_g3 v0 v1 v2 v3 v4).isSome, true, f_s_DrawCountZeroFree_xg3 v0 v1 v2 v3 v4 ((f_s_DrawCountZeroFree_g3 v0 v1 v2 v3 v4).getD 0), (.ret, []))
  | _ => none
theorem f_s_DrawCountZeroFree_ttg3 : TTrue Try.prog f_s_DrawCountZeroFree_F Try.f91 100003 f_s_DrawCountZeroFree_tg3 := by
  intro σ p r r' h
  unfold f_s_DrawCountZeroFree_tg3 at h
  split at h
  · rename_i hd
    rw [← dec_enc hd]
    exact rowR (f_s_DrawCountZeroFree_lg3 _ _ _ _ _) h
  · cases h
theorem f_s_DrawCountZeroFree_p {R : Type} (code0 : List Sc) (kR : List Sc × Int → Option R) : f_s_DrawCountZeroFree_k code0 kR = (f_s_DrawCountZeroFree_k code0 some).bind kR := by
  simp only [f_s_DrawCountZeroFree_k, boB, someB]
theorem f_s_DrawCountZeroFree_e (code0 : List Sc) : runFn E0 f_s_DrawCountZeroFree_M H0 f_s_DrawCountZeroFree_F (asL (addL 100003 f_s_DrawCountZeroFree_tg3 (noL))) Try.f91 (f_s_DrawCountZeroFree_a code0) (f_s_DrawCountZeroFree_i code0) = f_s_DrawCountZeroFree_k code0 (fun r => some (f_s_DrawCountZeroFree_en r)) := by kernel_rfl
theorem f_s_DrawCountZeroFree_ok (code0 : List Sc) (r : List Sc × Int) (h : f_s_DrawCountZeroFree code0 = some r) : CS Try.prog 91 (f_s_DrawCountZeroFree_a code0) (f_s_DrawCountZeroFree_i code0) (f_s_DrawCountZeroFree_en r).1 (f_s_DrawCountZeroFree_en r).2 :=
  fn_true (Gk := fun k => f_s_DrawCountZeroFree_k code0 k) (en := f_s_DrawCountZeroFree_en) Try.func91 E0ok f_s_DrawCountZeroFree_Mt (addL_true f_s_DrawCountZeroFree_ttg3 (noL_true)) f_s_DrawCountZeroFree_o (f_s_DrawCountZeroFree_e code0) (f_s_DrawCountZeroFree_p code0) h
def f_s_DrawCountZeroFree_c : CRow := fun args inh => match dec2 [.p .sl] [] args inh with
  | some ([.l code0], []) => some ((f_s_DrawCountZeroFree code0).isSome, (f_s_DrawCountZeroFree_en ((f_s_DrawCountZeroFree code0).getD ([], 0))).1, (f_s_DrawCountZeroFree_en ((f_s_DrawCountZeroFree code0).getD ([], 0))).2)
  | _ => none
theorem f_s_DrawCountZeroFree_cc : CTrue Try.prog 91 f_s_DrawCountZeroFree_c := by
  intro args inh rs out h
  unfold f_s_DrawCountZeroFree_c at h
  split at h
  · rename_i hd
    obtain ⟨h1, h2⟩ := dec2_enc hd
    rw [← h1, ← h2]
    exact rowC (f_s_DrawCountZeroFree_ok _) h
  · cases h

def f_i_CountZeroFree_1_F : Fi := { nv := 1, nc := 1, m := 1, vt := [], kl := [], sk := [], mvs := [], fz := [] }
def f_i_CountZeroFree_1_a (l0 : List Sc) (sums1 : Int) (p2 : Int) (h0 : Int) : List AV := enc [.p .sl, .p (.int .i64), .p (.evi .i64), .p (.pt 0 1)] [.l l0, .i sums1, .i p2]
def f_i_CountZeroFree_1_i (l0 : List Sc) (sums1 : Int) (p2 : Int) (h0 : Int) : List AV := enc [.p (.int .i64)] [.i h0]
def f_i_CountZeroFree_1_en (r : Int) : List AV × List AV := (enc [] [], enc [.p (.int .i64)] [.i r])
def f_i_CountZeroFree_1_M : Calling := noC
theorem f_i_CountZeroFree_1_Mt : CallOk Try.prog (f_i_CountZeroFree_1_M) := noC_true
theorem f_i_CountZeroFree_1_o : loopsOnce Try.f193 = true := by kernel_rfl
theorem f_i_CountZeroFree_1_p {R : Type} (l0 : List Sc) (sums1 : Int) (p2 : Int) (h0 : Int) (kR : Int → Option R) : f_i_CountZeroFree_1_k l0 sums1 p2 h0 kR = (f_i_CountZeroFree_1_k l0 sums1 p2 h0 some).bind kR := by
  simp only [f_i_CountZeroFree_1_k, brB, someB]
theorem f_i_CountZeroFree_1_e (l0 : List Sc) (sums1 : Int) (p2 : Int) (h0 : Int) : runFn E0 f_i_CountZeroFree_1_M H0 f_i_CountZeroFree_1_F (asL (noL)) Try.f193 (f_i_CountZeroFree_1_a l0 sums1 p2 h0) (f_i_CountZeroFree_1_i l0 sums1 p2 h0) = f_i_CountZeroFree_1_k l0 sums1 p2 h0 (fun r => some (f_i_CountZeroFree_1_en r)) := by kernel_rfl
theorem f_i_CountZeroFree_1_ok (l0 : List Sc) (sums1 : Int) (p2 : Int) (h0 : Int) (r : Int) (h : f_i_CountZeroFree_1 l0 sums1 p2 h0 = some r) : CS Try.prog 193 (f_i_CountZeroFree_1_a l0 sums1 p2 h0) (f_i_CountZeroFree_1_i l0 sums1 p2 h0) (f_i_CountZeroFree_1_en r).1 (f_i_CountZeroFree_1_en r).2 :=
  fn_true (Gk := fun k => f_i_CountZeroFree_1_k l0 sums1 p2 h0 k) (en := f_i_CountZeroFree_1_en) Try.func193 E0ok f_i_CountZeroFree_1_Mt (noL_true) f_i_CountZeroFree_1_o (f_i_CountZeroFree_1_e l0 sums1 p2 h0) (f_i_CountZeroFree_1_p l0 sums1 p2 h0) h
def f_i_CountZeroFree_1_c : CRow := fun args inh => match dec2 [.p .sl, .p (.int .i64), .p (.evi .i64), .p (.pt 0 1)] [.p (.int .i64)] args inh with
  | some ([.l l0, .i sums1, .i p2], [.i h0]) => some ((f_i_CountZeroFree_1 l0 sums1 p2 h0).isSome, (f_i_CountZeroFree_1_en ((f_i_CountZeroFree_1 l0 sums1 p2 h0).getD 0)).1, (f_i_CountZeroFree_1_en ((f_i_CountZeroFree_1 l0 sums1 p2 h0).getD 0)).2)
  | _ => none
theorem f_i_CountZeroFree_1_cc : CTrue Try.prog 193 f_i_CountZeroFree_1_c := by
  intro args inh rs out h
  unfold f_i_CountZeroFree_1_c at h
  split at h
  · rename_i hd
    obtain ⟨h1, h2⟩ := dec2_enc hd
    rw [← h1, ← h2]
    exact rowC (f_i_CountZeroFree_1_ok _ _ _ _) h
  · cases h

def f_i_zeroFree_CountZeroFree_1_F : Fi := { nv := 1, nc := 1, m := 1, vt := [], kl := [(0, ([1, 6, 7, 8, 9, 11, 12, 13, 14, 15, 16, 17, 18, 19, 20, 21, 22, 23, 24, 25, 26, 27, 28, 29, 30, 31, 32, 33, 34, 35, 36, 37, 38, 39, 40, 41, 42, 43, 44, 45, 46, 47, 48, 49, 50, 51, 52], [1, 2, 3, 4, 5, 6, 7, 8, 9, 10, 11, 12, 13, 14, 15, 16, 17, 18, 19, 20, 21, 22, 23, 24, 25, 26, 27, 28, 29, 30, 31, 32, 33, 34, 35, 36, 37, 38, 39, 40, 41, 42, 43, 44, 45, 46, 47, 48, 49, 50, 51, 52], [1, 2, 3, 4, 5, 6, 7, 8, 9, 10, 11, 12, 13, 14, 15, 16, 17, 18, 19, 20, 21, 22, 23, 24, 25, 26, 27, 28, 29, 30, 31, 32, 33, 34, 35, 36, 37, 38, 39, 40, 41, 42, 43, 44, 45, 46, 47, 48, 49, 50, 51, 52]))], sk := [], mvs := [], fz := [] }
def f_i_zeroFree_CountZeroFree_1_a (g0 : List Sc) (l1 : List Sc) (sums2 : Int) (visit3 : Int) (h0 : Int) : List AV := enc [.p .gr, .fr 3, .p (.int .i64), .fn 193 [.evi .i64, .pt 0 1]] [.l g0, .l l1, .i sums2, .i visit3]
def f_i_zeroFree_CountZeroFree_1_i (g0 : List Sc) (l1 : List Sc) (sums2 : Int) (visit3 : Int) (h0 : Int) : List AV := enc [.p (.int .i64)] [.i h0]
def f_i_zeroFree_CountZeroFree_1_en (r : Int) : List AV × List AV := (enc [] [], enc [.p (.int .i64)] [.i r])
def f_i_zeroFree_CountZeroFree_1_cs (self : (List Sc × List Sc × Int × Int × Int) → Option (Int)) : CRow := fun args inh => match dec2 [.p .gr, .fr 3, .p (.int .i64), .fn 193 [.evi .i64, .pt 0 1]] [.p (.int .i64)] args inh with
  | some ([.l g0, .l l1, .i sums2, .i visit3], [.i h0]) => some ((self (g0, l1, sums2, visit3, h0)).isSome, (f_i_zeroFree_CountZeroFree_1_en ((self (g0, l1, sums2, visit3, h0)).getD 0)).1, (f_i_zeroFree_CountZeroFree_1_en ((self (g0, l1, sums2, visit3, h0)).getD 0)).2)
  | _ => none
theorem f_i_zeroFree_CountZeroFree_1_cst (self : (List Sc × List Sc × Int × Int × Int) → Option (Int)) (hs : ∀ a r, self a = some r → CS Try.prog 187 (f_i_zeroFree_CountZeroFree_1_a a.1 a.2.1 a.2.2.1 a.2.2.2.1 a.2.2.2.2) (f_i_zeroFree_CountZeroFree_1_i a.1 a.2.1 a.2.2.1 a.2.2.2.1 a.2.2.2.2) (f_i_zeroFree_CountZeroFree_1_en r).1 (f_i_zeroFree_CountZeroFree_1_en r).2) : CTrue Try.prog 187 (f_i_zeroFree_CountZeroFree_1_cs self) := by
  intro args inh rs out h
  unfold f_i_zeroFree_CountZeroFree_1_cs at h
  split at h
  · rename_i hd
    obtain ⟨h1, h2⟩ := dec2_enc hd
    rw [← h1, ← h2]
    exact rowC (hs _) h
  · cases h
def f_i_zeroFree_CountZeroFree_1_M (self : (List Sc × List Sc × Int × Int × Int) → Option (Int)) : Calling := addC 187 (f_i_zeroFree_CountZeroFree_1_cs self) (addC 193 f_i_CountZeroFree_1_c (addC 122 f_i_OrderOf_c (addC 123 f_i_Group_shift_c (addC 153 f_i_in_c (addC 169 f_i_copyInts_c (noC))))))
theorem f_i_zeroFree_CountZeroFree_1_Mt (self : (List Sc × List Sc × Int × Int × Int) → Option (Int)) (hs : ∀ a r, self a = some r → CS Try.prog 187 (f_i_zeroFree_CountZeroFree_1_a a.1 a.2.1 a.2.2.1 a.2.2.2.1 a.2.2.2.2) (f_i_zeroFree_CountZeroFree_1_i a.1 a.2.1 a.2.2.1 a.2.2.2.1 a.2.2.2.2) (f_i_zeroFree_CountZeroFree_1_en r).1 (f_i_zeroFree_CountZeroFree_1_en r).2) : CallOk Try.prog (f_i_zeroFree_CountZeroFree_1_M self) := addC_true (f_i_zeroFree_CountZeroFree_1_cst self hs) (addC_true f_i_CountZeroFree_1_cc (addC_true f_i_OrderOf_cc (addC_true f_i_Group_shift_cc (addC_true f_i_in_cc (addC_true f_i_copyInts_cc (noC_true))))))
theorem f_i_zeroFree_CountZeroFree_1_o : loopsOnce Try.f187 = true := by kernel_rfl
def f_i_zeroFree_CountZeroFree_1_h0 : List Sh := [.p (.int .i64), .u, .fr 3, .p (.int .i64), .fn 193 [.evi .i64, .pt 0 1], .p .el, .u, .u, .u, .u, .p (.int .i64), .u, .u, .u, .u, .u, .u, .u, .u, .u, .u, .u, .u, .u, .u, .u, .u, .u, .u, .u, .u, .u, .u, .u, .u, .u, .u, .u, .u, .u, .u, .u, .u, .u, .u, .u, .u, .u, .u, .u, .u, .u, .u]
def f_i_zeroFree_CountZeroFree_1_fr0 (self : (List Sc × List Sc × Int × Int × Int) → Option (Int)) (l1 : List Sc) (sums2 : Int) (visit3 : Int) (g4 : List Sc) (s : Int × Int) : List AV := enc f_i_zeroFree_CountZeroFree_1_h0 [.i s.1, .l l1, .i sums2, .i visit3, .l g4, .i s.2]
def f_i_zeroFree_CountZeroFree_1_g0_1 : List Sh := [.p (.int .i64), .u, .u, .u, .u, .u, .u, .u, .u, .u, .u, .u, .u, .u, .u, .u, .u, .u, .u, .u, .u, .u, .u, .u, .u, .u, .u, .u, .u, .u, .u, .u, .u, .u, .u, .u, .u, .u, .u, .u, .u, .u, .u, .u, .u, .u, .u, .u, .u, .u, .u, .u, .u]
def f_i_zeroFree_CountZeroFree_1_x0_1 (self : (List Sc × List Sc × Int × Int × Int) → Option (Int)) (l1 : List Sc) (sums2 : Int) (visit3 : Int) (g4 : List Sc) (e : Int) : X × List AV := (.out 0, enc f_i_zeroFree_CountZeroFree_1_g0_1 [.i e])
def f_i_zeroFree_CountZeroFree_1_x0_2 (self : (List Sc × List Sc × Int × Int × Int) → Option (Int)) (l1 : List Sc) (sums2 : Int) (visit3 : Int) (g4 : List Sc) (_e : Unit) : X × List AV := (.ret, [])
theorem f_i_zeroFree_CountZeroFree_1_p0 {R : Type} (self : (List Sc × List Sc × Int × Int × Int) → Option (Int)) (l1 : List Sc) (sums2 : Int) (visit3 : Int) (g4 : List Sc) (s : Int × Int) (kN : Int × Int → Option R) (kA : Int → Option R) (kB : Unit → Option R) : f_i_zeroFree_CountZeroFree_1_k0 self l1 sums2 visit3 g4 s.1 s.2 kN kA = (f_i_zeroFree_CountZeroFree_1_r0 self l1 sums2 visit3 g4 s).bind (Ro.el kN kA kB) := by
  simp only [f_i_zeroFree_CountZeroFree_1_k0, f_i_zeroFree_CountZeroFree_1_r0, brB, boB, someB, noneB, Ro.el]
theorem f_i_zeroFree_CountZeroFree_1_e0 (self : (List Sc × List Sc × Int × Int × Int) → Option (Int)) (l1 : List Sc) (sums2 : Int) (visit3 : Int) (g4 : List Sc) (s : Int × Int) : EC E0 (f_i_zeroFree_CountZeroFree_1_M self) H0 f_i_zeroFree_CountZeroFree_1_F (asL (noL)) 0 (bodyOf Try.f187 0) (f_i_zeroFree_CountZeroFree_1_fr0 self l1 sums2 visit3 g4 s) (done (klOf f_i_zeroFree_CountZeroFree_1_F 0)) = f_i_zeroFree_CountZeroFree_1_k0 self l1 sums2 visit3 g4 s.1 s.2 (fun s => some (.norm, f_i_zeroFree_CountZeroFree_1_fr0 self l1 sums2 visit3 g4 s)) (fun e => some (f_i_zeroFree_CountZeroFree_1_x0_1 self l1 sums2 visit3 g4 e)) := by kernel_rfl
theorem f_i_zeroFree_CountZeroFree_1_l0 (self : (List Sc × List Sc × Int × Int × Int) → Option (Int)) (hs : ∀ a r, self a = some r → CS Try.prog 187 (f_i_zeroFree_CountZeroFree_1_a a.1 a.2.1 a.2.2.1 a.2.2.2.1 a.2.2.2.2) (f_i_zeroFree_CountZeroFree_1_i a.1 a.2.1 a.2.2.1 a.2.2.2.1 a.2.2.2.2) (f_i_zeroFree_CountZeroFree_1_en r).1 (f_i_zeroFree_CountZeroFree_1_en r).2) (l1 : List Sc) (sums2 : Int) (visit3 : Int) (g4 : List Sc) : ∀ s r, loopL (f_i_zeroFree_CountZeroFree_1_r0 self l1 sums2 visit3 g4) s = some r → LS Try.prog f_i_zeroFree_CountZeroFree_1_F (bodyOf Try.f187 0) (f_i_zeroFree_CountZeroFree_1_fr0 self l1 sums2 visit3 g4 s) (enX (f_i_zeroFree_CountZeroFree_1_x0_1 self l1 sums2 visit3 g4) (f_i_zeroFree_CountZeroFree_1_x0_2 self l1 sums2 visit3 g4) r) :=
  loop_true E0ok (f_i_zeroFree_CountZeroFree_1_Mt self hs) (noL_true) f_i_zeroFree_CountZeroFree_1_o (fun _ h => by cases h) (fun _ h => by cases h) (fun s => (f_i_zeroFree_CountZeroFree_1_e0 self l1 sums2 visit3 g4 s).trans (f_i_zeroFree_CountZeroFree_1_p0 self l1 sums2 visit3 g4 s _ _ (fun e => some (f_i_zeroFree_CountZeroFree_1_x0_2 self l1 sums2 visit3 g4 e))))
def f_i_zeroFree_CountZeroFree_1_t0 (self : (List Sc × List Sc × Int × Int × Int) → Option (Int)) (σ : List AV) : Option (Bool × Bool × (X × List AV) × (X × List AV)) := match dec f_i_zeroFree_CountZeroFree_1_h0 σ with
  | some [.i v0, .l l1, .i sums2, .i visit3, .l g4, .i x9] => some (isOne (loopL (f_i_zeroFree_CountZeroFree_1_r0 self l1 sums2 visit3 g4) (v0, x9)), true, f_i_zeroFree_CountZeroFree_1_x0_1 self l1 sums2 visit3 g4 (getOne 0 (loopL (f_i_zeroFree_CountZeroFree_1_r0 self l1 sums2 visit3 g4) (v0, x9))), (.ret, []))
  | _ => none
theorem f_i_zeroFree_CountZeroFree_1_tt0 (self : (List Sc × List Sc × Int × Int × Int) → Option (Int)) (hs : ∀ a r, self a = some r → CS Try.prog 187 (f_i_zeroFree_CountZeroFree_1_a a.1 a.2.1 a.2.2.1 a.2.2.2.1 a.2.2.2.2) (f_i_zeroFree_CountZeroFree_1_i a.1 a.2.1 a.2.2.1 a.2.2.2.1 a.2.2.2.2) (f_i_zeroFree_CountZeroFree_1_en r).1 (f_i_zeroFree_CountZeroFree_1_en r).2) : TTrue Try.prog f_i_zeroFree_CountZeroFree_1_F Try.f187 0 (f_i_zeroFree_CountZeroFree_1_t0 self) := by
  intro σ p r r' h
  unfold f_i_zeroFree_CountZeroFree_1_t0 at h
  split at h
  · rename_i hd
    rw [← dec_enc hd]
    exact row1 (f_i_zeroFree_CountZeroFree_1_l0 self hs _ _ _ _ _) h
  · cases h
theorem f_i_zeroFree_CountZeroFree_1_p {R : Type} (self : (List Sc × List Sc × Int × Int × Int) → Option (Int)) (g0 : List Sc) (l1 : List Sc) (sums2 : Int) (visit3 : Int) (h0 : Int) (kR : Int → Option R) : f_i_zeroFree_CountZeroFree_1_k self g0 l1 sums2 visit3 h0 kR = (f_i_zeroFree_CountZeroFree_1_k self g0 l1 sums2 visit3 h0 some).bind kR := by
  simp only [f_i_zeroFree_CountZeroFree_1_k, brB, boB, bl1B, someB, noneB]
theorem f_i_zeroFree_CountZeroFree_1_e (self : (List Sc × List Sc × Int × Int × Int) → Option (Int)) (g0 : List Sc) (l1 : List Sc) (sums2 : Int) (visit3 : Int) (h0 : Int) : runFn E0 (f_i_zeroFree_CountZeroFree_1_M self) H0 f_i_zeroFree_CountZeroFree_1_F (asL (addL 0 (f_i_zeroFree_CountZeroFree_1_t0 self) (noL))) Try.f187 (f_i_zeroFree_CountZeroFree_1_a g0 l1 sums2 visit3 h0) (f_i_zeroFree_CountZeroFree_1_i g0 l1 sums2 visit3 h0) = f_i_zeroFree_CountZeroFree_1_k self g0 l1 sums2 visit3 h0 (fun r => some (f_i_zeroFree_CountZeroFree_1_en r)) := by kernel_rfl
theorem f_i_zeroFree_CountZeroFree_1_ks (self : (List Sc × List Sc × Int × Int × Int) → Option (Int)) (hs : ∀ a r, self a = some r → CS Try.prog 187 (f_i_zeroFree_CountZeroFree_1_a a.1 a.2.1 a.2.2.1 a.2.2.2.1 a.2.2.2.2) (f_i_zeroFree_CountZeroFree_1_i a.1 a.2.1 a.2.2.1 a.2.2.2.1 a.2.2.2.2) (f_i_zeroFree_CountZeroFree_1_en r).1 (f_i_zeroFree_CountZeroFree_1_en r).2) (g0 : List Sc) (l1 : List Sc) (sums2 : Int) (visit3 : Int) (h0 : Int) (r : Int) (h : f_i_zeroFree_CountZeroFree_1_k self g0 l1 sums2 visit3 h0 some = some r) : CS Try.prog 187 (f_i_zeroFree_CountZeroFree_1_a g0 l1 sums2 visit3 h0) (f_i_zeroFree_CountZeroFree_1_i g0 l1 sums2 visit3 h0) (f_i_zeroFree_CountZeroFree_1_en r).1 (f_i_zeroFree_CountZeroFree_1_en r).2 :=
  fn_true (Gk := fun k => f_i_zeroFree_CountZeroFree_1_k self g0 l1 sums2 visit3 h0 k) (en := f_i_zeroFree_CountZeroFree_1_en) Try.func187 E0ok (f_i_zeroFree_CountZeroFree_1_Mt self hs) (addL_true (f_i_zeroFree_CountZeroFree_1_tt0 self hs) (noL_true)) f_i_zeroFree_CountZeroFree_1_o (f_i_zeroFree_CountZeroFree_1_e self g0 l1 sums2 visit3 h0) (f_i_zeroFree_CountZeroFree_1_p self g0 l1 sums2 visit3 h0) h
theorem f_i_zeroFree_CountZeroFree_1_ns : ∀ n a r, f_i_zeroFree_CountZeroFree_1_n n a = some r → CS Try.prog 187 (f_i_zeroFree_CountZeroFree_1_a a.1 a.2.1 a.2.2.1 a.2.2.2.1 a.2.2.2.2) (f_i_zeroFree_CountZeroFree_1_i a.1 a.2.1 a.2.2.1 a.2.2.2.1 a.2.2.2.2) (f_i_zeroFree_CountZeroFree_1_en r).1 (f_i_zeroFree_CountZeroFree_1_en r).2
  | 0, _, _, h => by cases h
  | n + 1, a, r, h => f_i_zeroFree_CountZeroFree_1_ks (f_i_zeroFree_CountZeroFree_1_n n) (f_i_zeroFree_CountZeroFree_1_ns n) a.1 a.2.1 a.2.2.1 a.2.2.2.1 a.2.2.2.2 r h
theorem f_i_zeroFree_CountZeroFree_1_ok (g0 : List Sc) (l1 : List Sc) (sums2 : Int) (visit3 : Int) (h0 : Int) (r : Int) (h : f_i_zeroFree_CountZeroFree_1 g0 l1 sums2 visit3 h0 = some r) : CS Try.prog 187 (f_i_zeroFree_CountZeroFree_1_a g0 l1 sums2 visit3 h0) (f_i_zeroFree_CountZeroFree_1_i g0 l1 sums2 visit3 h0) (f_i_zeroFree_CountZeroFree_1_en r).1 (f_i_zeroFree_CountZeroFree_1_en r).2 := by
  obtain ⟨n, hn⟩ := limF_some h
  exact f_i_zeroFree_CountZeroFree_1_ns n _ r hn
def f_i_zeroFree_CountZeroFree_1_c : CRow := fun args inh => match dec2 [.p .gr, .fr 3, .p (.int .i64), .fn 193 [.evi .i64, .pt 0 1]] [.p (.int .i64)] args inh with
  | some ([.l g0, .l l1, .i sums2, .i visit3], [.i h0]) => some ((f_i_zeroFree_CountZeroFree_1 g0 l1 sums2 visit3 h0).isSome, (f_i_zeroFree_CountZeroFree_1_en ((f_i_zeroFree_CountZeroFree_1 g0 l1 sums2 visit3 h0).getD 0)).1, (f_i_zeroFree_CountZeroFree_1_en ((f_i_zeroFree_CountZeroFree_1 g0 l1 sums2 visit3 h0).getD 0)).2)
  | _ => none
theorem f_i_zeroFree_CountZeroFree_1_cc : CTrue Try.prog 187 f_i_zeroFree_CountZeroFree_1_c := by
  intro args inh rs out h
  unfold f_i_zeroFree_CountZeroFree_1_c at h
  split at h
  · rename_i hd
    obtain ⟨h1, h2⟩ := dec2_enc hd
    rw [← h1, ← h2]
    exact rowC (f_i_zeroFree_CountZeroFree_1_ok _ _ _ _ _) h
  · cases h

def f_i_CountZeroFree_F : Fi := { nv := 1, nc := 1, m := 0, vt := [(5, 0)], kl := [], sk := [], mvs := [], fz := [] }
def f_i_CountZeroFree_a (g0 : List Sc) (n1 : Int) : List AV := enc [.p .gr, .p (.int .i64)] [.l g0, .i n1]
def f_i_CountZeroFree_i (g0 : List Sc) (n1 : Int) : List AV := enc [] []
def f_i_CountZeroFree_en (r : Int) : List AV × List AV := (enc [.p (.int .i64)] [.i r], enc [] [])
def f_i_CountZeroFree_M : Calling := addC 142 f_i_IsGroup_c (addC 122 f_i_OrderOf_c (addC 144 f_i_within_c (addC 187 f_i_zeroFree_CountZeroFree_1_c (noC))))
theorem f_i_CountZeroFree_Mt : CallOk Try.prog (f_i_CountZeroFree_M) := addC_true f_i_IsGroup_cc (addC_true f_i_OrderOf_cc (addC_true f_i_within_cc (addC_true f_i_zeroFree_CountZeroFree_1_cc (noC_true))))
theorem f_i_CountZeroFree_o : loopsOnce Try.f92 = true := by kernel_rfl
theorem f_i_CountZeroFree_p {R : Type} (g0 : List Sc) (n1 : Int) (kR : Int → Option R) : f_i_CountZeroFree_k g0 n1 kR = (f_i_CountZeroFree_k g0 n1 some).bind kR := by
  simp only [f_i_CountZeroFree_k, brB, boB, someB]
theorem f_i_CountZeroFree_e (g0 : List Sc) (n1 : Int) : runFn E0 f_i_CountZeroFree_M H0 f_i_CountZeroFree_F (asL (noL)) Try.f92 (f_i_CountZeroFree_a g0 n1) (f_i_CountZeroFree_i g0 n1) = f_i_CountZeroFree_k g0 n1 (fun r => some (f_i_CountZeroFree_en r)) := by kernel_rfl
theorem f_i_CountZeroFree_ok (g0 : List Sc) (n1 : Int) (r : Int) (h : f_i_CountZeroFree g0 n1 = some r) : CS Try.prog 92 (f_i_CountZeroFree_a g0 n1) (f_i_CountZeroFree_i g0 n1) (f_i_CountZeroFree_en r).1 (f_i_CountZeroFree_en r).2 :=
  fn_true (Gk := fun k => f_i_CountZeroFree_k g0 n1 k) (en := f_i_CountZeroFree_en) Try.func92 E0ok f_i_CountZeroFree_Mt (noL_true) f_i_CountZeroFree_o (f_i_CountZeroFree_e g0 n1) (f_i_CountZeroFree_p g0 n1) h
def f_i_CountZeroFree_c : CRow := fun args inh => match dec2 [.p .gr, .p (.int .i64)] [] args inh with
  | some ([.l g0, .i n1], []) => some ((f_i_CountZeroFree g0 n1).isSome, (f_i_CountZeroFree_en ((f_i_CountZeroFree g0 n1).getD 0)).1, (f_i_CountZeroFree_en ((f_i_CountZeroFree g0 n1).getD 0)).2)
  | _ => none
theorem f_i_CountZeroFree_cc : CTrue Try.prog 92 f_i_CountZeroFree_c := by
  intro args inh rs out h
  unfold f_i_CountZeroFree_c at h
  split at h
  · rename_i hd
    obtain ⟨h1, h2⟩ := dec2_enc hd
    rw [← h1, ← h2]
    exact rowC (f_i_CountZeroFree_ok _ _) h
  · cases h

def f_s_l17Count_F : Fi := { nv := 0, nc := 0, m := 0, vt := [], kl := [(0, ([0, 3, 5, 6, 7, 8, 11, 12, 13, 14, 15, 16, 17, 18, 19, 20, 21, 22, 23, 24, 25, 26, 27, 28, 29, 30, 31, 32, 33, 34, 35, 36, 37, 38, 39, 40, 41], [0, 1, 2, 3, 4, 5, 6, 7, 8, 10, 11, 12, 13, 14, 15, 16, 17, 18, 19, 20, 21, 22, 23, 24, 25, 26, 27, 28, 29, 30, 31, 32, 33, 34, 35, 36, 37, 38, 39, 40, 41], [0, 1, 2, 3, 4, 5, 6, 7, 9, 10, 11, 12, 13, 14, 15, 16, 17, 18, 19, 20, 21, 22, 23, 24, 25, 26, 27, 28, 29, 30, 31, 32, 33, 34, 35, 36, 37, 38, 39, 40, 41]))], sk := [], mvs := [], fz := [] }
def f_s_l17Count_a (g0 : List Sc) (left1 : Int) (sums2 : Int) (least3 : Int) : List AV := enc [.p .gr, .p (.int .i64), .p (.int .i64), .p (.int .i64)] [.l g0, .i left1, .i sums2, .i least3]
def f_s_l17Count_i (g0 : List Sc) (left1 : Int) (sums2 : Int) (least3 : Int) : List AV := enc [] []
def f_s_l17Count_en (r : Int) : List AV × List AV := (enc [.p (.int .i64)] [.i r], enc [] [])
def f_s_l17Count_cs (self : (List Sc × Int × Int × Int) → Option (Int)) : CRow := fun args inh => match dec2 [.p .gr, .p (.int .i64), .p (.int .i64), .p (.int .i64)] [] args inh with
  | some ([.l g0, .i left1, .i sums2, .i least3], []) => some ((self (g0, left1, sums2, least3)).isSome, (f_s_l17Count_en ((self (g0, left1, sums2, least3)).getD 0)).1, (f_s_l17Count_en ((self (g0, left1, sums2, least3)).getD 0)).2)
  | _ => none
theorem f_s_l17Count_cst (self : (List Sc × Int × Int × Int) → Option (Int)) (hs : ∀ a r, self a = some r → CS Try.prog 194 (f_s_l17Count_a a.1 a.2.1 a.2.2.1 a.2.2.2) (f_s_l17Count_i a.1 a.2.1 a.2.2.1 a.2.2.2) (f_s_l17Count_en r).1 (f_s_l17Count_en r).2) : CTrue Try.prog 194 (f_s_l17Count_cs self) := by
  intro args inh rs out h
  unfold f_s_l17Count_cs at h
  split at h
  · rename_i hd
    obtain ⟨h1, h2⟩ := dec2_enc hd
    rw [← h1, ← h2]
    exact rowC (hs _) h
  · cases h
def f_s_l17Count_M (self : (List Sc × Int × Int × Int) → Option (Int)) : Calling := addC 194 (f_s_l17Count_cs self) (addC 139 f_s_l2Order_c (addC 141 f_s_l3Shift_c (noC)))
theorem f_s_l17Count_Mt (self : (List Sc × Int × Int × Int) → Option (Int)) (hs : ∀ a r, self a = some r → CS Try.prog 194 (f_s_l17Count_a a.1 a.2.1 a.2.2.1 a.2.2.2) (f_s_l17Count_i a.1 a.2.1 a.2.2.1 a.2.2.2) (f_s_l17Count_en r).1 (f_s_l17Count_en r).2) : CallOk Try.prog (f_s_l17Count_M self) := addC_true (f_s_l17Count_cst self hs) (addC_true f_s_l2Order_cc (addC_true f_s_l3Shift_cc (noC_true)))
theorem f_s_l17Count_o : loopsOnce Try.f194 = true := by kernel_rfl
def f_s_l17Count_h0 : List Sh := [.u, .p (.int .i64), .p (.int .i64), .u, .p .el, .u, .u, .u, .u, .p (.int .i64), .p (.int .i64), .u, .u, .u, .u, .u, .u, .u, .u, .u, .u, .u, .u, .u, .u, .u, .u, .u, .u, .u, .u, .u, .u, .u, .u, .u, .u, .u, .u, .u, .u, .u]
def f_s_l17Count_fr0 (self : (List Sc × Int × Int × Int) → Option (Int)) (left1 : Int) (sums2 : Int) (g4 : List Sc) (s : Int × Int) : List AV := enc f_s_l17Count_h0 [.i left1, .i sums2, .l g4, .i s.1, .i s.2]
def f_s_l17Count_g0_1 : List Sh := [.u, .u, .u, .u, .u, .u, .u, .u, .u, .p (.int .i64), .u, .u, .u, .u, .u, .u, .u, .u, .u, .u, .u, .u, .u, .u, .u, .u, .u, .u, .u, .u, .u, .u, .u, .u, .u, .u, .u, .u, .u, .u, .u, .u]
def f_s_l17Count_x0_1 (self : (List Sc × Int × Int × Int) → Option (Int)) (left1 : Int) (sums2 : Int) (g4 : List Sc) (e : Int) : X × List AV := (.out 0, enc f_s_l17Count_g0_1 [.i e])
def f_s_l17Count_x0_2 (self : (List Sc × Int × Int × Int) → Option (Int)) (left1 : Int) (sums2 : Int) (g4 : List Sc) (_e : Unit) : X × List AV := (.ret, [])
theorem f_s_l17Count_p0 {R : Type} (self : (List Sc × Int × Int × Int) → Option (Int)) (left1 : Int) (sums2 : Int) (g4 : List Sc) (s : Int × Int) (kN : Int × Int → Option R) (kA : Int → Option R) (kB : Unit → Option R) : f_s_l17Count_k0 self left1 sums2 g4 s.1 s.2 kN kA = (f_s_l17Count_r0 self left1 sums2 g4 s).bind (Ro.el kN kA kB) := by
  simp only [f_s_l17Count_k0, f_s_l17Count_r0, brB, boB, someB, noneB, Ro.el]
theorem f_s_l17Count_e0 (self : (List Sc × Int × Int × Int) → Option (Int)) (left1 : Int) (sums2 : Int) (g4 : List Sc) (s : Int × Int) : EC E0 (f_s_l17Count_M self) H0 f_s_l17Count_F (asL (noL)) 0 (bodyOf Try.f194 0) (f_s_l17Count_fr0 self left1 sums2 g4 s) (done (klOf f_s_l17Count_F 0)) = f_s_l17Count_k0 self left1 sums2 g4 s.1 s.2 (fun s => some (.norm, f_s_l17Count_fr0 self left1 sums2 g4 s)) (fun e => some (f_s_l17Count_x0_1 self left1 sums2 g4 e)) := by kernel_rfl
theorem f_s_l17Count_l0 (self : (List Sc × Int × Int × Int) → Option (Int)) (hs : ∀ a r, self a = some r → CS Try.prog 194 (f_s_l17Count_a a.1 a.2.1 a.2.2.1 a.2.2.2) (f_s_l17Count_i a.1 a.2.1 a.2.2.1 a.2.2.2) (f_s_l17Count_en r).1 (f_s_l17Count_en r).2) (left1 : Int) (sums2 : Int) (g4 : List Sc) : ∀ s r, loopL (f_s_l17Count_r0 self left1 sums2 g4) s = some r → LS Try.prog f_s_l17Count_F (bodyOf Try.f194 0) (f_s_l17Count_fr0 self left1 sums2 g4 s) (enX (f_s_l17Count_x0_1 self left1 sums2 g4) (f_s_l17Count_x0_2 self left1 sums2 g4) r) :=
  loop_true E0ok (f_s_l17Count_Mt self hs) (noL_true) f_s_l17Count_o (fun _ h => by cases h) (fun _ h => by cases h) (fun s => (f_s_l17Count_e0 self left1 sums2 g4 s).trans (f_s_l17Count_p0 self left1 sums2 g4 s _ _ (fun e => some (f_s_l17Count_x0_2 self left1 sums2 g4 e))))
def f_s_l17Count_t0 (self : (List Sc × Int × Int × Int) → Option (Int)) (σ : List AV) : Option (Bool × Bool × (X × List AV) × (X × List AV)) := match dec f_s_l17Count_h0 σ with
  | some [.i left1, .i sums2, .l g4, .i n9, .i x10] => some (isOne (loopL (f_s_l17Count_r0 self left1 sums2 g4) (n9, x10)), true, f_s_l17Count_x0_1 self left1 sums2 g4 (getOne 0 (loopL (f_s_l17Count_r0 self left1 sums2 g4) (n9, x10))), (.ret, []))
  | _ => none
theorem f_s_l17Count_tt0 (self : (List Sc × Int × Int × Int) → Option (Int)) (hs : ∀ a r, self a = some r → CS Try.prog 194 (f_s_l17Count_a a.1 a.2.1 a.2.2.1 a.2.2.2) (f_s_l17Count_i a.1 a.2.1 a.2.2.1 a.2.2.2) (f_s_l17Count_en r).1 (f_s_l17Count_en r).2) : TTrue Try.prog f_s_l17Count_F Try.f194 0 (f_s_l17Count_t0 self) := by
  intro σ p r r' h
  unfold f_s_l17Count_t0 at h
  split at h
  · rename_i hd
    rw [← dec_enc hd]
    exact row1 (f_s_l17Count_l0 self hs _ _ _ _) h
  · cases h
theorem f_s_l17Count_p {R : Type} (self : (List Sc × Int × Int × Int) → Option (Int)) (g0 : List Sc) (left1 : Int) (sums2 : Int) (least3 : Int) (kR : Int → Option R) : f_s_l17Count_k self g0 left1 sums2 least3 kR = (f_s_l17Count_k self g0 left1 sums2 least3 some).bind kR := by
  simp only [f_s_l17Count_k, brB, bl1B, someB]
theorem f_s_l17Count_e (self : (List Sc × Int × Int × Int) → Option (Int)) (g0 : List Sc) (left1 : Int) (sums2 : Int) (least3 : Int) : runFn E0 (f_s_l17Count_M self) H0 f_s_l17Count_F (asL (addL 0 (f_s_l17Count_t0 self) (noL))) Try.f194 (f_s_l17Count_a g0 left1 sums2 least3) (f_s_l17Count_i g0 left1 sums2 least3) = f_s_l17Count_k self g0 left1 sums2 least3 (fun r => some (f_s_l17Count_en r)) := by kernel_rfl
theorem f_s_l17Count_ks (self : (List Sc × Int × Int × Int) → Option (Int)) (hs : ∀ a r, self a = some r → CS Try.prog 194 (f_s_l17Count_a a.1 a.2.1 a.2.2.1 a.2.2.2) (f_s_l17Count_i a.1 a.2.1 a.2.2.1 a.2.2.2) (f_s_l17Count_en r).1 (f_s_l17Count_en r).2) (g0 : List Sc) (left1 : Int) (sums2 : Int) (least3 : Int) (r : Int) (h : f_s_l17Count_k self g0 left1 sums2 least3 some = some r) : CS Try.prog 194 (f_s_l17Count_a g0 left1 sums2 least3) (f_s_l17Count_i g0 left1 sums2 least3) (f_s_l17Count_en r).1 (f_s_l17Count_en r).2 :=
  fn_true (Gk := fun k => f_s_l17Count_k self g0 left1 sums2 least3 k) (en := f_s_l17Count_en) Try.func194 E0ok (f_s_l17Count_Mt self hs) (addL_true (f_s_l17Count_tt0 self hs) (noL_true)) f_s_l17Count_o (f_s_l17Count_e self g0 left1 sums2 least3) (f_s_l17Count_p self g0 left1 sums2 least3) h
theorem f_s_l17Count_ns : ∀ n a r, f_s_l17Count_n n a = some r → CS Try.prog 194 (f_s_l17Count_a a.1 a.2.1 a.2.2.1 a.2.2.2) (f_s_l17Count_i a.1 a.2.1 a.2.2.1 a.2.2.2) (f_s_l17Count_en r).1 (f_s_l17Count_en r).2
  | 0, _, _, h => by cases h
  | n + 1, a, r, h => f_s_l17Count_ks (f_s_l17Count_n n) (f_s_l17Count_ns n) a.1 a.2.1 a.2.2.1 a.2.2.2 r h
theorem f_s_l17Count_ok (g0 : List Sc) (left1 : Int) (sums2 : Int) (least3 : Int) (r : Int) (h : f_s_l17Count g0 left1 sums2 least3 = some r) : CS Try.prog 194 (f_s_l17Count_a g0 left1 sums2 least3) (f_s_l17Count_i g0 left1 sums2 least3) (f_s_l17Count_en r).1 (f_s_l17Count_en r).2 := by
  obtain ⟨n, hn⟩ := limF_some h
  exact f_s_l17Count_ns n _ r hn
def f_s_l17Count_c : CRow := fun args inh => match dec2 [.p .gr, .p (.int .i64), .p (.int .i64), .p (.int .i64)] [] args inh with
  | some ([.l g0, .i left1, .i sums2, .i least3], []) => some ((f_s_l17Count g0 left1 sums2 least3).isSome, (f_s_l17Count_en ((f_s_l17Count g0 left1 sums2 least3).getD 0)).1, (f_s_l17Count_en ((f_s_l17Count g0 left1 sums2 least3).getD 0)).2)
  | _ => none
theorem f_s_l17Count_cc : CTrue Try.prog 194 f_s_l17Count_c := by
  intro args inh rs out h
  unfold f_s_l17Count_c at h
  split at h
  · rename_i hd
    obtain ⟨h1, h2⟩ := dec2_enc hd
    rw [← h1, ← h2]
    exact rowC (f_s_l17Count_ok _ _ _ _) h
  · cases h

def f_s_CountZeroFree_F : Fi := { nv := 0, nc := 0, m := 0, vt := [], kl := [], sk := [], mvs := [], fz := [] }
def f_s_CountZeroFree_a (g0 : List Sc) (n1 : Int) : List AV := enc [.p .gr, .p (.int .i64)] [.l g0, .i n1]
def f_s_CountZeroFree_i (g0 : List Sc) (n1 : Int) : List AV := enc [] []
def f_s_CountZeroFree_en (r : Int) : List AV × List AV := (enc [.p (.int .i64)] [.i r], enc [] [])
def f_s_CountZeroFree_M : Calling := addC 179 f_s_IsGroup_c (addC 139 f_s_l2Order_c (addC 150 f_s_l1In_c (addC 194 f_s_l17Count_c (noC))))
theorem f_s_CountZeroFree_Mt : CallOk Try.prog (f_s_CountZeroFree_M) := addC_true f_s_IsGroup_cc (addC_true f_s_l2Order_cc (addC_true f_s_l1In_cc (addC_true f_s_l17Count_cc (noC_true))))
theorem f_s_CountZeroFree_o : loopsOnce Try.f93 = true := by kernel_rfl
theorem f_s_CountZeroFree_p {R : Type} (g0 : List Sc) (n1 : Int) (kR : Int → Option R) : f_s_CountZeroFree_k g0 n1 kR = (f_s_CountZeroFree_k g0 n1 some).bind kR := by
  simp only [f_s_CountZeroFree_k, brB, boB, someB]
theorem f_s_CountZeroFree_e (g0 : List Sc) (n1 : Int) : runFn E0 f_s_CountZeroFree_M H0 f_s_CountZeroFree_F (asL (noL)) Try.f93 (f_s_CountZeroFree_a g0 n1) (f_s_CountZeroFree_i g0 n1) = f_s_CountZeroFree_k g0 n1 (fun r => some (f_s_CountZeroFree_en r)) := by kernel_rfl
theorem f_s_CountZeroFree_ok (g0 : List Sc) (n1 : Int) (r : Int) (h : f_s_CountZeroFree g0 n1 = some r) : CS Try.prog 93 (f_s_CountZeroFree_a g0 n1) (f_s_CountZeroFree_i g0 n1) (f_s_CountZeroFree_en r).1 (f_s_CountZeroFree_en r).2 :=
  fn_true (Gk := fun k => f_s_CountZeroFree_k g0 n1 k) (en := f_s_CountZeroFree_en) Try.func93 E0ok f_s_CountZeroFree_Mt (noL_true) f_s_CountZeroFree_o (f_s_CountZeroFree_e g0 n1) (f_s_CountZeroFree_p g0 n1) h
def f_s_CountZeroFree_c : CRow := fun args inh => match dec2 [.p .gr, .p (.int .i64)] [] args inh with
  | some ([.l g0, .i n1], []) => some ((f_s_CountZeroFree g0 n1).isSome, (f_s_CountZeroFree_en ((f_s_CountZeroFree g0 n1).getD 0)).1, (f_s_CountZeroFree_en ((f_s_CountZeroFree g0 n1).getD 0)).2)
  | _ => none
theorem f_s_CountZeroFree_cc : CTrue Try.prog 93 f_s_CountZeroFree_c := by
  intro args inh rs out h
  unfold f_s_CountZeroFree_c at h
  split at h
  · rename_i hd
    obtain ⟨h1, h2⟩ := dec2_enc hd
    rw [← h1, ← h2]
    exact rowC (f_s_CountZeroFree_ok _ _) h
  · cases h

def f_s_l16Sort_F : Fi := { nv := 0, nc := 0, m := 0, vt := [], kl := [(2, ([1, 2, 6, 7, 8, 9, 10, 11, 12, 13, 14, 15, 16, 17, 18, 19, 20, 21, 22, 23, 24, 25, 26, 27, 28, 29, 30, 31, 32, 33, 34, 35, 36, 37, 38, 39, 40, 41, 42, 43, 44, 45, 46], [1, 2, 6, 7, 8, 9, 10, 11, 12, 13, 14, 15, 16, 17, 18, 19, 20, 21, 22, 23, 24, 25, 26, 27, 28, 29, 30, 31, 32, 33, 34, 35, 36, 37, 38, 39, 40, 41, 42, 43, 44, 45, 46], [0, 1, 3, 4, 5, 6, 7, 8, 9, 10, 11, 12, 13, 14, 15, 16, 17, 18, 19, 20, 21, 22, 23, 24, 25, 26, 27, 28, 29, 30, 31, 32, 33, 34, 35, 36, 37, 38, 39, 40, 41, 42, 43, 44, 45, 46])), (0, ([1, 2, 5, 6, 7, 8, 9, 10, 11, 12, 13, 14, 15, 16, 17, 18, 19, 20, 21, 22, 23, 24, 25, 26, 27, 28, 29, 30, 31, 32, 33, 34, 35, 36, 37, 38, 39, 40, 41, 42, 43, 44, 45, 46], [1, 2, 6, 7, 8, 9, 10, 11, 12, 13, 14, 15, 16, 17, 18, 19, 20, 21, 22, 23, 24, 25, 26, 27, 28, 29, 30, 31, 32, 33, 34, 35, 36, 37, 38, 39, 40, 41, 42, 43, 44, 45, 46], [0, 1, 3, 4, 5, 6, 7, 8, 9, 10, 11, 12, 13, 14, 15, 16, 17, 18, 19, 20, 21, 22, 23, 24, 25, 26, 27, 28, 29, 30, 31, 32, 33, 34, 35, 36, 37, 38, 39, 40, 41, 42, 43, 44, 45, 46]))], sk := [], mvs := [], fz := [], fa := [3] }
def f_s_l16Sort_a (l0 : List Sc) : List AV := enc [.p .sl] [.l l0]
def f_s_l16Sort_i (l0 : List Sc) : List AV := enc [] []
def f_s_l16Sort_en (r : List Sc) : List AV × List AV := (enc [.p (.al 0)] [], enc [.own 3] [.l r])
def f_s_l16Sort_M : Calling := noC
theorem f_s_l16Sort_Mt : CallOk Try.prog (f_s_l16Sort_M) := noC_true
theorem f_s_l16Sort_o : loopsOnce Try.f199 = true := by kernel_rfl
def f_s_l16Sort_h2 : List Sh := [.p .sl, .u, .u, .fr 3, .p (.int .i64), .p (.int .i64), .u, .u, .u, .u, .u, .u, .u, .u, .u, .u, .u, .u, .u, .u, .u, .u, .u, .u, .u, .u, .u, .u, .u, .u, .u, .u, .u, .u, .u, .u, .u, .u, .u, .u, .u, .u, .u, .u, .u, .u, .u]
def f_s_l16Sort_fr2 (l0 : List Sc) (out3 : List Sc) (i4 : Int) (s : Int) : List AV := enc f_s_l16Sort_h2 [.l l0, .l out3, .i i4, .i s]
def f_s_l16Sort_g2_1 : List Sh := [.p .sl, .u, .u, .fr 3, .p (.int .i64), .p (.int .i64), .u, .u, .u, .u, .u, .u, .u, .u, .u, .u, .u, .u, .u, .u, .u, .u, .u, .u, .u, .u, .u, .u, .u, .u, .u, .u, .u, .u, .u, .u, .u, .u, .u, .u, .u, .u, .u, .u, .u, .u, .u]
def f_s_l16Sort_x2_1 (l0 : List Sc) (out3 : List Sc) (i4 : Int) (e : Int) : X × List AV := (.out 2, enc f_s_l16Sort_g2_1 [.l l0, .l out3, .i i4, .i e])
def f_s_l16Sort_x2_2 (l0 : List Sc) (out3 : List Sc) (i4 : Int) (_e : Unit) : X × List AV := (.ret, [])
theorem f_s_l16Sort_p2 {R : Type} (l0 : List Sc) (out3 : List Sc) (i4 : Int) (s : Int) (kN : Int → Option R) (kA : Int → Option R) (kB : Unit → Option R) : f_s_l16Sort_k2 l0 out3 i4 s kN kA = (f_s_l16Sort_r2 l0 out3 i4 s).bind (Ro.el kN kA kB) := by
  simp only [f_s_l16Sort_k2, f_s_l16Sort_r2, brB, someB, noneB, Ro.el]
theorem f_s_l16Sort_e2 (l0 : List Sc) (out3 : List Sc) (i4 : Int) (s : Int) : EC E0 f_s_l16Sort_M H0 f_s_l16Sort_F (asL (noL)) 2 (bodyOf Try.f199 2) (f_s_l16Sort_fr2 l0 out3 i4 s) (done (klOf f_s_l16Sort_F 2)) = f_s_l16Sort_k2 l0 out3 i4 s (fun s => some (.norm, f_s_l16Sort_fr2 l0 out3 i4 s)) (fun e => some (f_s_l16Sort_x2_1 l0 out3 i4 e)) := by kernel_rfl
theorem f_s_l16Sort_l2 (l0 : List Sc) (out3 : List Sc) (i4 : Int) : ∀ s r, loopL (f_s_l16Sort_r2 l0 out3 i4) s = some r → LS Try.prog f_s_l16Sort_F (bodyOf Try.f199 2) (f_s_l16Sort_fr2 l0 out3 i4 s) (enX (f_s_l16Sort_x2_1 l0 out3 i4) (f_s_l16Sort_x2_2 l0 out3 i4) r) :=
  loop_true E0ok f_s_l16Sort_Mt (noL_true) f_s_l16Sort_o (fun _ h => by cases h) (fun _ h => by cases h) (fun s => (f_s_l16Sort_e2 l0 out3 i4 s).trans (f_s_l16Sort_p2 l0 out3 i4 s _ _ (fun e => some (f_s_l16Sort_x2_2 l0 out3 i4 e))))
def f_s_l16Sort_t2 (σ : List AV) : Option (Bool × Bool × (X × List AV) × (X × List AV)) := match dec f_s_l16Sort_h2 σ with
  | some [.l l0, .l out3, .i i4, .i k5] => some (isOne (loopL (f_s_l16Sort_r2 l0 out3 i4) k5), true, f_s_l16Sort_x2_1 l0 out3 i4 (getOne 0 (loopL (f_s_l16Sort_r2 l0 out3 i4) k5)), (.ret, []))
  | _ => none
theorem f_s_l16Sort_tt2 : TTrue Try.prog f_s_l16Sort_F Try.f199 2 (f_s_l16Sort_t2) := by
  intro σ p r r' h
  unfold f_s_l16Sort_t2 at h
  split at h
  · rename_i hd
    rw [← dec_enc hd]
    exact row1 (f_s_l16Sort_l2 _ _ _ _) h
  · cases h
def f_s_l16Sort_h0 : List Sh := [.p .sl, .u, .u, .fr 3, .p (.int .i64), .u, .u, .u, .u, .u, .u, .u, .u, .u, .u, .u, .u, .u, .u, .u, .u, .u, .u, .u, .u, .u, .u, .u, .u, .u, .u, .u, .u, .u, .u, .u, .u, .u, .u, .u, .u, .u, .u, .u, .u, .u, .u]
def f_s_l16Sort_fr0 (l0 : List Sc) (s : List Sc × Int) : List AV := enc f_s_l16Sort_h0 [.l l0, .l s.1, .i s.2]
def f_s_l16Sort_g0_1 : List Sh := [.p .sl, .u, .u, .fr 3, .p (.int .i64), .u, .u, .u, .u, .u, .u, .u, .u, .u, .u, .u, .u, .u, .u, .u, .u, .u, .u, .u, .u, .u, .u, .u, .u, .u, .u, .u, .u, .u, .u, .u, .u, .u, .u, .u, .u, .u, .u, .u, .u, .u, .u]
def f_s_l16Sort_x0_1 (l0 : List Sc) (e : List Sc × Int) : X × List AV := (.out 0, enc f_s_l16Sort_g0_1 [.l l0, .l e.1, .i e.2])
def f_s_l16Sort_x0_2 (l0 : List Sc) (_e : Unit) : X × List AV := (.ret, [])
theorem f_s_l16Sort_p0 {R : Type} (l0 : List Sc) (s : List Sc × Int) (kN : List Sc × Int → Option R) (kA : List Sc × Int → Option R) (kB : Unit → Option R) : f_s_l16Sort_k0 l0 s.1 s.2 kN kA = (f_s_l16Sort_r0 l0 s).bind (Ro.el kN kA kB) := by
  simp only [f_s_l16Sort_k0, f_s_l16Sort_r0, brB, bl1B, someB, noneB, Ro.el]
theorem f_s_l16Sort_e0 (l0 : List Sc) (s : List Sc × Int) : EC E0 f_s_l16Sort_M H0 f_s_l16Sort_F (asL (addL 2 (f_s_l16Sort_t2) (noL))) 0 (bodyOf Try.f199 0) (f_s_l16Sort_fr0 l0 s) (done (klOf f_s_l16Sort_F 0)) = f_s_l16Sort_k0 l0 s.1 s.2 (fun s => some (.norm, f_s_l16Sort_fr0 l0 s)) (fun e => some (f_s_l16Sort_x0_1 l0 e)) := by kernel_rfl
theorem f_s_l16Sort_l0 (l0 : List Sc) : ∀ s r, loopL (f_s_l16Sort_r0 l0) s = some r → LS Try.prog f_s_l16Sort_F (bodyOf Try.f199 0) (f_s_l16Sort_fr0 l0 s) (enX (f_s_l16Sort_x0_1 l0) (f_s_l16Sort_x0_2 l0) r) :=
  loop_true E0ok f_s_l16Sort_Mt (addL_true (f_s_l16Sort_tt2) (noL_true)) f_s_l16Sort_o (fun _ h => by cases h) (fun _ h => by cases h) (fun s => (f_s_l16Sort_e0 l0 s).trans (f_s_l16Sort_p0 l0 s _ _ (fun e => some (f_s_l16Sort_x0_2 l0 e))))
def f_s_l16Sort_t0 (σ : List AV) : Option (Bool × Bool × (X × List AV) × (X × List AV)) := match dec f_s_l16Sort_h0 σ with
  | some [.l l0, .l out3, .i i4] => some (isOne (loopL (f_s_l16Sort_r0 l0) (out3, i4)), true, f_s_l16Sort_x0_1 l0 (getOne ([], 0) (loopL (f_s_l16Sort_r0 l0) (out3, i4))), (.ret, []))
  | _ => none
theorem f_s_l16Sort_tt0 : TTrue Try.prog f_s_l16Sort_F Try.f199 0 (f_s_l16Sort_t0) := by
  intro σ p r r' h
  unfold f_s_l16Sort_t0 at h
  split at h
  · rename_i hd
    rw [← dec_enc hd]
    exact row1 (f_s_l16Sort_l0 _ _) h
  · cases h
theorem f_s_l16Sort_p {R : Type} (l0 : List Sc) (kR : List Sc → Option R) : f_s_l16Sort_k l0 kR = (f_s_l16Sort_k l0 some).bind kR := by
  simp only [f_s_l16Sort_k, bl1B, someB]
theorem f_s_l16Sort_e (l0 : List Sc) : runFn E0 f_s_l16Sort_M H0 f_s_l16Sort_F (asL (addL 0 (f_s_l16Sort_t0) (addL 2 (f_s_l16Sort_t2) (noL)))) Try.f199 (f_s_l16Sort_a l0) (f_s_l16Sort_i l0) = f_s_l16Sort_k l0 (fun r => some (f_s_l16Sort_en r)) := by kernel_rfl
theorem f_s_l16Sort_ok (l0 : List Sc) (r : List Sc) (h : f_s_l16Sort l0 = some r) : CS Try.prog 199 (f_s_l16Sort_a l0) (f_s_l16Sort_i l0) (f_s_l16Sort_en r).1 (f_s_l16Sort_en r).2 :=
  fn_true (Gk := fun k => f_s_l16Sort_k l0 k) (en := f_s_l16Sort_en) Try.func199 E0ok f_s_l16Sort_Mt (addL_true (f_s_l16Sort_tt0) (addL_true (f_s_l16Sort_tt2) (noL_true))) f_s_l16Sort_o (f_s_l16Sort_e l0) (f_s_l16Sort_p l0) h
def f_s_l16Sort_c : CRow := fun args inh => match dec2 [.p .sl] [] args inh with
  | some ([.l l0], []) => some ((f_s_l16Sort l0).isSome, (f_s_l16Sort_en ((f_s_l16Sort l0).getD [])).1, (f_s_l16Sort_en ((f_s_l16Sort l0).getD [])).2)
  | _ => none
theorem f_s_l16Sort_cc : CTrue Try.prog 199 f_s_l16Sort_c := by
  intro args inh rs out h
  unfold f_s_l16Sort_c at h
  split at h
  · rename_i hd
    obtain ⟨h1, h2⟩ := dec2_enc hd
    rw [← h1, ← h2]
    exact rowC (f_s_l16Sort_ok _) h
  · cases h

def f_s_l16Draw_io_F : Fi := { nv := 6, nc := 5, m := 3, vt := [(4, 3), (6, 4), (11, 5)], kl := [(0, ([5, 7, 8, 9, 11, 16, 17, 18, 19, 20, 21, 22, 23, 24, 25, 26, 27, 28, 29, 30, 31, 32, 33, 34, 35, 36, 37, 38, 39, 40, 41, 42, 43, 44, 45, 46, 47, 48, 49, 50, 51, 52, 53, 54, 55], [5, 7, 8, 9, 11, 14, 15, 16, 17, 18, 19, 20, 21, 22, 23, 24, 25, 26, 27, 28, 29, 30, 31, 32, 33, 34, 35, 36, 37, 38, 39, 40, 41, 42, 43, 44, 45, 46, 47, 48, 49, 50, 51, 52, 53, 54, 55], [4, 5, 6, 7, 8, 9, 12, 13, 14, 15, 16, 17, 18, 19, 20, 21, 22, 23, 24, 25, 26, 27, 28, 29, 30, 31, 32, 33, 34, 35, 36, 37, 38, 39, 40, 41, 42, 43, 44, 45, 46, 47, 48, 49, 50, 51, 52, 53, 54, 55]))], sk := [], mvs := [5], fz := [] }
def f_s_l16Draw_io_a (most1 : Int) (h0 : List Sc) (h1 : Int) (h2 : Int) : List AV := enc [.p (.pt 0 3), .p (.int .i64)] [.i most1]
def f_s_l16Draw_io_i (most1 : Int) (h0 : List Sc) (h1 : Int) (h2 : Int) : List AV := enc [.p .sl, .p (.int .i64), .p (.int .i64)] [.l h0, .i h1, .i h2]
def f_s_l16Draw_io_en (r : List Sc × List Sc × List Sc × Int × Int) : List AV × List AV := (enc [.p (.go 3), .p (.al 4)] [], enc [.p .sl, .p (.int .i64), .p (.int .i64), .own 3, .own 3] [.l r.2.2.1, .i r.2.2.2.1, .i r.2.2.2.2, .l r.1, .l r.2.1])
def f_s_l16Draw_io_M : Calling := addC 163 f_s_l2Any_io_c (addC 72 f_s_OrderOf_c (addC 166 f_s_l1Below_io_c (addC 167 f_s_l1Once_io_c (addC 168 f_s_l1PickInt_io_c (addC 199 f_s_l16Sort_c (noC))))))
theorem f_s_l16Draw_io_Mt : CallOk Try.prog (f_s_l16Draw_io_M) := addC_true f_s_l2Any_io_cc (addC_true f_s_OrderOf_cc (addC_true f_s_l1Below_io_cc (addC_true f_s_l1Once_io_cc (addC_true f_s_l1PickInt_io_cc (addC_true f_s_l16Sort_cc (noC_true))))))
theorem f_s_l16Draw_io_o : loopsOnce Try.f195 = true := by kernel_rfl
def f_s_l16Draw_io_h0 : List Sh := [.p .sl, .p (.int .i64), .p (.int .i64), .p .sl, .own 3, .u, .p (.pt 0 3), .u, .u, .u, .p (.pt 3 1), .u, .p (.pt 4 1), .own 3, .p (.int .i64), .p (.int .i64), .u, .u, .u, .u, .u, .u, .u, .u, .u, .u, .u, .u, .u, .u, .u, .u, .u, .u, .u, .u, .u, .u, .u, .u, .u, .u, .u, .u, .u, .u, .u, .u, .u, .u, .u, .u, .u, .u, .u, .u]
def f_s_l16Draw_io_fr0 (s : List Sc × Int × Int × List Sc × List Sc × List Sc × Int × Int) : List AV := enc f_s_l16Draw_io_h0 [.l s.1, .i s.2.1, .i s.2.2.1, .l s.2.2.2.1, .l s.2.2.2.2.1, .l s.2.2.2.2.2.1, .i s.2.2.2.2.2.2.1, .i s.2.2.2.2.2.2.2]
def f_s_l16Draw_io_g0_1 : List Sh := [.p .sl, .p (.int .i64), .p (.int .i64), .p .sl, .own 3, .u, .p (.pt 0 3), .u, .u, .u, .p (.pt 3 1), .u, .p (.pt 4 1), .own 3, .u, .u, .u, .u, .u, .u, .u, .u, .u, .u, .u, .u, .u, .u, .u, .u, .u, .u, .u, .u, .u, .u, .u, .u, .u, .u, .u, .u, .u, .u, .u, .u, .u, .u, .u, .u, .u, .u, .u, .u, .u, .u]
def f_s_l16Draw_io_x0_1 (e : List Sc × Int × Int × List Sc × List Sc × List Sc) : X × List AV := (.out 0, enc f_s_l16Draw_io_g0_1 [.l e.1, .i e.2.1, .i e.2.2.1, .l e.2.2.2.1, .l e.2.2.2.2.1, .l e.2.2.2.2.2])
def f_s_l16Draw_io_x0_2 (_e : Unit) : X × List AV := (.ret, [])
theorem f_s_l16Draw_io_p0 {R : Type} (s : List Sc × Int × Int × List Sc × List Sc × List Sc × Int × Int) (kN : List Sc × Int × Int × List Sc × List Sc × List Sc × Int × Int → Option R) (kA : List Sc × Int × Int × List Sc × List Sc × List Sc → Option R) (kB : Unit → Option R) : f_s_l16Draw_io_k0 s.1 s.2.1 s.2.2.1 s.2.2.2.1 s.2.2.2.2.1 s.2.2.2.2.2.1 s.2.2.2.2.2.2.1 s.2.2.2.2.2.2.2 kN kA = (f_s_l16Draw_io_r0 s).bind (Ro.el kN kA kB) := by
  simp only [f_s_l16Draw_io_k0, f_s_l16Draw_io_r0, brB, boB, someB, noneB, Ro.el]
theorem f_s_l16Draw_io_e0 (s : List Sc × Int × Int × List Sc × List Sc × List Sc × Int × Int) : EC E0 f_s_l16Draw_io_M H0 f_s_l16Draw_io_F (asL (noL)) 0 (bodyOf Try.f195 0) (f_s_l16Draw_io_fr0 s) (done (klOf f_s_l16Draw_io_F 0)) = f_s_l16Draw_io_k0 s.1 s.2.1 s.2.2.1 s.2.2.2.1 s.2.2.2.2.1 s.2.2.2.2.2.1 s.2.2.2.2.2.2.1 s.2.2.2.2.2.2.2 (fun s => some (.norm, f_s_l16Draw_io_fr0 s)) (fun e => some (f_s_l16Draw_io_x0_1 e)) := by kernel_rfl
theorem f_s_l16Draw_io_l0 : ∀ s r, loopL (f_s_l16Draw_io_r0) s = some r → LS Try.prog f_s_l16Draw_io_F (bodyOf Try.f195 0) (f_s_l16Draw_io_fr0 s) (enX (f_s_l16Draw_io_x0_1) (f_s_l16Draw_io_x0_2) r) :=
  loop_true E0ok f_s_l16Draw_io_Mt (noL_true) f_s_l16Draw_io_o (fun _ h => by cases h) (fun _ h => by cases h) (fun s => (f_s_l16Draw_io_e0 s).trans (f_s_l16Draw_io_p0 s _ _ (fun e => some (f_s_l16Draw_io_x0_2 e))))
def f_s_l16Draw_io_t0 (σ : List AV) : Option (Bool × Bool × (X × List AV) × (X × List AV)) := match dec f_s_l16Draw_io_h0 σ with
  | some [.l v0, .i v1, .i v2, .l v3, .l v4, .l l7, .i x8, .i n9] => some (isOne (loopL (f_s_l16Draw_io_r0) (v0, v1, v2, v3, v4, l7, x8, n9)), true, f_s_l16Draw_io_x0_1 (getOne ([], 0, 0, [], [], []) (loopL (f_s_l16Draw_io_r0) (v0, v1, v2, v3, v4, l7, x8, n9))), (.ret, []))
  | _ => none
theorem f_s_l16Draw_io_tt0 : TTrue Try.prog f_s_l16Draw_io_F Try.f195 0 (f_s_l16Draw_io_t0) := by
  intro σ p r r' h
  unfold f_s_l16Draw_io_t0 at h
  split at h
  · rename_i hd
    rw [← dec_enc hd]
    exact row1 (f_s_l16Draw_io_l0 _) h
  · cases h
theorem f_s_l16Draw_io_p {R : Type} (most1 : Int) (h0 : List Sc) (h1 : Int) (h2 : Int) (kR : List Sc × List Sc × List Sc × Int × Int → Option R) : f_s_l16Draw_io_k most1 h0 h1 h2 kR = (f_s_l16Draw_io_k most1 h0 h1 h2 some).bind kR := by
  simp only [f_s_l16Draw_io_k, brB, boB, bl1B, someB, noneB]
theorem f_s_l16Draw_io_e (most1 : Int) (h0 : List Sc) (h1 : Int) (h2 : Int) : runFn E0 f_s_l16Draw_io_M H0 f_s_l16Draw_io_F (asL (addL 0 (f_s_l16Draw_io_t0) (noL))) Try.f195 (f_s_l16Draw_io_a most1 h0 h1 h2) (f_s_l16Draw_io_i most1 h0 h1 h2) = f_s_l16Draw_io_k most1 h0 h1 h2 (fun r => some (f_s_l16Draw_io_en r)) := by kernel_rfl
theorem f_s_l16Draw_io_ok (most1 : Int) (h0 : List Sc) (h1 : Int) (h2 : Int) (r : List Sc × List Sc × List Sc × Int × Int) (h : f_s_l16Draw_io most1 h0 h1 h2 = some r) : CS Try.prog 195 (f_s_l16Draw_io_a most1 h0 h1 h2) (f_s_l16Draw_io_i most1 h0 h1 h2) (f_s_l16Draw_io_en r).1 (f_s_l16Draw_io_en r).2 :=
  fn_true (Gk := fun k => f_s_l16Draw_io_k most1 h0 h1 h2 k) (en := f_s_l16Draw_io_en) Try.func195 E0ok f_s_l16Draw_io_Mt (addL_true (f_s_l16Draw_io_tt0) (noL_true)) f_s_l16Draw_io_o (f_s_l16Draw_io_e most1 h0 h1 h2) (f_s_l16Draw_io_p most1 h0 h1 h2) h
def f_s_l16Draw_io_c : CRow := fun args inh => match dec2 [.p (.pt 0 3), .p (.int .i64)] [.p .sl, .p (.int .i64), .p (.int .i64)] args inh with
  | some ([.i most1], [.l h0, .i h1, .i h2]) => some ((f_s_l16Draw_io most1 h0 h1 h2).isSome, (f_s_l16Draw_io_en ((f_s_l16Draw_io most1 h0 h1 h2).getD ([], [], [], 0, 0))).1, (f_s_l16Draw_io_en ((f_s_l16Draw_io most1 h0 h1 h2).getD ([], [], [], 0, 0))).2)
  | _ => none
theorem f_s_l16Draw_io_cc : CTrue Try.prog 195 f_s_l16Draw_io_c := by
  intro args inh rs out h
  unfold f_s_l16Draw_io_c at h
  split at h
  · rename_i hd
    obtain ⟨h1, h2⟩ := dec2_enc hd
    rw [← h1, ← h2]
    exact rowC (f_s_l16Draw_io_ok _ _ _ _) h
  · cases h

def f_s_DrawCyclicStructure_F : Fi := { nv := 8, nc := 6, m := 0, vt := [(2, 0), (5, 1), (9, 2), (12, 3), (43, 6)], kl := [(0, ([2, 6, 7, 8, 9, 11, 17, 18, 19, 20, 21, 22, 23, 24, 25, 26, 27, 28, 29, 30, 31, 32, 33, 34, 35, 36, 37, 38, 39, 40, 41, 42, 43, 44, 45, 46, 47, 48, 49, 50, 51, 52, 53, 54, 55, 56, 57], [2, 6, 7, 8, 9, 11, 15, 16, 17, 18, 19, 20, 21, 22, 23, 24, 25, 26, 27, 28, 29, 30, 31, 32, 33, 34, 35, 36, 37, 38, 39, 40, 41, 42, 43, 44, 45, 46, 47, 48, 49, 50, 51, 52, 53, 54, 55, 56, 57], [1, 2, 3, 4, 5, 6, 7, 8, 9, 12, 13, 14, 15, 16, 17, 18, 19, 20, 21, 22, 23, 24, 25, 26, 27, 28, 29, 30, 31, 32, 33, 34, 35, 36, 37, 38, 39, 40, 41, 42, 43, 44, 45, 46, 47, 48, 49, 50, 51, 52, 53, 54, 55, 56, 57]))], sk := [], mvs := [6, 7], fz := [] }
def f_s_DrawCyclicStructure_a (code0 : List Sc) : List AV := enc [.p .sl] [.l code0]
def f_s_DrawCyclicStructure_i (code0 : List Sc) : List AV := enc [] []
def f_s_DrawCyclicStructure_en (r : List Sc × List Sc) : List AV × List AV := (enc [.p (.go 0), .p (.al 1)] [], enc [.own 3, .own 3] [.l r.1, .l r.2])
def f_s_DrawCyclicStructure_M : Calling := addC 162 f_s_l1New_c (addC 166 f_s_l1Below_io_c (addC 167 f_s_l1Once_io_c (addC 195 f_s_l16Draw_io_c (noC))))
theorem f_s_DrawCyclicStructure_Mt : CallOk Try.prog (f_s_DrawCyclicStructure_M) := addC_true f_s_l1New_cc (addC_true f_s_l1Below_io_cc (addC_true f_s_l1Once_io_cc (addC_true f_s_l16Draw_io_cc (noC_true))))
theorem f_s_DrawCyclicStructure_o : loopsOnce Try.f94 = true := by kernel_rfl
def f_s_DrawCyclicStructure_h0 : List Sh := [.p .sl, .own 3, .u, .p .sl, .p (.int .i64), .p (.int .i64), .u, .u, .u, .u, .p (.pt 0 1), .u, .p (.pt 3 3), .p (.pt 1 1), .own 3, .p (.int .i64), .p (.int .i64), .u, .u, .u, .u, .u, .u, .u, .u, .u, .u, .u, .u, .u, .u, .u, .u, .u, .u, .u, .u, .u, .u, .u, .u, .u, .u, .u, .u, .u, .u, .u, .u, .u, .u, .u, .u, .u, .u, .u, .u, .u]
def f_s_DrawCyclicStructure_fr0 (x7 : Int) (s : List Sc × List Sc × List Sc × Int × Int × List Sc × Int) : List AV := enc f_s_DrawCyclicStructure_h0 [.l s.1, .l s.2.1, .l s.2.2.1, .i s.2.2.2.1, .i s.2.2.2.2.1, .l s.2.2.2.2.2.1, .i x7, .i s.2.2.2.2.2.2]
def f_s_DrawCyclicStructure_g0_1 : List Sh := [.p .sl, .own 3, .u, .p .sl, .p (.int .i64), .p (.int .i64), .u, .u, .u, .u, .p (.pt 0 1), .u, .p (.pt 3 3), .p (.pt 1 1), .own 3, .u, .u, .u, .u, .u, .u, .u, .u, .u, .u, .u, .u, .u, .u, .u, .u, .u, .u, .u, .u, .u, .u, .u, .u, .u, .u, .u, .u, .u, .u, .u, .u, .u, .u, .u, .u, .u, .u, .u, .u, .u, .u, .u]
def f_s_DrawCyclicStructure_x0_1 (x7 : Int) (e : List Sc × List Sc × List Sc × Int × Int × List Sc) : X × List AV := (.out 0, enc f_s_DrawCyclicStructure_g0_1 [.l e.1, .l e.2.1, .l e.2.2.1, .i e.2.2.2.1, .i e.2.2.2.2.1, .l e.2.2.2.2.2])
def f_s_DrawCyclicStructure_x0_2 (x7 : Int) (_e : Unit) : X × List AV := (.ret, [])
theorem f_s_DrawCyclicStructure_p0 {R : Type} (x7 : Int) (s : List Sc × List Sc × List Sc × Int × Int × List Sc × Int) (kN : List Sc × List Sc × List Sc × Int × Int × List Sc × Int → Option R) (kA : List Sc × List Sc × List Sc × Int × Int × List Sc → Option R) (kB : Unit → Option R) : f_s_DrawCyclicStructure_k0 x7 s.1 s.2.1 s.2.2.1 s.2.2.2.1 s.2.2.2.2.1 s.2.2.2.2.2.1 s.2.2.2.2.2.2 kN kA = (f_s_DrawCyclicStructure_r0 x7 s).bind (Ro.el kN kA kB) := by
  simp only [f_s_DrawCyclicStructure_k0, f_s_DrawCyclicStructure_r0, brB, someB, noneB, Ro.el]
theorem f_s_DrawCyclicStructure_e0 (x7 : Int) (s : List Sc × List Sc × List Sc × Int × Int × List Sc × Int) : EC E0 f_s_DrawCyclicStructure_M H0 f_s_DrawCyclicStructure_F (asL (noL)) 0 (bodyOf Try.f94 0) (f_s_DrawCyclicStructure_fr0 x7 s) (done (klOf f_s_DrawCyclicStructure_F 0)) = f_s_DrawCyclicStructure_k0 x7 s.1 s.2.1 s.2.2.1 s.2.2.2.1 s.2.2.2.2.1 s.2.2.2.2.2.1 s.2.2.2.2.2.2 (fun s => some (.norm, f_s_DrawCyclicStructure_fr0 x7 s)) (fun e => some (f_s_DrawCyclicStructure_x0_1 x7 e)) := by kernel_rfl
theorem f_s_DrawCyclicStructure_l0 (x7 : Int) : ∀ s r, loopL (f_s_DrawCyclicStructure_r0 x7) s = some r → LS Try.prog f_s_DrawCyclicStructure_F (bodyOf Try.f94 0) (f_s_DrawCyclicStructure_fr0 x7 s) (enX (f_s_DrawCyclicStructure_x0_1 x7) (f_s_DrawCyclicStructure_x0_2 x7) r) :=
  loop_true E0ok f_s_DrawCyclicStructure_Mt (noL_true) f_s_DrawCyclicStructure_o (fun _ h => by cases h) (fun _ h => by cases h) (fun s => (f_s_DrawCyclicStructure_e0 x7 s).trans (f_s_DrawCyclicStructure_p0 x7 s _ _ (fun e => some (f_s_DrawCyclicStructure_x0_2 x7 e))))
def f_s_DrawCyclicStructure_t0 (σ : List AV) : Option (Bool × Bool × (X × List AV) × (X × List AV)) := match dec f_s_DrawCyclicStructure_h0 σ with
  | some [.l v0, .l v1, .l v3, .i v4, .i v5, .l l6, .i x7, .i i8] => some (isOne (loopL (f_s_DrawCyclicStructure_r0 x7) (v0, v1, v3, v4, v5, l6, i8)), true, f_s_DrawCyclicStructure_x0_1 x7 (getOne ([], [], [], 0, 0, []) (loopL (f_s_DrawCyclicStructure_r0 x7) (v0, v1, v3, v4, v5, l6, i8))), (.ret, []))
  | _ => none
theorem f_s_DrawCyclicStructure_tt0 : TTrue Try.prog f_s_DrawCyclicStructure_F Try.f94 0 (f_s_DrawCyclicStructure_t0) := by
  intro σ p r r' h
  unfold f_s_DrawCyclicStructure_t0 at h
  split at h
  · rename_i hd
    rw [← dec_enc hd]
    exact row1 (f_s_DrawCyclicStructure_l0 _ _) h
  · cases h
theorem f_s_DrawCyclicStructure_p {R : Type} (code0 : List Sc) (kR : List Sc × List Sc → Option R) : f_s_DrawCyclicStructure_k code0 kR = (f_s_DrawCyclicStructure_k code0 some).bind kR := by
  simp only [f_s_DrawCyclicStructure_k, brB, boB, bl1B, someB, noneB]
theorem f_s_DrawCyclicStructure_e (code0 : List Sc) : runFn E0 f_s_DrawCyclicStructure_M H0 f_s_DrawCyclicStructure_F (asL (addL 0 (f_s_DrawCyclicStructure_t0) (noL))) Try.f94 (f_s_DrawCyclicStructure_a code0) (f_s_DrawCyclicStructure_i code0) = f_s_DrawCyclicStructure_k code0 (fun r => some (f_s_DrawCyclicStructure_en r)) := by kernel_rfl
theorem f_s_DrawCyclicStructure_ok (code0 : List Sc) (r : List Sc × List Sc) (h : f_s_DrawCyclicStructure code0 = some r) : CS Try.prog 94 (f_s_DrawCyclicStructure_a code0) (f_s_DrawCyclicStructure_i code0) (f_s_DrawCyclicStructure_en r).1 (f_s_DrawCyclicStructure_en r).2 :=
  fn_true (Gk := fun k => f_s_DrawCyclicStructure_k code0 k) (en := f_s_DrawCyclicStructure_en) Try.func94 E0ok f_s_DrawCyclicStructure_Mt (addL_true (f_s_DrawCyclicStructure_tt0) (noL_true)) f_s_DrawCyclicStructure_o (f_s_DrawCyclicStructure_e code0) (f_s_DrawCyclicStructure_p code0) h
def f_s_DrawCyclicStructure_c : CRow := fun args inh => match dec2 [.p .sl] [] args inh with
  | some ([.l code0], []) => some ((f_s_DrawCyclicStructure code0).isSome, (f_s_DrawCyclicStructure_en ((f_s_DrawCyclicStructure code0).getD ([], []))).1, (f_s_DrawCyclicStructure_en ((f_s_DrawCyclicStructure code0).getD ([], []))).2)
  | _ => none
theorem f_s_DrawCyclicStructure_cc : CTrue Try.prog 94 f_s_DrawCyclicStructure_c := by
  intro args inh rs out h
  unfold f_s_DrawCyclicStructure_c at h
  split at h
  · rename_i hd
    obtain ⟨h1, h2⟩ := dec2_enc hd
    rw [← h1, ← h2]
    exact rowC (f_s_DrawCyclicStructure_ok _) h
  · cases h

def f_s_l2Is_F : Fi := { nv := 0, nc := 0, m := 0, vt := [], kl := [], sk := [], mvs := [], fz := [] }
def f_s_l2Is_a (g0 : List Sc) (x1 : Int) : List AV := enc [.p .gr, .p (.int .i64)] [.l g0, .i x1]
def f_s_l2Is_i (g0 : List Sc) (x1 : Int) : List AV := enc [] []
def f_s_l2Is_en (r : Bool) : List AV × List AV := (enc [.p .boo] [.b r], enc [] [])
def f_s_l2Is_M : Calling := addC 72 f_s_OrderOf_c (noC)
theorem f_s_l2Is_Mt : CallOk Try.prog (f_s_l2Is_M) := addC_true f_s_OrderOf_cc (noC_true)
theorem f_s_l2Is_o : loopsOnce Try.f148 = true := by kernel_rfl
theorem f_s_l2Is_p {R : Type} (g0 : List Sc) (x1 : Int) (kR : Bool → Option R) : f_s_l2Is_k g0 x1 kR = (f_s_l2Is_k g0 x1 some).bind kR := by
  simp only [f_s_l2Is_k, brB, boB, someB]
theorem f_s_l2Is_e (g0 : List Sc) (x1 : Int) : runFn E0 f_s_l2Is_M H0 f_s_l2Is_F (asL (noL)) Try.f148 (f_s_l2Is_a g0 x1) (f_s_l2Is_i g0 x1) = f_s_l2Is_k g0 x1 (fun r => some (f_s_l2Is_en r)) := by kernel_rfl
theorem f_s_l2Is_ok (g0 : List Sc) (x1 : Int) (r : Bool) (h : f_s_l2Is g0 x1 = some r) : CS Try.prog 148 (f_s_l2Is_a g0 x1) (f_s_l2Is_i g0 x1) (f_s_l2Is_en r).1 (f_s_l2Is_en r).2 :=
  fn_true (Gk := fun k => f_s_l2Is_k g0 x1 k) (en := f_s_l2Is_en) Try.func148 E0ok f_s_l2Is_Mt (noL_true) f_s_l2Is_o (f_s_l2Is_e g0 x1) (f_s_l2Is_p g0 x1) h
def f_s_l2Is_c : CRow := fun args inh => match dec2 [.p .gr, .p (.int .i64)] [] args inh with
  | some ([.l g0, .i x1], []) => some ((f_s_l2Is g0 x1).isSome, (f_s_l2Is_en ((f_s_l2Is g0 x1).getD false)).1, (f_s_l2Is_en ((f_s_l2Is g0 x1).getD false)).2)
  | _ => none
theorem f_s_l2Is_cc : CTrue Try.prog 148 f_s_l2Is_c := by
  intro args inh rs out h
  unfold f_s_l2Is_c at h
  split at h
  · rename_i hd
    obtain ⟨h1, h2⟩ := dec2_enc hd
    rw [← h1, ← h2]
    exact rowC (f_s_l2Is_ok _ _) h
  · cases h

def f_s_IsSequence_F : Fi := { nv := 0, nc := 0, m := 0, vt := [], kl := [(0, ([0, 3, 4, 6, 7, 8, 9, 10, 11, 12, 13, 14, 15, 16, 17, 18, 19, 20, 21, 22, 23, 24, 25, 26, 27, 28, 29, 30, 31, 32, 33, 34, 35, 36, 37, 38, 39, 40, 41], [0, 3, 4, 5, 6, 7, 8, 9, 10, 11, 12, 13, 14, 15, 16, 17, 18, 19, 20, 21, 22, 23, 24, 25, 26, 27, 28, 29, 30, 31, 32, 33, 34, 35, 36, 37, 38, 39, 40, 41], [0, 1, 2, 3, 5, 6, 7, 8, 9, 10, 11, 12, 13, 14, 15, 16, 17, 18, 19, 20, 21, 22, 23, 24, 25, 26, 27, 28, 29, 30, 31, 32, 33, 34, 35, 36, 37, 38, 39, 40, 41]))], sk := [], mvs := [], fz := [] }
def f_s_IsSequence_a (g0 : List Sc) (l1 : List Sc) : List AV := enc [.p .gr, .p .sl] [.l g0, .l l1]
def f_s_IsSequence_i (g0 : List Sc) (l1 : List Sc) : List AV := enc [] []
def f_s_IsSequence_en (r : Bool) : List AV × List AV := (enc [.p .boo] [.b r], enc [] [])
def f_s_IsSequence_M : Calling := addC 148 f_s_l2Is_c (addC 179 f_s_IsGroup_c (noC))
theorem f_s_IsSequence_Mt : CallOk Try.prog (f_s_IsSequence_M) := addC_true f_s_l2Is_cc (addC_true f_s_IsGroup_cc (noC_true))
theorem f_s_IsSequence_o : loopsOnce Try.f101 = true := by kernel_rfl
def f_s_IsSequence_h0 : List Sh := [.u, .p .sl, .p .el, .u, .u, .p (.int .i64), .u, .u, .u, .u, .u, .u, .u, .u, .u, .u, .u, .u, .u, .u, .u, .u, .u, .u, .u, .u, .u, .u, .u, .u, .u, .u, .u, .u, .u, .u, .u, .u, .u, .u, .u, .u]
def f_s_IsSequence_fr0 (l1 : List Sc) (g2 : List Sc) (s : Int) : List AV := enc f_s_IsSequence_h0 [.l l1, .l g2, .i s]
def f_s_IsSequence_g0_1 : List Sh := [.u, .p .sl, .p .el, .u, .u, .u, .u, .u, .u, .u, .u, .u, .u, .u, .u, .u, .u, .u, .u, .u, .u, .u, .u, .u, .u, .u, .u, .u, .u, .u, .u, .u, .u, .u, .u, .u, .u, .u, .u, .u, .u, .u]
def f_s_IsSequence_x0_1 (l1 : List Sc) (g2 : List Sc) (e : Unit) : X × List AV := (.out 0, enc f_s_IsSequence_g0_1 [.l l1, .l g2])
def f_s_IsSequence_g0_2 : List Sh := [.u, .u, .u, .u, .p .boo, .u, .u, .u, .u, .u, .u, .u, .u, .u, .u, .u, .u, .u, .u, .u, .u, .u, .u, .u, .u, .u, .u, .u, .u, .u, .u, .u, .u, .u, .u, .u, .u, .u, .u, .u, .u, .u]
def f_s_IsSequence_x0_2 (l1 : List Sc) (g2 : List Sc) (e : Unit) : X × List AV := (.ret, enc f_s_IsSequence_g0_2 [.b false])
theorem f_s_IsSequence_p0 {R : Type} (l1 : List Sc) (g2 : List Sc) (s : Int) (kN : Int → Option R) (kA : Unit → Option R) (kB : Unit → Option R) : f_s_IsSequence_k0 l1 g2 s kN kA kB = (f_s_IsSequence_r0 l1 g2 s).bind (Ro.el kN kA kB) := by
  simp only [f_s_IsSequence_k0, f_s_IsSequence_r0, brB, boB, someB, noneB, Ro.el]
theorem f_s_IsSequence_e0 (l1 : List Sc) (g2 : List Sc) (s : Int) : EC E0 f_s_IsSequence_M H0 f_s_IsSequence_F (asL (noL)) 0 (bodyOf Try.f101 0) (f_s_IsSequence_fr0 l1 g2 s) (done (klOf f_s_IsSequence_F 0)) = f_s_IsSequence_k0 l1 g2 s (fun s => some (.norm, f_s_IsSequence_fr0 l1 g2 s)) (fun e => some (f_s_IsSequence_x0_1 l1 g2 e)) (fun e => some (f_s_IsSequence_x0_2 l1 g2 e)) := by kernel_rfl
theorem f_s_IsSequence_l0 (l1 : List Sc) (g2 : List Sc) : ∀ s r, loopL (f_s_IsSequence_r0 l1 g2) s = some r → LS Try.prog f_s_IsSequence_F (bodyOf Try.f101 0) (f_s_IsSequence_fr0 l1 g2 s) (enX (f_s_IsSequence_x0_1 l1 g2) (f_s_IsSequence_x0_2 l1 g2) r) :=
  loop_true E0ok f_s_IsSequence_Mt (noL_true) f_s_IsSequence_o (fun _ h => by cases h) (fun _ h => by cases h) (fun s => (f_s_IsSequence_e0 l1 g2 s).trans (f_s_IsSequence_p0 l1 g2 s _ _ (fun e => some (f_s_IsSequence_x0_2 l1 g2 e))))
def f_s_IsSequence_t0 (σ : List AV) : Option (Bool × Bool × (X × List AV) × (X × List AV)) := match dec f_s_IsSequence_h0 σ with
  | some [.l l1, .l g2, .i i5] => some ((loopL (f_s_IsSequence_r0 l1 g2) i5).isSome, isOne (loopL (f_s_IsSequence_r0 l1 g2) i5), f_s_IsSequence_x0_1 l1 g2 (getOne () (loopL (f_s_IsSequence_r0 l1 g2) i5)), f_s_IsSequence_x0_2 l1 g2 (getTwo () (loopL (f_s_IsSequence_r0 l1 g2) i5)))
  | _ => none
theorem f_s_IsSequence_tt0 : TTrue Try.prog f_s_IsSequence_F Try.f101 0 (f_s_IsSequence_t0) := by
  intro σ p r r' h
  unfold f_s_IsSequence_t0 at h
  split at h
  · rename_i hd
    rw [← dec_enc hd]
    exact row2 (f_s_IsSequence_l0 _ _ _) h
  · cases h
theorem f_s_IsSequence_p {R : Type} (g0 : List Sc) (l1 : List Sc) (kR : Bool → Option R) : f_s_IsSequence_k g0 l1 kR = (f_s_IsSequence_k g0 l1 some).bind kR := by
  simp only [f_s_IsSequence_k, brB, boB, blB, someB]
theorem f_s_IsSequence_e (g0 : List Sc) (l1 : List Sc) : runFn E0 f_s_IsSequence_M H0 f_s_IsSequence_F (asL (addL 0 (f_s_IsSequence_t0) (noL))) Try.f101 (f_s_IsSequence_a g0 l1) (f_s_IsSequence_i g0 l1) = f_s_IsSequence_k g0 l1 (fun r => some (f_s_IsSequence_en r)) := by kernel_rfl
theorem f_s_IsSequence_ok (g0 : List Sc) (l1 : List Sc) (r : Bool) (h : f_s_IsSequence g0 l1 = some r) : CS Try.prog 101 (f_s_IsSequence_a g0 l1) (f_s_IsSequence_i g0 l1) (f_s_IsSequence_en r).1 (f_s_IsSequence_en r).2 :=
  fn_true (Gk := fun k => f_s_IsSequence_k g0 l1 k) (en := f_s_IsSequence_en) Try.func101 E0ok f_s_IsSequence_Mt (addL_true (f_s_IsSequence_tt0) (noL_true)) f_s_IsSequence_o (f_s_IsSequence_e g0 l1) (f_s_IsSequence_p g0 l1) h
def f_s_IsSequence_c : CRow := fun args inh => match dec2 [.p .gr, .p .sl] [] args inh with
  | some ([.l g0, .l l1], []) => some ((f_s_IsSequence g0 l1).isSome, (f_s_IsSequence_en ((f_s_IsSequence g0 l1).getD false)).1, (f_s_IsSequence_en ((f_s_IsSequence g0 l1).getD false)).2)
  | _ => none
theorem f_s_IsSequence_cc : CTrue Try.prog 101 f_s_IsSequence_c := by
  intro args inh rs out h
  unfold f_s_IsSequence_c at h
  split at h
  · rename_i hd
    obtain ⟨h1, h2⟩ := dec2_enc hd
    rw [← h1, ← h2]
    exact rowC (f_s_IsSequence_ok _ _) h
  · cases h

def f_s_l16Subsums_F : Fi := { nv := 0, nc := 0, m := 0, vt := [], kl := [(0, ([0, 3, 4, 7, 8, 9, 10, 11, 12, 13, 14, 15, 16, 17, 18, 19, 20, 21, 22, 23, 24, 25, 26, 27, 28], [0, 1, 2, 3, 4, 6, 7, 8, 9, 10, 11, 12, 13, 14, 15, 16, 17, 18, 19, 20, 21, 22, 23, 24, 25, 26, 27, 28], [0, 1, 2, 3, 5, 6, 7, 8, 9, 10, 11, 12, 13, 14, 15, 16, 17, 18, 19, 20, 21, 22, 23, 24, 25, 26, 27, 28]))], sk := [], mvs := [], fz := [] }
def f_s_l16Subsums_a (g0 : List Sc) (l1 : List Sc) : List AV := enc [.p .gr, .p .sl] [.l g0, .l l1]
def f_s_l16Subsums_i (g0 : List Sc) (l1 : List Sc) : List AV := enc [] []
def f_s_l16Subsums_en (r : Int) : List AV × List AV := (enc [.p (.int .i64)] [.i r], enc [] [])
def f_s_l16Subsums_M : Calling := addC 141 f_s_l3Shift_c (noC)
theorem f_s_l16Subsums_Mt : CallOk Try.prog (f_s_l16Subsums_M) := addC_true f_s_l3Shift_cc (noC_true)
theorem f_s_l16Subsums_o : loopsOnce Try.f196 = true := by kernel_rfl
def f_s_l16Subsums_h0 : List Sh := [.u, .p .sl, .p .el, .u, .u, .p (.int .i64), .p (.int .i64), .u, .u, .u, .u, .u, .u, .u, .u, .u, .u, .u, .u, .u, .u, .u, .u, .u, .u, .u, .u, .u, .u]
def f_s_l16Subsums_fr0 (l1 : List Sc) (g2 : List Sc) (s : Int × Int) : List AV := enc f_s_l16Subsums_h0 [.l l1, .l g2, .i s.1, .i s.2]
def f_s_l16Subsums_g0_1 : List Sh := [.u, .u, .u, .u, .u, .p (.int .i64), .u, .u, .u, .u, .u, .u, .u, .u, .u, .u, .u, .u, .u, .u, .u, .u, .u, .u, .u, .u, .u, .u, .u]
def f_s_l16Subsums_x0_1 (l1 : List Sc) (g2 : List Sc) (e : Int) : X × List AV := (.out 0, enc f_s_l16Subsums_g0_1 [.i e])
def f_s_l16Subsums_x0_2 (l1 : List Sc) (g2 : List Sc) (_e : Unit) : X × List AV := (.ret, [])
theorem f_s_l16Subsums_p0 {R : Type} (l1 : List Sc) (g2 : List Sc) (s : Int × Int) (kN : Int × Int → Option R) (kA : Int → Option R) (kB : Unit → Option R) : f_s_l16Subsums_k0 l1 g2 s.1 s.2 kN kA = (f_s_l16Subsums_r0 l1 g2 s).bind (Ro.el kN kA kB) := by
  simp only [f_s_l16Subsums_k0, f_s_l16Subsums_r0, brB, boB, someB, noneB, Ro.el]
theorem f_s_l16Subsums_e0 (l1 : List Sc) (g2 : List Sc) (s : Int × Int) : EC E0 f_s_l16Subsums_M H0 f_s_l16Subsums_F (asL (noL)) 0 (bodyOf Try.f196 0) (f_s_l16Subsums_fr0 l1 g2 s) (done (klOf f_s_l16Subsums_F 0)) = f_s_l16Subsums_k0 l1 g2 s.1 s.2 (fun s => some (.norm, f_s_l16Subsums_fr0 l1 g2 s)) (fun e => some (f_s_l16Subsums_x0_1 l1 g2 e)) := by kernel_rfl
theorem f_s_l16Subsums_l0 (l1 : List Sc) (g2 : List Sc) : ∀ s r, loopL (f_s_l16Subsums_r0 l1 g2) s = some r → LS Try.prog f_s_l16Subsums_F (bodyOf Try.f196 0) (f_s_l16Subsums_fr0 l1 g2 s) (enX (f_s_l16Subsums_x0_1 l1 g2) (f_s_l16Subsums_x0_2 l1 g2) r) :=
  loop_true E0ok f_s_l16Subsums_Mt (noL_true) f_s_l16Subsums_o (fun _ h => by cases h) (fun _ h => by cases h) (fun s => (f_s_l16Subsums_e0 l1 g2 s).trans (f_s_l16Subsums_p0 l1 g2 s _ _ (fun e => some (f_s_l16Subsums_x0_2 l1 g2 e))))
def f_s_l16Subsums_t0 (σ : List AV) : Option (Bool × Bool × (X × List AV) × (X × List AV)) := match dec f_s_l16Subsums_h0 σ with
  | some [.l l1, .l g2, .i out5, .i i6] => some (isOne (loopL (f_s_l16Subsums_r0 l1 g2) (out5, i6)), true, f_s_l16Subsums_x0_1 l1 g2 (getOne 0 (loopL (f_s_l16Subsums_r0 l1 g2) (out5, i6))), (.ret, []))
  | _ => none
theorem f_s_l16Subsums_tt0 : TTrue Try.prog f_s_l16Subsums_F Try.f196 0 (f_s_l16Subsums_t0) := by
  intro σ p r r' h
  unfold f_s_l16Subsums_t0 at h
  split at h
  · rename_i hd
    rw [← dec_enc hd]
    exact row1 (f_s_l16Subsums_l0 _ _ _) h
  · cases h
theorem f_s_l16Subsums_p {R : Type} (g0 : List Sc) (l1 : List Sc) (kR : Int → Option R) : f_s_l16Subsums_k g0 l1 kR = (f_s_l16Subsums_k g0 l1 some).bind kR := by
  simp only [f_s_l16Subsums_k, bl1B, someB]
theorem f_s_l16Subsums_e (g0 : List Sc) (l1 : List Sc) : runFn E0 f_s_l16Subsums_M H0 f_s_l16Subsums_F (asL (addL 0 (f_s_l16Subsums_t0) (noL))) Try.f196 (f_s_l16Subsums_a g0 l1) (f_s_l16Subsums_i g0 l1) = f_s_l16Subsums_k g0 l1 (fun r => some (f_s_l16Subsums_en r)) := by kernel_rfl
theorem f_s_l16Subsums_ok (g0 : List Sc) (l1 : List Sc) (r : Int) (h : f_s_l16Subsums g0 l1 = some r) : CS Try.prog 196 (f_s_l16Subsums_a g0 l1) (f_s_l16Subsums_i g0 l1) (f_s_l16Subsums_en r).1 (f_s_l16Subsums_en r).2 :=
  fn_true (Gk := fun k => f_s_l16Subsums_k g0 l1 k) (en := f_s_l16Subsums_en) Try.func196 E0ok f_s_l16Subsums_Mt (addL_true (f_s_l16Subsums_tt0) (noL_true)) f_s_l16Subsums_o (f_s_l16Subsums_e g0 l1) (f_s_l16Subsums_p g0 l1) h
def f_s_l16Subsums_c : CRow := fun args inh => match dec2 [.p .gr, .p .sl] [] args inh with
  | some ([.l g0, .l l1], []) => some ((f_s_l16Subsums g0 l1).isSome, (f_s_l16Subsums_en ((f_s_l16Subsums g0 l1).getD 0)).1, (f_s_l16Subsums_en ((f_s_l16Subsums g0 l1).getD 0)).2)
  | _ => none
theorem f_s_l16Subsums_cc : CTrue Try.prog 196 f_s_l16Subsums_c := by
  intro args inh rs out h
  unfold f_s_l16Subsums_c at h
  split at h
  · rename_i hd
    obtain ⟨h1, h2⟩ := dec2_enc hd
    rw [← h1, ← h2]
    exact rowC (f_s_l16Subsums_ok _ _) h
  · cases h

def f_s_IsZeroFree_F : Fi := { nv := 0, nc := 0, m := 0, vt := [], kl := [], sk := [], mvs := [], fz := [] }
def f_s_IsZeroFree_a (g0 : List Sc) (l1 : List Sc) : List AV := enc [.p .gr, .p .sl] [.l g0, .l l1]
def f_s_IsZeroFree_i (g0 : List Sc) (l1 : List Sc) : List AV := enc [] []
def f_s_IsZeroFree_en (r : Bool) : List AV × List AV := (enc [.p .boo] [.b r], enc [] [])
def f_s_IsZeroFree_M : Calling := addC 101 f_s_IsSequence_c (addC 196 f_s_l16Subsums_c (noC))
theorem f_s_IsZeroFree_Mt : CallOk Try.prog (f_s_IsZeroFree_M) := addC_true f_s_IsSequence_cc (addC_true f_s_l16Subsums_cc (noC_true))
theorem f_s_IsZeroFree_o : loopsOnce Try.f119 = true := by kernel_rfl
theorem f_s_IsZeroFree_p {R : Type} (g0 : List Sc) (l1 : List Sc) (kR : Bool → Option R) : f_s_IsZeroFree_k g0 l1 kR = (f_s_IsZeroFree_k g0 l1 some).bind kR := by
  simp only [f_s_IsZeroFree_k, brB, boB, someB]
theorem f_s_IsZeroFree_e (g0 : List Sc) (l1 : List Sc) : runFn E0 f_s_IsZeroFree_M H0 f_s_IsZeroFree_F (asL (noL)) Try.f119 (f_s_IsZeroFree_a g0 l1) (f_s_IsZeroFree_i g0 l1) = f_s_IsZeroFree_k g0 l1 (fun r => some (f_s_IsZeroFree_en r)) := by kernel_rfl
theorem f_s_IsZeroFree_ok (g0 : List Sc) (l1 : List Sc) (r : Bool) (h : f_s_IsZeroFree g0 l1 = some r) : CS Try.prog 119 (f_s_IsZeroFree_a g0 l1) (f_s_IsZeroFree_i g0 l1) (f_s_IsZeroFree_en r).1 (f_s_IsZeroFree_en r).2 :=
  fn_true (Gk := fun k => f_s_IsZeroFree_k g0 l1 k) (en := f_s_IsZeroFree_en) Try.func119 E0ok f_s_IsZeroFree_Mt (noL_true) f_s_IsZeroFree_o (f_s_IsZeroFree_e g0 l1) (f_s_IsZeroFree_p g0 l1) h
def f_s_IsZeroFree_c : CRow := fun args inh => match dec2 [.p .gr, .p .sl] [] args inh with
  | some ([.l g0, .l l1], []) => some ((f_s_IsZeroFree g0 l1).isSome, (f_s_IsZeroFree_en ((f_s_IsZeroFree g0 l1).getD false)).1, (f_s_IsZeroFree_en ((f_s_IsZeroFree g0 l1).getD false)).2)
  | _ => none
theorem f_s_IsZeroFree_cc : CTrue Try.prog 119 f_s_IsZeroFree_c := by
  intro args inh rs out h
  unfold f_s_IsZeroFree_c at h
  split at h
  · rename_i hd
    obtain ⟨h1, h2⟩ := dec2_enc hd
    rw [← h1, ← h2]
    exact rowC (f_s_IsZeroFree_ok _ _) h
  · cases h

def f_s_CyclicStructure_F : Fi := { nv := 0, nc := 0, m := 0, vt := [], kl := [(0, ([0, 2, 3, 4, 5, 7, 8, 9, 10, 11, 12, 13, 14, 15, 16, 17, 18, 19, 20, 21, 22, 23, 24, 25, 26, 27, 28, 29, 30, 31, 32, 33, 34, 35, 36, 37, 38, 39, 40, 41, 42, 43, 44, 45, 46], [0, 2, 3, 4, 5, 6, 7, 8, 9, 10, 11, 12, 13, 14, 15, 16, 17, 18, 19, 20, 21, 22, 23, 24, 25, 26, 27, 28, 29, 30, 31, 32, 33, 34, 35, 36, 37, 38, 39, 40, 41, 42, 43, 44, 45, 46], [0, 1, 2, 3, 6, 7, 8, 9, 10, 11, 12, 13, 14, 15, 16, 17, 18, 19, 20, 21, 22, 23, 24, 25, 26, 27, 28, 29, 30, 31, 32, 33, 34, 35, 36, 37, 38, 39, 40, 41, 42, 43, 44, 45, 46]))], sk := [], mvs := [], fz := [] }
def f_s_CyclicStructure_a (g0 : List Sc) (l1 : List Sc) : List AV := enc [.p .gr, .p .sl] [.l g0, .l l1]
def f_s_CyclicStructure_i (g0 : List Sc) (l1 : List Sc) : List AV := enc [] []
def f_s_CyclicStructure_en (r : Int × Bool) : List AV × List AV := (enc [.p (.int .i64), .p .boo] [.i r.1, .b r.2], enc [] [])
def f_s_CyclicStructure_M : Calling := addC 119 f_s_IsZeroFree_c (addC 139 f_s_l2Order_c (noC))
theorem f_s_CyclicStructure_Mt : CallOk Try.prog (f_s_CyclicStructure_M) := addC_true f_s_IsZeroFree_cc (addC_true f_s_l2Order_cc (noC_true))
theorem f_s_CyclicStructure_o : loopsOnce Try.f95 = true := by kernel_rfl
def f_s_CyclicStructure_h0 : List Sh := [.u, .p .sl, .u, .u, .u, .u, .p (.int .i64), .u, .u, .u, .u, .u, .u, .u, .u, .u, .u, .u, .u, .u, .u, .u, .u, .u, .u, .u, .u, .u, .u, .u, .u, .u, .u, .u, .u, .u, .u, .u, .u, .u, .u, .u, .u, .u, .u, .u, .u]
def f_s_CyclicStructure_fr0 (l1 : List Sc) (s : Int) : List AV := enc f_s_CyclicStructure_h0 [.l l1, .i s]
def f_s_CyclicStructure_g0_1 : List Sh := [.u, .p .sl, .u, .u, .u, .u, .u, .u, .u, .u, .u, .u, .u, .u, .u, .u, .u, .u, .u, .u, .u, .u, .u, .u, .u, .u, .u, .u, .u, .u, .u, .u, .u, .u, .u, .u, .u, .u, .u, .u, .u, .u, .u, .u, .u, .u, .u]
def f_s_CyclicStructure_x0_1 (l1 : List Sc) (e : Unit) : X × List AV := (.out 0, enc f_s_CyclicStructure_g0_1 [.l l1])
def f_s_CyclicStructure_g0_2 : List Sh := [.u, .u, .u, .u, .p (.int .i64), .p .boo, .u, .u, .u, .u, .u, .u, .u, .u, .u, .u, .u, .u, .u, .u, .u, .u, .u, .u, .u, .u, .u, .u, .u, .u, .u, .u, .u, .u, .u, .u, .u, .u, .u, .u, .u, .u, .u, .u, .u, .u, .u]
def f_s_CyclicStructure_x0_2 (l1 : List Sc) (e : Unit) : X × List AV := (.ret, enc f_s_CyclicStructure_g0_2 [.i 0, .b false])
theorem f_s_CyclicStructure_p0 {R : Type} (l1 : List Sc) (s : Int) (kN : Int → Option R) (kA : Unit → Option R) (kB : Unit → Option R) : f_s_CyclicStructure_k0 l1 s kN kA kB = (f_s_CyclicStructure_r0 l1 s).bind (Ro.el kN kA kB) := by
  simp only [f_s_CyclicStructure_k0, f_s_CyclicStructure_r0, brB, someB, noneB, Ro.el]
theorem f_s_CyclicStructure_e0 (l1 : List Sc) (s : Int) : EC E0 f_s_CyclicStructure_M H0 f_s_CyclicStructure_F (asL (noL)) 0 (bodyOf Try.f95 0) (f_s_CyclicStructure_fr0 l1 s) (done (klOf f_s_CyclicStructure_F 0)) = f_s_CyclicStructure_k0 l1 s (fun s => some (.norm, f_s_CyclicStructure_fr0 l1 s)) (fun e => some (f_s_CyclicStructure_x0_1 l1 e)) (fun e => some (f_s_CyclicStructure_x0_2 l1 e)) := by kernel_rfl
theorem f_s_CyclicStructure_l0 (l1 : List Sc) : ∀ s r, loopL (f_s_CyclicStructure_r0 l1) s = some r → LS Try.prog f_s_CyclicStructure_F (bodyOf Try.f95 0) (f_s_CyclicStructure_fr0 l1 s) (enX (f_s_CyclicStructure_x0_1 l1) (f_s_CyclicStructure_x0_2 l1) r) :=
  loop_true E0ok f_s_CyclicStructure_Mt (noL_true) f_s_CyclicStructure_o (fun _ h => by cases h) (fun _ h => by cases h) (fun s => (f_s_CyclicStructure_e0 l1 s).trans (f_s_CyclicStructure_p0 l1 s _ _ (fun e => some (f_s_CyclicStructure_x0_2 l1 e))))
def f_s_CyclicStructure_t0 (σ : List AV) : Option (Bool × Bool × (X × List AV) × (X × List AV)) := match dec f_s_CyclicStructure_h0 σ with
  | some [.l l1, .i i6] => some ((loopL (f_s_CyclicStructure_r0 l1) i6).isSome, isOne (loopL (f_s_CyclicStructure_r0 l1) i6), f_s_CyclicStructure_x0_1 l1 (getOne () (loopL (f_s_CyclicStructure_r0 l1) i6)), f_s_CyclicStructure_x0_2 l1 (getTwo () (loopL (f_s_CyclicStructure_r0 l1) i6)))
  | _ => none
theorem f_s_CyclicStructure_tt0 : TTrue Try.prog f_s_CyclicStructure_F Try.f95 0 (f_s_CyclicStructure_t0) := by
  intro σ p r r' h
  unfold f_s_CyclicStructure_t0 at h
  split at h
  · rename_i hd
    rw [← dec_enc hd]
    exact row2 (f_s_CyclicStructure_l0 _ _) h
  · cases h
theorem f_s_CyclicStructure_p {R : Type} (g0 : List Sc) (l1 : List Sc) (kR : Int × Bool → Option R) : f_s_CyclicStructure_k g0 l1 kR = (f_s_CyclicStructure_k g0 l1 some).bind kR := by
  simp only [f_s_CyclicStructure_k, brB, boB, blB, someB, noneB]
theorem f_s_CyclicStructure_e (g0 : List Sc) (l1 : List Sc) : runFn E0 f_s_CyclicStructure_M H0 f_s_CyclicStructure_F (asL (addL 0 (f_s_CyclicStructure_t0) (noL))) Try.f95 (f_s_CyclicStructure_a g0 l1) (f_s_CyclicStructure_i g0 l1) = f_s_CyclicStructure_k g0 l1 (fun r => some (f_s_CyclicStructure_en r)) := by kernel_rfl
theorem f_s_CyclicStructure_ok (g0 : List Sc) (l1 : List Sc) (r : Int × Bool) (h : f_s_CyclicStructure g0 l1 = some r) : CS Try.prog 95 (f_s_CyclicStructure_a g0 l1) (f_s_CyclicStructure_i g0 l1) (f_s_CyclicStructure_en r).1 (f_s_CyclicStructure_en r).2 :=
  fn_true (Gk := fun k => f_s_CyclicStructure_k g0 l1 k) (en := f_s_CyclicStructure_en) Try.func95 E0ok f_s_CyclicStructure_Mt (addL_true (f_s_CyclicStructure_tt0) (noL_true)) f_s_CyclicStructure_o (f_s_CyclicStructure_e g0 l1) (f_s_CyclicStructure_p g0 l1) h
def f_s_CyclicStructure_c : CRow := fun args inh => match dec2 [.p .gr, .p .sl] [] args inh with
  | some ([.l g0, .l l1], []) => some ((f_s_CyclicStructure g0 l1).isSome, (f_s_CyclicStructure_en ((f_s_CyclicStructure g0 l1).getD (0, false))).1, (f_s_CyclicStructure_en ((f_s_CyclicStructure g0 l1).getD (0, false))).2)
  | _ => none
theorem f_s_CyclicStructure_cc : CTrue Try.prog 95 f_s_CyclicStructure_c := by
  intro args inh rs out h
  unfold f_s_CyclicStructure_c at h
  split at h
  · rename_i hd
    obtain ⟨h1, h2⟩ := dec2_enc hd
    rw [← h1, ← h2]
    exact rowC (f_s_CyclicStructure_ok _ _) h
  · cases h

def f_s_DrawDavenportBound_F : Fi := { nv := 5, nc := 4, m := 0, vt := [(2, 0), (4, 1), (5, 4)], kl := [], sk := [], mvs := [4], fz := [] }
def f_s_DrawDavenportBound_a (code0 : List Sc) : List AV := enc [.p .sl] [.l code0]
def f_s_DrawDavenportBound_i (code0 : List Sc) : List AV := enc [] []
def f_s_DrawDavenportBound_en (r : List Sc) : List AV × List AV := (enc [.p (.go 0)] [], enc [.own 3] [.l r])
def f_s_DrawDavenportBound_M : Calling := addC 162 f_s_l1New_c (addC 163 f_s_l2Any_io_c (noC))
theorem f_s_DrawDavenportBound_Mt : CallOk Try.prog (f_s_DrawDavenportBound_M) := addC_true f_s_l1New_cc (addC_true f_s_l2Any_io_cc (noC_true))
theorem f_s_DrawDavenportBound_o : loopsOnce Try.f96 = true := by kernel_rfl
theorem f_s_DrawDavenportBound_p {R : Type} (code0 : List Sc) (kR : List Sc → Option R) : f_s_DrawDavenportBound_k code0 kR = (f_s_DrawDavenportBound_k code0 some).bind kR := by
  simp only [f_s_DrawDavenportBound_k, boB, someB]
theorem f_s_DrawDavenportBound_e (code0 : List Sc) : runFn E0 f_s_DrawDavenportBound_M H0 f_s_DrawDavenportBound_F (asL (noL)) Try.f96 (f_s_DrawDavenportBound_a code0) (f_s_DrawDavenportBound_i code0) = f_s_DrawDavenportBound_k code0 (fun r => some (f_s_DrawDavenportBound_en r)) := by kernel_rfl
theorem f_s_DrawDavenportBound_ok (code0 : List Sc) (r : List Sc) (h : f_s_DrawDavenportBound code0 = some r) : CS Try.prog 96 (f_s_DrawDavenportBound_a code0) (f_s_DrawDavenportBound_i code0) (f_s_DrawDavenportBound_en r).1 (f_s_DrawDavenportBound_en r).2 :=
  fn_true (Gk := fun k => f_s_DrawDavenportBound_k code0 k) (en := f_s_DrawDavenportBound_en) Try.func96 E0ok f_s_DrawDavenportBound_Mt (noL_true) f_s_DrawDavenportBound_o (f_s_DrawDavenportBound_e code0) (f_s_DrawDavenportBound_p code0) h
def f_s_DrawDavenportBound_c : CRow := fun args inh => match dec2 [.p .sl] [] args inh with
  | some ([.l code0], []) => some ((f_s_DrawDavenportBound code0).isSome, (f_s_DrawDavenportBound_en ((f_s_DrawDavenportBound code0).getD [])).1, (f_s_DrawDavenportBound_en ((f_s_DrawDavenportBound code0).getD [])).2)
  | _ => none
theorem f_s_DrawDavenportBound_cc : CTrue Try.prog 96 f_s_DrawDavenportBound_c := by
  intro args inh rs out h
  unfold f_s_DrawDavenportBound_c at h
  split at h
  · rename_i hd
    obtain ⟨h1, h2⟩ := dec2_enc hd
    rw [← h1, ← h2]
    exact rowC (f_s_DrawDavenportBound_ok _) h
  · cases h

def f_l_FnDavenport_F : Fi := { nv := 10, nc := 4, m := 0, vt := [(3, 0), (12, 1), (15, 2), (21, 3), (25, 4), (28, 5), (111, 6), (134, 7), (150, 9)], kl := [(200003, ([0, 1, 2, 3, 4, 5, 6, 7, 8, 9, 11, 12, 13, 14, 15, 16, 17, 18, 19, 20, 21, 22, 23, 24, 25, 26, 27, 28, 29, 30, 31, 32, 33, 34, 35, 36, 37, 38, 39, 40, 41, 42, 43, 44, 45, 46, 47, 48, 49, 50, 51, 52, 53, 54, 55, 56, 57, 58, 59, 60, 61, 62, 63, 64, 65, 66, 67, 68, 69, 70, 71, 72, 73, 74, 75, 76, 77, 78, 79, 80, 81, 82, 83, 84, 85, 86, 87, 88, 89, 90, 91, 92, 93, 94, 95, 96, 97, 98, 99, 100, 101, 102, 103, 104, 105, 106, 107, 108, 109, 110, 111, 112, 113, 114, 115, 116, 117, 118, 119, 120, 121, 122, 123, 124, 125, 126, 127, 128, 129, 130, 131, 132, 133, 134, 135, 136, 137, 138, 139, 140, 141, 142, 143, 144, 145, 146, 147, 148, 149, 150, 151, 152, 153, 154, 155, 156, 157, 158, 159, 160, 161, 162, 163, 164, 165, 166, 167, 168, 169, 170, 171, 172, 173, 174, 175, 176, 177, 178, 179, 180, 181, 182, 183, 184, 185, 186, 187], [], [0, 1, 2, 3, 4, 5, 6, 7, 8, 9, 10, 11, 13, 14, 15, 16, 17, 18, 19, 20, 21, 22, 23, 24, 25, 26, 27, 28, 29, 30, 31, 32, 33, 34, 35, 36, 37, 38, 39, 40, 41, 42, 43, 44, 45, 46, 47, 48, 49, 50, 51, 52, 53, 54, 55, 56, 57, 58, 59, 60, 61, 62, 63, 64, 65, 66, 67, 68, 69, 70, 71, 72, 73, 74, 75, 76, 77, 78, 79, 80, 81, 82, 83, 84, 85, 86, 87, 88, 89, 90, 91, 92, 93, 94, 95, 96, 97, 98, 99, 100, 101, 102, 103, 104, 105, 106, 107, 108, 109, 110, 111, 112, 113, 114, 115, 116, 117, 118, 119, 120, 121, 122, 123, 124, 125, 126, 127, 128, 129, 130, 131, 132, 133, 134, 135, 136, 137, 138, 139, 140, 141, 142, 143, 144, 145, 146, 147, 148, 149, 150, 151, 152, 153, 154, 155, 156, 157, 158, 159, 160, 161, 162, 163, 164, 165, 166, 167, 168, 169, 170, 171, 172, 173, 174, 175, 176, 177, 178, 179, 180, 181, 182, 183, 184, 185, 186, 187])), (200010, ([1, 2, 3, 4, 5, 6, 7, 8, 9, 11, 12, 14, 17, 20, 21, 22, 23, 24, 25, 26, 27, 28, 29, 30, 31, 32, 33, 34, 35, 36, 37, 38, 39, 40, 41, 42, 43, 44, 45, 46, 47, 48, 49, 50, 51, 52, 53, 54, 55, 56, 57, 58, 59, 60, 61, 62, 63, 64, 65, 66, 67, 68, 69, 70, 71, 72, 73, 74, 75, 76, 77, 78, 79, 80, 81, 82, 83, 84, 85, 86, 87, 88, 89, 90, 91, 92, 93, 94, 95, 96, 97, 98, 99, 100, 101, 102, 103, 104, 105, 106, 107, 108, 109, 110, 111, 112, 113, 114, 115, 116, 117, 118, 119, 120, 121, 122, 123, 124, 125, 126, 127, 128, 129, 130, 131, 132, 133, 134, 135, 136, 137, 138, 139, 140, 141, 142, 143, 144, 145, 146, 147, 148, 149, 150, 151, 152, 153, 154, 155, 156, 157, 158, 159, 160, 161, 162, 163, 164, 165, 166, 167, 168, 169, 170, 171, 172, 173, 174, 175, 176, 177, 178, 179, 180, 181, 182, 183, 184, 185, 186, 187], [], [0, 1, 2, 3, 4, 5, 6, 7, 8, 9, 10, 11, 13, 14, 15, 16, 17, 18, 19, 20, 21, 22, 23, 24, 25, 26, 27, 28, 29, 30, 31, 32, 33, 34, 35, 36, 37, 38, 39, 40, 41, 42, 43, 44, 45, 46, 47, 48, 49, 50, 51, 52, 53, 54, 55, 56, 57, 58, 59, 60, 61, 62, 63, 64, 65, 66, 67, 68, 69, 70, 71, 72, 73, 74, 75, 76, 77, 78, 79, 80, 81, 82, 83, 84, 85, 86, 87, 88, 89, 90, 91, 92, 93, 94, 95, 96, 97, 98, 99, 100, 101, 102, 103, 104, 105, 106, 107, 108, 109, 110, 111, 112, 113, 114, 115, 116, 117, 118, 119, 120, 121, 122, 123, 124, 125, 126, 127, 128, 129, 130, 131, 132, 133, 134, 135, 136, 137, 138, 139, 140, 141, 142, 143, 144, 145, 146, 147, 148, 149, 150, 151, 152, 153, 154, 155, 156, 157, 158, 159, 160, 161, 162, 163, 164, 165, 166, 167, 168, 169, 170, 171, 172, 173, 174, 175, 176, 177, 178, 179, 180, 181, 182, 183, 184, 185, 186, 187])), (200012, ([1, 2, 3, 4, 5, 6, 7, 8, 9, 11, 12, 14, 17, 18, 19, 20, 21, 22, 23, 24, 25, 26, 27, 28, 29, 30, 31, 32, 33, 34, 35, 36, 37, 38, 39, 40, 41, 42, 43, 44, 45, 46, 47, 48, 49, 50, 51, 52, 53, 54, 55, 56, 57, 58, 59, 60, 61, 62, 63, 64, 65, 66, 67, 68, 69, 70, 71, 72, 73, 74, 75, 76, 77, 78, 79, 80, 81, 82, 83, 84, 85, 86, 87, 88, 89, 90, 91, 92, 93, 94, 95, 96, 97, 98, 99, 100, 101, 102, 103, 104, 105, 106, 107, 108, 109, 110, 111, 112, 113, 114, 115, 116, 117, 118, 119, 120, 121, 122, 123, 124, 125, 126, 127, 128, 129, 130, 131, 132, 133, 134, 135, 136, 137, 138, 139, 140, 141, 142, 143, 144, 145, 146, 147, 148, 149, 150, 151, 152, 153, 154, 155, 156, 157, 158, 159, 160, 161, 162, 163, 164, 165, 166, 167, 168, 169, 170, 171, 172, 173, 174, 175, 176, 177, 178, 179, 180, 181, 182, 183, 184, 185, 186, 187], [], [0, 1, 2, 3, 4, 5, 6, 7, 8, 9, 10, 11, 13, 14, 15, 16, 17, 18, 19, 20, 21, 22, 23, 24, 25, 26, 27, 28, 29, 30, 31, 32, 33, 34, 35, 36, 37, 38, 39, 40, 41, 42, 43, 44, 45, 46, 47, 48, 49, 50, 51, 52, 53, 54, 55, 56, 57, 58, 59, 60, 61, 62, 63, 64, 65, 66, 67, 68, 69, 70, 71, 72, 73, 74, 75, 76, 77, 78, 79, 80, 81, 82, 83, 84, 85, 86, 87, 88, 89, 90, 91, 92, 93, 94, 95, 96, 97, 98, 99, 100, 101, 102, 103, 104, 105, 106, 107, 108, 109, 110, 111, 112, 113, 114, 115, 116, 117, 118, 119, 120, 121, 122, 123, 124, 125, 126, 127, 128, 129, 130, 131, 132, 133, 134, 135, 136, 137, 138, 139, 140, 141, 142, 143, 144, 145, 146, 147, 148, 149, 150, 151, 152, 153, 154, 155, 156, 157, 158, 159, 160, 161, 162, 163, 164, 165, 166, 167, 168, 169, 170, 171, 172, 173, 174, 175, 176, 177, 178, 179, 180, 181, 182, 183, 184, 185, 186, 187])), (200016, ([0, 1, 2, 3, 4, 5, 6, 7, 8, 9, 11, 12, 13, 14, 15, 16, 17, 18, 19, 20, 21, 22, 23, 24, 25, 26, 27, 28, 29, 30, 31, 32, 33, 34, 35, 36, 37, 38, 39, 40, 41, 42, 43, 44, 45, 46, 47, 48, 49, 50, 51, 52, 53, 54, 55, 56, 57, 58, 59, 60, 61, 62, 63, 64, 65, 66, 67, 68, 69, 70, 71, 72, 73, 74, 75, 76, 77, 78, 79, 80, 81, 82, 83, 84, 85, 86, 87, 88, 89, 90, 91, 92, 93, 94, 95, 96, 97, 98, 99, 100, 101, 102, 103, 104, 105, 106, 107, 108, 109, 110, 111, 112, 113, 114, 115, 116, 117, 118, 119, 120, 121, 122, 123, 124, 125, 126, 127, 128, 129, 130, 131, 132, 133, 134, 135, 136, 137, 138, 139, 140, 141, 142, 143, 144, 145, 146, 147, 148, 149, 150, 151, 152, 153, 154, 155, 156, 157, 158, 159, 160, 161, 162, 163, 164, 165, 166, 167, 168, 169, 170, 171, 172, 173, 174, 175, 176, 177, 178, 179, 180, 181, 182, 183, 184, 185, 186, 187], [], [0, 1, 2, 3, 4, 5, 6, 7, 8, 9, 10, 11, 13, 14, 15, 16, 17, 18, 19, 20, 21, 22, 23, 24, 25, 26, 27, 28, 29, 30, 31, 32, 33, 34, 35, 36, 37, 38, 39, 40, 41, 42, 43, 44, 45, 46, 47, 48, 49, 50, 51, 52, 53, 54, 55, 56, 57, 58, 59, 60, 61, 62, 63, 64, 65, 66, 67, 68, 69, 70, 71, 72, 73, 74, 75, 76, 77, 78, 79, 80, 81, 82, 83, 84, 85, 86, 87, 88, 89, 90, 91, 92, 93, 94, 95, 96, 97, 98, 99, 100, 101, 102, 103, 104, 105, 106, 107, 108, 109, 110, 111, 112, 113, 114, 115, 116, 117, 118, 119, 120, 121, 122, 123, 124, 125, 126, 127, 128, 129, 130, 131, 132, 133, 134, 135, 136, 137, 138, 139, 140, 141, 142, 143, 144, 145, 146, 147, 148, 149, 150, 151, 152, 153, 154, 155, 156, 157, 158, 159, 160, 161, 162, 163, 164, 165, 166, 167, 168, 169, 170, 171, 172, 173, 174, 175, 176, 177, 178, 179, 180, 181, 182, 183, 184, 185, 186, 187])), (200020, ([0, 1, 2, 3, 4, 5, 6, 7, 8, 9, 11, 12, 13, 14, 15, 16, 17, 18, 19, 20, 21, 22, 23, 24, 25, 26, 27, 28, 29, 30, 31, 32, 33, 34, 35, 36, 37, 38, 39, 40, 41, 42, 43, 44, 45, 46, 47, 48, 49, 50, 51, 52, 53, 54, 55, 56, 57, 58, 59, 60, 61, 62, 63, 64, 65, 66, 67, 68, 69, 70, 71, 72, 73, 74, 75, 76, 77, 78, 79, 80, 81, 82, 83, 84, 85, 86, 87, 88, 89, 90, 91, 92, 93, 94, 95, 96, 97, 98, 99, 100, 101, 102, 103, 104, 105, 106, 107, 108, 109, 110, 111, 112, 113, 114, 115, 116, 117, 118, 119, 120, 121, 122, 123, 124, 125, 126, 127, 128, 129, 130, 131, 132, 133, 134, 135, 136, 137, 138, 139, 140, 141, 142, 143, 144, 145, 146, 147, 148, 149, 150, 151, 152, 153, 154, 155, 156, 157, 158, 159, 160, 161, 162, 163, 164, 165, 166, 167, 168, 169, 170, 171, 172, 173, 174, 175, 176, 177, 178, 179, 180, 181, 182, 183, 184, 185, 186, 187], [], [0, 1, 2, 3, 4, 5, 6, 7, 8, 9, 10, 11, 13, 14, 15, 16, 17, 18, 19, 20, 21, 22, 23, 24, 25, 26, 27, 28, 29, 30, 31, 32, 33, 34, 35, 36, 37, 38, 39, 40, 41, 42, 43, 44, 45, 46, 47, 48, 49, 50, 51, 52, 53, 54, 55, 56, 57, 58, 59, 60, 61, 62, 63, 64, 65, 66, 67, 68, 69, 70, 71, 72, 73, 74, 75, 76, 77, 78, 79, 80, 81, 82, 83, 84, 85, 86, 87, 88, 89, 90, 91, 92, 93, 94, 95, 96, 97, 98, 99, 100, 101, 102, 103, 104, 105, 106, 107, 108, 109, 110, 111, 112, 113, 114, 115, 116, 117, 118, 119, 120, 121, 122, 123, 124, 125, 126, 127, 128, 129, 130, 131, 132, 133, 134, 135, 136, 137, 138, 139, 140, 141, 142, 143, 144, 145, 146, 147, 148, 149, 150, 151, 152, 153, 154, 155, 156, 157, 158, 159, 160, 161, 162, 163, 164, 165, 166, 167, 168, 169, 170, 171, 172, 173, 174, 175, 176, 177, 178, 179, 180, 181, 182, 183, 184, 185, 186, 187]))], sk := [], mvs := [4, 5, 6, 7, 8, 9], fz := [], tl := [3, 10, 12, 16, 20] }
def f_l_FnDavenport_a (L0 : List Sc) : List AV := enc [.p .sl] [.l L0]
def f_l_FnDavenport_i (L0 : List Sc) : List AV := enc [] []
def f_l_FnDavenport_en (r : Bool) : List AV × List AV := (enc [.p .boo] [.b r], enc [] [])
def f_l_FnDavenport_M : Calling := addC 9 f_l_big_c (addC 81 f_s_DrawLongestZeroFree_c (addC 82 f_i_LongestZeroFree_c (addC 83 f_s_LongestZeroFree_c (addC 84 f_i_DavenportConstant_c (addC 85 f_i_DavenportBound_c (addC 24 f_l_sameInts_c (addC 86 f_s_DavenportConstant_c (addC 87 f_s_DavenportBound_c (addC 88 f_i_IsZeroFree_c (addC 72 f_s_OrderOf_c (addC 89 f_i_CyclicStructure_c (addC 90 f_i_OrderOfElement_c (addC 91 f_s_DrawCountZeroFree_c (addC 92 f_i_CountZeroFree_c (addC 93 f_s_CountZeroFree_c (addC 94 f_s_DrawCyclicStructure_c (addC 95 f_s_CyclicStructure_c (addC 96 f_s_DrawDavenportBound_c (noC)))))))))))))))))))
theorem f_l_FnDavenport_Mt : CallOk Try.prog (f_l_FnDavenport_M) := addC_true f_l_big_cc (addC_true f_s_DrawLongestZeroFree_cc (addC_true f_i_LongestZeroFree_cc (addC_true f_s_LongestZeroFree_cc (addC_true f_i_DavenportConstant_cc (addC_true f_i_DavenportBound_cc (addC_true f_l_sameInts_cc (addC_true f_s_DavenportConstant_cc (addC_true f_s_DavenportBound_cc (addC_true f_i_IsZeroFree_cc (addC_true f_s_OrderOf_cc (addC_true f_i_CyclicStructure_cc (addC_true f_i_OrderOfElement_cc (addC_true f_s_DrawCountZeroFree_cc (addC_true f_i_CountZeroFree_cc (addC_true f_s_CountZeroFree_cc (addC_true f_s_DrawCyclicStructure_cc (addC_true f_s_CyclicStructure_cc (addC_true f_s_DrawDavenportBound_cc (noC_true)))))))))))))))))))
theorem f_l_FnDavenport_o : loopsOnce Try.f7 = true := by kernel_rfl
def f_l_FnDavenport_hw20 : List Sh := [.u, .u, .u, .u, .u, .u, .u, .u, .u, .u, .p .sl, .u, .u, .u, .u, .u, .u, .u, .u, .u, .u, .u, .u, .u, .u, .u, .u, .u, .u, .u, .u, .u, .u, .u, .u, .u, .u, .u, .u, .u, .u, .u, .u, .u, .u, .u, .u, .u, .u, .u, .u, .u, .u, .u, .u, .u, .u, .u, .u, .u, .u, .u, .u, .u, .u, .u, .u, .u, .u, .u, .u, .u, .u, .u, .u, .u, .u, .u, .u, .u, .u, .u, .u, .u, .u, .u, .u, .u, .u, .u, .u, .u, .u, .u, .u, .u, .u, .u, .u, .u, .u, .u, .u, .u, .u, .u, .u, .u, .u, .u, .u, .u, .u, .u, .u, .u, .u, .u, .u, .u, .u, .u, .u, .u, .u, .u, .u, .u, .u, .u, .u, .u, .u, .u, .u, .u, .u, .u, .u, .u, .u, .u, .u, .u, .u, .u, .u, .u, .u, .u, .u, .u, .u, .u, .u, .u, .u, .u, .u, .u, .u, .u, .u, .u, .u, .u, .u, .u, .u, .u, .u, .u, .u, .u, .u, .u, .u, .u, .u, .u, .u, .u, .u, .u, .u, .u, .u, .u]
def f_l_FnDavenport_frw20 (t0 : List Sc) : List AV := enc f_l_FnDavenport_hw20 [.l t0]
def f_l_FnDavenport_xw20 (t0 : List Sc) (e : Bool) : X × List AV := (.norm, enc [.u, .u, .u, .u, .u, .u, .u, .u, .u, .u, .u, .u, .p .boo, .u, .u, .u, .u, .u, .u, .u, .u, .u, .u, .u, .u, .u, .u, .u, .u, .u, .u, .u, .u, .u, .u, .u, .u, .u, .u, .u, .u, .u, .u, .u, .u, .u, .u, .u, .u, .u, .u, .u, .u, .u, .u, .u, .u, .u, .u, .u, .u, .u, .u, .u, .u, .u, .u, .u, .u, .u, .u, .u, .u, .u, .u, .u, .u, .u, .u, .u, .u, .u, .u, .u, .u, .u, .u, .u, .u, .u, .u, .u, .u, .u, .u, .u, .u, .u, .u, .u, .u, .u, .u, .u, .u, .u, .u, .u, .u, .u, .u, .u, .u, .u, .u, .u, .u, .u, .u, .u, .u, .u, .u, .u, .u, .u, .u, .u, .u, .u, .u, .u, .u, .u, .u, .u, .u, .u, .u, .u, .u, .u, .u, .u, .u, .u, .u, .u, .u, .u, .u, .u, .u, .u, .u, .u, .u, .u, .u, .u, .u, .u, .u, .u, .u, .u, .u, .u, .u, .u, .u, .u, .u, .u, .u, .u, .u, .u, .u, .u, .u, .u, .u, .u, .u, .u, .u, .u] [.b e])
theorem f_l_FnDavenport_pw20 {R : Type} (t0 : List Sc) (kA : Bool → Option R) : f_l_FnDavenport_w20_k t0 kA = (f_l_FnDavenport_w20 t0).bind kA := by
  simp only [f_l_FnDavenport_w20_k, f_l_FnDavenport_w20, brB, boB, someB]
theorem f_l_FnDavenport_bw20 : bodyOf Try.f7 200020 = .block 0 (codeIn (bodyOf Try.f7 200020)) := by kernel_rfl
theorem f_l_FnDavenport_ew20 (t0 : List Sc) : EC E0 f_l_FnDavenport_M H0 f_l_FnDavenport_F (asL (noL)) 0 (codeIn (bodyOf Try.f7 200020)) (f_l_FnDavenport_frw20 t0) (doneT (klOf f_l_FnDavenport_F 200020).2.2) = f_l_FnDavenport_w20_k t0 (fun e => some (f_l_FnDavenport_xw20 t0 e)) := by kernel_rfl
theorem f_l_FnDavenport_lw20 (t0 : List Sc) (r : Bool) (h : f_l_FnDavenport_w20 t0 = some r) : LS Try.prog f_l_FnDavenport_F (bodyOf Try.f7 200020) (f_l_FnDavenport_frw20 t0) (f_l_FnDavenport_xw20 t0 r) :=
  tail_true (S := Unit) (id := 20) (G := fun _ => f_l_FnDavenport_w20 t0) (Gk := fun _ k => f_l_FnDavenport_w20_k t0 k) (fr := fun _ => f_l_FnDavenport_frw20 t0) (f1 := fun e => f_l_FnDavenport_xw20 t0 e) E0ok f_l_FnDavenport_Mt (noL_true) f_l_FnDavenport_o f_l_FnDavenport_bw20 (fun _ => rfl) (fun _ => f_l_FnDavenport_ew20 t0) (fun _ k => f_l_FnDavenport_pw20 t0 k) () r h
def f_l_FnDavenport_tw20 (σ : List AV) : Option (Bool × Bool × (X × List AV) × (X × List AV)) := match dec f_l_FnDavenport_hw20 σ with
  | some [.l t0] => some ((f_l_FnDavenport_w20 t0).isSome, true, f_l_FnDavenport_xw20 t0 ((f_l_FnDavenport_w20 t0).getD false), (.ret, []))
  | _ => none
theorem f_l_FnDavenport_ttw20 : TTrue Try.prog f_l_FnDavenport_F Try.f7 200020 f_l_FnDavenport_tw20 := by
  intro σ p r r' h
  unfold f_l_FnDavenport_tw20 at h
  split at h
  · rename_i hd
    rw [← dec_enc hd]
    exact rowR (f_l_FnDavenport_lw20 _) h
  · cases h
def f_l_FnDavenport_hw16 : List Sh := [.u, .u, .u, .u, .u, .u, .u, .u, .u, .u, .p .sl, .u, .u, .u, .u, .u, .u, .u, .u, .u, .u, .u, .u, .u, .u, .u, .u, .u, .u, .u, .u, .u, .u, .u, .u, .u, .u, .u, .u, .u, .u, .u, .u, .u, .u, .u, .u, .u, .u, .u, .u, .u, .u, .u, .u, .u, .u, .u, .u, .u, .u, .u, .u, .u, .u, .u, .u, .u, .u, .u, .u, .u, .u, .u, .u, .u, .u, .u, .u, .u, .u, .u, .u, .u, .u, .u, .u, .u, .u, .u, .u, .u, .u, .u, .u, .u, .u, .u, .u, .u, .u, .u, .u, .u, .u, .u, .u, .u, .u, .u, .u, .u, .u, .u, .u, .u, .u, .u, .u, .u, .u, .u, .u, .u, .u, .u, .u, .u, .u, .u, .u, .u, .u, .u, .u, .u, .u, .u, .u, .u, .u, .u, .u, .u, .u, .u, .u, .u, .u, .u, .u, .u, .u, .u, .u, .u, .u, .u, .u, .u, .u, .u, .u, .u, .u, .u, .u, .u, .u, .u, .u, .u, .u, .u, .u, .u, .u, .u, .u, .u, .u, .u, .u, .u, .u, .u, .u, .u]
def f_l_FnDavenport_frw16 (t0 : List Sc) : List AV := enc f_l_FnDavenport_hw16 [.l t0]
def f_l_FnDavenport_xw16 (t0 : List Sc) (e : Bool) : X × List AV := (.norm, enc [.u, .u, .u, .u, .u, .u, .u, .u, .u, .u, .u, .u, .p .boo, .u, .u, .u, .u, .u, .u, .u, .u, .u, .u, .u, .u, .u, .u, .u, .u, .u, .u, .u, .u, .u, .u, .u, .u, .u, .u, .u, .u, .u, .u, .u, .u, .u, .u, .u, .u, .u, .u, .u, .u, .u, .u, .u, .u, .u, .u, .u, .u, .u, .u, .u, .u, .u, .u, .u, .u, .u, .u, .u, .u, .u, .u, .u, .u, .u, .u, .u, .u, .u, .u, .u, .u, .u, .u, .u, .u, .u, .u, .u, .u, .u, .u, .u, .u, .u, .u, .u, .u, .u, .u, .u, .u, .u, .u, .u, .u, .u, .u, .u, .u, .u, .u, .u, .u, .u, .u, .u, .u, .u, .u, .u, .u, .u, .u, .u, .u, .u, .u, .u, .u, .u, .u, .u, .u, .u, .u, .u, .u, .u, .u, .u, .u, .u, .u, .u, .u, .u, .u, .u, .u, .u, .u, .u, .u, .u, .u, .u, .u, .u, .u, .u, .u, .u, .u, .u, .u, .u, .u, .u, .u, .u, .u, .u, .u, .u, .u, .u, .u, .u, .u, .u, .u, .u, .u, .u] [.b e])
theorem f_l_FnDavenport_pw16 {R : Type} (t0 : List Sc) (kA : Bool → Option R) : f_l_FnDavenport_w16_k t0 kA = (f_l_FnDavenport_w16 t0).bind kA := by
  simp only [f_l_FnDavenport_w16_k, f_l_FnDavenport_w16, brB, boB, someB]
theorem f_l_FnDavenport_bw16 : bodyOf Try.f7 200016 = .block 0 (codeIn (bodyOf Try.f7 200016)) := by kernel_rfl
theorem f_l_FnDavenport_ew16 (t0 : List Sc) : EC E0 f_l_FnDavenport_M H0 f_l_FnDavenport_F (asL (addL 200020 f_l_FnDavenport_tw20 (noL))) 0 (codeIn (bodyOf Try.f7 200016)) (f_l_FnDavenport_frw16 t0) (doneT (klOf f_l_FnDavenport_F 200016).2.2) = f_l_FnDavenport_w16_k t0 (fun e => some (f_l_FnDavenport_xw16 t0 e)) := by kernel_rfl
theorem f_l_FnDavenport_lw16 (t0 : List Sc) (r : Bool) (h : f_l_FnDavenport_w16 t0 = some r) : LS Try.prog f_l_FnDavenport_F (bodyOf Try.f7 200016) (f_l_FnDavenport_frw16 t0) (f_l_FnDavenport_xw16 t0 r) :=
  tail_true (S := Unit) (id := 16) (G := fun _ => f_l_FnDavenport_w16 t0) (Gk := fun _ k => f_l_FnDavenport_w16_k t0 k) (fr := fun _ => f_l_FnDavenport_frw16 t0) (f1 := fun e => f_l_FnDavenport_xw16 t0 e) E0ok f_l_FnDavenport_Mt (addL_true f_l_FnDavenport_ttw20 (noL_true)) f_l_FnDavenport_o f_l_FnDavenport_bw16 (fun _ => rfl) (fun _ => f_l_FnDavenport_ew16 t0) (fun _ k => f_l_FnDavenport_pw16 t0 k) () r h
def f_l_FnDavenport_tw16 (σ : List AV) : Option (Bool × Bool × (X × List AV) × (X × List AV)) := match dec f_l_FnDavenport_hw16 σ with
  | some [.l t0] => some ((f_l_FnDavenport_w16 t0).isSome, true, f_l_FnDavenport_xw16 t0 ((f_l_FnDavenport_w16 t0).getD false), (.ret, []))
  | _ => none
theorem f_l_FnDavenport_ttw16 : TTrue Try.prog f_l_FnDavenport_F Try.f7 200016 f_l_FnDavenport_tw16 := by
  intro σ p r r' h
  unfold f_l_FnDavenport_tw16 at h
  split at h
  · rename_i hd
    rw [← dec_enc hd]
    exact rowR (f_l_FnDavenport_lw16 _) h
  · cases h
def f_l_FnDavenport_hw12 : List Sh := [.fr 3, .u, .u, .u, .u, .u, .u, .u, .u, .u, .p .sl, .u, .u, .p (.pt 0 1), .u, .p .boo, .p .sl, .u, .u, .u, .u, .u, .u, .u, .u, .u, .u, .u, .u, .u, .u, .u, .u, .u, .u, .u, .u, .u, .u, .u, .u, .u, .u, .u, .u, .u, .u, .u, .u, .u, .u, .u, .u, .u, .u, .u, .u, .u, .u, .u, .u, .u, .u, .u, .u, .u, .u, .u, .u, .u, .u, .u, .u, .u, .u, .u, .u, .u, .u, .u, .u, .u, .u, .u, .u, .u, .u, .u, .u, .u, .u, .u, .u, .u, .u, .u, .u, .u, .u, .u, .u, .u, .u, .u, .u, .u, .u, .u, .u, .u, .u, .u, .u, .u, .u, .u, .u, .u, .u, .u, .u, .u, .u, .u, .u, .u, .u, .u, .u, .u, .u, .u, .u, .u, .u, .u, .u, .u, .u, .u, .u, .u, .u, .u, .u, .u, .u, .u, .u, .u, .u, .u, .u, .u, .u, .u, .u, .u, .u, .u, .u, .u, .u, .u, .u, .u, .u, .u, .u, .u, .u, .u, .u, .u, .u, .u, .u, .u, .u, .u, .u, .u, .u, .u, .u, .u, .u, .u]
def f_l_FnDavenport_frw12 (v0 : List Sc) (t0 : List Sc) (t5 : Bool) (t6 : List Sc) : List AV := enc f_l_FnDavenport_hw12 [.l v0, .l t0, .b t5, .l t6]
def f_l_FnDavenport_xw12 (v0 : List Sc) (t0 : List Sc) (t5 : Bool) (t6 : List Sc) (e : Bool) : X × List AV := (.norm, enc [.u, .u, .u, .u, .u, .u, .u, .u, .u, .u, .u, .u, .p .boo, .u, .u, .u, .u, .u, .u, .u, .u, .u, .u, .u, .u, .u, .u, .u, .u, .u, .u, .u, .u, .u, .u, .u, .u, .u, .u, .u, .u, .u, .u, .u, .u, .u, .u, .u, .u, .u, .u, .u, .u, .u, .u, .u, .u, .u, .u, .u, .u, .u, .u, .u, .u, .u, .u, .u, .u, .u, .u, .u, .u, .u, .u, .u, .u, .u, .u, .u, .u, .u, .u, .u, .u, .u, .u, .u, .u, .u, .u, .u, .u, .u, .u, .u, .u, .u, .u, .u, .u, .u, .u, .u, .u, .u, .u, .u, .u, .u, .u, .u, .u, .u, .u, .u, .u, .u, .u, .u, .u, .u, .u, .u, .u, .u, .u, .u, .u, .u, .u, .u, .u, .u, .u, .u, .u, .u, .u, .u, .u, .u, .u, .u, .u, .u, .u, .u, .u, .u, .u, .u, .u, .u, .u, .u, .u, .u, .u, .u, .u, .u, .u, .u, .u, .u, .u, .u, .u, .u, .u, .u, .u, .u, .u, .u, .u, .u, .u, .u, .u, .u, .u, .u, .u, .u, .u, .u] [.b e])
theorem f_l_FnDavenport_pw12 {R : Type} (v0 : List Sc) (t0 : List Sc) (t5 : Bool) (t6 : List Sc) (kA : Bool → Option R) : f_l_FnDavenport_w12_k v0 t0 t5 t6 kA = (f_l_FnDavenport_w12 v0 t0 t5 t6).bind kA := by
  simp only [f_l_FnDavenport_w12_k, f_l_FnDavenport_w12, brB, boB, someB]
theorem f_l_FnDavenport_bw12 : bodyOf Try.f7 200012 = .block 0 (codeIn (bodyOf Try.f7 200012)) := by kernel_rfl
theorem f_l_FnDavenport_ew12 (v0 : List Sc) (t0 : List Sc) (t5 : Bool) (t6 : List Sc) : EC E0 f_l_FnDavenport_M H0 f_l_FnDavenport_F (asL (addL 200016 f_l_FnDavenport_tw16 (addL 200020 f_l_FnDavenport_tw20 (noL)))) 0 (codeIn (bodyOf Try.f7 200012)) (f_l_FnDavenport_frw12 v0 t0 t5 t6) (doneT (klOf f_l_FnDavenport_F 200012).2.2) = f_l_FnDavenport_w12_k v0 t0 t5 t6 (fun e => some (f_l_FnDavenport_xw12 v0 t0 t5 t6 e)) := by kernel_rfl
theorem f_l_FnDavenport_lw12 (v0 : List Sc) (t0 : List Sc) (t5 : Bool) (t6 : List Sc) (r : Bool) (h : f_l_FnDavenport_w12 v0 t0 t5 t6 = some r) : LS Try.prog f_l_FnDavenport_F (bodyOf Try.f7 200012) (f_l_FnDavenport_frw12 v0 t0 t5 t6) (f_l_FnDavenport_xw12 v0 t0 t5 t6 r) :=
  tail_true (S := Unit) (id := 12) (G := fun _ => f_l_FnDavenport_w12 v0 t0 t5 t6) (Gk := fun _ k => f_l_FnDavenport_w12_k v0 t0 t5 t6 k) (fr := fun _ => f_l_FnDavenport_frw12 v0 t0 t5 t6) (f1 := fun e => f_l_FnDavenport_xw12 v0 t0 t5 t6 e) E0ok f_l_FnDavenport_Mt (addL_true f_l_FnDavenport_ttw16 (addL_true f_l_FnDavenport_ttw20 (noL_true))) f_l_FnDavenport_o f_l_FnDavenport_bw12 (fun _ => rfl) (fun _ => f_l_FnDavenport_ew12 v0 t0 t5 t6) (fun _ k => f_l_FnDavenport_pw12 v0 t0 t5 t6 k) () r h
def f_l_FnDavenport_tw12 (σ : List AV) : Option (Bool × Bool × (X × List AV) × (X × List AV)) := match dec f_l_FnDavenport_hw12 σ with
  | some [.l v0, .l t0, .b t5, .l t6] => some ((f_l_FnDavenport_w12 v0 t0 t5 t6).isSome, true, f_l_FnDavenport_xw12 v0 t0 t5 t6 ((f_l_FnDavenport_w12 v0 t0 t5 t6).getD false), (.ret, []))
  | _ => none
theorem f_l_FnDavenport_ttw12 : TTrue Try.prog f_l_FnDavenport_F Try.f7 200012 f_l_FnDavenport_tw12 := by
  intro σ p r r' h
  unfold f_l_FnDavenport_tw12 at h
  split at h
  · rename_i hd
    rw [← dec_enc hd]
    exact rowR (f_l_FnDavenport_lw12 _ _ _ _) h
  · cases h
def f_l_FnDavenport_hw10 : List Sh := [.fr 3, .u, .u, .u, .u, .u, .u, .u, .u, .u, .p .sl, .u, .u, .p (.pt 0 1), .u, .p .boo, .p .sl, .u, .p (.int .i64), .p (.int .i64), .u, .u, .u, .u, .u, .u, .u, .u, .u, .u, .u, .u, .u, .u, .u, .u, .u, .u, .u, .u, .u, .u, .u, .u, .u, .u, .u, .u, .u, .u, .u, .u, .u, .u, .u, .u, .u, .u, .u, .u, .u, .u, .u, .u, .u, .u, .u, .u, .u, .u, .u, .u, .u, .u, .u, .u, .u, .u, .u, .u, .u, .u, .u, .u, .u, .u, .u, .u, .u, .u, .u, .u, .u, .u, .u, .u, .u, .u, .u, .u, .u, .u, .u, .u, .u, .u, .u, .u, .u, .u, .u, .u, .u, .u, .u, .u, .u, .u, .u, .u, .u, .u, .u, .u, .u, .u, .u, .u, .u, .u, .u, .u, .u, .u, .u, .u, .u, .u, .u, .u, .u, .u, .u, .u, .u, .u, .u, .u, .u, .u, .u, .u, .u, .u, .u, .u, .u, .u, .u, .u, .u, .u, .u, .u, .u, .u, .u, .u, .u, .u, .u, .u, .u, .u, .u, .u, .u, .u, .u, .u, .u, .u, .u, .u, .u, .u, .u, .u]
def f_l_FnDavenport_frw10 (v0 : List Sc) (t0 : List Sc) (t5 : Bool) (t6 : List Sc) (t8 : Int) (t9 : Int) : List AV := enc f_l_FnDavenport_hw10 [.l v0, .l t0, .b t5, .l t6, .i t8, .i t9]
def f_l_FnDavenport_xw10 (v0 : List Sc) (t0 : List Sc) (t5 : Bool) (t6 : List Sc) (t8 : Int) (t9 : Int) (e : Bool) : X × List AV := (.norm, enc [.u, .u, .u, .u, .u, .u, .u, .u, .u, .u, .u, .u, .p .boo, .u, .u, .u, .u, .u, .u, .u, .u, .u, .u, .u, .u, .u, .u, .u, .u, .u, .u, .u, .u, .u, .u, .u, .u, .u, .u, .u, .u, .u, .u, .u, .u, .u, .u, .u, .u, .u, .u, .u, .u, .u, .u, .u, .u, .u, .u, .u, .u, .u, .u, .u, .u, .u, .u, .u, .u, .u, .u, .u, .u, .u, .u, .u, .u, .u, .u, .u, .u, .u, .u, .u, .u, .u, .u, .u, .u, .u, .u, .u, .u, .u, .u, .u, .u, .u, .u, .u, .u, .u, .u, .u, .u, .u, .u, .u, .u, .u, .u, .u, .u, .u, .u, .u, .u, .u, .u, .u, .u, .u, .u, .u, .u, .u, .u, .u, .u, .u, .u, .u, .u, .u, .u, .u, .u, .u, .u, .u, .u, .u, .u, .u, .u, .u, .u, .u, .u, .u, .u, .u, .u, .u, .u, .u, .u, .u, .u, .u, .u, .u, .u, .u, .u, .u, .u, .u, .u, .u, .u, .u, .u, .u, .u, .u, .u, .u, .u, .u, .u, .u, .u, .u, .u, .u, .u, .u] [.b e])
theorem f_l_FnDavenport_pw10 {R : Type} (v0 : List Sc) (t0 : List Sc) (t5 : Bool) (t6 : List Sc) (t8 : Int) (t9 : Int) (kA : Bool → Option R) : f_l_FnDavenport_w10_k v0 t0 t5 t6 t8 t9 kA = (f_l_FnDavenport_w10 v0 t0 t5 t6 t8 t9).bind kA := by
  simp only [f_l_FnDavenport_w10_k, f_l_FnDavenport_w10, brB, boB, someB]
theorem f_l_FnDavenport_bw10 : bodyOf Try.f7 200010 = .block 0 (codeIn (bodyOf Try.f7 200010)) := by kernel_rfl
theorem f_l_FnDavenport_ew10 (v0 : List Sc) (t0 : List Sc) (t5 : Bool) (t6 : List Sc) (t8 : Int) (t9 : Int) : EC E0 f_l_FnDavenport_M H0 f_l_FnDavenport_F (asL (addL 200012 f_l_FnDavenport_tw12 (addL 200016 f_l_FnDavenport_tw16 (addL 200020 f_l_FnDavenport_tw20 (noL))))) 0 (codeIn (bodyOf Try.f7 200010)) (f_l_FnDavenport_frw10 v0 t0 t5 t6 t8 t9) (doneT (klOf f_l_FnDavenport_F 200010).2.2) = f_l_FnDavenport_w10_k v0 t0 t5 t6 t8 t9 (fun e => some (f_l_FnDavenport_xw10 v0 t0 t5 t6 t8 t9 e)) := by kernel_rfl
theorem f_l_FnDavenport_lw10 (v0 : List Sc) (t0 : List Sc) (t5 : Bool) (t6 : List Sc) (t8 : Int) (t9 : Int) (r : Bool) (h : f_l_FnDavenport_w10 v0 t0 t5 t6 t8 t9 = some r) : LS Try.prog f_l_FnDavenport_F (bodyOf Try.f7 200010) (f_l_FnDavenport_frw10 v0 t0 t5 t6 t8 t9) (f_l_FnDavenport_xw10 v0 t0 t5 t6 t8 t9 r) :=
  tail_true (S := Unit) (id := 10) (G := fun _ => f_l_FnDavenport_w10 v0 t0 t5 t6 t8 t9) (Gk := fun _ k => f_l_FnDavenport_w10_k v0 t0 t5 t6 t8 t9 k) (fr := fun _ => f_l_FnDavenport_frw10 v0 t0 t5 t6 t8 t9) (f1 := fun e => f_l_FnDavenport_xw10 v0 t0 t5 t6 t8 t9 e) E0ok f_l_FnDavenport_Mt (addL_true f_l_FnDavenport_ttw12 (addL_true f_l_FnDavenport_ttw16 (addL_true f_l_FnDavenport_ttw20 (noL_true)))) f_l_FnDavenport_o f_l_FnDavenport_bw10 (fun _ => rfl) (fun _ => f_l_FnDavenport_ew10 v0 t0 t5 t6 t8 t9) (fun _ k => f_l_FnDavenport_pw10 v0 t0 t5 t6 t8 t9 k) () r h
def f_l_FnDavenport_tw10 (σ : List AV) : Option (Bool × Bool × (X × List AV) × (X × List AV)) := match dec f_l_FnDavenport_hw10 σ with
  | some [.l v0, .l t0, .b t5, .l t6, .i t8, .i t9] => some ((f_l_FnDavenport_w10 v0 t0 t5 t6 t8 t9).isSome, true, f_l_FnDavenport_xw10 v0 t0 t5 t6 t8 t9 ((f_l_FnDavenport_w10 v0 t0 t5 t6 t8 t9).getD false), (.ret, []))
  | _ => none
theorem f_l_FnDavenport_ttw10 : TTrue Try.prog f_l_FnDavenport_F Try.f7 200010 f_l_FnDavenport_tw10 := by
  intro σ p r r' h
  unfold f_l_FnDavenport_tw10 at h
  split at h
  · rename_i hd
    rw [← dec_enc hd]
    exact rowR (f_l_FnDavenport_lw10 _ _ _ _ _ _) h
  · cases h
def f_l_FnDavenport_hw3 : List Sh := [.u, .u, .u, .u, .u, .u, .u, .u, .u, .u, .p .sl, .u, .u, .u, .u, .u, .u, .u, .u, .u, .u, .u, .u, .u, .u, .u, .u, .u, .u, .u, .u, .u, .u, .u, .u, .u, .u, .u, .u, .u, .u, .u, .u, .u, .u, .u, .u, .u, .u, .u, .u, .u, .u, .u, .u, .u, .u, .u, .u, .u, .u, .u, .u, .u, .u, .u, .u, .u, .u, .u, .u, .u, .u, .u, .u, .u, .u, .u, .u, .u, .u, .u, .u, .u, .u, .u, .u, .u, .u, .u, .u, .u, .u, .u, .u, .u, .u, .u, .u, .u, .u, .u, .u, .u, .u, .u, .u, .u, .u, .u, .u, .u, .u, .u, .u, .u, .u, .u, .u, .u, .u, .u, .u, .u, .u, .u, .u, .u, .u, .u, .u, .u, .u, .u, .u, .u, .u, .u, .u, .u, .u, .u, .u, .u, .u, .u, .u, .u, .u, .u, .u, .u, .u, .u, .u, .u, .u, .u, .u, .u, .u, .u, .u, .u, .u, .u, .u, .u, .u, .u, .u, .u, .u, .u, .u, .u, .u, .u, .u, .u, .u, .u, .u, .u, .u, .u, .u, .u]
def f_l_FnDavenport_frw3 (t0 : List Sc) : List AV := enc f_l_FnDavenport_hw3 [.l t0]
def f_l_FnDavenport_xw3 (t0 : List Sc) (e : Bool) : X × List AV := (.norm, enc [.u, .u, .u, .u, .u, .u, .u, .u, .u, .u, .u, .u, .p .boo, .u, .u, .u, .u, .u, .u, .u, .u, .u, .u, .u, .u, .u, .u, .u, .u, .u, .u, .u, .u, .u, .u, .u, .u, .u, .u, .u, .u, .u, .u, .u, .u, .u, .u, .u, .u, .u, .u, .u, .u, .u, .u, .u, .u, .u, .u, .u, .u, .u, .u, .u, .u, .u, .u, .u, .u, .u, .u, .u, .u, .u, .u, .u, .u, .u, .u, .u, .u, .u, .u, .u, .u, .u, .u, .u, .u, .u, .u, .u, .u, .u, .u, .u, .u, .u, .u, .u, .u, .u, .u, .u, .u, .u, .u, .u, .u, .u, .u, .u, .u, .u, .u, .u, .u, .u, .u, .u, .u, .u, .u, .u, .u, .u, .u, .u, .u, .u, .u, .u, .u, .u, .u, .u, .u, .u, .u, .u, .u, .u, .u, .u, .u, .u, .u, .u, .u, .u, .u, .u, .u, .u, .u, .u, .u, .u, .u, .u, .u, .u, .u, .u, .u, .u, .u, .u, .u, .u, .u, .u, .u, .u, .u, .u, .u, .u, .u, .u, .u, .u, .u, .u, .u, .u, .u, .u] [.b e])
theorem f_l_FnDavenport_pw3 {R : Type} (t0 : List Sc) (kA : Bool → Option R) : f_l_FnDavenport_w3_k t0 kA = (f_l_FnDavenport_w3 t0).bind kA := by
  simp only [f_l_FnDavenport_w3_k, f_l_FnDavenport_w3, brB, boB, someB]
theorem f_l_FnDavenport_bw3 : bodyOf Try.f7 200003 = .block 0 (codeIn (bodyOf Try.f7 200003)) := by kernel_rfl
theorem f_l_FnDavenport_ew3 (t0 : List Sc) : EC E0 f_l_FnDavenport_M H0 f_l_FnDavenport_F (asL (addL 200010 f_l_FnDavenport_tw10 (addL 200012 f_l_FnDavenport_tw12 (addL 200016 f_l_FnDavenport_tw16 (addL 200020 f_l_FnDavenport_tw20 (noL)))))) 0 (codeIn (bodyOf Try.f7 200003)) (f_l_FnDavenport_frw3 t0) (doneT (klOf f_l_FnDavenport_F 200003).2.2) = f_l_FnDavenport_w3_k t0 (fun e => some (f_l_FnDavenport_xw3 t0 e)) := by kernel_rfl
theorem f_l_FnDavenport_lw3 (t0 : List Sc) (r : Bool) (h : f_l_FnDavenport_w3 t0 = some r) : LS Try.prog f_l_FnDavenport_F (bodyOf Try.f7 200003) (f_l_FnDavenport_frw3 t0) (f_l_FnDavenport_xw3 t0 r) :=
  tail_true (S := Unit) (id := 3) (G := fun _ => f_l_FnDavenport_w3 t0) (Gk := fun _ k => f_l_FnDavenport_w3_k t0 k) (fr := fun _ => f_l_FnDavenport_frw3 t0) (f1 := fun e => f_l_FnDavenport_xw3 t0 e) E0ok f_l_FnDavenport_Mt (addL_true f_l_FnDavenport_ttw10 (addL_true f_l_FnDavenport_ttw12 (addL_true f_l_FnDavenport_ttw16 (addL_true f_l_FnDavenport_ttw20 (noL_true))))) f_l_FnDavenport_o f_l_FnDavenport_bw3 (fun _ => rfl) (fun _ => f_l_FnDavenport_ew3 t0) (fun _ k => f_l_FnDavenport_pw3 t0 k) () r h
def f_l_FnDavenport_tw3 (σ : List AV) : Option (Bool × Bool × (X × List AV) × (X × List AV)) := match dec f_l_FnDavenport_hw3 σ with
  | some [.l t0] => some ((f_l_FnDavenport_w3 t0).isSome, true, f_l_FnDavenport_xw3 t0 ((f_l_FnDavenport_w3 t0).getD false), (.ret, []))
  | _ => none
theorem f_l_FnDavenport_ttw3 : TTrue Try.prog f_l_FnDavenport_F Try.f7 200003 f_l_FnDavenport_tw3 := by
  intro σ p r r' h
  unfold f_l_FnDavenport_tw3 at h
  split at h
  · rename_i hd
    rw [← dec_enc hd]
    exact rowR (f_l_FnDavenport_lw3 _) h
  · cases h
theorem f_l_FnDavenport_p {R : Type} (L0 : List Sc) (kR : Bool → Option R) : f_l_FnDavenport_k L0 kR = (f_l_FnDavenport_k L0 some).bind kR := by
  simp only [f_l_FnDavenport_k, brB, boB, someB]
theorem f_l_FnDavenport_e (L0 : List Sc) : runFn E0 f_l_FnDavenport_M H0 f_l_FnDavenport_F (asL (addL 200003 f_l_FnDavenport_tw3 (addL 200010 f_l_FnDavenport_tw10 (addL 200012 f_l_FnDavenport_tw12 (addL 200016 f_l_FnDavenport_tw16 (addL 200020 f_l_FnDavenport_tw20 (noL))))))) Try.f7 (f_l_FnDavenport_a L0) (f_l_FnDavenport_i L0) = f_l_FnDavenport_k L0 (fun r => some (f_l_FnDavenport_en r)) := by kernel_rfl
theorem f_l_FnDavenport_ok (L0 : List Sc) (r : Bool) (h : f_l_FnDavenport L0 = some r) : CS Try.prog 7 (f_l_FnDavenport_a L0) (f_l_FnDavenport_i L0) (f_l_FnDavenport_en r).1 (f_l_FnDavenport_en r).2 :=
  fn_true (Gk := fun k => f_l_FnDavenport_k L0 k) (en := f_l_FnDavenport_en) Try.func7 E0ok f_l_FnDavenport_Mt (addL_true f_l_FnDavenport_ttw3 (addL_true f_l_FnDavenport_ttw10 (addL_true f_l_FnDavenport_ttw12 (addL_true f_l_FnDavenport_ttw16 (addL_true f_l_FnDavenport_ttw20 (noL_true)))))) f_l_FnDavenport_o (f_l_FnDavenport_e L0) (f_l_FnDavenport_p L0) h
def f_l_FnDavenport_c : CRow := fun args inh => match dec2 [.p .sl] [] args inh with
  | some ([.l L0], []) => some ((f_l_FnDavenport L0).isSome, (f_l_FnDavenport_en ((f_l_FnDavenport L0).getD false)).1, (f_l_FnDavenport_en ((f_l_FnDavenport L0).getD false)).2)
  | _ => none
theorem f_l_FnDavenport_cc : CTrue Try.prog 7 f_l_FnDavenport_c := by
  intro args inh rs out h
  unfold f_l_FnDavenport_c at h
  split at h
  · rename_i hd
    obtain ⟨h1, h2⟩ := dec2_enc hd
    rw [← h1, ← h2]
    exact rowC (f_l_FnDavenport_ok _) h
  · cases h
end
end Go.Proofs.Ytphbclogflflmaa
