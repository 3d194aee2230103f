/-
  That the program computes just that (printed by gen2.py).
-/
import Derived.Test.YtphbclogflflmaaRuna
set_option linter.unusedVariables false
set_option linter.unusedSimpArgs false
namespace Go.Proofs.Ytphbclogflflmaa
open Go Ev
noncomputable section
def f_s_DrawPopularSums_F : Fi := { nv := 2, nc := 2, m := 0, vt := [(2, 0), (6, 1)], kl := [(100002, ([3, 5, 6, 7, 11, 12, 13, 14, 15, 16, 17, 18, 19, 20, 21, 22, 23, 24, 25], [1, 2, 3, 8, 9, 10, 11, 12, 13, 14, 15, 16, 17, 18, 19, 20, 21, 22, 23, 24, 25], []))], sk := [], mvs := [], fz := [], tb := [2] }
def f_s_DrawPopularSums_a (code0 : List Sc) : List AV := enc [.p .sl] [.l code0]
def f_s_DrawPopularSums_i (code0 : List Sc) : List AV := enc [] []
def f_s_DrawPopularSums_en (r : List Sc × Int × Int × Int) : List AV × List AV := (enc [.p .gr, .p (.int .i64), .p (.int .i64), .p (.int .i64)] [.l r.1, .i r.2.1, .i r.2.2.1, .i r.2.2.2], enc [] [])
def f_s_DrawPopularSums_M : Calling := addC 160 f_s_l3Two_c (noC)
theorem f_s_DrawPopularSums_Mt : CallOk Try.prog (f_s_DrawPopularSums_M) := addC_true f_s_l3Two_cc (noC_true)
theorem f_s_DrawPopularSums_o : loopsOnce Try.f47 = true := by kernel_rfl
def f_s_DrawPopularSums_hg2 : List Sh := [.p .sl, .p .sl, .p .sl, .u, .p (.pt 0 1), .u, .u, .u, .p (.pt 1 1), .p (.int .i64), .p (.int .i64), .u, .u, .u, .u, .u, .u, .u, .u, .u, .u, .u, .u, .u, .u, .u]
def f_s_DrawPopularSums_frg2 (v0 : List Sc) (v1 : List Sc) (t0 : List Sc) (t7 : Int) (t8 : Int) : List AV := enc f_s_DrawPopularSums_hg2 [.l v0, .l v1, .l t0, .i t7, .i t8]
def f_s_DrawPopularSums_xg2 (v0 : List Sc) (v1 : List Sc) (t0 : List Sc) (t7 : Int) (t8 : Int) (e : Int) : X × List AV := (.norm, enc [.p .sl, .u, .u, .u, .p (.pt 0 1), .p (.int .i64), .p (.int .i64), .p (.int .i64), .u, .u, .u, .u, .u, .u, .u, .u, .u, .u, .u, .u, .u, .u, .u, .u, .u, .u] [.l v1, .i t7, .i t8, .i e])
theorem f_s_DrawPopularSums_pg2 {R : Type} (v0 : List Sc) (v1 : List Sc) (t0 : List Sc) (t7 : Int) (t8 : Int) (kA : Int → Option R) : f_s_DrawPopularSums_g2_k v0 v1 t0 t7 t8 kA = (f_s_DrawPopularSums_g2 v0 v1 t0 t7 t8).bind kA := by
  simp only [f_s_DrawPopularSums_g2_k, f_s_DrawPopularSums_g2, brB, someB, noneB]
theorem f_s_DrawPopularSums_bg2 : bodyOf Try.f47 100002 = .region 2 (opsAt (bodyOf Try.f47 100002)) true := by kernel_rfl
def f_s_DrawPopularSums_Dg2 : List (Array Bool) := [#[false, false, false, false, false, false, false, false, false, false, false, false, false], #[true, false, false, false, false, false, false, false, false, false, false, false, false], #[false, true, false, false, false, false, false, false, false, false, false, false, false], #[false, false, true, false, false, false, false, false, false, false, false, false, false], #[false, false, false, true, false, false, false, false, false, false, false, false, false], #[false, false, false, false, true, false, false, false, false, false, false, false, false], #[true, true, false, false, false, false, false, false, false, false, false, false, false], #[true, false, true, false, false, false, false, false, false, false, false, false, false], #[true, false, false, true, false, false, false, false, false, false, false, false, false], #[true, false, false, false, true, false, false, false, false, false, false, false, false], #[true, false, false, false, false, false, false, false, false, true, false, false, false], #[false, true, true, false, false, false, false, false, false, false, false, false, false], #[false, true, false, true, false, false, false, false, false, false, false, false, false], #[false, true, false, false, true, false, false, false, false, false, false, false, false], #[false, false, true, true, false, false, false, false, false, false, false, false, false], #[false, false, true, false, true, false, false, false, false, false, false, false, false], #[false, false, false, true, true, false, false, false, false, false, false, false, false], #[false, false, false, false, true, true, false, false, false, false, false, false, false], #[true, true, true, false, false, false, false, false, false, false, false, false, false], #[true, true, false, true, false, false, false, false, false, false, false, false, false], #[true, true, false, false, true, false, false, false, false, false, false, false, false], #[true, true, false, false, false, false, false, false, false, true, false, false, false], #[true, false, true, true, false, false, false, false, false, false, false, false, false], #[true, false, true, false, true, false, false, false, false, false, false, false, false], #[true, false, true, false, false, false, false, false, false, true, false, false, false], #[true, false, false, true, true, false, false, false, false, false, false, false, false], #[true, false, false, true, false, false, false, false, false, true, false, false, false], #[true, false, false, false, true, true, false, false, false, false, false, false, false], #[true, false, false, false, true, false, false, false, false, true, false, false, false], #[false, true, true, true, false, false, false, false, false, false, false, false, false], #[false, true, true, false, true, false, false, false, false, false, false, false, false], #[false, true, false, true, true, false, false, false, false, false, false, false, false], #[false, true, false, false, true, true, false, false, false, false, false, false, false], #[false, false, true, true, true, false, false, false, false, false, false, false, false], #[false, false, true, false, true, true, false, false, false, false, false, false, false], #[false, false, false, true, true, true, false, false, false, false, false, false, false], #[false, false, false, false, true, true, true, false, false, false, false, false, false], #[true, true, true, true, false, false, false, false, false, false, false, false, false], #[true, true, true, false, true, false, false, false, false, false, false, false, false], #[true, true, true, false, false, false, false, false, false, true, false, false, false], #[true, true, false, true, true, false, false, false, false, false, false, false, false], #[true, true, false, true, false, false, false, false, false, true, false, false, false], #[true, true, false, false, true, true, false, false, false, false, false, false, false], #[true, true, false, false, true, false, false, false, false, true, false, false, false], #[true, true, false, false, false, false, false, false, false, true, true, false, false], #[true, false, true, true, true, false, false, false, false, false, false, false, false], #[true, false, true, true, false, false, false, false, false, true, false, false, false], #[true, false, true, false, true, true, false, false, false, false, false, false, false], #[true, false, true, false, true, false, false, false, false, true, false, false, false], #[true, false, false, true, true, true, false, false, false, false, false, false, false], #[true, false, false, true, true, false, false, false, false, true, false, false, false], #[true, false, false, false, true, true, true, false, false, false, false, false, false], #[true, false, false, false, true, true, false, false, false, true, false, false, false], #[false, true, true, true, true, false, false, false, false, false, false, false, false], #[false, true, true, false, true, true, false, false, false, false, false, false, false], #[false, true, false, true, true, true, false, false, false, false, false, false, false], #[false, true, false, false, true, true, true, false, false, false, false, false, false], #[false, false, true, true, true, true, false, false, false, false, false, false, false], #[false, false, true, false, true, true, true, false, false, false, false, false, false], #[false, false, false, true, true, true, true, false, false, false, false, false, false], #[true, true, true, true, true, false, false, false, false, false, false, false, false], #[true, true, true, true, false, false, false, false, false, true, false, false, false], #[true, true, true, false, true, true, false, false, false, false, false, false, false], #[true, true, true, false, true, false, false, false, false, true, false, false, false], #[true, true, true, false, false, false, false, false, false, true, true, false, false], #[true, true, false, true, true, true, false, false, false, false, false, false, false], #[true, true, false, true, true, false, false, false, false, true, false, false, false], #[true, true, false, true, false, false, false, false, false, true, true, false, false], #[true, true, false, false, true, true, true, false, false, false, false, false, false], #[true, true, false, false, true, true, false, false, false, true, false, false, false], #[true, true, false, false, true, false, false, false, false, true, true, false, false], #[true, false, true, true, true, true, false, false, false, false, false, false, false], #[true, false, true, true, true, false, false, false, false, true, false, false, false], #[true, false, true, false, true, true, true, false, false, false, false, false, false], #[true, false, true, false, true, true, false, false, false, true, false, false, false], #[true, false, false, true, true, true, true, false, false, false, false, false, false], #[true, false, false, true, true, true, false, false, false, true, false, false, false], #[true, false, false, false, true, true, true, false, false, true, false, false, false], #[false, true, true, true, true, true, false, false, false, false, false, false, false], #[false, true, true, false, true, true, true, false, false, false, false, false, false], #[false, true, false, true, true, true, true, false, false, false, false, false, false], #[false, false, true, true, true, true, true, false, false, false, false, false, false], #[false, false, false, true, true, true, true, true, false, false, false, false, false], #[true, true, true, true, true, true, false, false, false, false, false, false, false], #[true, true, true, true, true, false, false, false, false, true, false, false, false], #[true, true, true, true, false, false, false, false, false, true, true, false, false], #[true, true, true, false, true, true, true, false, false, false, false, false, false], #[true, true, true, false, true, true, false, false, false, true, false, false, false], #[true, true, true, false, true, false, false, false, false, true, true, false, false], #[true, true, true, false, false, false, false, false, false, true, true, true, false], #[true, true, false, true, true, true, true, false, false, false, false, false, false], #[true, true, false, true, true, true, false, false, false, true, false, false, false], #[true, true, false, true, true, false, false, false, false, true, true, false, false], #[true, true, false, false, true, true, true, false, false, true, false, false, false], #[true, true, false, false, true, true, false, false, false, true, true, false, false], #[true, false, true, true, true, true, true, false, false, false, false, false, false], #[true, false, true, true, true, true, false, false, false, true, false, false, false], #[true, false, true, false, true, true, true, false, false, true, false, false, false], #[true, false, false, true, true, true, true, true, false, false, false, false, false], #[true, false, false, true, true, true, true, false, false, true, false, false, false], #[false, true, true, true, true, true, true, false, false, false, false, false, false], #[false, true, false, true, true, true, true, true, false, false, false, false, false], #[false, false, true, true, true, true, true, true, false, false, false, false, false], #[false, false, false, true, true, true, true, true, true, false, false, false, false], #[true, true, true, true, true, true, true, false, false, false, false, false, false], #[true, true, true, true, true, true, false, false, false, true, false, false, false], #[true, true, true, true, true, false, false, false, false, true, true, false, false], #[true, true, true, true, false, false, false, false, false, true, true, true, false], #[true, true, true, false, true, true, true, false, false, true, false, false, false], #[true, true, true, false, true, true, false, false, false, true, true, false, false], #[true, true, true, false, true, false, false, false, false, true, true, true, false], #[true, true, false, true, true, true, true, true, false, false, false, false, false], #[true, true, false, true, true, true, true, false, false, true, false, false, false], #[true, true, false, true, true, true, false, false, false, true, true, false, false], #[true, true, false, false, true, true, true, false, false, true, true, false, false], #[true, false, true, true, true, true, true, true, false, false, false, false, false], #[true, false, true, true, true, true, true, false, false, true, false, false, false], #[true, false, false, true, true, true, true, true, true, false, false, false, false], #[true, false, false, true, true, true, true, true, false, true, false, false, false], #[false, true, true, true, true, true, true, true, false, false, false, false, false], #[false, true, false, true, true, true, true, true, true, false, false, false, false], #[false, false, true, true, true, true, true, true, true, false, false, false, false], #[true, true, true, true, true, true, true, true, false, false, false, false, false], #[true, true, true, true, true, true, true, false, false, true, false, false, false], #[true, true, true, true, true, true, false, false, false, true, true, false, false], #[true, true, true, true, true, false, false, false, false, true, true, true, false], #[true, true, true, false, true, true, true, false, false, true, true, false, false], #[true, true, true, false, true, true, false, false, false, true, true, true, false], #[true, true, false, true, true, true, true, true, true, false, false, false, false], #[true, true, false, true, true, true, true, true, false, true, false, false, false], #[true, true, false, true, true, true, true, false, false, true, true, false, false], #[true, false, true, true, true, true, true, true, true, false, false, false, false], #[true, false, true, true, true, true, true, true, false, true, false, false, false], #[true, false, false, true, true, true, true, true, true, true, false, false, false], #[false, true, true, true, true, true, true, true, true, false, false, false, false], #[true, true, true, true, true, true, true, true, true, false, false, false, false], #[true, true, true, true, true, true, true, true, false, true, false, false, false], #[true, true, true, true, true, true, true, false, false, true, true, false, false], #[true, true, true, true, true, true, false, false, false, true, true, true, false], #[true, true, true, false, true, true, true, false, false, true, true, true, false], #[true, true, false, true, true, true, true, true, true, true, false, false, false], #[true, true, false, true, true, true, true, true, false, true, true, false, false], #[true, false, true, true, true, true, true, true, true, true, false, false, false], #[true, true, true, true, true, true, true, true, true, true, false, false, false], #[true, true, true, true, true, true, true, true, false, true, true, false, false], #[true, true, true, true, true, true, true, false, false, true, true, true, false], #[true, true, false, true, true, true, true, true, true, true, true, false, false], #[true, true, true, true, true, true, true, true, true, true, true, false, false], #[true, true, true, true, true, true, true, true, false, true, true, true, false], #[true, true, true, true, true, true, true, true, true, true, true, true, false], #[true, true, true, true, true, true, true, true, true, true, true, true, true]]
theorem f_s_DrawPopularSums_cg2 : closedB (opsAt (bodyOf Try.f47 100002)) f_s_DrawPopularSums_Dg2 = true := by kernel_rfl
def f_s_DrawPopularSums_sg2_0 (v0 : List Sc) (v1 : List Sc) (t0 : List Sc) (t7 : Int) (t8 : Int) (fr : List AV) : Option (List AV) :=
  some (setAll [] fr)
def f_s_DrawPopularSums_sg2_1 (v0 : List Sc) (v1 : List Sc) (t0 : List Sc) (t7 : Int) (t8 : Int) (fr : List AV) : Option (List AV) :=
  some (setAll [(17, .p (.gr v1))] fr)
def f_s_DrawPopularSums_sg2_2 (v0 : List Sc) (v1 : List Sc) (t0 : List Sc) (t7 : Int) (t8 : Int) (fr : List AV) : Option (List AV) :=
  some (setAll [(18, .p (.sc (Sc.n .i64 t7)))] fr)
def f_s_DrawPopularSums_sg2_4 (v0 : List Sc) (v1 : List Sc) (t0 : List Sc) (t7 : Int) (t8 : Int) (fr : List AV) : Option (List AV) :=
  some (setAll [(19, .p (.sc (Sc.n .i64 t8)))] fr)
def f_s_DrawPopularSums_sg2_8 (v0 : List Sc) (v1 : List Sc) (t0 : List Sc) (t7 : Int) (t8 : Int) (fr : List AV) : Option (List AV) :=
  some (setAll [(20, .own 3 [(Sc.n .i64 1), (Sc.n .i64 2), (Sc.n .i64 3), (Sc.n .i64 0), (Sc.n .i64 24), (Sc.n .i64 25)])] fr)
def f_s_DrawPopularSums_sg2_16 (v0 : List Sc) (v1 : List Sc) (t0 : List Sc) (t7 : Int) (t8 : Int) (fr : List AV) : Option (List AV) :=
  some (setAll [(21, .p (.sl t0))] fr)
def f_s_DrawPopularSums_sg2_3 (v0 : List Sc) (v1 : List Sc) (t0 : List Sc) (t7 : Int) (t8 : Int) (fr : List AV) : Option (List AV) :=
  some (setAll [(17, .p (.gr v1)), (18, .p (.sc (Sc.n .i64 t7)))] fr)
def f_s_DrawPopularSums_sg2_5 (v0 : List Sc) (v1 : List Sc) (t0 : List Sc) (t7 : Int) (t8 : Int) (fr : List AV) : Option (List AV) :=
  some (setAll [(17, .p (.gr v1)), (19, .p (.sc (Sc.n .i64 t8)))] fr)
def f_s_DrawPopularSums_sg2_9 (v0 : List Sc) (v1 : List Sc) (t0 : List Sc) (t7 : Int) (t8 : Int) (fr : List AV) : Option (List AV) :=
  some (setAll [(17, .p (.gr v1)), (20, .own 3 [(Sc.n .i64 1), (Sc.n .i64 2), (Sc.n .i64 3), (Sc.n .i64 0), (Sc.n .i64 24), (Sc.n .i64 25)])] fr)
def f_s_DrawPopularSums_sg2_17 (v0 : List Sc) (v1 : List Sc) (t0 : List Sc) (t7 : Int) (t8 : Int) (fr : List AV) : Option (List AV) :=
  some (setAll [(17, .p (.gr v1)), (21, .p (.sl t0))] fr)
def f_s_DrawPopularSums_sg2_513 (v0 : List Sc) (v1 : List Sc) (t0 : List Sc) (t7 : Int) (t8 : Int) (fr : List AV) : Option (List AV) :=
  some (setAll [(0, .p (.sl v1)), (17, .p (.gr v1))] fr)
def f_s_DrawPopularSums_sg2_6 (v0 : List Sc) (v1 : List Sc) (t0 : List Sc) (t7 : Int) (t8 : Int) (fr : List AV) : Option (List AV) :=
  some (setAll [(18, .p (.sc (Sc.n .i64 t7))), (19, .p (.sc (Sc.n .i64 t8)))] fr)
def f_s_DrawPopularSums_sg2_10 (v0 : List Sc) (v1 : List Sc) (t0 : List Sc) (t7 : Int) (t8 : Int) (fr : List AV) : Option (List AV) :=
  some (setAll [(18, .p (.sc (Sc.n .i64 t7))), (20, .own 3 [(Sc.n .i64 1), (Sc.n .i64 2), (Sc.n .i64 3), (Sc.n .i64 0), (Sc.n .i64 24), (Sc.n .i64 25)])] fr)
def f_s_DrawPopularSums_sg2_18 (v0 : List Sc) (v1 : List Sc) (t0 : List Sc) (t7 : Int) (t8 : Int) (fr : List AV) : Option (List AV) :=
  some (setAll [(18, .p (.sc (Sc.n .i64 t7))), (21, .p (.sl t0))] fr)
def f_s_DrawPopularSums_sg2_12 (v0 : List Sc) (v1 : List Sc) (t0 : List Sc) (t7 : Int) (t8 : Int) (fr : List AV) : Option (List AV) :=
  some (setAll [(19, .p (.sc (Sc.n .i64 t8))), (20, .own 3 [(Sc.n .i64 1), (Sc.n .i64 2), (Sc.n .i64 3), (Sc.n .i64 0), (Sc.n .i64 24), (Sc.n .i64 25)])] fr)
def f_s_DrawPopularSums_sg2_20 (v0 : List Sc) (v1 : List Sc) (t0 : List Sc) (t7 : Int) (t8 : Int) (fr : List AV) : Option (List AV) :=
  some (setAll [(19, .p (.sc (Sc.n .i64 t8))), (21, .p (.sl t0))] fr)
def f_s_DrawPopularSums_sg2_24 (v0 : List Sc) (v1 : List Sc) (t0 : List Sc) (t7 : Int) (t8 : Int) (fr : List AV) : Option (List AV) :=
  some (setAll [(20, .own 3 [(Sc.n .i64 1), (Sc.n .i64 2), (Sc.n .i64 3), (Sc.n .i64 0), (Sc.n .i64 24), (Sc.n .i64 25)]), (21, .p (.sl t0))] fr)
def f_s_DrawPopularSums_sg2_48 (v0 : List Sc) (v1 : List Sc) (t0 : List Sc) (t7 : Int) (t8 : Int) (fr : List AV) : Option (List AV) :=
  some (setAll [(21, .p (.sl t0)), (22, .p (.sc (Sc.n .i64 (t0.length : Int))))] fr)
def f_s_DrawPopularSums_sg2_7 (v0 : List Sc) (v1 : List Sc) (t0 : List Sc) (t7 : Int) (t8 : Int) (fr : List AV) : Option (List AV) :=
  some (setAll [(17, .p (.gr v1)), (18, .p (.sc (Sc.n .i64 t7))), (19, .p (.sc (Sc.n .i64 t8)))] fr)
def f_s_DrawPopularSums_sg2_11 (v0 : List Sc) (v1 : List Sc) (t0 : List Sc) (t7 : Int) (t8 : Int) (fr : List AV) : Option (List AV) :=
  some (setAll [(17, .p (.gr v1)), (18, .p (.sc (Sc.n .i64 t7))), (20, .own 3 [(Sc.n .i64 1), (Sc.n .i64 2), (Sc.n .i64 3), (Sc.n .i64 0), (Sc.n .i64 24), (Sc.n .i64 25)])] fr)
def f_s_DrawPopularSums_sg2_19 (v0 : List Sc) (v1 : List Sc) (t0 : List Sc) (t7 : Int) (t8 : Int) (fr : List AV) : Option (List AV) :=
  some (setAll [(17, .p (.gr v1)), (18, .p (.sc (Sc.n .i64 t7))), (21, .p (.sl t0))] fr)
def f_s_DrawPopularSums_sg2_515 (v0 : List Sc) (v1 : List Sc) (t0 : List Sc) (t7 : Int) (t8 : Int) (fr : List AV) : Option (List AV) :=
  some (setAll [(0, .p (.sl v1)), (17, .p (.gr v1)), (18, .p (.sc (Sc.n .i64 t7)))] fr)
def f_s_DrawPopularSums_sg2_13 (v0 : List Sc) (v1 : List Sc) (t0 : List Sc) (t7 : Int) (t8 : Int) (fr : List AV) : Option (List AV) :=
  some (setAll [(17, .p (.gr v1)), (19, .p (.sc (Sc.n .i64 t8))), (20, .own 3 [(Sc.n .i64 1), (Sc.n .i64 2), (Sc.n .i64 3), (Sc.n .i64 0), (Sc.n .i64 24), (Sc.n .i64 25)])] fr)
def f_s_DrawPopularSums_sg2_21 (v0 : List Sc) (v1 : List Sc) (t0 : List Sc) (t7 : Int) (t8 : Int) (fr : List AV) : Option (List AV) :=
  some (setAll [(17, .p (.gr v1)), (19, .p (.sc (Sc.n .i64 t8))), (21, .p (.sl t0))] fr)
def f_s_DrawPopularSums_sg2_517 (v0 : List Sc) (v1 : List Sc) (t0 : List Sc) (t7 : Int) (t8 : Int) (fr : List AV) : Option (List AV) :=
  some (setAll [(0, .p (.sl v1)), (17, .p (.gr v1)), (19, .p (.sc (Sc.n .i64 t8)))] fr)
def f_s_DrawPopularSums_sg2_25 (v0 : List Sc) (v1 : List Sc) (t0 : List Sc) (t7 : Int) (t8 : Int) (fr : List AV) : Option (List AV) :=
  some (setAll [(17, .p (.gr v1)), (20, .own 3 [(Sc.n .i64 1), (Sc.n .i64 2), (Sc.n .i64 3), (Sc.n .i64 0), (Sc.n .i64 24), (Sc.n .i64 25)]), (21, .p (.sl t0))] fr)
def f_s_DrawPopularSums_sg2_521 (v0 : List Sc) (v1 : List Sc) (t0 : List Sc) (t7 : Int) (t8 : Int) (fr : List AV) : Option (List AV) :=
  some (setAll [(0, .p (.sl v1)), (17, .p (.gr v1)), (20, .own 3 [(Sc.n .i64 1), (Sc.n .i64 2), (Sc.n .i64 3), (Sc.n .i64 0), (Sc.n .i64 24), (Sc.n .i64 25)])] fr)
def f_s_DrawPopularSums_sg2_49 (v0 : List Sc) (v1 : List Sc) (t0 : List Sc) (t7 : Int) (t8 : Int) (fr : List AV) : Option (List AV) :=
  some (setAll [(17, .p (.gr v1)), (21, .p (.sl t0)), (22, .p (.sc (Sc.n .i64 (t0.length : Int))))] fr)
def f_s_DrawPopularSums_sg2_529 (v0 : List Sc) (v1 : List Sc) (t0 : List Sc) (t7 : Int) (t8 : Int) (fr : List AV) : Option (List AV) :=
  some (setAll [(0, .p (.sl v1)), (17, .p (.gr v1)), (21, .p (.sl t0))] fr)
def f_s_DrawPopularSums_sg2_14 (v0 : List Sc) (v1 : List Sc) (t0 : List Sc) (t7 : Int) (t8 : Int) (fr : List AV) : Option (List AV) :=
  some (setAll [(18, .p (.sc (Sc.n .i64 t7))), (19, .p (.sc (Sc.n .i64 t8))), (20, .own 3 [(Sc.n .i64 1), (Sc.n .i64 2), (Sc.n .i64 3), (Sc.n .i64 0), (Sc.n .i64 24), (Sc.n .i64 25)])] fr)
def f_s_DrawPopularSums_sg2_22 (v0 : List Sc) (v1 : List Sc) (t0 : List Sc) (t7 : Int) (t8 : Int) (fr : List AV) : Option (List AV) :=
  some (setAll [(18, .p (.sc (Sc.n .i64 t7))), (19, .p (.sc (Sc.n .i64 t8))), (21, .p (.sl t0))] fr)
def f_s_DrawPopularSums_sg2_26 (v0 : List Sc) (v1 : List Sc) (t0 : List Sc) (t7 : Int) (t8 : Int) (fr : List AV) : Option (List AV) :=
  some (setAll [(18, .p (.sc (Sc.n .i64 t7))), (20, .own 3 [(Sc.n .i64 1), (Sc.n .i64 2), (Sc.n .i64 3), (Sc.n .i64 0), (Sc.n .i64 24), (Sc.n .i64 25)]), (21, .p (.sl t0))] fr)
def f_s_DrawPopularSums_sg2_50 (v0 : List Sc) (v1 : List Sc) (t0 : List Sc) (t7 : Int) (t8 : Int) (fr : List AV) : Option (List AV) :=
  some (setAll [(18, .p (.sc (Sc.n .i64 t7))), (21, .p (.sl t0)), (22, .p (.sc (Sc.n .i64 (t0.length : Int))))] fr)
def f_s_DrawPopularSums_sg2_28 (v0 : List Sc) (v1 : List Sc) (t0 : List Sc) (t7 : Int) (t8 : Int) (fr : List AV) : Option (List AV) :=
  some (setAll [(19, .p (.sc (Sc.n .i64 t8))), (20, .own 3 [(Sc.n .i64 1), (Sc.n .i64 2), (Sc.n .i64 3), (Sc.n .i64 0), (Sc.n .i64 24), (Sc.n .i64 25)]), (21, .p (.sl t0))] fr)
def f_s_DrawPopularSums_sg2_52 (v0 : List Sc) (v1 : List Sc) (t0 : List Sc) (t7 : Int) (t8 : Int) (fr : List AV) : Option (List AV) :=
  some (setAll [(19, .p (.sc (Sc.n .i64 t8))), (21, .p (.sl t0)), (22, .p (.sc (Sc.n .i64 (t0.length : Int))))] fr)
def f_s_DrawPopularSums_sg2_56 (v0 : List Sc) (v1 : List Sc) (t0 : List Sc) (t7 : Int) (t8 : Int) (fr : List AV) : Option (List AV) :=
  some (setAll [(20, .own 3 [(Sc.n .i64 1), (Sc.n .i64 2), (Sc.n .i64 3), (Sc.n .i64 0), (Sc.n .i64 24), (Sc.n .i64 25)]), (21, .p (.sl t0)), (22, .p (.sc (Sc.n .i64 (t0.length : Int))))] fr)
def f_s_DrawPopularSums_sg2_112 (v0 : List Sc) (v1 : List Sc) (t0 : List Sc) (t7 : Int) (t8 : Int) (fr : List AV) : Option (List AV) :=
  some (setAll [(21, .p (.sl t0)), (22, .p (.sc (Sc.n .i64 (t0.length : Int)))), (23, .p (.sc (Sc.n .i64 ((t0.length : Int).tmod 6))))] fr)
def f_s_DrawPopularSums_sg2_15 (v0 : List Sc) (v1 : List Sc) (t0 : List Sc) (t7 : Int) (t8 : Int) (fr : List AV) : Option (List AV) :=
  some (setAll [(17, .p (.gr v1)), (18, .p (.sc (Sc.n .i64 t7))), (19, .p (.sc (Sc.n .i64 t8))), (20, .own 3 [(Sc.n .i64 1), (Sc.n .i64 2), (Sc.n .i64 3), (Sc.n .i64 0), (Sc.n .i64 24), (Sc.n .i64 25)])] fr)
def f_s_DrawPopularSums_sg2_23 (v0 : List Sc) (v1 : List Sc) (t0 : List Sc) (t7 : Int) (t8 : Int) (fr : List AV) : Option (List AV) :=
  some (setAll [(17, .p (.gr v1)), (18, .p (.sc (Sc.n .i64 t7))), (19, .p (.sc (Sc.n .i64 t8))), (21, .p (.sl t0))] fr)
def f_s_DrawPopularSums_sg2_519 (v0 : List Sc) (v1 : List Sc) (t0 : List Sc) (t7 : Int) (t8 : Int) (fr : List AV) : Option (List AV) :=
  some (setAll [(0, .p (.sl v1)), (17, .p (.gr v1)), (18, .p (.sc (Sc.n .i64 t7))), (19, .p (.sc (Sc.n .i64 t8)))] fr)
def f_s_DrawPopularSums_sg2_27 (v0 : List Sc) (v1 : List Sc) (t0 : List Sc) (t7 : Int) (t8 : Int) (fr : List AV) : Option (List AV) :=
  some (setAll [(17, .p (.gr v1)), (18, .p (.sc (Sc.n .i64 t7))), (20, .own 3 [(Sc.n .i64 1), (Sc.n .i64 2), (Sc.n .i64 3), (Sc.n .i64 0), (Sc.n .i64 24), (Sc.n .i64 25)]), (21, .p (.sl t0))] fr)
def f_s_DrawPopularSums_sg2_523 (v0 : List Sc) (v1 : List Sc) (t0 : List Sc) (t7 : Int) (t8 : Int) (fr : List AV) : Option (List AV) :=
  some (setAll [(0, .p (.sl v1)), (17, .p (.gr v1)), (18, .p (.sc (Sc.n .i64 t7))), (20, .own 3 [(Sc.n .i64 1), (Sc.n .i64 2), (Sc.n .i64 3), (Sc.n .i64 0), (Sc.n .i64 24), (Sc.n .i64 25)])] fr)
def f_s_DrawPopularSums_sg2_51 (v0 : List Sc) (v1 : List Sc) (t0 : List Sc) (t7 : Int) (t8 : Int) (fr : List AV) : Option (List AV) :=
  some (setAll [(17, .p (.gr v1)), (18, .p (.sc (Sc.n .i64 t7))), (21, .p (.sl t0)), (22, .p (.sc (Sc.n .i64 (t0.length : Int))))] fr)
def f_s_DrawPopularSums_sg2_531 (v0 : List Sc) (v1 : List Sc) (t0 : List Sc) (t7 : Int) (t8 : Int) (fr : List AV) : Option (List AV) :=
  some (setAll [(0, .p (.sl v1)), (17, .p (.gr v1)), (18, .p (.sc (Sc.n .i64 t7))), (21, .p (.sl t0))] fr)
def f_s_DrawPopularSums_sg2_1539 (v0 : List Sc) (v1 : List Sc) (t0 : List Sc) (t7 : Int) (t8 : Int) (fr : List AV) : Option (List AV) :=
  some (setAll [(0, .p (.sl v1)), (5, .p (.sc (Sc.n .i64 t7))), (17, .p (.gr v1)), (18, .p (.sc (Sc.n .i64 t7)))] fr)
def f_s_DrawPopularSums_sg2_29 (v0 : List Sc) (v1 : List Sc) (t0 : List Sc) (t7 : Int) (t8 : Int) (fr : List AV) : Option (List AV) :=
  some (setAll [(17, .p (.gr v1)), (19, .p (.sc (Sc.n .i64 t8))), (20, .own 3 [(Sc.n .i64 1), (Sc.n .i64 2), (Sc.n .i64 3), (Sc.n .i64 0), (Sc.n .i64 24), (Sc.n .i64 25)]), (21, .p (.sl t0))] fr)
def f_s_DrawPopularSums_sg2_525 (v0 : List Sc) (v1 : List Sc) (t0 : List Sc) (t7 : Int) (t8 : Int) (fr : List AV) : Option (List AV) :=
  some (setAll [(0, .p (.sl v1)), (17, .p (.gr v1)), (19, .p (.sc (Sc.n .i64 t8))), (20, .own 3 [(Sc.n .i64 1), (Sc.n .i64 2), (Sc.n .i64 3), (Sc.n .i64 0), (Sc.n .i64 24), (Sc.n .i64 25)])] fr)
def f_s_DrawPopularSums_sg2_53 (v0 : List Sc) (v1 : List Sc) (t0 : List Sc) (t7 : Int) (t8 : Int) (fr : List AV) : Option (List AV) :=
  some (setAll [(17, .p (.gr v1)), (19, .p (.sc (Sc.n .i64 t8))), (21, .p (.sl t0)), (22, .p (.sc (Sc.n .i64 (t0.length : Int))))] fr)
def f_s_DrawPopularSums_sg2_533 (v0 : List Sc) (v1 : List Sc) (t0 : List Sc) (t7 : Int) (t8 : Int) (fr : List AV) : Option (List AV) :=
  some (setAll [(0, .p (.sl v1)), (17, .p (.gr v1)), (19, .p (.sc (Sc.n .i64 t8))), (21, .p (.sl t0))] fr)
def f_s_DrawPopularSums_sg2_57 (v0 : List Sc) (v1 : List Sc) (t0 : List Sc) (t7 : Int) (t8 : Int) (fr : List AV) : Option (List AV) :=
  some (setAll [(17, .p (.gr v1)), (20, .own 3 [(Sc.n .i64 1), (Sc.n .i64 2), (Sc.n .i64 3), (Sc.n .i64 0), (Sc.n .i64 24), (Sc.n .i64 25)]), (21, .p (.sl t0)), (22, .p (.sc (Sc.n .i64 (t0.length : Int))))] fr)
def f_s_DrawPopularSums_sg2_537 (v0 : List Sc) (v1 : List Sc) (t0 : List Sc) (t7 : Int) (t8 : Int) (fr : List AV) : Option (List AV) :=
  some (setAll [(0, .p (.sl v1)), (17, .p (.gr v1)), (20, .own 3 [(Sc.n .i64 1), (Sc.n .i64 2), (Sc.n .i64 3), (Sc.n .i64 0), (Sc.n .i64 24), (Sc.n .i64 25)]), (21, .p (.sl t0))] fr)
def f_s_DrawPopularSums_sg2_113 (v0 : List Sc) (v1 : List Sc) (t0 : List Sc) (t7 : Int) (t8 : Int) (fr : List AV) : Option (List AV) :=
  some (setAll [(17, .p (.gr v1)), (21, .p (.sl t0)), (22, .p (.sc (Sc.n .i64 (t0.length : Int)))), (23, .p (.sc (Sc.n .i64 ((t0.length : Int).tmod 6))))] fr)
def f_s_DrawPopularSums_sg2_561 (v0 : List Sc) (v1 : List Sc) (t0 : List Sc) (t7 : Int) (t8 : Int) (fr : List AV) : Option (List AV) :=
  some (setAll [(0, .p (.sl v1)), (17, .p (.gr v1)), (21, .p (.sl t0)), (22, .p (.sc (Sc.n .i64 (t0.length : Int))))] fr)
def f_s_DrawPopularSums_sg2_30 (v0 : List Sc) (v1 : List Sc) (t0 : List Sc) (t7 : Int) (t8 : Int) (fr : List AV) : Option (List AV) :=
  some (setAll [(18, .p (.sc (Sc.n .i64 t7))), (19, .p (.sc (Sc.n .i64 t8))), (20, .own 3 [(Sc.n .i64 1), (Sc.n .i64 2), (Sc.n .i64 3), (Sc.n .i64 0), (Sc.n .i64 24), (Sc.n .i64 25)]), (21, .p (.sl t0))] fr)
def f_s_DrawPopularSums_sg2_54 (v0 : List Sc) (v1 : List Sc) (t0 : List Sc) (t7 : Int) (t8 : Int) (fr : List AV) : Option (List AV) :=
  some (setAll [(18, .p (.sc (Sc.n .i64 t7))), (19, .p (.sc (Sc.n .i64 t8))), (21, .p (.sl t0)), (22, .p (.sc (Sc.n .i64 (t0.length : Int))))] fr)
def f_s_DrawPopularSums_sg2_58 (v0 : List Sc) (v1 : List Sc) (t0 : List Sc) (t7 : Int) (t8 : Int) (fr : List AV) : Option (List AV) :=
  some (setAll [(18, .p (.sc (Sc.n .i64 t7))), (20, .own 3 [(Sc.n .i64 1), (Sc.n .i64 2), (Sc.n .i64 3), (Sc.n .i64 0), (Sc.n .i64 24), (Sc.n .i64 25)]), (21, .p (.sl t0)), (22, .p (.sc (Sc.n .i64 (t0.length : Int))))] fr)
def f_s_DrawPopularSums_sg2_114 (v0 : List Sc) (v1 : List Sc) (t0 : List Sc) (t7 : Int) (t8 : Int) (fr : List AV) : Option (List AV) :=
  some (setAll [(18, .p (.sc (Sc.n .i64 t7))), (21, .p (.sl t0)), (22, .p (.sc (Sc.n .i64 (t0.length : Int)))), (23, .p (.sc (Sc.n .i64 ((t0.length : Int).tmod 6))))] fr)
def f_s_DrawPopularSums_sg2_60 (v0 : List Sc) (v1 : List Sc) (t0 : List Sc) (t7 : Int) (t8 : Int) (fr : List AV) : Option (List AV) :=
  some (setAll [(19, .p (.sc (Sc.n .i64 t8))), (20, .own 3 [(Sc.n .i64 1), (Sc.n .i64 2), (Sc.n .i64 3), (Sc.n .i64 0), (Sc.n .i64 24), (Sc.n .i64 25)]), (21, .p (.sl t0)), (22, .p (.sc (Sc.n .i64 (t0.length : Int))))] fr)
def f_s_DrawPopularSums_sg2_116 (v0 : List Sc) (v1 : List Sc) (t0 : List Sc) (t7 : Int) (t8 : Int) (fr : List AV) : Option (List AV) :=
  some (setAll [(19, .p (.sc (Sc.n .i64 t8))), (21, .p (.sl t0)), (22, .p (.sc (Sc.n .i64 (t0.length : Int)))), (23, .p (.sc (Sc.n .i64 ((t0.length : Int).tmod 6))))] fr)
def f_s_DrawPopularSums_sg2_120 (v0 : List Sc) (v1 : List Sc) (t0 : List Sc) (t7 : Int) (t8 : Int) (fr : List AV) : Option (List AV) :=
  some (setAll [(20, .own 3 [(Sc.n .i64 1), (Sc.n .i64 2), (Sc.n .i64 3), (Sc.n .i64 0), (Sc.n .i64 24), (Sc.n .i64 25)]), (21, .p (.sl t0)), (22, .p (.sc (Sc.n .i64 (t0.length : Int)))), (23, .p (.sc (Sc.n .i64 ((t0.length : Int).tmod 6))))] fr)
def f_s_DrawPopularSums_sg2_31 (v0 : List Sc) (v1 : List Sc) (t0 : List Sc) (t7 : Int) (t8 : Int) (fr : List AV) : Option (List AV) :=
  some (setAll [(17, .p (.gr v1)), (18, .p (.sc (Sc.n .i64 t7))), (19, .p (.sc (Sc.n .i64 t8))), (20, .own 3 [(Sc.n .i64 1), (Sc.n .i64 2), (Sc.n .i64 3), (Sc.n .i64 0), (Sc.n .i64 24), (Sc.n .i64 25)]), (21, .p (.sl t0))] fr)
def f_s_DrawPopularSums_sg2_527 (v0 : List Sc) (v1 : List Sc) (t0 : List Sc) (t7 : Int) (t8 : Int) (fr : List AV) : Option (List AV) :=
  some (setAll [(0, .p (.sl v1)), (17, .p (.gr v1)), (18, .p (.sc (Sc.n .i64 t7))), (19, .p (.sc (Sc.n .i64 t8))), (20, .own 3 [(Sc.n .i64 1), (Sc.n .i64 2), (Sc.n .i64 3), (Sc.n .i64 0), (Sc.n .i64 24), (Sc.n .i64 25)])] fr)
def f_s_DrawPopularSums_sg2_55 (v0 : List Sc) (v1 : List Sc) (t0 : List Sc) (t7 : Int) (t8 : Int) (fr : List AV) : Option (List AV) :=
  some (setAll [(17, .p (.gr v1)), (18, .p (.sc (Sc.n .i64 t7))), (19, .p (.sc (Sc.n .i64 t8))), (21, .p (.sl t0)), (22, .p (.sc (Sc.n .i64 (t0.length : Int))))] fr)
def f_s_DrawPopularSums_sg2_535 (v0 : List Sc) (v1 : List Sc) (t0 : List Sc) (t7 : Int) (t8 : Int) (fr : List AV) : Option (List AV) :=
  some (setAll [(0, .p (.sl v1)), (17, .p (.gr v1)), (18, .p (.sc (Sc.n .i64 t7))), (19, .p (.sc (Sc.n .i64 t8))), (21, .p (.sl t0))] fr)
def f_s_DrawPopularSums_sg2_1543 (v0 : List Sc) (v1 : List Sc) (t0 : List Sc) (t7 : Int) (t8 : Int) (fr : List AV) : Option (List AV) :=
  some (setAll [(0, .p (.sl v1)), (5, .p (.sc (Sc.n .i64 t7))), (17, .p (.gr v1)), (18, .p (.sc (Sc.n .i64 t7))), (19, .p (.sc (Sc.n .i64 t8)))] fr)
def f_s_DrawPopularSums_sg2_59 (v0 : List Sc) (v1 : List Sc) (t0 : List Sc) (t7 : Int) (t8 : Int) (fr : List AV) : Option (List AV) :=
  some (setAll [(17, .p (.gr v1)), (18, .p (.sc (Sc.n .i64 t7))), (20, .own 3 [(Sc.n .i64 1), (Sc.n .i64 2), (Sc.n .i64 3), (Sc.n .i64 0), (Sc.n .i64 24), (Sc.n .i64 25)]), (21, .p (.sl t0)), (22, .p (.sc (Sc.n .i64 (t0.length : Int))))] fr)
def f_s_DrawPopularSums_sg2_539 (v0 : List Sc) (v1 : List Sc) (t0 : List Sc) (t7 : Int) (t8 : Int) (fr : List AV) : Option (List AV) :=
  some (setAll [(0, .p (.sl v1)), (17, .p (.gr v1)), (18, .p (.sc (Sc.n .i64 t7))), (20, .own 3 [(Sc.n .i64 1), (Sc.n .i64 2), (Sc.n .i64 3), (Sc.n .i64 0), (Sc.n .i64 24), (Sc.n .i64 25)]), (21, .p (.sl t0))] fr)
def f_s_DrawPopularSums_sg2_1547 (v0 : List Sc) (v1 : List Sc) (t0 : List Sc) (t7 : Int) (t8 : Int) (fr : List AV) : Option (List AV) :=
  some (setAll [(0, .p (.sl v1)), (5, .p (.sc (Sc.n .i64 t7))), (17, .p (.gr v1)), (18, .p (.sc (Sc.n .i64 t7))), (20, .own 3 [(Sc.n .i64 1), (Sc.n .i64 2), (Sc.n .i64 3), (Sc.n .i64 0), (Sc.n .i64 24), (Sc.n .i64 25)])] fr)
def f_s_DrawPopularSums_sg2_115 (v0 : List Sc) (v1 : List Sc) (t0 : List Sc) (t7 : Int) (t8 : Int) (fr : List AV) : Option (List AV) :=
  some (setAll [(17, .p (.gr v1)), (18, .p (.sc (Sc.n .i64 t7))), (21, .p (.sl t0)), (22, .p (.sc (Sc.n .i64 (t0.length : Int)))), (23, .p (.sc (Sc.n .i64 ((t0.length : Int).tmod 6))))] fr)
def f_s_DrawPopularSums_sg2_563 (v0 : List Sc) (v1 : List Sc) (t0 : List Sc) (t7 : Int) (t8 : Int) (fr : List AV) : Option (List AV) :=
  some (setAll [(0, .p (.sl v1)), (17, .p (.gr v1)), (18, .p (.sc (Sc.n .i64 t7))), (21, .p (.sl t0)), (22, .p (.sc (Sc.n .i64 (t0.length : Int))))] fr)
def f_s_DrawPopularSums_sg2_1555 (v0 : List Sc) (v1 : List Sc) (t0 : List Sc) (t7 : Int) (t8 : Int) (fr : List AV) : Option (List AV) :=
  some (setAll [(0, .p (.sl v1)), (5, .p (.sc (Sc.n .i64 t7))), (17, .p (.gr v1)), (18, .p (.sc (Sc.n .i64 t7))), (21, .p (.sl t0))] fr)
def f_s_DrawPopularSums_sg2_61 (v0 : List Sc) (v1 : List Sc) (t0 : List Sc) (t7 : Int) (t8 : Int) (fr : List AV) : Option (List AV) :=
  some (setAll [(17, .p (.gr v1)), (19, .p (.sc (Sc.n .i64 t8))), (20, .own 3 [(Sc.n .i64 1), (Sc.n .i64 2), (Sc.n .i64 3), (Sc.n .i64 0), (Sc.n .i64 24), (Sc.n .i64 25)]), (21, .p (.sl t0)), (22, .p (.sc (Sc.n .i64 (t0.length : Int))))] fr)
def f_s_DrawPopularSums_sg2_541 (v0 : List Sc) (v1 : List Sc) (t0 : List Sc) (t7 : Int) (t8 : Int) (fr : List AV) : Option (List AV) :=
  some (setAll [(0, .p (.sl v1)), (17, .p (.gr v1)), (19, .p (.sc (Sc.n .i64 t8))), (20, .own 3 [(Sc.n .i64 1), (Sc.n .i64 2), (Sc.n .i64 3), (Sc.n .i64 0), (Sc.n .i64 24), (Sc.n .i64 25)]), (21, .p (.sl t0))] fr)
def f_s_DrawPopularSums_sg2_117 (v0 : List Sc) (v1 : List Sc) (t0 : List Sc) (t7 : Int) (t8 : Int) (fr : List AV) : Option (List AV) :=
  some (setAll [(17, .p (.gr v1)), (19, .p (.sc (Sc.n .i64 t8))), (21, .p (.sl t0)), (22, .p (.sc (Sc.n .i64 (t0.length : Int)))), (23, .p (.sc (Sc.n .i64 ((t0.length : Int).tmod 6))))] fr)
def f_s_DrawPopularSums_sg2_565 (v0 : List Sc) (v1 : List Sc) (t0 : List Sc) (t7 : Int) (t8 : Int) (fr : List AV) : Option (List AV) :=
  some (setAll [(0, .p (.sl v1)), (17, .p (.gr v1)), (19, .p (.sc (Sc.n .i64 t8))), (21, .p (.sl t0)), (22, .p (.sc (Sc.n .i64 (t0.length : Int))))] fr)
def f_s_DrawPopularSums_sg2_121 (v0 : List Sc) (v1 : List Sc) (t0 : List Sc) (t7 : Int) (t8 : Int) (fr : List AV) : Option (List AV) :=
  some (setAll [(17, .p (.gr v1)), (20, .own 3 [(Sc.n .i64 1), (Sc.n .i64 2), (Sc.n .i64 3), (Sc.n .i64 0), (Sc.n .i64 24), (Sc.n .i64 25)]), (21, .p (.sl t0)), (22, .p (.sc (Sc.n .i64 (t0.length : Int)))), (23, .p (.sc (Sc.n .i64 ((t0.length : Int).tmod 6))))] fr)
def f_s_DrawPopularSums_sg2_569 (v0 : List Sc) (v1 : List Sc) (t0 : List Sc) (t7 : Int) (t8 : Int) (fr : List AV) : Option (List AV) :=
  some (setAll [(0, .p (.sl v1)), (17, .p (.gr v1)), (20, .own 3 [(Sc.n .i64 1), (Sc.n .i64 2), (Sc.n .i64 3), (Sc.n .i64 0), (Sc.n .i64 24), (Sc.n .i64 25)]), (21, .p (.sl t0)), (22, .p (.sc (Sc.n .i64 (t0.length : Int))))] fr)
def f_s_DrawPopularSums_sg2_625 (v0 : List Sc) (v1 : List Sc) (t0 : List Sc) (t7 : Int) (t8 : Int) (fr : List AV) : Option (List AV) :=
  some (setAll [(0, .p (.sl v1)), (17, .p (.gr v1)), (21, .p (.sl t0)), (22, .p (.sc (Sc.n .i64 (t0.length : Int)))), (23, .p (.sc (Sc.n .i64 ((t0.length : Int).tmod 6))))] fr)
def f_s_DrawPopularSums_sg2_62 (v0 : List Sc) (v1 : List Sc) (t0 : List Sc) (t7 : Int) (t8 : Int) (fr : List AV) : Option (List AV) :=
  some (setAll [(18, .p (.sc (Sc.n .i64 t7))), (19, .p (.sc (Sc.n .i64 t8))), (20, .own 3 [(Sc.n .i64 1), (Sc.n .i64 2), (Sc.n .i64 3), (Sc.n .i64 0), (Sc.n .i64 24), (Sc.n .i64 25)]), (21, .p (.sl t0)), (22, .p (.sc (Sc.n .i64 (t0.length : Int))))] fr)
def f_s_DrawPopularSums_sg2_118 (v0 : List Sc) (v1 : List Sc) (t0 : List Sc) (t7 : Int) (t8 : Int) (fr : List AV) : Option (List AV) :=
  some (setAll [(18, .p (.sc (Sc.n .i64 t7))), (19, .p (.sc (Sc.n .i64 t8))), (21, .p (.sl t0)), (22, .p (.sc (Sc.n .i64 (t0.length : Int)))), (23, .p (.sc (Sc.n .i64 ((t0.length : Int).tmod 6))))] fr)
def f_s_DrawPopularSums_sg2_122 (v0 : List Sc) (v1 : List Sc) (t0 : List Sc) (t7 : Int) (t8 : Int) (fr : List AV) : Option (List AV) :=
  some (setAll [(18, .p (.sc (Sc.n .i64 t7))), (20, .own 3 [(Sc.n .i64 1), (Sc.n .i64 2), (Sc.n .i64 3), (Sc.n .i64 0), (Sc.n .i64 24), (Sc.n .i64 25)]), (21, .p (.sl t0)), (22, .p (.sc (Sc.n .i64 (t0.length : Int)))), (23, .p (.sc (Sc.n .i64 ((t0.length : Int).tmod 6))))] fr)
def f_s_DrawPopularSums_sg2_124 (v0 : List Sc) (v1 : List Sc) (t0 : List Sc) (t7 : Int) (t8 : Int) (fr : List AV) : Option (List AV) :=
  some (setAll [(19, .p (.sc (Sc.n .i64 t8))), (20, .own 3 [(Sc.n .i64 1), (Sc.n .i64 2), (Sc.n .i64 3), (Sc.n .i64 0), (Sc.n .i64 24), (Sc.n .i64 25)]), (21, .p (.sl t0)), (22, .p (.sc (Sc.n .i64 (t0.length : Int)))), (23, .p (.sc (Sc.n .i64 ((t0.length : Int).tmod 6))))] fr)
def f_s_DrawPopularSums_sg2_248 (v0 : List Sc) (v1 : List Sc) (t0 : List Sc) (t7 : Int) (t8 : Int) (fr : List AV) : Option (List AV) :=
  br (inRange ((t0.length : Int).tmod 6) ([(Sc.n .i64 1), (Sc.n .i64 2), (Sc.n .i64 3), (Sc.n .i64 0), (Sc.n .i64 24), (Sc.n .i64 25)]).length)
    (some (setAll [(20, .own 3 [(Sc.n .i64 1), (Sc.n .i64 2), (Sc.n .i64 3), (Sc.n .i64 0), (Sc.n .i64 24), (Sc.n .i64 25)]), (21, .p (.sl t0)), (22, .p (.sc (Sc.n .i64 (t0.length : Int)))), (23, .p (.sc (Sc.n .i64 ((t0.length : Int).tmod 6)))), (24, .ep 20 (((t0.length : Int).tmod 6).toNat))] fr))
    none
def f_s_DrawPopularSums_sg2_63 (v0 : List Sc) (v1 : List Sc) (t0 : List Sc) (t7 : Int) (t8 : Int) (fr : List AV) : Option (List AV) :=
  some (setAll [(17, .p (.gr v1)), (18, .p (.sc (Sc.n .i64 t7))), (19, .p (.sc (Sc.n .i64 t8))), (20, .own 3 [(Sc.n .i64 1), (Sc.n .i64 2), (Sc.n .i64 3), (Sc.n .i64 0), (Sc.n .i64 24), (Sc.n .i64 25)]), (21, .p (.sl t0)), (22, .p (.sc (Sc.n .i64 (t0.length : Int))))] fr)
def f_s_DrawPopularSums_sg2_543 (v0 : List Sc) (v1 : List Sc) (t0 : List Sc) (t7 : Int) (t8 : Int) (fr : List AV) : Option (List AV) :=
  some (setAll [(0, .p (.sl v1)), (17, .p (.gr v1)), (18, .p (.sc (Sc.n .i64 t7))), (19, .p (.sc (Sc.n .i64 t8))), (20, .own 3 [(Sc.n .i64 1), (Sc.n .i64 2), (Sc.n .i64 3), (Sc.n .i64 0), (Sc.n .i64 24), (Sc.n .i64 25)]), (21, .p (.sl t0))] fr)
def f_s_DrawPopularSums_sg2_1551 (v0 : List Sc) (v1 : List Sc) (t0 : List Sc) (t7 : Int) (t8 : Int) (fr : List AV) : Option (List AV) :=
  some (setAll [(0, .p (.sl v1)), (5, .p (.sc (Sc.n .i64 t7))), (17, .p (.gr v1)), (18, .p (.sc (Sc.n .i64 t7))), (19, .p (.sc (Sc.n .i64 t8))), (20, .own 3 [(Sc.n .i64 1), (Sc.n .i64 2), (Sc.n .i64 3), (Sc.n .i64 0), (Sc.n .i64 24), (Sc.n .i64 25)])] fr)
def f_s_DrawPopularSums_sg2_119 (v0 : List Sc) (v1 : List Sc) (t0 : List Sc) (t7 : Int) (t8 : Int) (fr : List AV) : Option (List AV) :=
  some (setAll [(17, .p (.gr v1)), (18, .p (.sc (Sc.n .i64 t7))), (19, .p (.sc (Sc.n .i64 t8))), (21, .p (.sl t0)), (22, .p (.sc (Sc.n .i64 (t0.length : Int)))), (23, .p (.sc (Sc.n .i64 ((t0.length : Int).tmod 6))))] fr)
def f_s_DrawPopularSums_sg2_567 (v0 : List Sc) (v1 : List Sc) (t0 : List Sc) (t7 : Int) (t8 : Int) (fr : List AV) : Option (List AV) :=
  some (setAll [(0, .p (.sl v1)), (17, .p (.gr v1)), (18, .p (.sc (Sc.n .i64 t7))), (19, .p (.sc (Sc.n .i64 t8))), (21, .p (.sl t0)), (22, .p (.sc (Sc.n .i64 (t0.length : Int))))] fr)
def f_s_DrawPopularSums_sg2_1559 (v0 : List Sc) (v1 : List Sc) (t0 : List Sc) (t7 : Int) (t8 : Int) (fr : List AV) : Option (List AV) :=
  some (setAll [(0, .p (.sl v1)), (5, .p (.sc (Sc.n .i64 t7))), (17, .p (.gr v1)), (18, .p (.sc (Sc.n .i64 t7))), (19, .p (.sc (Sc.n .i64 t8))), (21, .p (.sl t0))] fr)
def f_s_DrawPopularSums_sg2_3591 (v0 : List Sc) (v1 : List Sc) (t0 : List Sc) (t7 : Int) (t8 : Int) (fr : List AV) : Option (List AV) :=
  some (setAll [(0, .p (.sl v1)), (5, .p (.sc (Sc.n .i64 t7))), (6, .p (.sc (Sc.n .i64 t8))), (17, .p (.gr v1)), (18, .p (.sc (Sc.n .i64 t7))), (19, .p (.sc (Sc.n .i64 t8)))] fr)
def f_s_DrawPopularSums_sg2_123 (v0 : List Sc) (v1 : List Sc) (t0 : List Sc) (t7 : Int) (t8 : Int) (fr : List AV) : Option (List AV) :=
  some (setAll [(17, .p (.gr v1)), (18, .p (.sc (Sc.n .i64 t7))), (20, .own 3 [(Sc.n .i64 1), (Sc.n .i64 2), (Sc.n .i64 3), (Sc.n .i64 0), (Sc.n .i64 24), (Sc.n .i64 25)]), (21, .p (.sl t0)), (22, .p (.sc (Sc.n .i64 (t0.length : Int)))), (23, .p (.sc (Sc.n .i64 ((t0.length : Int).tmod 6))))] fr)
def f_s_DrawPopularSums_sg2_571 (v0 : List Sc) (v1 : List Sc) (t0 : List Sc) (t7 : Int) (t8 : Int) (fr : List AV) : Option (List AV) :=
  some (setAll [(0, .p (.sl v1)), (17, .p (.gr v1)), (18, .p (.sc (Sc.n .i64 t7))), (20, .own 3 [(Sc.n .i64 1), (Sc.n .i64 2), (Sc.n .i64 3), (Sc.n .i64 0), (Sc.n .i64 24), (Sc.n .i64 25)]), (21, .p (.sl t0)), (22, .p (.sc (Sc.n .i64 (t0.length : Int))))] fr)
def f_s_DrawPopularSums_sg2_1563 (v0 : List Sc) (v1 : List Sc) (t0 : List Sc) (t7 : Int) (t8 : Int) (fr : List AV) : Option (List AV) :=
  some (setAll [(0, .p (.sl v1)), (5, .p (.sc (Sc.n .i64 t7))), (17, .p (.gr v1)), (18, .p (.sc (Sc.n .i64 t7))), (20, .own 3 [(Sc.n .i64 1), (Sc.n .i64 2), (Sc.n .i64 3), (Sc.n .i64 0), (Sc.n .i64 24), (Sc.n .i64 25)]), (21, .p (.sl t0))] fr)
def f_s_DrawPopularSums_sg2_627 (v0 : List Sc) (v1 : List Sc) (t0 : List Sc) (t7 : Int) (t8 : Int) (fr : List AV) : Option (List AV) :=
  some (setAll [(0, .p (.sl v1)), (17, .p (.gr v1)), (18, .p (.sc (Sc.n .i64 t7))), (21, .p (.sl t0)), (22, .p (.sc (Sc.n .i64 (t0.length : Int)))), (23, .p (.sc (Sc.n .i64 ((t0.length : Int).tmod 6))))] fr)
def f_s_DrawPopularSums_sg2_1587 (v0 : List Sc) (v1 : List Sc) (t0 : List Sc) (t7 : Int) (t8 : Int) (fr : List AV) : Option (List AV) :=
  some (setAll [(0, .p (.sl v1)), (5, .p (.sc (Sc.n .i64 t7))), (17, .p (.gr v1)), (18, .p (.sc (Sc.n .i64 t7))), (21, .p (.sl t0)), (22, .p (.sc (Sc.n .i64 (t0.length : Int))))] fr)
def f_s_DrawPopularSums_sg2_125 (v0 : List Sc) (v1 : List Sc) (t0 : List Sc) (t7 : Int) (t8 : Int) (fr : List AV) : Option (List AV) :=
  some (setAll [(17, .p (.gr v1)), (19, .p (.sc (Sc.n .i64 t8))), (20, .own 3 [(Sc.n .i64 1), (Sc.n .i64 2), (Sc.n .i64 3), (Sc.n .i64 0), (Sc.n .i64 24), (Sc.n .i64 25)]), (21, .p (.sl t0)), (22, .p (.sc (Sc.n .i64 (t0.length : Int)))), (23, .p (.sc (Sc.n .i64 ((t0.length : Int).tmod 6))))] fr)
def f_s_DrawPopularSums_sg2_573 (v0 : List Sc) (v1 : List Sc) (t0 : List Sc) (t7 : Int) (t8 : Int) (fr : List AV) : Option (List AV) :=
  some (setAll [(0, .p (.sl v1)), (17, .p (.gr v1)), (19, .p (.sc (Sc.n .i64 t8))), (20, .own 3 [(Sc.n .i64 1), (Sc.n .i64 2), (Sc.n .i64 3), (Sc.n .i64 0), (Sc.n .i64 24), (Sc.n .i64 25)]), (21, .p (.sl t0)), (22, .p (.sc (Sc.n .i64 (t0.length : Int))))] fr)
def f_s_DrawPopularSums_sg2_629 (v0 : List Sc) (v1 : List Sc) (t0 : List Sc) (t7 : Int) (t8 : Int) (fr : List AV) : Option (List AV) :=
  some (setAll [(0, .p (.sl v1)), (17, .p (.gr v1)), (19, .p (.sc (Sc.n .i64 t8))), (21, .p (.sl t0)), (22, .p (.sc (Sc.n .i64 (t0.length : Int)))), (23, .p (.sc (Sc.n .i64 ((t0.length : Int).tmod 6))))] fr)
def f_s_DrawPopularSums_sg2_249 (v0 : List Sc) (v1 : List Sc) (t0 : List Sc) (t7 : Int) (t8 : Int) (fr : List AV) : Option (List AV) :=
  br (inRange ((t0.length : Int).tmod 6) ([(Sc.n .i64 1), (Sc.n .i64 2), (Sc.n .i64 3), (Sc.n .i64 0), (Sc.n .i64 24), (Sc.n .i64 25)]).length)
    (some (setAll [(17, .p (.gr v1)), (20, .own 3 [(Sc.n .i64 1), (Sc.n .i64 2), (Sc.n .i64 3), (Sc.n .i64 0), (Sc.n .i64 24), (Sc.n .i64 25)]), (21, .p (.sl t0)), (22, .p (.sc (Sc.n .i64 (t0.length : Int)))), (23, .p (.sc (Sc.n .i64 ((t0.length : Int).tmod 6)))), (24, .ep 20 (((t0.length : Int).tmod 6).toNat))] fr))
    none
def f_s_DrawPopularSums_sg2_633 (v0 : List Sc) (v1 : List Sc) (t0 : List Sc) (t7 : Int) (t8 : Int) (fr : List AV) : Option (List AV) :=
  some (setAll [(0, .p (.sl v1)), (17, .p (.gr v1)), (20, .own 3 [(Sc.n .i64 1), (Sc.n .i64 2), (Sc.n .i64 3), (Sc.n .i64 0), (Sc.n .i64 24), (Sc.n .i64 25)]), (21, .p (.sl t0)), (22, .p (.sc (Sc.n .i64 (t0.length : Int)))), (23, .p (.sc (Sc.n .i64 ((t0.length : Int).tmod 6))))] fr)
def f_s_DrawPopularSums_sg2_126 (v0 : List Sc) (v1 : List Sc) (t0 : List Sc) (t7 : Int) (t8 : Int) (fr : List AV) : Option (List AV) :=
  some (setAll [(18, .p (.sc (Sc.n .i64 t7))), (19, .p (.sc (Sc.n .i64 t8))), (20, .own 3 [(Sc.n .i64 1), (Sc.n .i64 2), (Sc.n .i64 3), (Sc.n .i64 0), (Sc.n .i64 24), (Sc.n .i64 25)]), (21, .p (.sl t0)), (22, .p (.sc (Sc.n .i64 (t0.length : Int)))), (23, .p (.sc (Sc.n .i64 ((t0.length : Int).tmod 6))))] fr)
def f_s_DrawPopularSums_sg2_250 (v0 : List Sc) (v1 : List Sc) (t0 : List Sc) (t7 : Int) (t8 : Int) (fr : List AV) : Option (List AV) :=
  br (inRange ((t0.length : Int).tmod 6) ([(Sc.n .i64 1), (Sc.n .i64 2), (Sc.n .i64 3), (Sc.n .i64 0), (Sc.n .i64 24), (Sc.n .i64 25)]).length)
    (some (setAll [(18, .p (.sc (Sc.n .i64 t7))), (20, .own 3 [(Sc.n .i64 1), (Sc.n .i64 2), (Sc.n .i64 3), (Sc.n .i64 0), (Sc.n .i64 24), (Sc.n .i64 25)]), (21, .p (.sl t0)), (22, .p (.sc (Sc.n .i64 (t0.length : Int)))), (23, .p (.sc (Sc.n .i64 ((t0.length : Int).tmod 6)))), (24, .ep 20 (((t0.length : Int).tmod 6).toNat))] fr))
    none
def f_s_DrawPopularSums_sg2_252 (v0 : List Sc) (v1 : List Sc) (t0 : List Sc) (t7 : Int) (t8 : Int) (fr : List AV) : Option (List AV) :=
  br (inRange ((t0.length : Int).tmod 6) ([(Sc.n .i64 1), (Sc.n .i64 2), (Sc.n .i64 3), (Sc.n .i64 0), (Sc.n .i64 24), (Sc.n .i64 25)]).length)
    (some (setAll [(19, .p (.sc (Sc.n .i64 t8))), (20, .own 3 [(Sc.n .i64 1), (Sc.n .i64 2), (Sc.n .i64 3), (Sc.n .i64 0), (Sc.n .i64 24), (Sc.n .i64 25)]), (21, .p (.sl t0)), (22, .p (.sc (Sc.n .i64 (t0.length : Int)))), (23, .p (.sc (Sc.n .i64 ((t0.length : Int).tmod 6)))), (24, .ep 20 (((t0.length : Int).tmod 6).toNat))] fr))
    none
def f_s_DrawPopularSums_sg2_504 (v0 : List Sc) (v1 : List Sc) (t0 : List Sc) (t7 : Int) (t8 : Int) (fr : List AV) : Option (List AV) :=
  br (inRange ((t0.length : Int).tmod 6) ([(Sc.n .i64 1), (Sc.n .i64 2), (Sc.n .i64 3), (Sc.n .i64 0), (Sc.n .i64 24), (Sc.n .i64 25)]).length)
    (br (kAt [(Sc.n .i64 1), (Sc.n .i64 2), (Sc.n .i64 3), (Sc.n .i64 0), (Sc.n .i64 24), (Sc.n .i64 25)] ((t0.length : Int).tmod 6).toNat)
      (some (setAll [(20, .own 3 [(Sc.n .i64 1), (Sc.n .i64 2), (Sc.n .i64 3), (Sc.n .i64 0), (Sc.n .i64 24), (Sc.n .i64 25)]), (21, .p (.sl t0)), (22, .p (.sc (Sc.n .i64 (t0.length : Int)))), (23, .p (.sc (Sc.n .i64 ((t0.length : Int).tmod 6)))), (24, .ep 20 (((t0.length : Int).tmod 6).toNat)), (25, .p (.sc (Sc.n .i64 (atN [(Sc.n .i64 1), (Sc.n .i64 2), (Sc.n .i64 3), (Sc.n .i64 0), (Sc.n .i64 24), (Sc.n .i64 25)] ((t0.length : Int).tmod 6).toNat))))] fr))
      none)
    none
def f_s_DrawPopularSums_sg2_127 (v0 : List Sc) (v1 : List Sc) (t0 : List Sc) (t7 : Int) (t8 : Int) (fr : List AV) : Option (List AV) :=
  some (setAll [(17, .p (.gr v1)), (18, .p (.sc (Sc.n .i64 t7))), (19, .p (.sc (Sc.n .i64 t8))), (20, .own 3 [(Sc.n .i64 1), (Sc.n .i64 2), (Sc.n .i64 3), (Sc.n .i64 0), (Sc.n .i64 24), (Sc.n .i64 25)]), (21, .p (.sl t0)), (22, .p (.sc (Sc.n .i64 (t0.length : Int)))), (23, .p (.sc (Sc.n .i64 ((t0.length : Int).tmod 6))))] fr)
def f_s_DrawPopularSums_sg2_575 (v0 : List Sc) (v1 : List Sc) (t0 : List Sc) (t7 : Int) (t8 : Int) (fr : List AV) : Option (List AV) :=
  some (setAll [(0, .p (.sl v1)), (17, .p (.gr v1)), (18, .p (.sc (Sc.n .i64 t7))), (19, .p (.sc (Sc.n .i64 t8))), (20, .own 3 [(Sc.n .i64 1), (Sc.n .i64 2), (Sc.n .i64 3), (Sc.n .i64 0), (Sc.n .i64 24), (Sc.n .i64 25)]), (21, .p (.sl t0)), (22, .p (.sc (Sc.n .i64 (t0.length : Int))))] fr)
def f_s_DrawPopularSums_sg2_1567 (v0 : List Sc) (v1 : List Sc) (t0 : List Sc) (t7 : Int) (t8 : Int) (fr : List AV) : Option (List AV) :=
  some (setAll [(0, .p (.sl v1)), (5, .p (.sc (Sc.n .i64 t7))), (17, .p (.gr v1)), (18, .p (.sc (Sc.n .i64 t7))), (19, .p (.sc (Sc.n .i64 t8))), (20, .own 3 [(Sc.n .i64 1), (Sc.n .i64 2), (Sc.n .i64 3), (Sc.n .i64 0), (Sc.n .i64 24), (Sc.n .i64 25)]), (21, .p (.sl t0))] fr)
def f_s_DrawPopularSums_sg2_3599 (v0 : List Sc) (v1 : List Sc) (t0 : List Sc) (t7 : Int) (t8 : Int) (fr : List AV) : Option (List AV) :=
  some (setAll [(0, .p (.sl v1)), (5, .p (.sc (Sc.n .i64 t7))), (6, .p (.sc (Sc.n .i64 t8))), (17, .p (.gr v1)), (18, .p (.sc (Sc.n .i64 t7))), (19, .p (.sc (Sc.n .i64 t8))), (20, .own 3 [(Sc.n .i64 1), (Sc.n .i64 2), (Sc.n .i64 3), (Sc.n .i64 0), (Sc.n .i64 24), (Sc.n .i64 25)])] fr)
def f_s_DrawPopularSums_sg2_631 (v0 : List Sc) (v1 : List Sc) (t0 : List Sc) (t7 : Int) (t8 : Int) (fr : List AV) : Option (List AV) :=
  some (setAll [(0, .p (.sl v1)), (17, .p (.gr v1)), (18, .p (.sc (Sc.n .i64 t7))), (19, .p (.sc (Sc.n .i64 t8))), (21, .p (.sl t0)), (22, .p (.sc (Sc.n .i64 (t0.length : Int)))), (23, .p (.sc (Sc.n .i64 ((t0.length : Int).tmod 6))))] fr)
def f_s_DrawPopularSums_sg2_1591 (v0 : List Sc) (v1 : List Sc) (t0 : List Sc) (t7 : Int) (t8 : Int) (fr : List AV) : Option (List AV) :=
  some (setAll [(0, .p (.sl v1)), (5, .p (.sc (Sc.n .i64 t7))), (17, .p (.gr v1)), (18, .p (.sc (Sc.n .i64 t7))), (19, .p (.sc (Sc.n .i64 t8))), (21, .p (.sl t0)), (22, .p (.sc (Sc.n .i64 (t0.length : Int))))] fr)
def f_s_DrawPopularSums_sg2_3607 (v0 : List Sc) (v1 : List Sc) (t0 : List Sc) (t7 : Int) (t8 : Int) (fr : List AV) : Option (List AV) :=
  some (setAll [(0, .p (.sl v1)), (5, .p (.sc (Sc.n .i64 t7))), (6, .p (.sc (Sc.n .i64 t8))), (17, .p (.gr v1)), (18, .p (.sc (Sc.n .i64 t7))), (19, .p (.sc (Sc.n .i64 t8))), (21, .p (.sl t0))] fr)
def f_s_DrawPopularSums_sg2_251 (v0 : List Sc) (v1 : List Sc) (t0 : List Sc) (t7 : Int) (t8 : Int) (fr : List AV) : Option (List AV) :=
  br (inRange ((t0.length : Int).tmod 6) ([(Sc.n .i64 1), (Sc.n .i64 2), (Sc.n .i64 3), (Sc.n .i64 0), (Sc.n .i64 24), (Sc.n .i64 25)]).length)
    (some (setAll [(17, .p (.gr v1)), (18, .p (.sc (Sc.n .i64 t7))), (20, .own 3 [(Sc.n .i64 1), (Sc.n .i64 2), (Sc.n .i64 3), (Sc.n .i64 0), (Sc.n .i64 24), (Sc.n .i64 25)]), (21, .p (.sl t0)), (22, .p (.sc (Sc.n .i64 (t0.length : Int)))), (23, .p (.sc (Sc.n .i64 ((t0.length : Int).tmod 6)))), (24, .ep 20 (((t0.length : Int).tmod 6).toNat))] fr))
    none
def f_s_DrawPopularSums_sg2_635 (v0 : List Sc) (v1 : List Sc) (t0 : List Sc) (t7 : Int) (t8 : Int) (fr : List AV) : Option (List AV) :=
  some (setAll [(0, .p (.sl v1)), (17, .p (.gr v1)), (18, .p (.sc (Sc.n .i64 t7))), (20, .own 3 [(Sc.n .i64 1), (Sc.n .i64 2), (Sc.n .i64 3), (Sc.n .i64 0), (Sc.n .i64 24), (Sc.n .i64 25)]), (21, .p (.sl t0)), (22, .p (.sc (Sc.n .i64 (t0.length : Int)))), (23, .p (.sc (Sc.n .i64 ((t0.length : Int).tmod 6))))] fr)
def f_s_DrawPopularSums_sg2_1595 (v0 : List Sc) (v1 : List Sc) (t0 : List Sc) (t7 : Int) (t8 : Int) (fr : List AV) : Option (List AV) :=
  some (setAll [(0, .p (.sl v1)), (5, .p (.sc (Sc.n .i64 t7))), (17, .p (.gr v1)), (18, .p (.sc (Sc.n .i64 t7))), (20, .own 3 [(Sc.n .i64 1), (Sc.n .i64 2), (Sc.n .i64 3), (Sc.n .i64 0), (Sc.n .i64 24), (Sc.n .i64 25)]), (21, .p (.sl t0)), (22, .p (.sc (Sc.n .i64 (t0.length : Int))))] fr)
def f_s_DrawPopularSums_sg2_1651 (v0 : List Sc) (v1 : List Sc) (t0 : List Sc) (t7 : Int) (t8 : Int) (fr : List AV) : Option (List AV) :=
  some (setAll [(0, .p (.sl v1)), (5, .p (.sc (Sc.n .i64 t7))), (17, .p (.gr v1)), (18, .p (.sc (Sc.n .i64 t7))), (21, .p (.sl t0)), (22, .p (.sc (Sc.n .i64 (t0.length : Int)))), (23, .p (.sc (Sc.n .i64 ((t0.length : Int).tmod 6))))] fr)
def f_s_DrawPopularSums_sg2_253 (v0 : List Sc) (v1 : List Sc) (t0 : List Sc) (t7 : Int) (t8 : Int) (fr : List AV) : Option (List AV) :=
  br (inRange ((t0.length : Int).tmod 6) ([(Sc.n .i64 1), (Sc.n .i64 2), (Sc.n .i64 3), (Sc.n .i64 0), (Sc.n .i64 24), (Sc.n .i64 25)]).length)
    (some (setAll [(17, .p (.gr v1)), (19, .p (.sc (Sc.n .i64 t8))), (20, .own 3 [(Sc.n .i64 1), (Sc.n .i64 2), (Sc.n .i64 3), (Sc.n .i64 0), (Sc.n .i64 24), (Sc.n .i64 25)]), (21, .p (.sl t0)), (22, .p (.sc (Sc.n .i64 (t0.length : Int)))), (23, .p (.sc (Sc.n .i64 ((t0.length : Int).tmod 6)))), (24, .ep 20 (((t0.length : Int).tmod 6).toNat))] fr))
    none
def f_s_DrawPopularSums_sg2_637 (v0 : List Sc) (v1 : List Sc) (t0 : List Sc) (t7 : Int) (t8 : Int) (fr : List AV) : Option (List AV) :=
  some (setAll [(0, .p (.sl v1)), (17, .p (.gr v1)), (19, .p (.sc (Sc.n .i64 t8))), (20, .own 3 [(Sc.n .i64 1), (Sc.n .i64 2), (Sc.n .i64 3), (Sc.n .i64 0), (Sc.n .i64 24), (Sc.n .i64 25)]), (21, .p (.sl t0)), (22, .p (.sc (Sc.n .i64 (t0.length : Int)))), (23, .p (.sc (Sc.n .i64 ((t0.length : Int).tmod 6))))] fr)
def f_s_DrawPopularSums_sg2_505 (v0 : List Sc) (v1 : List Sc) (t0 : List Sc) (t7 : Int) (t8 : Int) (fr : List AV) : Option (List AV) :=
  br (inRange ((t0.length : Int).tmod 6) ([(Sc.n .i64 1), (Sc.n .i64 2), (Sc.n .i64 3), (Sc.n .i64 0), (Sc.n .i64 24), (Sc.n .i64 25)]).length)
    (br (kAt [(Sc.n .i64 1), (Sc.n .i64 2), (Sc.n .i64 3), (Sc.n .i64 0), (Sc.n .i64 24), (Sc.n .i64 25)] ((t0.length : Int).tmod 6).toNat)
      (some (setAll [(17, .p (.gr v1)), (20, .own 3 [(Sc.n .i64 1), (Sc.n .i64 2), (Sc.n .i64 3), (Sc.n .i64 0), (Sc.n .i64 24), (Sc.n .i64 25)]), (21, .p (.sl t0)), (22, .p (.sc (Sc.n .i64 (t0.length : Int)))), (23, .p (.sc (Sc.n .i64 ((t0.length : Int).tmod 6)))), (24, .ep 20 (((t0.length : Int).tmod 6).toNat)), (25, .p (.sc (Sc.n .i64 (atN [(Sc.n .i64 1), (Sc.n .i64 2), (Sc.n .i64 3), (Sc.n .i64 0), (Sc.n .i64 24), (Sc.n .i64 25)] ((t0.length : Int).tmod 6).toNat))))] fr))
      none)
    none
def f_s_DrawPopularSums_sg2_761 (v0 : List Sc) (v1 : List Sc) (t0 : List Sc) (t7 : Int) (t8 : Int) (fr : List AV) : Option (List AV) :=
  br (inRange ((t0.length : Int).tmod 6) ([(Sc.n .i64 1), (Sc.n .i64 2), (Sc.n .i64 3), (Sc.n .i64 0), (Sc.n .i64 24), (Sc.n .i64 25)]).length)
    (some (setAll [(0, .p (.sl v1)), (17, .p (.gr v1)), (20, .own 3 [(Sc.n .i64 1), (Sc.n .i64 2), (Sc.n .i64 3), (Sc.n .i64 0), (Sc.n .i64 24), (Sc.n .i64 25)]), (21, .p (.sl t0)), (22, .p (.sc (Sc.n .i64 (t0.length : Int)))), (23, .p (.sc (Sc.n .i64 ((t0.length : Int).tmod 6)))), (24, .ep 20 (((t0.length : Int).tmod 6).toNat))] fr))
    none
def f_s_DrawPopularSums_sg2_254 (v0 : List Sc) (v1 : List Sc) (t0 : List Sc) (t7 : Int) (t8 : Int) (fr : List AV) : Option (List AV) :=
  br (inRange ((t0.length : Int).tmod 6) ([(Sc.n .i64 1), (Sc.n .i64 2), (Sc.n .i64 3), (Sc.n .i64 0), (Sc.n .i64 24), (Sc.n .i64 25)]).length)
    (some (setAll [(18, .p (.sc (Sc.n .i64 t7))), (19, .p (.sc (Sc.n .i64 t8))), (20, .own 3 [(Sc.n .i64 1), (Sc.n .i64 2), (Sc.n .i64 3), (Sc.n .i64 0), (Sc.n .i64 24), (Sc.n .i64 25)]), (21, .p (.sl t0)), (22, .p (.sc (Sc.n .i64 (t0.length : Int)))), (23, .p (.sc (Sc.n .i64 ((t0.length : Int).tmod 6)))), (24, .ep 20 (((t0.length : Int).tmod 6).toNat))] fr))
    none
def f_s_DrawPopularSums_sg2_506 (v0 : List Sc) (v1 : List Sc) (t0 : List Sc) (t7 : Int) (t8 : Int) (fr : List AV) : Option (List AV) :=
  br (inRange ((t0.length : Int).tmod 6) ([(Sc.n .i64 1), (Sc.n .i64 2), (Sc.n .i64 3), (Sc.n .i64 0), (Sc.n .i64 24), (Sc.n .i64 25)]).length)
    (br (kAt [(Sc.n .i64 1), (Sc.n .i64 2), (Sc.n .i64 3), (Sc.n .i64 0), (Sc.n .i64 24), (Sc.n .i64 25)] ((t0.length : Int).tmod 6).toNat)
      (some (setAll [(18, .p (.sc (Sc.n .i64 t7))), (20, .own 3 [(Sc.n .i64 1), (Sc.n .i64 2), (Sc.n .i64 3), (Sc.n .i64 0), (Sc.n .i64 24), (Sc.n .i64 25)]), (21, .p (.sl t0)), (22, .p (.sc (Sc.n .i64 (t0.length : Int)))), (23, .p (.sc (Sc.n .i64 ((t0.length : Int).tmod 6)))), (24, .ep 20 (((t0.length : Int).tmod 6).toNat)), (25, .p (.sc (Sc.n .i64 (atN [(Sc.n .i64 1), (Sc.n .i64 2), (Sc.n .i64 3), (Sc.n .i64 0), (Sc.n .i64 24), (Sc.n .i64 25)] ((t0.length : Int).tmod 6).toNat))))] fr))
      none)
    none
def f_s_DrawPopularSums_sg2_508 (v0 : List Sc) (v1 : List Sc) (t0 : List Sc) (t7 : Int) (t8 : Int) (fr : List AV) : Option (List AV) :=
  br (inRange ((t0.length : Int).tmod 6) ([(Sc.n .i64 1), (Sc.n .i64 2), (Sc.n .i64 3), (Sc.n .i64 0), (Sc.n .i64 24), (Sc.n .i64 25)]).length)
    (br (kAt [(Sc.n .i64 1), (Sc.n .i64 2), (Sc.n .i64 3), (Sc.n .i64 0), (Sc.n .i64 24), (Sc.n .i64 25)] ((t0.length : Int).tmod 6).toNat)
      (some (setAll [(19, .p (.sc (Sc.n .i64 t8))), (20, .own 3 [(Sc.n .i64 1), (Sc.n .i64 2), (Sc.n .i64 3), (Sc.n .i64 0), (Sc.n .i64 24), (Sc.n .i64 25)]), (21, .p (.sl t0)), (22, .p (.sc (Sc.n .i64 (t0.length : Int)))), (23, .p (.sc (Sc.n .i64 ((t0.length : Int).tmod 6)))), (24, .ep 20 (((t0.length : Int).tmod 6).toNat)), (25, .p (.sc (Sc.n .i64 (atN [(Sc.n .i64 1), (Sc.n .i64 2), (Sc.n .i64 3), (Sc.n .i64 0), (Sc.n .i64 24), (Sc.n .i64 25)] ((t0.length : Int).tmod 6).toNat))))] fr))
      none)
    none
def f_s_DrawPopularSums_sg2_255 (v0 : List Sc) (v1 : List Sc) (t0 : List Sc) (t7 : Int) (t8 : Int) (fr : List AV) : Option (List AV) :=
  br (inRange ((t0.length : Int).tmod 6) ([(Sc.n .i64 1), (Sc.n .i64 2), (Sc.n .i64 3), (Sc.n .i64 0), (Sc.n .i64 24), (Sc.n .i64 25)]).length)
    (some (setAll [(17, .p (.gr v1)), (18, .p (.sc (Sc.n .i64 t7))), (19, .p (.sc (Sc.n .i64 t8))), (20, .own 3 [(Sc.n .i64 1), (Sc.n .i64 2), (Sc.n .i64 3), (Sc.n .i64 0), (Sc.n .i64 24), (Sc.n .i64 25)]), (21, .p (.sl t0)), (22, .p (.sc (Sc.n .i64 (t0.length : Int)))), (23, .p (.sc (Sc.n .i64 ((t0.length : Int).tmod 6)))), (24, .ep 20 (((t0.length : Int).tmod 6).toNat))] fr))
    none
def f_s_DrawPopularSums_sg2_639 (v0 : List Sc) (v1 : List Sc) (t0 : List Sc) (t7 : Int) (t8 : Int) (fr : List AV) : Option (List AV) :=
  some (setAll [(0, .p (.sl v1)), (17, .p (.gr v1)), (18, .p (.sc (Sc.n .i64 t7))), (19, .p (.sc (Sc.n .i64 t8))), (20, .own 3 [(Sc.n .i64 1), (Sc.n .i64 2), (Sc.n .i64 3), (Sc.n .i64 0), (Sc.n .i64 24), (Sc.n .i64 25)]), (21, .p (.sl t0)), (22, .p (.sc (Sc.n .i64 (t0.length : Int)))), (23, .p (.sc (Sc.n .i64 ((t0.length : Int).tmod 6))))] fr)
def f_s_DrawPopularSums_sg2_1599 (v0 : List Sc) (v1 : List Sc) (t0 : List Sc) (t7 : Int) (t8 : Int) (fr : List AV) : Option (List AV) :=
  some (setAll [(0, .p (.sl v1)), (5, .p (.sc (Sc.n .i64 t7))), (17, .p (.gr v1)), (18, .p (.sc (Sc.n .i64 t7))), (19, .p (.sc (Sc.n .i64 t8))), (20, .own 3 [(Sc.n .i64 1), (Sc.n .i64 2), (Sc.n .i64 3), (Sc.n .i64 0), (Sc.n .i64 24), (Sc.n .i64 25)]), (21, .p (.sl t0)), (22, .p (.sc (Sc.n .i64 (t0.length : Int))))] fr)
def f_s_DrawPopularSums_sg2_3615 (v0 : List Sc) (v1 : List Sc) (t0 : List Sc) (t7 : Int) (t8 : Int) (fr : List AV) : Option (List AV) :=
  some (setAll [(0, .p (.sl v1)), (5, .p (.sc (Sc.n .i64 t7))), (6, .p (.sc (Sc.n .i64 t8))), (17, .p (.gr v1)), (18, .p (.sc (Sc.n .i64 t7))), (19, .p (.sc (Sc.n .i64 t8))), (20, .own 3 [(Sc.n .i64 1), (Sc.n .i64 2), (Sc.n .i64 3), (Sc.n .i64 0), (Sc.n .i64 24), (Sc.n .i64 25)]), (21, .p (.sl t0))] fr)
def f_s_DrawPopularSums_sg2_1655 (v0 : List Sc) (v1 : List Sc) (t0 : List Sc) (t7 : Int) (t8 : Int) (fr : List AV) : Option (List AV) :=
  some (setAll [(0, .p (.sl v1)), (5, .p (.sc (Sc.n .i64 t7))), (17, .p (.gr v1)), (18, .p (.sc (Sc.n .i64 t7))), (19, .p (.sc (Sc.n .i64 t8))), (21, .p (.sl t0)), (22, .p (.sc (Sc.n .i64 (t0.length : Int)))), (23, .p (.sc (Sc.n .i64 ((t0.length : Int).tmod 6))))] fr)
def f_s_DrawPopularSums_sg2_3639 (v0 : List Sc) (v1 : List Sc) (t0 : List Sc) (t7 : Int) (t8 : Int) (fr : List AV) : Option (List AV) :=
  some (setAll [(0, .p (.sl v1)), (5, .p (.sc (Sc.n .i64 t7))), (6, .p (.sc (Sc.n .i64 t8))), (17, .p (.gr v1)), (18, .p (.sc (Sc.n .i64 t7))), (19, .p (.sc (Sc.n .i64 t8))), (21, .p (.sl t0)), (22, .p (.sc (Sc.n .i64 (t0.length : Int))))] fr)
def f_s_DrawPopularSums_sg2_507 (v0 : List Sc) (v1 : List Sc) (t0 : List Sc) (t7 : Int) (t8 : Int) (fr : List AV) : Option (List AV) :=
  br (inRange ((t0.length : Int).tmod 6) ([(Sc.n .i64 1), (Sc.n .i64 2), (Sc.n .i64 3), (Sc.n .i64 0), (Sc.n .i64 24), (Sc.n .i64 25)]).length)
    (br (kAt [(Sc.n .i64 1), (Sc.n .i64 2), (Sc.n .i64 3), (Sc.n .i64 0), (Sc.n .i64 24), (Sc.n .i64 25)] ((t0.length : Int).tmod 6).toNat)
      (some (setAll [(17, .p (.gr v1)), (18, .p (.sc (Sc.n .i64 t7))), (20, .own 3 [(Sc.n .i64 1), (Sc.n .i64 2), (Sc.n .i64 3), (Sc.n .i64 0), (Sc.n .i64 24), (Sc.n .i64 25)]), (21, .p (.sl t0)), (22, .p (.sc (Sc.n .i64 (t0.length : Int)))), (23, .p (.sc (Sc.n .i64 ((t0.length : Int).tmod 6)))), (24, .ep 20 (((t0.length : Int).tmod 6).toNat)), (25, .p (.sc (Sc.n .i64 (atN [(Sc.n .i64 1), (Sc.n .i64 2), (Sc.n .i64 3), (Sc.n .i64 0), (Sc.n .i64 24), (Sc.n .i64 25)] ((t0.length : Int).tmod 6).toNat))))] fr))
      none)
    none
def f_s_DrawPopularSums_sg2_763 (v0 : List Sc) (v1 : List Sc) (t0 : List Sc) (t7 : Int) (t8 : Int) (fr : List AV) : Option (List AV) :=
  br (inRange ((t0.length : Int).tmod 6) ([(Sc.n .i64 1), (Sc.n .i64 2), (Sc.n .i64 3), (Sc.n .i64 0), (Sc.n .i64 24), (Sc.n .i64 25)]).length)
    (some (setAll [(0, .p (.sl v1)), (17, .p (.gr v1)), (18, .p (.sc (Sc.n .i64 t7))), (20, .own 3 [(Sc.n .i64 1), (Sc.n .i64 2), (Sc.n .i64 3), (Sc.n .i64 0), (Sc.n .i64 24), (Sc.n .i64 25)]), (21, .p (.sl t0)), (22, .p (.sc (Sc.n .i64 (t0.length : Int)))), (23, .p (.sc (Sc.n .i64 ((t0.length : Int).tmod 6)))), (24, .ep 20 (((t0.length : Int).tmod 6).toNat))] fr))
    none
def f_s_DrawPopularSums_sg2_1659 (v0 : List Sc) (v1 : List Sc) (t0 : List Sc) (t7 : Int) (t8 : Int) (fr : List AV) : Option (List AV) :=
  some (setAll [(0, .p (.sl v1)), (5, .p (.sc (Sc.n .i64 t7))), (17, .p (.gr v1)), (18, .p (.sc (Sc.n .i64 t7))), (20, .own 3 [(Sc.n .i64 1), (Sc.n .i64 2), (Sc.n .i64 3), (Sc.n .i64 0), (Sc.n .i64 24), (Sc.n .i64 25)]), (21, .p (.sl t0)), (22, .p (.sc (Sc.n .i64 (t0.length : Int)))), (23, .p (.sc (Sc.n .i64 ((t0.length : Int).tmod 6))))] fr)
def f_s_DrawPopularSums_sg2_509 (v0 : List Sc) (v1 : List Sc) (t0 : List Sc) (t7 : Int) (t8 : Int) (fr : List AV) : Option (List AV) :=
  br (inRange ((t0.length : Int).tmod 6) ([(Sc.n .i64 1), (Sc.n .i64 2), (Sc.n .i64 3), (Sc.n .i64 0), (Sc.n .i64 24), (Sc.n .i64 25)]).length)
    (br (kAt [(Sc.n .i64 1), (Sc.n .i64 2), (Sc.n .i64 3), (Sc.n .i64 0), (Sc.n .i64 24), (Sc.n .i64 25)] ((t0.length : Int).tmod 6).toNat)
      (some (setAll [(17, .p (.gr v1)), (19, .p (.sc (Sc.n .i64 t8))), (20, .own 3 [(Sc.n .i64 1), (Sc.n .i64 2), (Sc.n .i64 3), (Sc.n .i64 0), (Sc.n .i64 24), (Sc.n .i64 25)]), (21, .p (.sl t0)), (22, .p (.sc (Sc.n .i64 (t0.length : Int)))), (23, .p (.sc (Sc.n .i64 ((t0.length : Int).tmod 6)))), (24, .ep 20 (((t0.length : Int).tmod 6).toNat)), (25, .p (.sc (Sc.n .i64 (atN [(Sc.n .i64 1), (Sc.n .i64 2), (Sc.n .i64 3), (Sc.n .i64 0), (Sc.n .i64 24), (Sc.n .i64 25)] ((t0.length : Int).tmod 6).toNat))))] fr))
      none)
    none
def f_s_DrawPopularSums_sg2_765 (v0 : List Sc) (v1 : List Sc) (t0 : List Sc) (t7 : Int) (t8 : Int) (fr : List AV) : Option (List AV) :=
  br (inRange ((t0.length : Int).tmod 6) ([(Sc.n .i64 1), (Sc.n .i64 2), (Sc.n .i64 3), (Sc.n .i64 0), (Sc.n .i64 24), (Sc.n .i64 25)]).length)
    (some (setAll [(0, .p (.sl v1)), (17, .p (.gr v1)), (19, .p (.sc (Sc.n .i64 t8))), (20, .own 3 [(Sc.n .i64 1), (Sc.n .i64 2), (Sc.n .i64 3), (Sc.n .i64 0), (Sc.n .i64 24), (Sc.n .i64 25)]), (21, .p (.sl t0)), (22, .p (.sc (Sc.n .i64 (t0.length : Int)))), (23, .p (.sc (Sc.n .i64 ((t0.length : Int).tmod 6)))), (24, .ep 20 (((t0.length : Int).tmod 6).toNat))] fr))
    none
def f_s_DrawPopularSums_sg2_1017 (v0 : List Sc) (v1 : List Sc) (t0 : List Sc) (t7 : Int) (t8 : Int) (fr : List AV) : Option (List AV) :=
  br (inRange ((t0.length : Int).tmod 6) ([(Sc.n .i64 1), (Sc.n .i64 2), (Sc.n .i64 3), (Sc.n .i64 0), (Sc.n .i64 24), (Sc.n .i64 25)]).length)
    (br (kAt [(Sc.n .i64 1), (Sc.n .i64 2), (Sc.n .i64 3), (Sc.n .i64 0), (Sc.n .i64 24), (Sc.n .i64 25)] ((t0.length : Int).tmod 6).toNat)
      (some (setAll [(0, .p (.sl v1)), (17, .p (.gr v1)), (20, .own 3 [(Sc.n .i64 1), (Sc.n .i64 2), (Sc.n .i64 3), (Sc.n .i64 0), (Sc.n .i64 24), (Sc.n .i64 25)]), (21, .p (.sl t0)), (22, .p (.sc (Sc.n .i64 (t0.length : Int)))), (23, .p (.sc (Sc.n .i64 ((t0.length : Int).tmod 6)))), (24, .ep 20 (((t0.length : Int).tmod 6).toNat)), (25, .p (.sc (Sc.n .i64 (atN [(Sc.n .i64 1), (Sc.n .i64 2), (Sc.n .i64 3), (Sc.n .i64 0), (Sc.n .i64 24), (Sc.n .i64 25)] ((t0.length : Int).tmod 6).toNat))))] fr))
      none)
    none
def f_s_DrawPopularSums_sg2_510 (v0 : List Sc) (v1 : List Sc) (t0 : List Sc) (t7 : Int) (t8 : Int) (fr : List AV) : Option (List AV) :=
  br (inRange ((t0.length : Int).tmod 6) ([(Sc.n .i64 1), (Sc.n .i64 2), (Sc.n .i64 3), (Sc.n .i64 0), (Sc.n .i64 24), (Sc.n .i64 25)]).length)
    (br (kAt [(Sc.n .i64 1), (Sc.n .i64 2), (Sc.n .i64 3), (Sc.n .i64 0), (Sc.n .i64 24), (Sc.n .i64 25)] ((t0.length : Int).tmod 6).toNat)
      (some (setAll [(18, .p (.sc (Sc.n .i64 t7))), (19, .p (.sc (Sc.n .i64 t8))), (20, .own 3 [(Sc.n .i64 1), (Sc.n .i64 2), (Sc.n .i64 3), (Sc.n .i64 0), (Sc.n .i64 24), (Sc.n .i64 25)]), (21, .p (.sl t0)), (22, .p (.sc (Sc.n .i64 (t0.length : Int)))), (23, .p (.sc (Sc.n .i64 ((t0.length : Int).tmod 6)))), (24, .ep 20 (((t0.length : Int).tmod 6).toNat)), (25, .p (.sc (Sc.n .i64 (atN [(Sc.n .i64 1), (Sc.n .i64 2), (Sc.n .i64 3), (Sc.n .i64 0), (Sc.n .i64 24), (Sc.n .i64 25)] ((t0.length : Int).tmod 6).toNat))))] fr))
      none)
    none
def f_s_DrawPopularSums_sg2_511 (v0 : List Sc) (v1 : List Sc) (t0 : List Sc) (t7 : Int) (t8 : Int) (fr : List AV) : Option (List AV) :=
  br (inRange ((t0.length : Int).tmod 6) ([(Sc.n .i64 1), (Sc.n .i64 2), (Sc.n .i64 3), (Sc.n .i64 0), (Sc.n .i64 24), (Sc.n .i64 25)]).length)
    (br (kAt [(Sc.n .i64 1), (Sc.n .i64 2), (Sc.n .i64 3), (Sc.n .i64 0), (Sc.n .i64 24), (Sc.n .i64 25)] ((t0.length : Int).tmod 6).toNat)
      (some (setAll [(17, .p (.gr v1)), (18, .p (.sc (Sc.n .i64 t7))), (19, .p (.sc (Sc.n .i64 t8))), (20, .own 3 [(Sc.n .i64 1), (Sc.n .i64 2), (Sc.n .i64 3), (Sc.n .i64 0), (Sc.n .i64 24), (Sc.n .i64 25)]), (21, .p (.sl t0)), (22, .p (.sc (Sc.n .i64 (t0.length : Int)))), (23, .p (.sc (Sc.n .i64 ((t0.length : Int).tmod 6)))), (24, .ep 20 (((t0.length : Int).tmod 6).toNat)), (25, .p (.sc (Sc.n .i64 (atN [(Sc.n .i64 1), (Sc.n .i64 2), (Sc.n .i64 3), (Sc.n .i64 0), (Sc.n .i64 24), (Sc.n .i64 25)] ((t0.length : Int).tmod 6).toNat))))] fr))
      none)
    none
def f_s_DrawPopularSums_sg2_767 (v0 : List Sc) (v1 : List Sc) (t0 : List Sc) (t7 : Int) (t8 : Int) (fr : List AV) : Option (List AV) :=
  br (inRange ((t0.length : Int).tmod 6) ([(Sc.n .i64 1), (Sc.n .i64 2), (Sc.n .i64 3), (Sc.n .i64 0), (Sc.n .i64 24), (Sc.n .i64 25)]).length)
    (some (setAll [(0, .p (.sl v1)), (17, .p (.gr v1)), (18, .p (.sc (Sc.n .i64 t7))), (19, .p (.sc (Sc.n .i64 t8))), (20, .own 3 [(Sc.n .i64 1), (Sc.n .i64 2), (Sc.n .i64 3), (Sc.n .i64 0), (Sc.n .i64 24), (Sc.n .i64 25)]), (21, .p (.sl t0)), (22, .p (.sc (Sc.n .i64 (t0.length : Int)))), (23, .p (.sc (Sc.n .i64 ((t0.length : Int).tmod 6)))), (24, .ep 20 (((t0.length : Int).tmod 6).toNat))] fr))
    none
def f_s_DrawPopularSums_sg2_1663 (v0 : List Sc) (v1 : List Sc) (t0 : List Sc) (t7 : Int) (t8 : Int) (fr : List AV) : Option (List AV) :=
  some (setAll [(0, .p (.sl v1)), (5, .p (.sc (Sc.n .i64 t7))), (17, .p (.gr v1)), (18, .p (.sc (Sc.n .i64 t7))), (19, .p (.sc (Sc.n .i64 t8))), (20, .own 3 [(Sc.n .i64 1), (Sc.n .i64 2), (Sc.n .i64 3), (Sc.n .i64 0), (Sc.n .i64 24), (Sc.n .i64 25)]), (21, .p (.sl t0)), (22, .p (.sc (Sc.n .i64 (t0.length : Int)))), (23, .p (.sc (Sc.n .i64 ((t0.length : Int).tmod 6))))] fr)
def f_s_DrawPopularSums_sg2_3647 (v0 : List Sc) (v1 : List Sc) (t0 : List Sc) (t7 : Int) (t8 : Int) (fr : List AV) : Option (List AV) :=
  some (setAll [(0, .p (.sl v1)), (5, .p (.sc (Sc.n .i64 t7))), (6, .p (.sc (Sc.n .i64 t8))), (17, .p (.gr v1)), (18, .p (.sc (Sc.n .i64 t7))), (19, .p (.sc (Sc.n .i64 t8))), (20, .own 3 [(Sc.n .i64 1), (Sc.n .i64 2), (Sc.n .i64 3), (Sc.n .i64 0), (Sc.n .i64 24), (Sc.n .i64 25)]), (21, .p (.sl t0)), (22, .p (.sc (Sc.n .i64 (t0.length : Int))))] fr)
def f_s_DrawPopularSums_sg2_3703 (v0 : List Sc) (v1 : List Sc) (t0 : List Sc) (t7 : Int) (t8 : Int) (fr : List AV) : Option (List AV) :=
  some (setAll [(0, .p (.sl v1)), (5, .p (.sc (Sc.n .i64 t7))), (6, .p (.sc (Sc.n .i64 t8))), (17, .p (.gr v1)), (18, .p (.sc (Sc.n .i64 t7))), (19, .p (.sc (Sc.n .i64 t8))), (21, .p (.sl t0)), (22, .p (.sc (Sc.n .i64 (t0.length : Int)))), (23, .p (.sc (Sc.n .i64 ((t0.length : Int).tmod 6))))] fr)
def f_s_DrawPopularSums_sg2_1019 (v0 : List Sc) (v1 : List Sc) (t0 : List Sc) (t7 : Int) (t8 : Int) (fr : List AV) : Option (List AV) :=
  br (inRange ((t0.length : Int).tmod 6) ([(Sc.n .i64 1), (Sc.n .i64 2), (Sc.n .i64 3), (Sc.n .i64 0), (Sc.n .i64 24), (Sc.n .i64 25)]).length)
    (br (kAt [(Sc.n .i64 1), (Sc.n .i64 2), (Sc.n .i64 3), (Sc.n .i64 0), (Sc.n .i64 24), (Sc.n .i64 25)] ((t0.length : Int).tmod 6).toNat)
      (some (setAll [(0, .p (.sl v1)), (17, .p (.gr v1)), (18, .p (.sc (Sc.n .i64 t7))), (20, .own 3 [(Sc.n .i64 1), (Sc.n .i64 2), (Sc.n .i64 3), (Sc.n .i64 0), (Sc.n .i64 24), (Sc.n .i64 25)]), (21, .p (.sl t0)), (22, .p (.sc (Sc.n .i64 (t0.length : Int)))), (23, .p (.sc (Sc.n .i64 ((t0.length : Int).tmod 6)))), (24, .ep 20 (((t0.length : Int).tmod 6).toNat)), (25, .p (.sc (Sc.n .i64 (atN [(Sc.n .i64 1), (Sc.n .i64 2), (Sc.n .i64 3), (Sc.n .i64 0), (Sc.n .i64 24), (Sc.n .i64 25)] ((t0.length : Int).tmod 6).toNat))))] fr))
      none)
    none
def f_s_DrawPopularSums_sg2_1787 (v0 : List Sc) (v1 : List Sc) (t0 : List Sc) (t7 : Int) (t8 : Int) (fr : List AV) : Option (List AV) :=
  br (inRange ((t0.length : Int).tmod 6) ([(Sc.n .i64 1), (Sc.n .i64 2), (Sc.n .i64 3), (Sc.n .i64 0), (Sc.n .i64 24), (Sc.n .i64 25)]).length)
    (some (setAll [(0, .p (.sl v1)), (5, .p (.sc (Sc.n .i64 t7))), (17, .p (.gr v1)), (18, .p (.sc (Sc.n .i64 t7))), (20, .own 3 [(Sc.n .i64 1), (Sc.n .i64 2), (Sc.n .i64 3), (Sc.n .i64 0), (Sc.n .i64 24), (Sc.n .i64 25)]), (21, .p (.sl t0)), (22, .p (.sc (Sc.n .i64 (t0.length : Int)))), (23, .p (.sc (Sc.n .i64 ((t0.length : Int).tmod 6)))), (24, .ep 20 (((t0.length : Int).tmod 6).toNat))] fr))
    none
def f_s_DrawPopularSums_sg2_1021 (v0 : List Sc) (v1 : List Sc) (t0 : List Sc) (t7 : Int) (t8 : Int) (fr : List AV) : Option (List AV) :=
  br (inRange ((t0.length : Int).tmod 6) ([(Sc.n .i64 1), (Sc.n .i64 2), (Sc.n .i64 3), (Sc.n .i64 0), (Sc.n .i64 24), (Sc.n .i64 25)]).length)
    (br (kAt [(Sc.n .i64 1), (Sc.n .i64 2), (Sc.n .i64 3), (Sc.n .i64 0), (Sc.n .i64 24), (Sc.n .i64 25)] ((t0.length : Int).tmod 6).toNat)
      (some (setAll [(0, .p (.sl v1)), (17, .p (.gr v1)), (19, .p (.sc (Sc.n .i64 t8))), (20, .own 3 [(Sc.n .i64 1), (Sc.n .i64 2), (Sc.n .i64 3), (Sc.n .i64 0), (Sc.n .i64 24), (Sc.n .i64 25)]), (21, .p (.sl t0)), (22, .p (.sc (Sc.n .i64 (t0.length : Int)))), (23, .p (.sc (Sc.n .i64 ((t0.length : Int).tmod 6)))), (24, .ep 20 (((t0.length : Int).tmod 6).toNat)), (25, .p (.sc (Sc.n .i64 (atN [(Sc.n .i64 1), (Sc.n .i64 2), (Sc.n .i64 3), (Sc.n .i64 0), (Sc.n .i64 24), (Sc.n .i64 25)] ((t0.length : Int).tmod 6).toNat))))] fr))
      none)
    none
def f_s_DrawPopularSums_sg2_1023 (v0 : List Sc) (v1 : List Sc) (t0 : List Sc) (t7 : Int) (t8 : Int) (fr : List AV) : Option (List AV) :=
  br (inRange ((t0.length : Int).tmod 6) ([(Sc.n .i64 1), (Sc.n .i64 2), (Sc.n .i64 3), (Sc.n .i64 0), (Sc.n .i64 24), (Sc.n .i64 25)]).length)
    (br (kAt [(Sc.n .i64 1), (Sc.n .i64 2), (Sc.n .i64 3), (Sc.n .i64 0), (Sc.n .i64 24), (Sc.n .i64 25)] ((t0.length : Int).tmod 6).toNat)
      (some (setAll [(0, .p (.sl v1)), (17, .p (.gr v1)), (18, .p (.sc (Sc.n .i64 t7))), (19, .p (.sc (Sc.n .i64 t8))), (20, .own 3 [(Sc.n .i64 1), (Sc.n .i64 2), (Sc.n .i64 3), (Sc.n .i64 0), (Sc.n .i64 24), (Sc.n .i64 25)]), (21, .p (.sl t0)), (22, .p (.sc (Sc.n .i64 (t0.length : Int)))), (23, .p (.sc (Sc.n .i64 ((t0.length : Int).tmod 6)))), (24, .ep 20 (((t0.length : Int).tmod 6).toNat)), (25, .p (.sc (Sc.n .i64 (atN [(Sc.n .i64 1), (Sc.n .i64 2), (Sc.n .i64 3), (Sc.n .i64 0), (Sc.n .i64 24), (Sc.n .i64 25)] ((t0.length : Int).tmod 6).toNat))))] fr))
      none)
    none
def f_s_DrawPopularSums_sg2_1791 (v0 : List Sc) (v1 : List Sc) (t0 : List Sc) (t7 : Int) (t8 : Int) (fr : List AV) : Option (List AV) :=
  br (inRange ((t0.length : Int).tmod 6) ([(Sc.n .i64 1), (Sc.n .i64 2), (Sc.n .i64 3), (Sc.n .i64 0), (Sc.n .i64 24), (Sc.n .i64 25)]).length)
    (some (setAll [(0, .p (.sl v1)), (5, .p (.sc (Sc.n .i64 t7))), (17, .p (.gr v1)), (18, .p (.sc (Sc.n .i64 t7))), (19, .p (.sc (Sc.n .i64 t8))), (20, .own 3 [(Sc.n .i64 1), (Sc.n .i64 2), (Sc.n .i64 3), (Sc.n .i64 0), (Sc.n .i64 24), (Sc.n .i64 25)]), (21, .p (.sl t0)), (22, .p (.sc (Sc.n .i64 (t0.length : Int)))), (23, .p (.sc (Sc.n .i64 ((t0.length : Int).tmod 6)))), (24, .ep 20 (((t0.length : Int).tmod 6).toNat))] fr))
    none
def f_s_DrawPopularSums_sg2_3711 (v0 : List Sc) (v1 : List Sc) (t0 : List Sc) (t7 : Int) (t8 : Int) (fr : List AV) : Option (List AV) :=
  some (setAll [(0, .p (.sl v1)), (5, .p (.sc (Sc.n .i64 t7))), (6, .p (.sc (Sc.n .i64 t8))), (17, .p (.gr v1)), (18, .p (.sc (Sc.n .i64 t7))), (19, .p (.sc (Sc.n .i64 t8))), (20, .own 3 [(Sc.n .i64 1), (Sc.n .i64 2), (Sc.n .i64 3), (Sc.n .i64 0), (Sc.n .i64 24), (Sc.n .i64 25)]), (21, .p (.sl t0)), (22, .p (.sc (Sc.n .i64 (t0.length : Int)))), (23, .p (.sc (Sc.n .i64 ((t0.length : Int).tmod 6))))] fr)
def f_s_DrawPopularSums_sg2_2043 (v0 : List Sc) (v1 : List Sc) (t0 : List Sc) (t7 : Int) (t8 : Int) (fr : List AV) : Option (List AV) :=
  br (inRange ((t0.length : Int).tmod 6) ([(Sc.n .i64 1), (Sc.n .i64 2), (Sc.n .i64 3), (Sc.n .i64 0), (Sc.n .i64 24), (Sc.n .i64 25)]).length)
    (br (kAt [(Sc.n .i64 1), (Sc.n .i64 2), (Sc.n .i64 3), (Sc.n .i64 0), (Sc.n .i64 24), (Sc.n .i64 25)] ((t0.length : Int).tmod 6).toNat)
      (some (setAll [(0, .p (.sl v1)), (5, .p (.sc (Sc.n .i64 t7))), (17, .p (.gr v1)), (18, .p (.sc (Sc.n .i64 t7))), (20, .own 3 [(Sc.n .i64 1), (Sc.n .i64 2), (Sc.n .i64 3), (Sc.n .i64 0), (Sc.n .i64 24), (Sc.n .i64 25)]), (21, .p (.sl t0)), (22, .p (.sc (Sc.n .i64 (t0.length : Int)))), (23, .p (.sc (Sc.n .i64 ((t0.length : Int).tmod 6)))), (24, .ep 20 (((t0.length : Int).tmod 6).toNat)), (25, .p (.sc (Sc.n .i64 (atN [(Sc.n .i64 1), (Sc.n .i64 2), (Sc.n .i64 3), (Sc.n .i64 0), (Sc.n .i64 24), (Sc.n .i64 25)] ((t0.length : Int).tmod 6).toNat))))] fr))
      none)
    none
def f_s_DrawPopularSums_sg2_2047 (v0 : List Sc) (v1 : List Sc) (t0 : List Sc) (t7 : Int) (t8 : Int) (fr : List AV) : Option (List AV) :=
  br (inRange ((t0.length : Int).tmod 6) ([(Sc.n .i64 1), (Sc.n .i64 2), (Sc.n .i64 3), (Sc.n .i64 0), (Sc.n .i64 24), (Sc.n .i64 25)]).length)
    (br (kAt [(Sc.n .i64 1), (Sc.n .i64 2), (Sc.n .i64 3), (Sc.n .i64 0), (Sc.n .i64 24), (Sc.n .i64 25)] ((t0.length : Int).tmod 6).toNat)
      (some (setAll [(0, .p (.sl v1)), (5, .p (.sc (Sc.n .i64 t7))), (17, .p (.gr v1)), (18, .p (.sc (Sc.n .i64 t7))), (19, .p (.sc (Sc.n .i64 t8))), (20, .own 3 [(Sc.n .i64 1), (Sc.n .i64 2), (Sc.n .i64 3), (Sc.n .i64 0), (Sc.n .i64 24), (Sc.n .i64 25)]), (21, .p (.sl t0)), (22, .p (.sc (Sc.n .i64 (t0.length : Int)))), (23, .p (.sc (Sc.n .i64 ((t0.length : Int).tmod 6)))), (24, .ep 20 (((t0.length : Int).tmod 6).toNat)), (25, .p (.sc (Sc.n .i64 (atN [(Sc.n .i64 1), (Sc.n .i64 2), (Sc.n .i64 3), (Sc.n .i64 0), (Sc.n .i64 24), (Sc.n .i64 25)] ((t0.length : Int).tmod 6).toNat))))] fr))
      none)
    none
def f_s_DrawPopularSums_sg2_3839 (v0 : List Sc) (v1 : List Sc) (t0 : List Sc) (t7 : Int) (t8 : Int) (fr : List AV) : Option (List AV) :=
  br (inRange ((t0.length : Int).tmod 6) ([(Sc.n .i64 1), (Sc.n .i64 2), (Sc.n .i64 3), (Sc.n .i64 0), (Sc.n .i64 24), (Sc.n .i64 25)]).length)
    (some (setAll [(0, .p (.sl v1)), (5, .p (.sc (Sc.n .i64 t7))), (6, .p (.sc (Sc.n .i64 t8))), (17, .p (.gr v1)), (18, .p (.sc (Sc.n .i64 t7))), (19, .p (.sc (Sc.n .i64 t8))), (20, .own 3 [(Sc.n .i64 1), (Sc.n .i64 2), (Sc.n .i64 3), (Sc.n .i64 0), (Sc.n .i64 24), (Sc.n .i64 25)]), (21, .p (.sl t0)), (22, .p (.sc (Sc.n .i64 (t0.length : Int)))), (23, .p (.sc (Sc.n .i64 ((t0.length : Int).tmod 6)))), (24, .ep 20 (((t0.length : Int).tmod 6).toNat))] fr))
    none
def f_s_DrawPopularSums_sg2_4095 (v0 : List Sc) (v1 : List Sc) (t0 : List Sc) (t7 : Int) (t8 : Int) (fr : List AV) : Option (List AV) :=
  br (inRange ((t0.length : Int).tmod 6) ([(Sc.n .i64 1), (Sc.n .i64 2), (Sc.n .i64 3), (Sc.n .i64 0), (Sc.n .i64 24), (Sc.n .i64 25)]).length)
    (br (kAt [(Sc.n .i64 1), (Sc.n .i64 2), (Sc.n .i64 3), (Sc.n .i64 0), (Sc.n .i64 24), (Sc.n .i64 25)] ((t0.length : Int).tmod 6).toNat)
      (some (setAll [(0, .p (.sl v1)), (5, .p (.sc (Sc.n .i64 t7))), (6, .p (.sc (Sc.n .i64 t8))), (17, .p (.gr v1)), (18, .p (.sc (Sc.n .i64 t7))), (19, .p (.sc (Sc.n .i64 t8))), (20, .own 3 [(Sc.n .i64 1), (Sc.n .i64 2), (Sc.n .i64 3), (Sc.n .i64 0), (Sc.n .i64 24), (Sc.n .i64 25)]), (21, .p (.sl t0)), (22, .p (.sc (Sc.n .i64 (t0.length : Int)))), (23, .p (.sc (Sc.n .i64 ((t0.length : Int).tmod 6)))), (24, .ep 20 (((t0.length : Int).tmod 6).toNat)), (25, .p (.sc (Sc.n .i64 (atN [(Sc.n .i64 1), (Sc.n .i64 2), (Sc.n .i64 3), (Sc.n .i64 0), (Sc.n .i64 24), (Sc.n .i64 25)] ((t0.length : Int).tmod 6).toNat))))] fr))
      none)
    none
def f_s_DrawPopularSums_sg2_8191 (v0 : List Sc) (v1 : List Sc) (t0 : List Sc) (t7 : Int) (t8 : Int) (fr : List AV) : Option (List AV) :=
  br (inRange ((t0.length : Int).tmod 6) ([(Sc.n .i64 1), (Sc.n .i64 2), (Sc.n .i64 3), (Sc.n .i64 0), (Sc.n .i64 24), (Sc.n .i64 25)]).length)
    (br (kAt [(Sc.n .i64 1), (Sc.n .i64 2), (Sc.n .i64 3), (Sc.n .i64 0), (Sc.n .i64 24), (Sc.n .i64 25)] ((t0.length : Int).tmod 6).toNat)
      (some (setAll [(0, .p (.sl v1)), (5, .p (.sc (Sc.n .i64 t7))), (6, .p (.sc (Sc.n .i64 t8))), (7, .p (.sc (Sc.n .i64 (atN [(Sc.n .i64 1), (Sc.n .i64 2), (Sc.n .i64 3), (Sc.n .i64 0), (Sc.n .i64 24), (Sc.n .i64 25)] ((t0.length : Int).tmod 6).toNat)))), (17, .p (.gr v1)), (18, .p (.sc (Sc.n .i64 t7))), (19, .p (.sc (Sc.n .i64 t8))), (20, .own 3 [(Sc.n .i64 1), (Sc.n .i64 2), (Sc.n .i64 3), (Sc.n .i64 0), (Sc.n .i64 24), (Sc.n .i64 25)]), (21, .p (.sl t0)), (22, .p (.sc (Sc.n .i64 (t0.length : Int)))), (23, .p (.sc (Sc.n .i64 ((t0.length : Int).tmod 6)))), (24, .ep 20 (((t0.length : Int).tmod 6).toNat)), (25, .p (.sc (Sc.n .i64 (atN [(Sc.n .i64 1), (Sc.n .i64 2), (Sc.n .i64 3), (Sc.n .i64 0), (Sc.n .i64 24), (Sc.n .i64 25)] ((t0.length : Int).tmod 6).toNat))))] fr))
      none)
    none
def f_s_DrawPopularSums_Eg2 (v0 : List Sc) (v1 : List Sc) (t0 : List Sc) (t7 : Int) (t8 : Int) (fr : List AV) : List (Option (List AV)) := [f_s_DrawPopularSums_sg2_1 v0 v1 t0 t7 t8 fr, f_s_DrawPopularSums_sg2_2 v0 v1 t0 t7 t8 fr, f_s_DrawPopularSums_sg2_4 v0 v1 t0 t7 t8 fr, f_s_DrawPopularSums_sg2_8 v0 v1 t0 t7 t8 fr, f_s_DrawPopularSums_sg2_16 v0 v1 t0 t7 t8 fr, f_s_DrawPopularSums_sg2_3 v0 v1 t0 t7 t8 fr, f_s_DrawPopularSums_sg2_5 v0 v1 t0 t7 t8 fr, f_s_DrawPopularSums_sg2_9 v0 v1 t0 t7 t8 fr, f_s_DrawPopularSums_sg2_17 v0 v1 t0 t7 t8 fr, f_s_DrawPopularSums_sg2_513 v0 v1 t0 t7 t8 fr, f_s_DrawPopularSums_sg2_3 v0 v1 t0 t7 t8 fr, f_s_DrawPopularSums_sg2_6 v0 v1 t0 t7 t8 fr, f_s_DrawPopularSums_sg2_10 v0 v1 t0 t7 t8 fr, f_s_DrawPopularSums_sg2_18 v0 v1 t0 t7 t8 fr, f_s_DrawPopularSums_sg2_5 v0 v1 t0 t7 t8 fr, f_s_DrawPopularSums_sg2_6 v0 v1 t0 t7 t8 fr, f_s_DrawPopularSums_sg2_12 v0 v1 t0 t7 t8 fr, f_s_DrawPopularSums_sg2_20 v0 v1 t0 t7 t8 fr, f_s_DrawPopularSums_sg2_9 v0 v1 t0 t7 t8 fr, f_s_DrawPopularSums_sg2_10 v0 v1 t0 t7 t8 fr, f_s_DrawPopularSums_sg2_12 v0 v1 t0 t7 t8 fr, f_s_DrawPopularSums_sg2_24 v0 v1 t0 t7 t8 fr, f_s_DrawPopularSums_sg2_17 v0 v1 t0 t7 t8 fr, f_s_DrawPopularSums_sg2_18 v0 v1 t0 t7 t8 fr, f_s_DrawPopularSums_sg2_20 v0 v1 t0 t7 t8 fr, f_s_DrawPopularSums_sg2_24 v0 v1 t0 t7 t8 fr, f_s_DrawPopularSums_sg2_48 v0 v1 t0 t7 t8 fr, f_s_DrawPopularSums_sg2_7 v0 v1 t0 t7 t8 fr, f_s_DrawPopularSums_sg2_11 v0 v1 t0 t7 t8 fr, f_s_DrawPopularSums_sg2_19 v0 v1 t0 t7 t8 fr, f_s_DrawPopularSums_sg2_515 v0 v1 t0 t7 t8 fr, f_s_DrawPopularSums_sg2_7 v0 v1 t0 t7 t8 fr, f_s_DrawPopularSums_sg2_13 v0 v1 t0 t7 t8 fr, f_s_DrawPopularSums_sg2_21 v0 v1 t0 t7 t8 fr, f_s_DrawPopularSums_sg2_517 v0 v1 t0 t7 t8 fr, f_s_DrawPopularSums_sg2_11 v0 v1 t0 t7 t8 fr, f_s_DrawPopularSums_sg2_13 v0 v1 t0 t7 t8 fr, f_s_DrawPopularSums_sg2_25 v0 v1 t0 t7 t8 fr, f_s_DrawPopularSums_sg2_521 v0 v1 t0 t7 t8 fr, f_s_DrawPopularSums_sg2_19 v0 v1 t0 t7 t8 fr, f_s_DrawPopularSums_sg2_21 v0 v1 t0 t7 t8 fr, f_s_DrawPopularSums_sg2_25 v0 v1 t0 t7 t8 fr, f_s_DrawPopularSums_sg2_49 v0 v1 t0 t7 t8 fr, f_s_DrawPopularSums_sg2_529 v0 v1 t0 t7 t8 fr, f_s_DrawPopularSums_sg2_515 v0 v1 t0 t7 t8 fr, f_s_DrawPopularSums_sg2_517 v0 v1 t0 t7 t8 fr, f_s_DrawPopularSums_sg2_521 v0 v1 t0 t7 t8 fr, f_s_DrawPopularSums_sg2_529 v0 v1 t0 t7 t8 fr, f_s_DrawPopularSums_sg2_7 v0 v1 t0 t7 t8 fr, f_s_DrawPopularSums_sg2_14 v0 v1 t0 t7 t8 fr, f_s_DrawPopularSums_sg2_22 v0 v1 t0 t7 t8 fr, f_s_DrawPopularSums_sg2_11 v0 v1 t0 t7 t8 fr, f_s_DrawPopularSums_sg2_14 v0 v1 t0 t7 t8 fr, f_s_DrawPopularSums_sg2_26 v0 v1 t0 t7 t8 fr, f_s_DrawPopularSums_sg2_19 v0 v1 t0 t7 t8 fr, f_s_DrawPopularSums_sg2_22 v0 v1 t0 t7 t8 fr, f_s_DrawPopularSums_sg2_26 v0 v1 t0 t7 t8 fr, f_s_DrawPopularSums_sg2_50 v0 v1 t0 t7 t8 fr, f_s_DrawPopularSums_sg2_13 v0 v1 t0 t7 t8 fr, f_s_DrawPopularSums_sg2_14 v0 v1 t0 t7 t8 fr, f_s_DrawPopularSums_sg2_28 v0 v1 t0 t7 t8 fr, f_s_DrawPopularSums_sg2_21 v0 v1 t0 t7 t8 fr, f_s_DrawPopularSums_sg2_22 v0 v1 t0 t7 t8 fr, f_s_DrawPopularSums_sg2_28 v0 v1 t0 t7 t8 fr, f_s_DrawPopularSums_sg2_52 v0 v1 t0 t7 t8 fr, f_s_DrawPopularSums_sg2_25 v0 v1 t0 t7 t8 fr, f_s_DrawPopularSums_sg2_26 v0 v1 t0 t7 t8 fr, f_s_DrawPopularSums_sg2_28 v0 v1 t0 t7 t8 fr, f_s_DrawPopularSums_sg2_56 v0 v1 t0 t7 t8 fr, f_s_DrawPopularSums_sg2_49 v0 v1 t0 t7 t8 fr, f_s_DrawPopularSums_sg2_50 v0 v1 t0 t7 t8 fr, f_s_DrawPopularSums_sg2_52 v0 v1 t0 t7 t8 fr, f_s_DrawPopularSums_sg2_56 v0 v1 t0 t7 t8 fr, f_s_DrawPopularSums_sg2_112 v0 v1 t0 t7 t8 fr, f_s_DrawPopularSums_sg2_15 v0 v1 t0 t7 t8 fr, f_s_DrawPopularSums_sg2_23 v0 v1 t0 t7 t8 fr, f_s_DrawPopularSums_sg2_519 v0 v1 t0 t7 t8 fr, f_s_DrawPopularSums_sg2_15 v0 v1 t0 t7 t8 fr, f_s_DrawPopularSums_sg2_27 v0 v1 t0 t7 t8 fr, f_s_DrawPopularSums_sg2_523 v0 v1 t0 t7 t8 fr, f_s_DrawPopularSums_sg2_23 v0 v1 t0 t7 t8 fr, f_s_DrawPopularSums_sg2_27 v0 v1 t0 t7 t8 fr, f_s_DrawPopularSums_sg2_51 v0 v1 t0 t7 t8 fr, f_s_DrawPopularSums_sg2_531 v0 v1 t0 t7 t8 fr, f_s_DrawPopularSums_sg2_519 v0 v1 t0 t7 t8 fr, f_s_DrawPopularSums_sg2_523 v0 v1 t0 t7 t8 fr, f_s_DrawPopularSums_sg2_531 v0 v1 t0 t7 t8 fr, f_s_DrawPopularSums_sg2_1539 v0 v1 t0 t7 t8 fr, f_s_DrawPopularSums_sg2_15 v0 v1 t0 t7 t8 fr, f_s_DrawPopularSums_sg2_29 v0 v1 t0 t7 t8 fr, f_s_DrawPopularSums_sg2_525 v0 v1 t0 t7 t8 fr, f_s_DrawPopularSums_sg2_23 v0 v1 t0 t7 t8 fr, f_s_DrawPopularSums_sg2_29 v0 v1 t0 t7 t8 fr, f_s_DrawPopularSums_sg2_53 v0 v1 t0 t7 t8 fr, f_s_DrawPopularSums_sg2_533 v0 v1 t0 t7 t8 fr, f_s_DrawPopularSums_sg2_519 v0 v1 t0 t7 t8 fr, f_s_DrawPopularSums_sg2_525 v0 v1 t0 t7 t8 fr, f_s_DrawPopularSums_sg2_533 v0 v1 t0 t7 t8 fr, f_s_DrawPopularSums_sg2_27 v0 v1 t0 t7 t8 fr, f_s_DrawPopularSums_sg2_29 v0 v1 t0 t7 t8 fr, f_s_DrawPopularSums_sg2_57 v0 v1 t0 t7 t8 fr, f_s_DrawPopularSums_sg2_537 v0 v1 t0 t7 t8 fr, f_s_DrawPopularSums_sg2_523 v0 v1 t0 t7 t8 fr, f_s_DrawPopularSums_sg2_525 v0 v1 t0 t7 t8 fr, f_s_DrawPopularSums_sg2_537 v0 v1 t0 t7 t8 fr, f_s_DrawPopularSums_sg2_51 v0 v1 t0 t7 t8 fr, f_s_DrawPopularSums_sg2_53 v0 v1 t0 t7 t8 fr, f_s_DrawPopularSums_sg2_57 v0 v1 t0 t7 t8 fr, f_s_DrawPopularSums_sg2_113 v0 v1 t0 t7 t8 fr, f_s_DrawPopularSums_sg2_561 v0 v1 t0 t7 t8 fr, f_s_DrawPopularSums_sg2_531 v0 v1 t0 t7 t8 fr, f_s_DrawPopularSums_sg2_533 v0 v1 t0 t7 t8 fr, f_s_DrawPopularSums_sg2_537 v0 v1 t0 t7 t8 fr, f_s_DrawPopularSums_sg2_561 v0 v1 t0 t7 t8 fr, f_s_DrawPopularSums_sg2_15 v0 v1 t0 t7 t8 fr, f_s_DrawPopularSums_sg2_30 v0 v1 t0 t7 t8 fr, f_s_DrawPopularSums_sg2_23 v0 v1 t0 t7 t8 fr, f_s_DrawPopularSums_sg2_30 v0 v1 t0 t7 t8 fr, f_s_DrawPopularSums_sg2_54 v0 v1 t0 t7 t8 fr, f_s_DrawPopularSums_sg2_27 v0 v1 t0 t7 t8 fr, f_s_DrawPopularSums_sg2_30 v0 v1 t0 t7 t8 fr, f_s_DrawPopularSums_sg2_58 v0 v1 t0 t7 t8 fr, f_s_DrawPopularSums_sg2_51 v0 v1 t0 t7 t8 fr, f_s_DrawPopularSums_sg2_54 v0 v1 t0 t7 t8 fr, f_s_DrawPopularSums_sg2_58 v0 v1 t0 t7 t8 fr, f_s_DrawPopularSums_sg2_114 v0 v1 t0 t7 t8 fr, f_s_DrawPopularSums_sg2_29 v0 v1 t0 t7 t8 fr, f_s_DrawPopularSums_sg2_30 v0 v1 t0 t7 t8 fr, f_s_DrawPopularSums_sg2_60 v0 v1 t0 t7 t8 fr, f_s_DrawPopularSums_sg2_53 v0 v1 t0 t7 t8 fr, f_s_DrawPopularSums_sg2_54 v0 v1 t0 t7 t8 fr, f_s_DrawPopularSums_sg2_60 v0 v1 t0 t7 t8 fr, f_s_DrawPopularSums_sg2_116 v0 v1 t0 t7 t8 fr, f_s_DrawPopularSums_sg2_57 v0 v1 t0 t7 t8 fr, f_s_DrawPopularSums_sg2_58 v0 v1 t0 t7 t8 fr, f_s_DrawPopularSums_sg2_60 v0 v1 t0 t7 t8 fr, f_s_DrawPopularSums_sg2_120 v0 v1 t0 t7 t8 fr, f_s_DrawPopularSums_sg2_113 v0 v1 t0 t7 t8 fr, f_s_DrawPopularSums_sg2_114 v0 v1 t0 t7 t8 fr, f_s_DrawPopularSums_sg2_116 v0 v1 t0 t7 t8 fr, f_s_DrawPopularSums_sg2_120 v0 v1 t0 t7 t8 fr, f_s_DrawPopularSums_sg2_31 v0 v1 t0 t7 t8 fr, f_s_DrawPopularSums_sg2_527 v0 v1 t0 t7 t8 fr, f_s_DrawPopularSums_sg2_31 v0 v1 t0 t7 t8 fr, f_s_DrawPopularSums_sg2_55 v0 v1 t0 t7 t8 fr, f_s_DrawPopularSums_sg2_535 v0 v1 t0 t7 t8 fr, f_s_DrawPopularSums_sg2_527 v0 v1 t0 t7 t8 fr, f_s_DrawPopularSums_sg2_535 v0 v1 t0 t7 t8 fr, f_s_DrawPopularSums_sg2_1543 v0 v1 t0 t7 t8 fr, f_s_DrawPopularSums_sg2_31 v0 v1 t0 t7 t8 fr, f_s_DrawPopularSums_sg2_59 v0 v1 t0 t7 t8 fr, f_s_DrawPopularSums_sg2_539 v0 v1 t0 t7 t8 fr, f_s_DrawPopularSums_sg2_527 v0 v1 t0 t7 t8 fr, f_s_DrawPopularSums_sg2_539 v0 v1 t0 t7 t8 fr, f_s_DrawPopularSums_sg2_1547 v0 v1 t0 t7 t8 fr, f_s_DrawPopularSums_sg2_55 v0 v1 t0 t7 t8 fr, f_s_DrawPopularSums_sg2_59 v0 v1 t0 t7 t8 fr, f_s_DrawPopularSums_sg2_115 v0 v1 t0 t7 t8 fr, f_s_DrawPopularSums_sg2_563 v0 v1 t0 t7 t8 fr, f_s_DrawPopularSums_sg2_535 v0 v1 t0 t7 t8 fr, f_s_DrawPopularSums_sg2_539 v0 v1 t0 t7 t8 fr, f_s_DrawPopularSums_sg2_563 v0 v1 t0 t7 t8 fr, f_s_DrawPopularSums_sg2_1555 v0 v1 t0 t7 t8 fr, f_s_DrawPopularSums_sg2_1543 v0 v1 t0 t7 t8 fr, f_s_DrawPopularSums_sg2_1547 v0 v1 t0 t7 t8 fr, f_s_DrawPopularSums_sg2_1555 v0 v1 t0 t7 t8 fr, f_s_DrawPopularSums_sg2_31 v0 v1 t0 t7 t8 fr, f_s_DrawPopularSums_sg2_61 v0 v1 t0 t7 t8 fr, f_s_DrawPopularSums_sg2_541 v0 v1 t0 t7 t8 fr, f_s_DrawPopularSums_sg2_527 v0 v1 t0 t7 t8 fr, f_s_DrawPopularSums_sg2_541 v0 v1 t0 t7 t8 fr, f_s_DrawPopularSums_sg2_55 v0 v1 t0 t7 t8 fr, f_s_DrawPopularSums_sg2_61 v0 v1 t0 t7 t8 fr, f_s_DrawPopularSums_sg2_117 v0 v1 t0 t7 t8 fr, f_s_DrawPopularSums_sg2_565 v0 v1 t0 t7 t8 fr, f_s_DrawPopularSums_sg2_535 v0 v1 t0 t7 t8 fr, f_s_DrawPopularSums_sg2_541 v0 v1 t0 t7 t8 fr, f_s_DrawPopularSums_sg2_565 v0 v1 t0 t7 t8 fr, f_s_DrawPopularSums_sg2_59 v0 v1 t0 t7 t8 fr, f_s_DrawPopularSums_sg2_61 v0 v1 t0 t7 t8 fr, f_s_DrawPopularSums_sg2_121 v0 v1 t0 t7 t8 fr, f_s_DrawPopularSums_sg2_569 v0 v1 t0 t7 t8 fr, f_s_DrawPopularSums_sg2_539 v0 v1 t0 t7 t8 fr, f_s_DrawPopularSums_sg2_541 v0 v1 t0 t7 t8 fr, f_s_DrawPopularSums_sg2_569 v0 v1 t0 t7 t8 fr, f_s_DrawPopularSums_sg2_115 v0 v1 t0 t7 t8 fr, f_s_DrawPopularSums_sg2_117 v0 v1 t0 t7 t8 fr, f_s_DrawPopularSums_sg2_121 v0 v1 t0 t7 t8 fr, f_s_DrawPopularSums_sg2_625 v0 v1 t0 t7 t8 fr, f_s_DrawPopularSums_sg2_563 v0 v1 t0 t7 t8 fr, f_s_DrawPopularSums_sg2_565 v0 v1 t0 t7 t8 fr, f_s_DrawPopularSums_sg2_569 v0 v1 t0 t7 t8 fr, f_s_DrawPopularSums_sg2_625 v0 v1 t0 t7 t8 fr, f_s_DrawPopularSums_sg2_31 v0 v1 t0 t7 t8 fr, f_s_DrawPopularSums_sg2_62 v0 v1 t0 t7 t8 fr, f_s_DrawPopularSums_sg2_55 v0 v1 t0 t7 t8 fr, f_s_DrawPopularSums_sg2_62 v0 v1 t0 t7 t8 fr, f_s_DrawPopularSums_sg2_118 v0 v1 t0 t7 t8 fr, f_s_DrawPopularSums_sg2_59 v0 v1 t0 t7 t8 fr, f_s_DrawPopularSums_sg2_62 v0 v1 t0 t7 t8 fr, f_s_DrawPopularSums_sg2_122 v0 v1 t0 t7 t8 fr, f_s_DrawPopularSums_sg2_115 v0 v1 t0 t7 t8 fr, f_s_DrawPopularSums_sg2_118 v0 v1 t0 t7 t8 fr, f_s_DrawPopularSums_sg2_122 v0 v1 t0 t7 t8 fr, f_s_DrawPopularSums_sg2_61 v0 v1 t0 t7 t8 fr, f_s_DrawPopularSums_sg2_62 v0 v1 t0 t7 t8 fr, f_s_DrawPopularSums_sg2_124 v0 v1 t0 t7 t8 fr, f_s_DrawPopularSums_sg2_117 v0 v1 t0 t7 t8 fr, f_s_DrawPopularSums_sg2_118 v0 v1 t0 t7 t8 fr, f_s_DrawPopularSums_sg2_124 v0 v1 t0 t7 t8 fr, f_s_DrawPopularSums_sg2_121 v0 v1 t0 t7 t8 fr, f_s_DrawPopularSums_sg2_122 v0 v1 t0 t7 t8 fr, f_s_DrawPopularSums_sg2_124 v0 v1 t0 t7 t8 fr, f_s_DrawPopularSums_sg2_248 v0 v1 t0 t7 t8 fr, f_s_DrawPopularSums_sg2_63 v0 v1 t0 t7 t8 fr, f_s_DrawPopularSums_sg2_543 v0 v1 t0 t7 t8 fr, f_s_DrawPopularSums_sg2_543 v0 v1 t0 t7 t8 fr, f_s_DrawPopularSums_sg2_1551 v0 v1 t0 t7 t8 fr, f_s_DrawPopularSums_sg2_63 v0 v1 t0 t7 t8 fr, f_s_DrawPopularSums_sg2_119 v0 v1 t0 t7 t8 fr, f_s_DrawPopularSums_sg2_567 v0 v1 t0 t7 t8 fr, f_s_DrawPopularSums_sg2_543 v0 v1 t0 t7 t8 fr, f_s_DrawPopularSums_sg2_567 v0 v1 t0 t7 t8 fr, f_s_DrawPopularSums_sg2_1559 v0 v1 t0 t7 t8 fr, f_s_DrawPopularSums_sg2_1551 v0 v1 t0 t7 t8 fr, f_s_DrawPopularSums_sg2_1559 v0 v1 t0 t7 t8 fr, f_s_DrawPopularSums_sg2_3591 v0 v1 t0 t7 t8 fr, f_s_DrawPopularSums_sg2_63 v0 v1 t0 t7 t8 fr, f_s_DrawPopularSums_sg2_123 v0 v1 t0 t7 t8 fr, f_s_DrawPopularSums_sg2_571 v0 v1 t0 t7 t8 fr, f_s_DrawPopularSums_sg2_543 v0 v1 t0 t7 t8 fr, f_s_DrawPopularSums_sg2_571 v0 v1 t0 t7 t8 fr, f_s_DrawPopularSums_sg2_1563 v0 v1 t0 t7 t8 fr, f_s_DrawPopularSums_sg2_1551 v0 v1 t0 t7 t8 fr, f_s_DrawPopularSums_sg2_1563 v0 v1 t0 t7 t8 fr, f_s_DrawPopularSums_sg2_119 v0 v1 t0 t7 t8 fr, f_s_DrawPopularSums_sg2_123 v0 v1 t0 t7 t8 fr, f_s_DrawPopularSums_sg2_627 v0 v1 t0 t7 t8 fr, f_s_DrawPopularSums_sg2_567 v0 v1 t0 t7 t8 fr, f_s_DrawPopularSums_sg2_571 v0 v1 t0 t7 t8 fr, f_s_DrawPopularSums_sg2_627 v0 v1 t0 t7 t8 fr, f_s_DrawPopularSums_sg2_1587 v0 v1 t0 t7 t8 fr, f_s_DrawPopularSums_sg2_1559 v0 v1 t0 t7 t8 fr, f_s_DrawPopularSums_sg2_1563 v0 v1 t0 t7 t8 fr, f_s_DrawPopularSums_sg2_1587 v0 v1 t0 t7 t8 fr, f_s_DrawPopularSums_sg2_63 v0 v1 t0 t7 t8 fr, f_s_DrawPopularSums_sg2_125 v0 v1 t0 t7 t8 fr, f_s_DrawPopularSums_sg2_573 v0 v1 t0 t7 t8 fr, f_s_DrawPopularSums_sg2_543 v0 v1 t0 t7 t8 fr, f_s_DrawPopularSums_sg2_573 v0 v1 t0 t7 t8 fr, f_s_DrawPopularSums_sg2_119 v0 v1 t0 t7 t8 fr, f_s_DrawPopularSums_sg2_125 v0 v1 t0 t7 t8 fr, f_s_DrawPopularSums_sg2_629 v0 v1 t0 t7 t8 fr, f_s_DrawPopularSums_sg2_567 v0 v1 t0 t7 t8 fr, f_s_DrawPopularSums_sg2_573 v0 v1 t0 t7 t8 fr, f_s_DrawPopularSums_sg2_629 v0 v1 t0 t7 t8 fr, f_s_DrawPopularSums_sg2_123 v0 v1 t0 t7 t8 fr, f_s_DrawPopularSums_sg2_125 v0 v1 t0 t7 t8 fr, f_s_DrawPopularSums_sg2_249 v0 v1 t0 t7 t8 fr, f_s_DrawPopularSums_sg2_633 v0 v1 t0 t7 t8 fr, f_s_DrawPopularSums_sg2_571 v0 v1 t0 t7 t8 fr, f_s_DrawPopularSums_sg2_573 v0 v1 t0 t7 t8 fr, f_s_DrawPopularSums_sg2_633 v0 v1 t0 t7 t8 fr, f_s_DrawPopularSums_sg2_627 v0 v1 t0 t7 t8 fr, f_s_DrawPopularSums_sg2_629 v0 v1 t0 t7 t8 fr, f_s_DrawPopularSums_sg2_633 v0 v1 t0 t7 t8 fr, f_s_DrawPopularSums_sg2_63 v0 v1 t0 t7 t8 fr, f_s_DrawPopularSums_sg2_126 v0 v1 t0 t7 t8 fr, f_s_DrawPopularSums_sg2_119 v0 v1 t0 t7 t8 fr, f_s_DrawPopularSums_sg2_126 v0 v1 t0 t7 t8 fr, f_s_DrawPopularSums_sg2_123 v0 v1 t0 t7 t8 fr, f_s_DrawPopularSums_sg2_126 v0 v1 t0 t7 t8 fr, f_s_DrawPopularSums_sg2_250 v0 v1 t0 t7 t8 fr, f_s_DrawPopularSums_sg2_125 v0 v1 t0 t7 t8 fr, f_s_DrawPopularSums_sg2_126 v0 v1 t0 t7 t8 fr, f_s_DrawPopularSums_sg2_252 v0 v1 t0 t7 t8 fr, f_s_DrawPopularSums_sg2_249 v0 v1 t0 t7 t8 fr, f_s_DrawPopularSums_sg2_250 v0 v1 t0 t7 t8 fr, f_s_DrawPopularSums_sg2_252 v0 v1 t0 t7 t8 fr, f_s_DrawPopularSums_sg2_504 v0 v1 t0 t7 t8 fr, f_s_DrawPopularSums_sg2_127 v0 v1 t0 t7 t8 fr, f_s_DrawPopularSums_sg2_575 v0 v1 t0 t7 t8 fr, f_s_DrawPopularSums_sg2_575 v0 v1 t0 t7 t8 fr, f_s_DrawPopularSums_sg2_1567 v0 v1 t0 t7 t8 fr, f_s_DrawPopularSums_sg2_1567 v0 v1 t0 t7 t8 fr, f_s_DrawPopularSums_sg2_3599 v0 v1 t0 t7 t8 fr, f_s_DrawPopularSums_sg2_127 v0 v1 t0 t7 t8 fr, f_s_DrawPopularSums_sg2_631 v0 v1 t0 t7 t8 fr, f_s_DrawPopularSums_sg2_575 v0 v1 t0 t7 t8 fr, f_s_DrawPopularSums_sg2_631 v0 v1 t0 t7 t8 fr, f_s_DrawPopularSums_sg2_1591 v0 v1 t0 t7 t8 fr, f_s_DrawPopularSums_sg2_1567 v0 v1 t0 t7 t8 fr, f_s_DrawPopularSums_sg2_1591 v0 v1 t0 t7 t8 fr, f_s_DrawPopularSums_sg2_3607 v0 v1 t0 t7 t8 fr, f_s_DrawPopularSums_sg2_3599 v0 v1 t0 t7 t8 fr, f_s_DrawPopularSums_sg2_3607 v0 v1 t0 t7 t8 fr, f_s_DrawPopularSums_sg2_127 v0 v1 t0 t7 t8 fr, f_s_DrawPopularSums_sg2_251 v0 v1 t0 t7 t8 fr, f_s_DrawPopularSums_sg2_635 v0 v1 t0 t7 t8 fr, f_s_DrawPopularSums_sg2_575 v0 v1 t0 t7 t8 fr, f_s_DrawPopularSums_sg2_635 v0 v1 t0 t7 t8 fr, f_s_DrawPopularSums_sg2_1595 v0 v1 t0 t7 t8 fr, f_s_DrawPopularSums_sg2_1567 v0 v1 t0 t7 t8 fr, f_s_DrawPopularSums_sg2_1595 v0 v1 t0 t7 t8 fr, f_s_DrawPopularSums_sg2_631 v0 v1 t0 t7 t8 fr, f_s_DrawPopularSums_sg2_635 v0 v1 t0 t7 t8 fr, f_s_DrawPopularSums_sg2_1651 v0 v1 t0 t7 t8 fr, f_s_DrawPopularSums_sg2_1591 v0 v1 t0 t7 t8 fr, f_s_DrawPopularSums_sg2_1595 v0 v1 t0 t7 t8 fr, f_s_DrawPopularSums_sg2_1651 v0 v1 t0 t7 t8 fr, f_s_DrawPopularSums_sg2_127 v0 v1 t0 t7 t8 fr, f_s_DrawPopularSums_sg2_253 v0 v1 t0 t7 t8 fr, f_s_DrawPopularSums_sg2_637 v0 v1 t0 t7 t8 fr, f_s_DrawPopularSums_sg2_575 v0 v1 t0 t7 t8 fr, f_s_DrawPopularSums_sg2_637 v0 v1 t0 t7 t8 fr, f_s_DrawPopularSums_sg2_631 v0 v1 t0 t7 t8 fr, f_s_DrawPopularSums_sg2_637 v0 v1 t0 t7 t8 fr, f_s_DrawPopularSums_sg2_251 v0 v1 t0 t7 t8 fr, f_s_DrawPopularSums_sg2_253 v0 v1 t0 t7 t8 fr, f_s_DrawPopularSums_sg2_505 v0 v1 t0 t7 t8 fr, f_s_DrawPopularSums_sg2_761 v0 v1 t0 t7 t8 fr, f_s_DrawPopularSums_sg2_635 v0 v1 t0 t7 t8 fr, f_s_DrawPopularSums_sg2_637 v0 v1 t0 t7 t8 fr, f_s_DrawPopularSums_sg2_761 v0 v1 t0 t7 t8 fr, f_s_DrawPopularSums_sg2_127 v0 v1 t0 t7 t8 fr, f_s_DrawPopularSums_sg2_254 v0 v1 t0 t7 t8 fr, f_s_DrawPopularSums_sg2_251 v0 v1 t0 t7 t8 fr, f_s_DrawPopularSums_sg2_254 v0 v1 t0 t7 t8 fr, f_s_DrawPopularSums_sg2_506 v0 v1 t0 t7 t8 fr, f_s_DrawPopularSums_sg2_253 v0 v1 t0 t7 t8 fr, f_s_DrawPopularSums_sg2_254 v0 v1 t0 t7 t8 fr, f_s_DrawPopularSums_sg2_508 v0 v1 t0 t7 t8 fr, f_s_DrawPopularSums_sg2_505 v0 v1 t0 t7 t8 fr, f_s_DrawPopularSums_sg2_506 v0 v1 t0 t7 t8 fr, f_s_DrawPopularSums_sg2_508 v0 v1 t0 t7 t8 fr, f_s_DrawPopularSums_sg2_255 v0 v1 t0 t7 t8 fr, f_s_DrawPopularSums_sg2_639 v0 v1 t0 t7 t8 fr, f_s_DrawPopularSums_sg2_639 v0 v1 t0 t7 t8 fr, f_s_DrawPopularSums_sg2_1599 v0 v1 t0 t7 t8 fr, f_s_DrawPopularSums_sg2_1599 v0 v1 t0 t7 t8 fr, f_s_DrawPopularSums_sg2_3615 v0 v1 t0 t7 t8 fr, f_s_DrawPopularSums_sg2_3615 v0 v1 t0 t7 t8 fr, f_s_DrawPopularSums_sg2_639 v0 v1 t0 t7 t8 fr, f_s_DrawPopularSums_sg2_1655 v0 v1 t0 t7 t8 fr, f_s_DrawPopularSums_sg2_1599 v0 v1 t0 t7 t8 fr, f_s_DrawPopularSums_sg2_1655 v0 v1 t0 t7 t8 fr, f_s_DrawPopularSums_sg2_3639 v0 v1 t0 t7 t8 fr, f_s_DrawPopularSums_sg2_3615 v0 v1 t0 t7 t8 fr, f_s_DrawPopularSums_sg2_3639 v0 v1 t0 t7 t8 fr, f_s_DrawPopularSums_sg2_255 v0 v1 t0 t7 t8 fr, f_s_DrawPopularSums_sg2_507 v0 v1 t0 t7 t8 fr, f_s_DrawPopularSums_sg2_763 v0 v1 t0 t7 t8 fr, f_s_DrawPopularSums_sg2_639 v0 v1 t0 t7 t8 fr, f_s_DrawPopularSums_sg2_763 v0 v1 t0 t7 t8 fr, f_s_DrawPopularSums_sg2_1659 v0 v1 t0 t7 t8 fr, f_s_DrawPopularSums_sg2_1599 v0 v1 t0 t7 t8 fr, f_s_DrawPopularSums_sg2_1659 v0 v1 t0 t7 t8 fr, f_s_DrawPopularSums_sg2_1655 v0 v1 t0 t7 t8 fr, f_s_DrawPopularSums_sg2_1659 v0 v1 t0 t7 t8 fr, f_s_DrawPopularSums_sg2_255 v0 v1 t0 t7 t8 fr, f_s_DrawPopularSums_sg2_509 v0 v1 t0 t7 t8 fr, f_s_DrawPopularSums_sg2_765 v0 v1 t0 t7 t8 fr, f_s_DrawPopularSums_sg2_639 v0 v1 t0 t7 t8 fr, f_s_DrawPopularSums_sg2_765 v0 v1 t0 t7 t8 fr, f_s_DrawPopularSums_sg2_507 v0 v1 t0 t7 t8 fr, f_s_DrawPopularSums_sg2_509 v0 v1 t0 t7 t8 fr, f_s_DrawPopularSums_sg2_1017 v0 v1 t0 t7 t8 fr, f_s_DrawPopularSums_sg2_763 v0 v1 t0 t7 t8 fr, f_s_DrawPopularSums_sg2_765 v0 v1 t0 t7 t8 fr, f_s_DrawPopularSums_sg2_1017 v0 v1 t0 t7 t8 fr, f_s_DrawPopularSums_sg2_255 v0 v1 t0 t7 t8 fr, f_s_DrawPopularSums_sg2_510 v0 v1 t0 t7 t8 fr, f_s_DrawPopularSums_sg2_507 v0 v1 t0 t7 t8 fr, f_s_DrawPopularSums_sg2_510 v0 v1 t0 t7 t8 fr, f_s_DrawPopularSums_sg2_509 v0 v1 t0 t7 t8 fr, f_s_DrawPopularSums_sg2_510 v0 v1 t0 t7 t8 fr, f_s_DrawPopularSums_sg2_511 v0 v1 t0 t7 t8 fr, f_s_DrawPopularSums_sg2_767 v0 v1 t0 t7 t8 fr, f_s_DrawPopularSums_sg2_767 v0 v1 t0 t7 t8 fr, f_s_DrawPopularSums_sg2_1663 v0 v1 t0 t7 t8 fr, f_s_DrawPopularSums_sg2_1663 v0 v1 t0 t7 t8 fr, f_s_DrawPopularSums_sg2_3647 v0 v1 t0 t7 t8 fr, f_s_DrawPopularSums_sg2_3647 v0 v1 t0 t7 t8 fr, f_s_DrawPopularSums_sg2_1663 v0 v1 t0 t7 t8 fr, f_s_DrawPopularSums_sg2_3703 v0 v1 t0 t7 t8 fr, f_s_DrawPopularSums_sg2_3647 v0 v1 t0 t7 t8 fr, f_s_DrawPopularSums_sg2_3703 v0 v1 t0 t7 t8 fr, f_s_DrawPopularSums_sg2_511 v0 v1 t0 t7 t8 fr, f_s_DrawPopularSums_sg2_1019 v0 v1 t0 t7 t8 fr, f_s_DrawPopularSums_sg2_767 v0 v1 t0 t7 t8 fr, f_s_DrawPopularSums_sg2_1019 v0 v1 t0 t7 t8 fr, f_s_DrawPopularSums_sg2_1787 v0 v1 t0 t7 t8 fr, f_s_DrawPopularSums_sg2_1663 v0 v1 t0 t7 t8 fr, f_s_DrawPopularSums_sg2_1787 v0 v1 t0 t7 t8 fr, f_s_DrawPopularSums_sg2_511 v0 v1 t0 t7 t8 fr, f_s_DrawPopularSums_sg2_1021 v0 v1 t0 t7 t8 fr, f_s_DrawPopularSums_sg2_767 v0 v1 t0 t7 t8 fr, f_s_DrawPopularSums_sg2_1021 v0 v1 t0 t7 t8 fr, f_s_DrawPopularSums_sg2_1019 v0 v1 t0 t7 t8 fr, f_s_DrawPopularSums_sg2_1021 v0 v1 t0 t7 t8 fr, f_s_DrawPopularSums_sg2_511 v0 v1 t0 t7 t8 fr, f_s_DrawPopularSums_sg2_1023 v0 v1 t0 t7 t8 fr, f_s_DrawPopularSums_sg2_1023 v0 v1 t0 t7 t8 fr, f_s_DrawPopularSums_sg2_1791 v0 v1 t0 t7 t8 fr, f_s_DrawPopularSums_sg2_1791 v0 v1 t0 t7 t8 fr, f_s_DrawPopularSums_sg2_3711 v0 v1 t0 t7 t8 fr, f_s_DrawPopularSums_sg2_3711 v0 v1 t0 t7 t8 fr, f_s_DrawPopularSums_sg2_3711 v0 v1 t0 t7 t8 fr, f_s_DrawPopularSums_sg2_1023 v0 v1 t0 t7 t8 fr, f_s_DrawPopularSums_sg2_2043 v0 v1 t0 t7 t8 fr, f_s_DrawPopularSums_sg2_1791 v0 v1 t0 t7 t8 fr, f_s_DrawPopularSums_sg2_2043 v0 v1 t0 t7 t8 fr, f_s_DrawPopularSums_sg2_1023 v0 v1 t0 t7 t8 fr, f_s_DrawPopularSums_sg2_2047 v0 v1 t0 t7 t8 fr, f_s_DrawPopularSums_sg2_2047 v0 v1 t0 t7 t8 fr, f_s_DrawPopularSums_sg2_3839 v0 v1 t0 t7 t8 fr, f_s_DrawPopularSums_sg2_3839 v0 v1 t0 t7 t8 fr, f_s_DrawPopularSums_sg2_2047 v0 v1 t0 t7 t8 fr, f_s_DrawPopularSums_sg2_4095 v0 v1 t0 t7 t8 fr, f_s_DrawPopularSums_sg2_4095 v0 v1 t0 t7 t8 fr, f_s_DrawPopularSums_sg2_8191 v0 v1 t0 t7 t8 fr]
theorem f_s_DrawPopularSums_dLg2 (v0 : List Sc) (v1 : List Sc) (t0 : List Sc) (t7 : Int) (t8 : Int) : edgeL E0 f_s_DrawPopularSums_M H0 f_s_DrawPopularSums_F (opsAt (bodyOf Try.f47 100002)) f_s_DrawPopularSums_Dg2 (f_s_DrawPopularSums_frg2 v0 v1 t0 t7 t8) = f_s_DrawPopularSums_Eg2 v0 v1 t0 t7 t8 (f_s_DrawPopularSums_frg2 v0 v1 t0 t7 t8) := by kernel_rfl
theorem f_s_DrawPopularSums_dRg2 (v0 : List Sc) (v1 : List Sc) (t0 : List Sc) (t7 : Int) (t8 : Int) : edgeR E0 f_s_DrawPopularSums_M H0 f_s_DrawPopularSums_F (opsAt (bodyOf Try.f47 100002)) f_s_DrawPopularSums_Dg2 (f_s_DrawPopularSums_frg2 v0 v1 t0 t7 t8) = f_s_DrawPopularSums_Eg2 v0 v1 t0 t7 t8 (f_s_DrawPopularSums_frg2 v0 v1 t0 t7 t8) := by kernel_rfl
theorem f_s_DrawPopularSums_dg2 (v0 : List Sc) (v1 : List Sc) (t0 : List Sc) (t7 : Int) (t8 : Int) : edgeL E0 f_s_DrawPopularSums_M H0 f_s_DrawPopularSums_F (opsAt (bodyOf Try.f47 100002)) f_s_DrawPopularSums_Dg2 (f_s_DrawPopularSums_frg2 v0 v1 t0 t7 t8) = edgeR E0 f_s_DrawPopularSums_M H0 f_s_DrawPopularSums_F (opsAt (bodyOf Try.f47 100002)) f_s_DrawPopularSums_Dg2 (f_s_DrawPopularSums_frg2 v0 v1 t0 t7 t8) := (f_s_DrawPopularSums_dLg2 v0 v1 t0 t7 t8).trans (f_s_DrawPopularSums_dRg2 v0 v1 t0 t7 t8).symm
theorem f_s_DrawPopularSums_eg2 (v0 : List Sc) (v1 : List Sc) (t0 : List Sc) (t7 : Int) (t8 : Int) : goL E0 f_s_DrawPopularSums_M H0 f_s_DrawPopularSums_F (opsAt (bodyOf Try.f47 100002)) (Array.replicate (opsAt (bodyOf Try.f47 100002)).size true) (opsAt (bodyOf Try.f47 100002)).toList 0 (f_s_DrawPopularSums_frg2 v0 v1 t0 t7 t8) (fun s => some (X.norm, clear (klOf f_s_DrawPopularSums_F 100002).2.1 s)) = f_s_DrawPopularSums_g2_k v0 v1 t0 t7 t8 (fun e => some (f_s_DrawPopularSums_xg2 v0 v1 t0 t7 t8 e)) := by kernel_rfl
theorem f_s_DrawPopularSums_lg2 (v0 : List Sc) (v1 : List Sc) (t0 : List Sc) (t7 : Int) (t8 : Int) (r : Int) (h : f_s_DrawPopularSums_g2 v0 v1 t0 t7 t8 = some r) : LS Try.prog f_s_DrawPopularSums_F (bodyOf Try.f47 100002) (f_s_DrawPopularSums_frg2 v0 v1 t0 t7 t8) (f_s_DrawPopularSums_xg2 v0 v1 t0 t7 t8 r) :=
  region_true (S := Unit) (id := 2) (G := fun _ => f_s_DrawPopularSums_g2 v0 v1 t0 t7 t8) (Gk := fun _ k => f_s_DrawPopularSums_g2_k v0 v1 t0 t7 t8 k) (fr := fun _ => f_s_DrawPopularSums_frg2 v0 v1 t0 t7 t8) (f1 := fun e => f_s_DrawPopularSums_xg2 v0 v1 t0 t7 t8 e) E0ok f_s_DrawPopularSums_Mt f_s_DrawPopularSums_bg2 f_s_DrawPopularSums_cg2 (fun _ => f_s_DrawPopularSums_dg2 v0 v1 t0 t7 t8) (fun _ => rfl) (fun _ => f_s_DrawPopularSums_eg2 v0 v1 t0 t7 t8) (fun _ k => f_s_DrawPopularSums_pg2 v0 v1 t0 t7 t8 k) () r h
def f_s_DrawPopularSums_tg2 (σ : List AV) : Option (Bool × Bool × (X × List AV) × (X × List AV)) := match dec f_s_DrawPopularSums_hg2 σ with
  | some [.l v0, .l v1, .l t0, .i t7, .i t8] => some ((f_s_DrawPopularSums_g2 v0 v1 t0 t7 t8).isSome, true, f_s_DrawPopularSums_xg2 v0 v1 t0 t7 t8 ((f_s_DrawPopularSums_g2 v0 v1 t0 t7 t8).getD 0), (.ret, []))
  | _ => none
theorem f_s_DrawPopularSums_ttg2 : TTrue Try.prog f_s_DrawPopularSums_F Try.f47 100002 f_s_DrawPopularSums_tg2 := by
  intro σ p r r' h
  unfold f_s_DrawPopularSums_tg2 at h
  split at h
  · rename_i hd
    rw [← dec_enc hd]
    exact rowR (f_s_DrawPopularSums_lg2 _ _ _ _ _) h
  · cases h
theorem f_s_DrawPopularSums_p {R : Type} (code0 : List Sc) (kR : List Sc × Int × Int × Int → Option R) : f_s_DrawPopularSums_k code0 kR = (f_s_DrawPopularSums_k code0 some).bind kR := by
  simp only [f_s_DrawPopularSums_k, boB, someB]
theorem f_s_DrawPopularSums_e (code0 : List Sc) : runFn E0 f_s_DrawPopularSums_M H0 f_s_DrawPopularSums_F (asL (addL 100002 f_s_DrawPopularSums_tg2 (noL))) Try.f47 (f_s_DrawPopularSums_a code0) (f_s_DrawPopularSums_i code0) = f_s_DrawPopularSums_k code0 (fun r => some (f_s_DrawPopularSums_en r)) := by kernel_rfl
theorem f_s_DrawPopularSums_ok (code0 : List Sc) (r : List Sc × Int × Int × Int) (h : f_s_DrawPopularSums code0 = some r) : CS Try.prog 47 (f_s_DrawPopularSums_a code0) (f_s_DrawPopularSums_i code0) (f_s_DrawPopularSums_en r).1 (f_s_DrawPopularSums_en r).2 :=
  fn_true (Gk := fun k => f_s_DrawPopularSums_k code0 k) (en := f_s_DrawPopularSums_en) Try.func47 E0ok f_s_DrawPopularSums_Mt (addL_true f_s_DrawPopularSums_ttg2 (noL_true)) f_s_DrawPopularSums_o (f_s_DrawPopularSums_e code0) (f_s_DrawPopularSums_p code0) h
def f_s_DrawPopularSums_c : CRow := fun args inh => match dec2 [.p .sl] [] args inh with
  | some ([.l code0], []) => some ((f_s_DrawPopularSums code0).isSome, (f_s_DrawPopularSums_en ((f_s_DrawPopularSums code0).getD ([], 0, 0, 0))).1, (f_s_DrawPopularSums_en ((f_s_DrawPopularSums code0).getD ([], 0, 0, 0))).2)
  | _ => none
theorem f_s_DrawPopularSums_cc : CTrue Try.prog 47 f_s_DrawPopularSums_c := by
  intro args inh rs out h
  unfold f_s_DrawPopularSums_c at h
  split at h
  · rename_i hd
    obtain ⟨h1, h2⟩ := dec2_enc hd
    rw [← h1, ← h2]
    exact rowC (f_s_DrawPopularSums_ok _) h
  · cases h

def f_i_PopularSums_F : Fi := { nv := 0, nc := 0, m := 0, vt := [], kl := [(0, ([0, 1, 2, 4, 5, 6, 7, 8, 10, 11, 12, 13, 14, 15, 16, 17, 18, 19, 20, 21, 22, 23, 24, 25, 29, 30, 31, 32, 33, 34, 35, 36, 37, 38, 39, 40, 41], [0, 1, 2, 3, 4, 5, 6, 7, 8, 10, 11, 12, 13, 14, 15, 16, 17, 18, 19, 20, 21, 22, 23, 24, 25, 26, 27, 28, 29, 30, 31, 32, 33, 34, 35, 36, 37, 38, 39, 40, 41], [0, 1, 2, 3, 4, 5, 6, 7, 9, 10, 11, 12, 13, 14, 15, 16, 17, 18, 19, 20, 21, 22, 23, 24, 25, 26, 27, 28, 29, 30, 31, 32, 33, 34, 35, 36, 37, 38, 39, 40, 41]))], sk := [], mvs := [], fz := [] }
def f_i_PopularSums_a (g0 : List Sc) (a1 : Int) (b2 : Int) (t3 : Int) : List AV := enc [.p .gr, .p (.int .i64), .p (.int .i64), .p (.int .i64)] [.l g0, .i a1, .i b2, .i t3]
def f_i_PopularSums_i (g0 : List Sc) (a1 : Int) (b2 : Int) (t3 : Int) : List AV := enc [] []
def f_i_PopularSums_en (r : Int) : List AV × List AV := (enc [.p (.int .i64)] [.i r], enc [] [])
def f_i_PopularSums_M : Calling := addC 158 f_i_areSets_c (addC 144 f_i_within_c (addC 159 f_i_SumTable_c (noC)))
theorem f_i_PopularSums_Mt : CallOk Try.prog (f_i_PopularSums_M) := addC_true f_i_areSets_cc (addC_true f_i_within_cc (addC_true f_i_SumTable_cc (noC_true)))
theorem f_i_PopularSums_o : loopsOnce Try.f48 = true := by kernel_rfl
def f_i_PopularSums_h0 : List Sh := [.u, .u, .u, .p (.int .i64), .u, .u, .u, .u, .u, .p (.int .i64), .u, .u, .u, .u, .u, .u, .u, .u, .u, .u, .u, .u, .u, .u, .u, .u, .own 3, .p (.int .i64), .p (.int .i64), .u, .u, .u, .u, .u, .u, .u, .u, .u, .u, .u, .u, .u]
def f_i_PopularSums_fr0 (t3 : Int) (t27 : Int) (s : Int × List Sc × Int) : List AV := enc f_i_PopularSums_h0 [.i t3, .i s.1, .l s.2.1, .i t27, .i s.2.2]
def f_i_PopularSums_g0_1 : List Sh := [.u, .u, .u, .u, .u, .u, .u, .u, .u, .p (.int .i64), .u, .u, .u, .u, .u, .u, .u, .u, .u, .u, .u, .u, .u, .u, .u, .u, .u, .u, .u, .u, .u, .u, .u, .u, .u, .u, .u, .u, .u, .u, .u, .u]
def f_i_PopularSums_x0_1 (t3 : Int) (t27 : Int) (e : Int) : X × List AV := (.out 0, enc f_i_PopularSums_g0_1 [.i e])
def f_i_PopularSums_x0_2 (t3 : Int) (t27 : Int) (_e : Unit) : X × List AV := (.ret, [])
theorem f_i_PopularSums_p0 {R : Type} (t3 : Int) (t27 : Int) (s : Int × List Sc × Int) (kN : Int × List Sc × Int → Option R) (kA : Int → Option R) (kB : Unit → Option R) : f_i_PopularSums_k0 t3 t27 s.1 s.2.1 s.2.2 kN kA = (f_i_PopularSums_r0 t3 t27 s).bind (Ro.el kN kA kB) := by
  simp only [f_i_PopularSums_k0, f_i_PopularSums_r0, brB, someB, noneB, Ro.el]
theorem f_i_PopularSums_e0 (t3 : Int) (t27 : Int) (s : Int × List Sc × Int) : EC E0 f_i_PopularSums_M H0 f_i_PopularSums_F (asL (noL)) 0 (bodyOf Try.f48 0) (f_i_PopularSums_fr0 t3 t27 s) (done (klOf f_i_PopularSums_F 0)) = f_i_PopularSums_k0 t3 t27 s.1 s.2.1 s.2.2 (fun s => some (.norm, f_i_PopularSums_fr0 t3 t27 s)) (fun e => some (f_i_PopularSums_x0_1 t3 t27 e)) := by kernel_rfl
theorem f_i_PopularSums_l0 (t3 : Int) (t27 : Int) : ∀ s r, loopL (f_i_PopularSums_r0 t3 t27) s = some r → LS Try.prog f_i_PopularSums_F (bodyOf Try.f48 0) (f_i_PopularSums_fr0 t3 t27 s) (enX (f_i_PopularSums_x0_1 t3 t27) (f_i_PopularSums_x0_2 t3 t27) r) :=
  loop_true E0ok f_i_PopularSums_Mt (noL_true) f_i_PopularSums_o (fun _ h => by cases h) (fun _ h => by cases h) (fun s => (f_i_PopularSums_e0 t3 t27 s).trans (f_i_PopularSums_p0 t3 t27 s _ _ (fun e => some (f_i_PopularSums_x0_2 t3 t27 e))))
def f_i_PopularSums_t0 (σ : List AV) : Option (Bool × Bool × (X × List AV) × (X × List AV)) := match dec f_i_PopularSums_h0 σ with
  | some [.i t3, .i out9, .l t26, .i t27, .i t28] => some (isOne (loopL (f_i_PopularSums_r0 t3 t27) (out9, t26, t28)), true, f_i_PopularSums_x0_1 t3 t27 (getOne 0 (loopL (f_i_PopularSums_r0 t3 t27) (out9, t26, t28))), (.ret, []))
  | _ => none
theorem f_i_PopularSums_tt0 : TTrue Try.prog f_i_PopularSums_F Try.f48 0 (f_i_PopularSums_t0) := by
  intro σ p r r' h
  unfold f_i_PopularSums_t0 at h
  split at h
  · rename_i hd
    rw [← dec_enc hd]
    exact row1 (f_i_PopularSums_l0 _ _ _) h
  · cases h
theorem f_i_PopularSums_p {R : Type} (g0 : List Sc) (a1 : Int) (b2 : Int) (t3 : Int) (kR : Int → Option R) : f_i_PopularSums_k g0 a1 b2 t3 kR = (f_i_PopularSums_k g0 a1 b2 t3 some).bind kR := by
  simp only [f_i_PopularSums_k, brB, boB, bl1B, someB]
theorem f_i_PopularSums_e (g0 : List Sc) (a1 : Int) (b2 : Int) (t3 : Int) : runFn E0 f_i_PopularSums_M H0 f_i_PopularSums_F (asL (addL 0 (f_i_PopularSums_t0) (noL))) Try.f48 (f_i_PopularSums_a g0 a1 b2 t3) (f_i_PopularSums_i g0 a1 b2 t3) = f_i_PopularSums_k g0 a1 b2 t3 (fun r => some (f_i_PopularSums_en r)) := by kernel_rfl
theorem f_i_PopularSums_ok (g0 : List Sc) (a1 : Int) (b2 : Int) (t3 : Int) (r : Int) (h : f_i_PopularSums g0 a1 b2 t3 = some r) : CS Try.prog 48 (f_i_PopularSums_a g0 a1 b2 t3) (f_i_PopularSums_i g0 a1 b2 t3) (f_i_PopularSums_en r).1 (f_i_PopularSums_en r).2 :=
  fn_true (Gk := fun k => f_i_PopularSums_k g0 a1 b2 t3 k) (en := f_i_PopularSums_en) Try.func48 E0ok f_i_PopularSums_Mt (addL_true (f_i_PopularSums_tt0) (noL_true)) f_i_PopularSums_o (f_i_PopularSums_e g0 a1 b2 t3) (f_i_PopularSums_p g0 a1 b2 t3) h
def f_i_PopularSums_c : CRow := fun args inh => match dec2 [.p .gr, .p (.int .i64), .p (.int .i64), .p (.int .i64)] [] args inh with
  | some ([.l g0, .i a1, .i b2, .i t3], []) => some ((f_i_PopularSums g0 a1 b2 t3).isSome, (f_i_PopularSums_en ((f_i_PopularSums g0 a1 b2 t3).getD 0)).1, (f_i_PopularSums_en ((f_i_PopularSums g0 a1 b2 t3).getD 0)).2)
  | _ => none
theorem f_i_PopularSums_cc : CTrue Try.prog 48 f_i_PopularSums_c := by
  intro args inh rs out h
  unfold f_i_PopularSums_c at h
  split at h
  · rename_i hd
    obtain ⟨h1, h2⟩ := dec2_enc hd
    rw [← h1, ← h2]
    exact rowC (f_i_PopularSums_ok _ _ _ _) h
  · cases h

def f_s_SumTable_F : Fi := { nv := 0, nc := 0, m := 0, vt := [], kl := [(2, ([0, 1, 2, 4, 5, 6, 12, 13, 14, 15, 16, 17, 18, 19, 20, 21, 22, 23, 24, 25, 26, 27, 28, 29, 30, 31, 32, 33, 34, 35, 36, 37, 38, 39, 40, 41, 42, 43, 44, 45, 46, 47, 48, 49, 50, 51, 52, 53, 54, 55, 56, 57, 58, 59, 60, 61], [0, 1, 2, 4, 5, 6, 11, 12, 13, 14, 15, 16, 17, 18, 19, 20, 21, 22, 23, 24, 25, 26, 27, 28, 29, 30, 31, 32, 33, 34, 35, 36, 37, 38, 39, 40, 41, 42, 43, 44, 45, 46, 47, 48, 49, 50, 51, 52, 53, 54, 55, 56, 57, 58, 59, 60, 61], [0, 1, 2, 3, 4, 5, 7, 8, 9, 10, 11, 12, 13, 14, 15, 16, 17, 18, 19, 20, 21, 22, 23, 24, 25, 26, 27, 28, 29, 30, 31, 32, 33, 34, 35, 36, 37, 38, 39, 40, 41, 42, 43, 44, 45, 46, 47, 48, 49, 50, 51, 52, 53, 54, 55, 56, 57, 58, 59, 60, 61])), (0, ([0, 1, 2, 4, 5, 6, 11, 12, 13, 14, 15, 16, 17, 18, 19, 20, 21, 22, 23, 24, 25, 26, 27, 28, 29, 30, 31, 32, 33, 34, 35, 36, 37, 38, 39, 40, 41, 42, 43, 44, 45, 46, 47, 48, 49, 50, 51, 52, 53, 54, 55, 56, 57, 58, 59, 60, 61], [0, 1, 2, 4, 5, 6, 11, 12, 13, 14, 15, 16, 17, 18, 19, 20, 21, 22, 23, 24, 25, 26, 27, 28, 29, 30, 31, 32, 33, 34, 35, 36, 37, 38, 39, 40, 41, 42, 43, 44, 45, 46, 47, 48, 49, 50, 51, 52, 53, 54, 55, 56, 57, 58, 59, 60, 61], [0, 1, 2, 3, 4, 5, 7, 8, 9, 10, 11, 12, 13, 14, 15, 16, 17, 18, 19, 20, 21, 22, 23, 24, 25, 26, 27, 28, 29, 30, 31, 32, 33, 34, 35, 36, 37, 38, 39, 40, 41, 42, 43, 44, 45, 46, 47, 48, 49, 50, 51, 52, 53, 54, 55, 56, 57, 58, 59, 60, 61]))], sk := [], mvs := [], fz := [] }
def f_s_SumTable_a (g0 : List Sc) (a1 : Int) (b2 : Int) : List AV := enc [.p .gr, .p (.int .i64), .p (.int .i64)] [.l g0, .i a1, .i b2]
def f_s_SumTable_i (g0 : List Sc) (a1 : Int) (b2 : Int) : List AV := enc [] []
def f_s_SumTable_en (r : List Sc) : List AV × List AV := (enc [.p (.al 0)] [], enc [.own 3] [.l r])
def f_s_SumTable_M : Calling := addC 124 f_s_IsSet_c (addC 139 f_s_l2Order_c (addC 136 f_s_l3List_c (addC 156 f_s_l2Add_c (noC))))
theorem f_s_SumTable_Mt : CallOk Try.prog (f_s_SumTable_M) := addC_true f_s_IsSet_cc (addC_true f_s_l2Order_cc (addC_true f_s_l3List_cc (addC_true f_s_l2Add_cc (noC_true))))
theorem f_s_SumTable_o : loopsOnce Try.f161 = true := by kernel_rfl
def f_s_SumTable_h2 : List Sh := [.u, .u, .u, .p .el, .u, .u, .u, .own 3, .own 3, .own 3, .p (.int .i64), .p (.int .i64), .u, .u, .u, .u, .u, .u, .u, .u, .u, .u, .u, .u, .u, .u, .u, .u, .u, .u, .u, .u, .u, .u, .u, .u, .u, .u, .u, .u, .u, .u, .u, .u, .u, .u, .u, .u, .u, .u, .u, .u, .u, .u, .u, .u, .u, .u, .u, .u, .u, .u]
def f_s_SumTable_fr2 (g3 : List Sc) (i10 : Int) (s : List Sc × List Sc × List Sc × Int) : List AV := enc f_s_SumTable_h2 [.l g3, .l s.1, .l s.2.1, .l s.2.2.1, .i i10, .i s.2.2.2]
def f_s_SumTable_g2_1 : List Sh := [.u, .u, .u, .p .el, .u, .u, .u, .own 3, .own 3, .own 3, .p (.int .i64), .u, .u, .u, .u, .u, .u, .u, .u, .u, .u, .u, .u, .u, .u, .u, .u, .u, .u, .u, .u, .u, .u, .u, .u, .u, .u, .u, .u, .u, .u, .u, .u, .u, .u, .u, .u, .u, .u, .u, .u, .u, .u, .u, .u, .u, .u, .u, .u, .u, .u, .u]
def f_s_SumTable_x2_1 (g3 : List Sc) (i10 : Int) (e : List Sc × List Sc × List Sc) : X × List AV := (.out 2, enc f_s_SumTable_g2_1 [.l g3, .l e.1, .l e.2.1, .l e.2.2, .i i10])
def f_s_SumTable_x2_2 (g3 : List Sc) (i10 : Int) (_e : Unit) : X × List AV := (.ret, [])
theorem f_s_SumTable_p2 {R : Type} (g3 : List Sc) (i10 : Int) (s : List Sc × List Sc × List Sc × Int) (kN : List Sc × List Sc × List Sc × Int → Option R) (kA : List Sc × List Sc × List Sc → Option R) (kB : Unit → Option R) : f_s_SumTable_k2 g3 i10 s.1 s.2.1 s.2.2.1 s.2.2.2 kN kA = (f_s_SumTable_r2 g3 i10 s).bind (Ro.el kN kA kB) := by
  simp only [f_s_SumTable_k2, f_s_SumTable_r2, brB, boB, someB, noneB, Ro.el]
theorem f_s_SumTable_e2 (g3 : List Sc) (i10 : Int) (s : List Sc × List Sc × List Sc × Int) : EC E0 f_s_SumTable_M H0 f_s_SumTable_F (asL (noL)) 2 (bodyOf Try.f161 2) (f_s_SumTable_fr2 g3 i10 s) (done (klOf f_s_SumTable_F 2)) = f_s_SumTable_k2 g3 i10 s.1 s.2.1 s.2.2.1 s.2.2.2 (fun s => some (.norm, f_s_SumTable_fr2 g3 i10 s)) (fun e => some (f_s_SumTable_x2_1 g3 i10 e)) := by kernel_rfl
theorem f_s_SumTable_l2 (g3 : List Sc) (i10 : Int) : ∀ s r, loopL (f_s_SumTable_r2 g3 i10) s = some r → LS Try.prog f_s_SumTable_F (bodyOf Try.f161 2) (f_s_SumTable_fr2 g3 i10 s) (enX (f_s_SumTable_x2_1 g3 i10) (f_s_SumTable_x2_2 g3 i10) r) :=
  loop_true E0ok f_s_SumTable_Mt (noL_true) f_s_SumTable_o (fun _ h => by cases h) (fun _ h => by cases h) (fun s => (f_s_SumTable_e2 g3 i10 s).trans (f_s_SumTable_p2 g3 i10 s _ _ (fun e => some (f_s_SumTable_x2_2 g3 i10 e))))
def f_s_SumTable_t2 (σ : List AV) : Option (Bool × Bool × (X × List AV) × (X × List AV)) := match dec f_s_SumTable_h2 σ with
  | some [.l g3, .l out7, .l x8, .l y9, .i i10, .i k11] => some (isOne (loopL (f_s_SumTable_r2 g3 i10) (out7, x8, y9, k11)), true, f_s_SumTable_x2_1 g3 i10 (getOne ([], [], []) (loopL (f_s_SumTable_r2 g3 i10) (out7, x8, y9, k11))), (.ret, []))
  | _ => none
theorem f_s_SumTable_tt2 : TTrue Try.prog f_s_SumTable_F Try.f161 2 (f_s_SumTable_t2) := by
  intro σ p r r' h
  unfold f_s_SumTable_t2 at h
  split at h
  · rename_i hd
    rw [← dec_enc hd]
    exact row1 (f_s_SumTable_l2 _ _ _) h
  · cases h
def f_s_SumTable_h0 : List Sh := [.u, .u, .u, .p .el, .u, .u, .u, .own 3, .own 3, .own 3, .p (.int .i64), .u, .u, .u, .u, .u, .u, .u, .u, .u, .u, .u, .u, .u, .u, .u, .u, .u, .u, .u, .u, .u, .u, .u, .u, .u, .u, .u, .u, .u, .u, .u, .u, .u, .u, .u, .u, .u, .u, .u, .u, .u, .u, .u, .u, .u, .u, .u, .u, .u, .u, .u]
def f_s_SumTable_fr0 (g3 : List Sc) (s : List Sc × List Sc × List Sc × Int) : List AV := enc f_s_SumTable_h0 [.l g3, .l s.1, .l s.2.1, .l s.2.2.1, .i s.2.2.2]
def f_s_SumTable_g0_1 : List Sh := [.u, .u, .u, .p .el, .u, .u, .u, .own 3, .own 3, .own 3, .p (.int .i64), .u, .u, .u, .u, .u, .u, .u, .u, .u, .u, .u, .u, .u, .u, .u, .u, .u, .u, .u, .u, .u, .u, .u, .u, .u, .u, .u, .u, .u, .u, .u, .u, .u, .u, .u, .u, .u, .u, .u, .u, .u, .u, .u, .u, .u, .u, .u, .u, .u, .u, .u]
def f_s_SumTable_x0_1 (g3 : List Sc) (e : List Sc × List Sc × List Sc × Int) : X × List AV := (.out 0, enc f_s_SumTable_g0_1 [.l g3, .l e.1, .l e.2.1, .l e.2.2.1, .i e.2.2.2])
def f_s_SumTable_x0_2 (g3 : List Sc) (_e : Unit) : X × List AV := (.ret, [])
theorem f_s_SumTable_p0 {R : Type} (g3 : List Sc) (s : List Sc × List Sc × List Sc × Int) (kN : List Sc × List Sc × List Sc × Int → Option R) (kA : List Sc × List Sc × List Sc × Int → Option R) (kB : Unit → Option R) : f_s_SumTable_k0 g3 s.1 s.2.1 s.2.2.1 s.2.2.2 kN kA = (f_s_SumTable_r0 g3 s).bind (Ro.el kN kA kB) := by
  simp only [f_s_SumTable_k0, f_s_SumTable_r0, brB, bl1B, someB, Ro.el]
theorem f_s_SumTable_e0 (g3 : List Sc) (s : List Sc × List Sc × List Sc × Int) : EC E0 f_s_SumTable_M H0 f_s_SumTable_F (asL (addL 2 (f_s_SumTable_t2) (noL))) 0 (bodyOf Try.f161 0) (f_s_SumTable_fr0 g3 s) (done (klOf f_s_SumTable_F 0)) = f_s_SumTable_k0 g3 s.1 s.2.1 s.2.2.1 s.2.2.2 (fun s => some (.norm, f_s_SumTable_fr0 g3 s)) (fun e => some (f_s_SumTable_x0_1 g3 e)) := by kernel_rfl
theorem f_s_SumTable_l0 (g3 : List Sc) : ∀ s r, loopL (f_s_SumTable_r0 g3) s = some r → LS Try.prog f_s_SumTable_F (bodyOf Try.f161 0) (f_s_SumTable_fr0 g3 s) (enX (f_s_SumTable_x0_1 g3) (f_s_SumTable_x0_2 g3) r) :=
  loop_true E0ok f_s_SumTable_Mt (addL_true (f_s_SumTable_tt2) (noL_true)) f_s_SumTable_o (fun _ h => by cases h) (fun _ h => by cases h) (fun s => (f_s_SumTable_e0 g3 s).trans (f_s_SumTable_p0 g3 s _ _ (fun e => some (f_s_SumTable_x0_2 g3 e))))
def f_s_SumTable_t0 (σ : List AV) : Option (Bool × Bool × (X × List AV) × (X × List AV)) := match dec f_s_SumTable_h0 σ with
  | some [.l g3, .l out7, .l x8, .l y9, .i i10] => some (isOne (loopL (f_s_SumTable_r0 g3) (out7, x8, y9, i10)), true, f_s_SumTable_x0_1 g3 (getOne ([], [], [], 0) (loopL (f_s_SumTable_r0 g3) (out7, x8, y9, i10))), (.ret, []))
  | _ => none
theorem f_s_SumTable_tt0 : TTrue Try.prog f_s_SumTable_F Try.f161 0 (f_s_SumTable_t0) := by
  intro σ p r r' h
  unfold f_s_SumTable_t0 at h
  split at h
  · rename_i hd
    rw [← dec_enc hd]
    exact row1 (f_s_SumTable_l0 _ _) h
  · cases h
theorem f_s_SumTable_p {R : Type} (g0 : List Sc) (a1 : Int) (b2 : Int) (kR : List Sc → Option R) : f_s_SumTable_k g0 a1 b2 kR = (f_s_SumTable_k g0 a1 b2 some).bind kR := by
  simp only [f_s_SumTable_k, brB, boB, bl1B, someB, noneB]
theorem f_s_SumTable_e (g0 : List Sc) (a1 : Int) (b2 : Int) : runFn E0 f_s_SumTable_M H0 f_s_SumTable_F (asL (addL 0 (f_s_SumTable_t0) (addL 2 (f_s_SumTable_t2) (noL)))) Try.f161 (f_s_SumTable_a g0 a1 b2) (f_s_SumTable_i g0 a1 b2) = f_s_SumTable_k g0 a1 b2 (fun r => some (f_s_SumTable_en r)) := by kernel_rfl
theorem f_s_SumTable_ok (g0 : List Sc) (a1 : Int) (b2 : Int) (r : List Sc) (h : f_s_SumTable g0 a1 b2 = some r) : CS Try.prog 161 (f_s_SumTable_a g0 a1 b2) (f_s_SumTable_i g0 a1 b2) (f_s_SumTable_en r).1 (f_s_SumTable_en r).2 :=
  fn_true (Gk := fun k => f_s_SumTable_k g0 a1 b2 k) (en := f_s_SumTable_en) Try.func161 E0ok f_s_SumTable_Mt (addL_true (f_s_SumTable_tt0) (addL_true (f_s_SumTable_tt2) (noL_true))) f_s_SumTable_o (f_s_SumTable_e g0 a1 b2) (f_s_SumTable_p g0 a1 b2) h
def f_s_SumTable_c : CRow := fun args inh => match dec2 [.p .gr, .p (.int .i64), .p (.int .i64)] [] args inh with
  | some ([.l g0, .i a1, .i b2], []) => some ((f_s_SumTable g0 a1 b2).isSome, (f_s_SumTable_en ((f_s_SumTable g0 a1 b2).getD [])).1, (f_s_SumTable_en ((f_s_SumTable g0 a1 b2).getD [])).2)
  | _ => none
theorem f_s_SumTable_cc : CTrue Try.prog 161 f_s_SumTable_c := by
  intro args inh rs out h
  unfold f_s_SumTable_c at h
  split at h
  · rename_i hd
    obtain ⟨h1, h2⟩ := dec2_enc hd
    rw [← h1, ← h2]
    exact rowC (f_s_SumTable_ok _ _ _) h
  · cases h

def f_s_PopularSums_F : Fi := { nv := 0, nc := 0, m := 0, vt := [], kl := [(0, ([0, 1, 2, 4, 5, 6, 7, 8, 12, 13, 14, 15, 16, 17, 18, 19, 20, 21, 22, 23, 24, 25, 26, 27, 28, 29, 30, 31, 32, 33, 34, 35, 36, 37, 38, 39, 40], [0, 1, 2, 3, 4, 5, 6, 7, 8, 9, 11, 12, 13, 14, 15, 16, 17, 18, 19, 20, 21, 22, 23, 24, 25, 26, 27, 28, 29, 30, 31, 32, 33, 34, 35, 36, 37, 38, 39, 40], [0, 1, 2, 3, 4, 5, 6, 7, 9, 10, 11, 12, 13, 14, 15, 16, 17, 18, 19, 20, 21, 22, 23, 24, 25, 26, 27, 28, 29, 30, 31, 32, 33, 34, 35, 36, 37, 38, 39, 40]))], sk := [], mvs := [], fz := [] }
def f_s_PopularSums_a (g0 : List Sc) (a1 : Int) (b2 : Int) (t3 : Int) : List AV := enc [.p .gr, .p (.int .i64), .p (.int .i64), .p (.int .i64)] [.l g0, .i a1, .i b2, .i t3]
def f_s_PopularSums_i (g0 : List Sc) (a1 : Int) (b2 : Int) (t3 : Int) : List AV := enc [] []
def f_s_PopularSums_en (r : Int) : List AV × List AV := (enc [.p (.int .i64)] [.i r], enc [] [])
def f_s_PopularSums_M : Calling := addC 161 f_s_SumTable_c (addC 150 f_s_l1In_c (noC))
theorem f_s_PopularSums_Mt : CallOk Try.prog (f_s_PopularSums_M) := addC_true f_s_SumTable_cc (addC_true f_s_l1In_cc (noC_true))
theorem f_s_PopularSums_o : loopsOnce Try.f49 = true := by kernel_rfl
def f_s_PopularSums_h0 : List Sh := [.u, .u, .u, .p (.int .i64), .u, .u, .u, .u, .u, .own 3, .p (.int .i64), .p (.int .i64), .u, .u, .u, .u, .u, .u, .u, .u, .u, .u, .u, .u, .u, .u, .u, .u, .u, .u, .u, .u, .u, .u, .u, .u, .u, .u, .u, .u, .u]
def f_s_PopularSums_fr0 (t3 : Int) (s : List Sc × Int × Int) : List AV := enc f_s_PopularSums_h0 [.i t3, .l s.1, .i s.2.1, .i s.2.2]
def f_s_PopularSums_g0_1 : List Sh := [.u, .u, .u, .u, .u, .u, .u, .u, .u, .u, .p (.int .i64), .u, .u, .u, .u, .u, .u, .u, .u, .u, .u, .u, .u, .u, .u, .u, .u, .u, .u, .u, .u, .u, .u, .u, .u, .u, .u, .u, .u, .u, .u]
def f_s_PopularSums_x0_1 (t3 : Int) (e : Int) : X × List AV := (.out 0, enc f_s_PopularSums_g0_1 [.i e])
def f_s_PopularSums_x0_2 (t3 : Int) (_e : Unit) : X × List AV := (.ret, [])
theorem f_s_PopularSums_p0 {R : Type} (t3 : Int) (s : List Sc × Int × Int) (kN : List Sc × Int × Int → Option R) (kA : Int → Option R) (kB : Unit → Option R) : f_s_PopularSums_k0 t3 s.1 s.2.1 s.2.2 kN kA = (f_s_PopularSums_r0 t3 s).bind (Ro.el kN kA kB) := by
  simp only [f_s_PopularSums_k0, f_s_PopularSums_r0, brB, someB, noneB, Ro.el]
theorem f_s_PopularSums_e0 (t3 : Int) (s : List Sc × Int × Int) : EC E0 f_s_PopularSums_M H0 f_s_PopularSums_F (asL (noL)) 0 (bodyOf Try.f49 0) (f_s_PopularSums_fr0 t3 s) (done (klOf f_s_PopularSums_F 0)) = f_s_PopularSums_k0 t3 s.1 s.2.1 s.2.2 (fun s => some (.norm, f_s_PopularSums_fr0 t3 s)) (fun e => some (f_s_PopularSums_x0_1 t3 e)) := by kernel_rfl
theorem f_s_PopularSums_l0 (t3 : Int) : ∀ s r, loopL (f_s_PopularSums_r0 t3) s = some r → LS Try.prog f_s_PopularSums_F (bodyOf Try.f49 0) (f_s_PopularSums_fr0 t3 s) (enX (f_s_PopularSums_x0_1 t3) (f_s_PopularSums_x0_2 t3) r) :=
  loop_true E0ok f_s_PopularSums_Mt (noL_true) f_s_PopularSums_o (fun _ h => by cases h) (fun _ h => by cases h) (fun s => (f_s_PopularSums_e0 t3 s).trans (f_s_PopularSums_p0 t3 s _ _ (fun e => some (f_s_PopularSums_x0_2 t3 e))))
def f_s_PopularSums_t0 (σ : List AV) : Option (Bool × Bool × (X × List AV) × (X × List AV)) := match dec f_s_PopularSums_h0 σ with
  | some [.i t3, .l s9, .i out10, .i i11] => some (isOne (loopL (f_s_PopularSums_r0 t3) (s9, out10, i11)), true, f_s_PopularSums_x0_1 t3 (getOne 0 (loopL (f_s_PopularSums_r0 t3) (s9, out10, i11))), (.ret, []))
  | _ => none
theorem f_s_PopularSums_tt0 : TTrue Try.prog f_s_PopularSums_F Try.f49 0 (f_s_PopularSums_t0) := by
  intro σ p r r' h
  unfold f_s_PopularSums_t0 at h
  split at h
  · rename_i hd
    rw [← dec_enc hd]
    exact row1 (f_s_PopularSums_l0 _ _) h
  · cases h
theorem f_s_PopularSums_p {R : Type} (g0 : List Sc) (a1 : Int) (b2 : Int) (t3 : Int) (kR : Int → Option R) : f_s_PopularSums_k g0 a1 b2 t3 kR = (f_s_PopularSums_k g0 a1 b2 t3 some).bind kR := by
  simp only [f_s_PopularSums_k, brB, boB, bl1B, someB]
theorem f_s_PopularSums_e (g0 : List Sc) (a1 : Int) (b2 : Int) (t3 : Int) : runFn E0 f_s_PopularSums_M H0 f_s_PopularSums_F (asL (addL 0 (f_s_PopularSums_t0) (noL))) Try.f49 (f_s_PopularSums_a g0 a1 b2 t3) (f_s_PopularSums_i g0 a1 b2 t3) = f_s_PopularSums_k g0 a1 b2 t3 (fun r => some (f_s_PopularSums_en r)) := by kernel_rfl
theorem f_s_PopularSums_ok (g0 : List Sc) (a1 : Int) (b2 : Int) (t3 : Int) (r : Int) (h : f_s_PopularSums g0 a1 b2 t3 = some r) : CS Try.prog 49 (f_s_PopularSums_a g0 a1 b2 t3) (f_s_PopularSums_i g0 a1 b2 t3) (f_s_PopularSums_en r).1 (f_s_PopularSums_en r).2 :=
  fn_true (Gk := fun k => f_s_PopularSums_k g0 a1 b2 t3 k) (en := f_s_PopularSums_en) Try.func49 E0ok f_s_PopularSums_Mt (addL_true (f_s_PopularSums_tt0) (noL_true)) f_s_PopularSums_o (f_s_PopularSums_e g0 a1 b2 t3) (f_s_PopularSums_p g0 a1 b2 t3) h
def f_s_PopularSums_c : CRow := fun args inh => match dec2 [.p .gr, .p (.int .i64), .p (.int .i64), .p (.int .i64)] [] args inh with
  | some ([.l g0, .i a1, .i b2, .i t3], []) => some ((f_s_PopularSums g0 a1 b2 t3).isSome, (f_s_PopularSums_en ((f_s_PopularSums g0 a1 b2 t3).getD 0)).1, (f_s_PopularSums_en ((f_s_PopularSums g0 a1 b2 t3).getD 0)).2)
  | _ => none
theorem f_s_PopularSums_cc : CTrue Try.prog 49 f_s_PopularSums_c := by
  intro args inh rs out h
  unfold f_s_PopularSums_c at h
  split at h
  · rename_i hd
    obtain ⟨h1, h2⟩ := dec2_enc hd
    rw [← h1, ← h2]
    exact rowC (f_s_PopularSums_ok _ _ _ _) h
  · cases h

def f_s_l3Shift_F : Fi := { nv := 0, nc := 0, m := 0, vt := [], kl := [(0, ([0, 1, 4, 5, 6, 10, 11, 12, 13, 14, 15, 16, 17, 18, 19, 20, 21, 22, 23, 24, 25, 26, 27, 28], [0, 1, 2, 3, 4, 5, 6, 8, 9, 10, 11, 12, 13, 14, 15, 16, 17, 18, 19, 20, 21, 22, 23, 24, 25, 26, 27, 28], [0, 1, 2, 3, 4, 5, 7, 8, 9, 10, 11, 12, 13, 14, 15, 16, 17, 18, 19, 20, 21, 22, 23, 24, 25, 26, 27, 28]))], sk := [], mvs := [], fz := [] }
def f_s_l3Shift_a (g0 : List Sc) (a1 : Int) (x2 : Int) : List AV := enc [.p .gr, .p (.int .i64), .p (.int .i64)] [.l g0, .i a1, .i x2]
def f_s_l3Shift_i (g0 : List Sc) (a1 : Int) (x2 : Int) : List AV := enc [] []
def f_s_l3Shift_en (r : Int) : List AV × List AV := (enc [.p (.int .i64)] [.i r], enc [] [])
def f_s_l3Shift_M : Calling := addC 136 f_s_l3List_c (addC 156 f_s_l2Add_c (noC))
theorem f_s_l3Shift_Mt : CallOk Try.prog (f_s_l3Shift_M) := addC_true f_s_l3List_cc (addC_true f_s_l2Add_cc (noC_true))
theorem f_s_l3Shift_o : loopsOnce Try.f141 = true := by kernel_rfl
def f_s_l3Shift_h0 : List Sh := [.u, .u, .p (.int .i64), .p .el, .u, .u, .u, .p (.int .i64), .own 3, .p (.int .i64), .u, .u, .u, .u, .u, .u, .u, .u, .u, .u, .u, .u, .u, .u, .u, .u, .u, .u, .u]
def f_s_l3Shift_fr0 (x2 : Int) (g3 : List Sc) (s : Int × List Sc × Int) : List AV := enc f_s_l3Shift_h0 [.i x2, .l g3, .i s.1, .l s.2.1, .i s.2.2]
def f_s_l3Shift_g0_1 : List Sh := [.u, .u, .u, .u, .u, .u, .u, .p (.int .i64), .u, .u, .u, .u, .u, .u, .u, .u, .u, .u, .u, .u, .u, .u, .u, .u, .u, .u, .u, .u, .u]
def f_s_l3Shift_x0_1 (x2 : Int) (g3 : List Sc) (e : Int) : X × List AV := (.out 0, enc f_s_l3Shift_g0_1 [.i e])
def f_s_l3Shift_x0_2 (x2 : Int) (g3 : List Sc) (_e : Unit) : X × List AV := (.ret, [])
theorem f_s_l3Shift_p0 {R : Type} (x2 : Int) (g3 : List Sc) (s : Int × List Sc × Int) (kN : Int × List Sc × Int → Option R) (kA : Int → Option R) (kB : Unit → Option R) : f_s_l3Shift_k0 x2 g3 s.1 s.2.1 s.2.2 kN kA = (f_s_l3Shift_r0 x2 g3 s).bind (Ro.el kN kA kB) := by
  simp only [f_s_l3Shift_k0, f_s_l3Shift_r0, brB, boB, someB, noneB, Ro.el]
theorem f_s_l3Shift_e0 (x2 : Int) (g3 : List Sc) (s : Int × List Sc × Int) : EC E0 f_s_l3Shift_M H0 f_s_l3Shift_F (asL (noL)) 0 (bodyOf Try.f141 0) (f_s_l3Shift_fr0 x2 g3 s) (done (klOf f_s_l3Shift_F 0)) = f_s_l3Shift_k0 x2 g3 s.1 s.2.1 s.2.2 (fun s => some (.norm, f_s_l3Shift_fr0 x2 g3 s)) (fun e => some (f_s_l3Shift_x0_1 x2 g3 e)) := by kernel_rfl
theorem f_s_l3Shift_l0 (x2 : Int) (g3 : List Sc) : ∀ s r, loopL (f_s_l3Shift_r0 x2 g3) s = some r → LS Try.prog f_s_l3Shift_F (bodyOf Try.f141 0) (f_s_l3Shift_fr0 x2 g3 s) (enX (f_s_l3Shift_x0_1 x2 g3) (f_s_l3Shift_x0_2 x2 g3) r) :=
  loop_true E0ok f_s_l3Shift_Mt (noL_true) f_s_l3Shift_o (fun _ h => by cases h) (fun _ h => by cases h) (fun s => (f_s_l3Shift_e0 x2 g3 s).trans (f_s_l3Shift_p0 x2 g3 s _ _ (fun e => some (f_s_l3Shift_x0_2 x2 g3 e))))
def f_s_l3Shift_t0 (σ : List AV) : Option (Bool × Bool × (X × List AV) × (X × List AV)) := match dec f_s_l3Shift_h0 σ with
  | some [.i x2, .l g3, .i out7, .l l8, .i i9] => some (isOne (loopL (f_s_l3Shift_r0 x2 g3) (out7, l8, i9)), true, f_s_l3Shift_x0_1 x2 g3 (getOne 0 (loopL (f_s_l3Shift_r0 x2 g3) (out7, l8, i9))), (.ret, []))
  | _ => none
theorem f_s_l3Shift_tt0 : TTrue Try.prog f_s_l3Shift_F Try.f141 0 (f_s_l3Shift_t0) := by
  intro σ p r r' h
  unfold f_s_l3Shift_t0 at h
  split at h
  · rename_i hd
    rw [← dec_enc hd]
    exact row1 (f_s_l3Shift_l0 _ _ _) h
  · cases h
theorem f_s_l3Shift_p {R : Type} (g0 : List Sc) (a1 : Int) (x2 : Int) (kR : Int → Option R) : f_s_l3Shift_k g0 a1 x2 kR = (f_s_l3Shift_k g0 a1 x2 some).bind kR := by
  simp only [f_s_l3Shift_k, boB, bl1B, someB]
theorem f_s_l3Shift_e (g0 : List Sc) (a1 : Int) (x2 : Int) : runFn E0 f_s_l3Shift_M H0 f_s_l3Shift_F (asL (addL 0 (f_s_l3Shift_t0) (noL))) Try.f141 (f_s_l3Shift_a g0 a1 x2) (f_s_l3Shift_i g0 a1 x2) = f_s_l3Shift_k g0 a1 x2 (fun r => some (f_s_l3Shift_en r)) := by kernel_rfl
theorem f_s_l3Shift_ok (g0 : List Sc) (a1 : Int) (x2 : Int) (r : Int) (h : f_s_l3Shift g0 a1 x2 = some r) : CS Try.prog 141 (f_s_l3Shift_a g0 a1 x2) (f_s_l3Shift_i g0 a1 x2) (f_s_l3Shift_en r).1 (f_s_l3Shift_en r).2 :=
  fn_true (Gk := fun k => f_s_l3Shift_k g0 a1 x2 k) (en := f_s_l3Shift_en) Try.func141 E0ok f_s_l3Shift_Mt (addL_true (f_s_l3Shift_tt0) (noL_true)) f_s_l3Shift_o (f_s_l3Shift_e g0 a1 x2) (f_s_l3Shift_p g0 a1 x2) h
def f_s_l3Shift_c : CRow := fun args inh => match dec2 [.p .gr, .p (.int .i64), .p (.int .i64)] [] args inh with
  | some ([.l g0, .i a1, .i x2], []) => some ((f_s_l3Shift g0 a1 x2).isSome, (f_s_l3Shift_en ((f_s_l3Shift g0 a1 x2).getD 0)).1, (f_s_l3Shift_en ((f_s_l3Shift g0 a1 x2).getD 0)).2)
  | _ => none
theorem f_s_l3Shift_cc : CTrue Try.prog 141 f_s_l3Shift_c := by
  intro args inh rs out h
  unfold f_s_l3Shift_c at h
  split at h
  · rename_i hd
    obtain ⟨h1, h2⟩ := dec2_enc hd
    rw [← h1, ← h2]
    exact rowC (f_s_l3Shift_ok _ _ _) h
  · cases h

def f_s_l4Sum_F : Fi := { nv := 0, nc := 0, m := 0, vt := [], kl := [(0, ([0, 2, 4, 5, 6, 10, 11, 12, 13, 14, 15, 16, 17, 18, 19, 20, 21, 22, 23, 24, 25, 26, 27], [0, 1, 2, 3, 4, 5, 6, 8, 9, 10, 11, 12, 13, 14, 15, 16, 17, 18, 19, 20, 21, 22, 23, 24, 25, 26, 27], [0, 1, 2, 3, 4, 5, 7, 8, 9, 10, 11, 12, 13, 14, 15, 16, 17, 18, 19, 20, 21, 22, 23, 24, 25, 26, 27]))], sk := [], mvs := [], fz := [] }
def f_s_l4Sum_a (g0 : List Sc) (a1 : Int) (b2 : Int) : List AV := enc [.p .gr, .p (.int .i64), .p (.int .i64)] [.l g0, .i a1, .i b2]
def f_s_l4Sum_i (g0 : List Sc) (a1 : Int) (b2 : Int) : List AV := enc [] []
def f_s_l4Sum_en (r : Int) : List AV × List AV := (enc [.p (.int .i64)] [.i r], enc [] [])
def f_s_l4Sum_M : Calling := addC 136 f_s_l3List_c (addC 141 f_s_l3Shift_c (noC))
theorem f_s_l4Sum_Mt : CallOk Try.prog (f_s_l4Sum_M) := addC_true f_s_l3List_cc (addC_true f_s_l3Shift_cc (noC_true))
theorem f_s_l4Sum_o : loopsOnce Try.f135 = true := by kernel_rfl
def f_s_l4Sum_h0 : List Sh := [.u, .p (.int .i64), .u, .p .el, .u, .u, .u, .p (.int .i64), .own 3, .p (.int .i64), .u, .u, .u, .u, .u, .u, .u, .u, .u, .u, .u, .u, .u, .u, .u, .u, .u, .u]
def f_s_l4Sum_fr0 (a1 : Int) (g3 : List Sc) (s : Int × List Sc × Int) : List AV := enc f_s_l4Sum_h0 [.i a1, .l g3, .i s.1, .l s.2.1, .i s.2.2]
def f_s_l4Sum_g0_1 : List Sh := [.u, .u, .u, .u, .u, .u, .u, .p (.int .i64), .u, .u, .u, .u, .u, .u, .u, .u, .u, .u, .u, .u, .u, .u, .u, .u, .u, .u, .u, .u]
def f_s_l4Sum_x0_1 (a1 : Int) (g3 : List Sc) (e : Int) : X × List AV := (.out 0, enc f_s_l4Sum_g0_1 [.i e])
def f_s_l4Sum_x0_2 (a1 : Int) (g3 : List Sc) (_e : Unit) : X × List AV := (.ret, [])
theorem f_s_l4Sum_p0 {R : Type} (a1 : Int) (g3 : List Sc) (s : Int × List Sc × Int) (kN : Int × List Sc × Int → Option R) (kA : Int → Option R) (kB : Unit → Option R) : f_s_l4Sum_k0 a1 g3 s.1 s.2.1 s.2.2 kN kA = (f_s_l4Sum_r0 a1 g3 s).bind (Ro.el kN kA kB) := by
  simp only [f_s_l4Sum_k0, f_s_l4Sum_r0, brB, boB, someB, noneB, Ro.el]
theorem f_s_l4Sum_e0 (a1 : Int) (g3 : List Sc) (s : Int × List Sc × Int) : EC E0 f_s_l4Sum_M H0 f_s_l4Sum_F (asL (noL)) 0 (bodyOf Try.f135 0) (f_s_l4Sum_fr0 a1 g3 s) (done (klOf f_s_l4Sum_F 0)) = f_s_l4Sum_k0 a1 g3 s.1 s.2.1 s.2.2 (fun s => some (.norm, f_s_l4Sum_fr0 a1 g3 s)) (fun e => some (f_s_l4Sum_x0_1 a1 g3 e)) := by kernel_rfl
theorem f_s_l4Sum_l0 (a1 : Int) (g3 : List Sc) : ∀ s r, loopL (f_s_l4Sum_r0 a1 g3) s = some r → LS Try.prog f_s_l4Sum_F (bodyOf Try.f135 0) (f_s_l4Sum_fr0 a1 g3 s) (enX (f_s_l4Sum_x0_1 a1 g3) (f_s_l4Sum_x0_2 a1 g3) r) :=
  loop_true E0ok f_s_l4Sum_Mt (noL_true) f_s_l4Sum_o (fun _ h => by cases h) (fun _ h => by cases h) (fun s => (f_s_l4Sum_e0 a1 g3 s).trans (f_s_l4Sum_p0 a1 g3 s _ _ (fun e => some (f_s_l4Sum_x0_2 a1 g3 e))))
def f_s_l4Sum_t0 (σ : List AV) : Option (Bool × Bool × (X × List AV) × (X × List AV)) := match dec f_s_l4Sum_h0 σ with
  | some [.i a1, .l g3, .i out7, .l l8, .i i9] => some (isOne (loopL (f_s_l4Sum_r0 a1 g3) (out7, l8, i9)), true, f_s_l4Sum_x0_1 a1 g3 (getOne 0 (loopL (f_s_l4Sum_r0 a1 g3) (out7, l8, i9))), (.ret, []))
  | _ => none
theorem f_s_l4Sum_tt0 : TTrue Try.prog f_s_l4Sum_F Try.f135 0 (f_s_l4Sum_t0) := by
  intro σ p r r' h
  unfold f_s_l4Sum_t0 at h
  split at h
  · rename_i hd
    rw [← dec_enc hd]
    exact row1 (f_s_l4Sum_l0 _ _ _) h
  · cases h
theorem f_s_l4Sum_p {R : Type} (g0 : List Sc) (a1 : Int) (b2 : Int) (kR : Int → Option R) : f_s_l4Sum_k g0 a1 b2 kR = (f_s_l4Sum_k g0 a1 b2 some).bind kR := by
  simp only [f_s_l4Sum_k, boB, bl1B, someB]
theorem f_s_l4Sum_e (g0 : List Sc) (a1 : Int) (b2 : Int) : runFn E0 f_s_l4Sum_M H0 f_s_l4Sum_F (asL (addL 0 (f_s_l4Sum_t0) (noL))) Try.f135 (f_s_l4Sum_a g0 a1 b2) (f_s_l4Sum_i g0 a1 b2) = f_s_l4Sum_k g0 a1 b2 (fun r => some (f_s_l4Sum_en r)) := by kernel_rfl
theorem f_s_l4Sum_ok (g0 : List Sc) (a1 : Int) (b2 : Int) (r : Int) (h : f_s_l4Sum g0 a1 b2 = some r) : CS Try.prog 135 (f_s_l4Sum_a g0 a1 b2) (f_s_l4Sum_i g0 a1 b2) (f_s_l4Sum_en r).1 (f_s_l4Sum_en r).2 :=
  fn_true (Gk := fun k => f_s_l4Sum_k g0 a1 b2 k) (en := f_s_l4Sum_en) Try.func135 E0ok f_s_l4Sum_Mt (addL_true (f_s_l4Sum_tt0) (noL_true)) f_s_l4Sum_o (f_s_l4Sum_e g0 a1 b2) (f_s_l4Sum_p g0 a1 b2) h
def f_s_l4Sum_c : CRow := fun args inh => match dec2 [.p .gr, .p (.int .i64), .p (.int .i64)] [] args inh with
  | some ([.l g0, .i a1, .i b2], []) => some ((f_s_l4Sum g0 a1 b2).isSome, (f_s_l4Sum_en ((f_s_l4Sum g0 a1 b2).getD 0)).1, (f_s_l4Sum_en ((f_s_l4Sum g0 a1 b2).getD 0)).2)
  | _ => none
theorem f_s_l4Sum_cc : CTrue Try.prog 135 f_s_l4Sum_c := by
  intro args inh rs out h
  unfold f_s_l4Sum_c at h
  split at h
  · rename_i hd
    obtain ⟨h1, h2⟩ := dec2_enc hd
    rw [← h1, ← h2]
    exact rowC (f_s_l4Sum_ok _ _ _) h
  · cases h

def f_s_SumOfSets_F : Fi := { nv := 0, nc := 0, m := 0, vt := [], kl := [], sk := [], mvs := [], fz := [] }
def f_s_SumOfSets_a (g0 : List Sc) (a1 : Int) (b2 : Int) : List AV := enc [.p .gr, .p (.int .i64), .p (.int .i64)] [.l g0, .i a1, .i b2]
def f_s_SumOfSets_i (g0 : List Sc) (a1 : Int) (b2 : Int) : List AV := enc [] []
def f_s_SumOfSets_en (r : Int) : List AV × List AV := (enc [.p (.int .i64)] [.i r], enc [] [])
def f_s_SumOfSets_M : Calling := addC 124 f_s_IsSet_c (addC 135 f_s_l4Sum_c (noC))
theorem f_s_SumOfSets_Mt : CallOk Try.prog (f_s_SumOfSets_M) := addC_true f_s_IsSet_cc (addC_true f_s_l4Sum_cc (noC_true))
theorem f_s_SumOfSets_o : loopsOnce Try.f50 = true := by kernel_rfl
theorem f_s_SumOfSets_p {R : Type} (g0 : List Sc) (a1 : Int) (b2 : Int) (kR : Int → Option R) : f_s_SumOfSets_k g0 a1 b2 kR = (f_s_SumOfSets_k g0 a1 b2 some).bind kR := by
  simp only [f_s_SumOfSets_k, brB, boB, someB]
theorem f_s_SumOfSets_e (g0 : List Sc) (a1 : Int) (b2 : Int) : runFn E0 f_s_SumOfSets_M H0 f_s_SumOfSets_F (asL (noL)) Try.f50 (f_s_SumOfSets_a g0 a1 b2) (f_s_SumOfSets_i g0 a1 b2) = f_s_SumOfSets_k g0 a1 b2 (fun r => some (f_s_SumOfSets_en r)) := by kernel_rfl
theorem f_s_SumOfSets_ok (g0 : List Sc) (a1 : Int) (b2 : Int) (r : Int) (h : f_s_SumOfSets g0 a1 b2 = some r) : CS Try.prog 50 (f_s_SumOfSets_a g0 a1 b2) (f_s_SumOfSets_i g0 a1 b2) (f_s_SumOfSets_en r).1 (f_s_SumOfSets_en r).2 :=
  fn_true (Gk := fun k => f_s_SumOfSets_k g0 a1 b2 k) (en := f_s_SumOfSets_en) Try.func50 E0ok f_s_SumOfSets_Mt (noL_true) f_s_SumOfSets_o (f_s_SumOfSets_e g0 a1 b2) (f_s_SumOfSets_p g0 a1 b2) h
def f_s_SumOfSets_c : CRow := fun args inh => match dec2 [.p .gr, .p (.int .i64), .p (.int .i64)] [] args inh with
  | some ([.l g0, .i a1, .i b2], []) => some ((f_s_SumOfSets g0 a1 b2).isSome, (f_s_SumOfSets_en ((f_s_SumOfSets g0 a1 b2).getD 0)).1, (f_s_SumOfSets_en ((f_s_SumOfSets g0 a1 b2).getD 0)).2)
  | _ => none
theorem f_s_SumOfSets_cc : CTrue Try.prog 50 f_s_SumOfSets_c := by
  intro args inh rs out h
  unfold f_s_SumOfSets_c at h
  split at h
  · rename_i hd
    obtain ⟨h1, h2⟩ := dec2_enc hd
    rw [← h1, ← h2]
    exact rowC (f_s_SumOfSets_ok _ _ _) h
  · cases h

def f_s_DrawTripleCount_F : Fi := { nv := 6, nc := 5, m := 0, vt := [(2, 0), (7, 1), (11, 2), (13, 5)], kl := [(100005, ([5, 6, 7, 9, 10, 11, 16, 17, 18, 19, 20, 21, 22, 23, 24, 25, 26, 27, 28, 29, 30, 31], [1, 2, 3, 4, 5, 6, 7, 12, 13, 14, 15, 16, 17, 18, 19, 20, 21, 22, 23, 24, 25, 26, 27, 28, 29, 30, 31], []))], sk := [], mvs := [5], fz := [], tb := [5] }
def f_s_DrawTripleCount_a (code0 : List Sc) : List AV := enc [.p .sl] [.l code0]
def f_s_DrawTripleCount_i (code0 : List Sc) : List AV := enc [] []
def f_s_DrawTripleCount_en (r : List Sc × Int × Int × Int) : List AV × List AV := (enc [.p .gr, .p (.int .i64), .p (.int .i64), .p (.int .i64)] [.l r.1, .i r.2.1, .i r.2.2.1, .i r.2.2.2], enc [] [])
def f_s_DrawTripleCount_M : Calling := addC 162 f_s_l1New_c (addC 163 f_s_l2Any_io_c (addC 164 f_s_l3Set_io_c (noC)))
theorem f_s_DrawTripleCount_Mt : CallOk Try.prog (f_s_DrawTripleCount_M) := addC_true f_s_l1New_cc (addC_true f_s_l2Any_io_cc (addC_true f_s_l3Set_io_cc (noC_true)))
theorem f_s_DrawTripleCount_o : loopsOnce Try.f51 = true := by kernel_rfl
def f_s_DrawTripleCount_hg5 : List Sh := [.p .sl, .fr 3, .p .sl, .p (.int .i64), .p (.int .i64), .u, .u, .u, .p (.pt 0 1), .u, .u, .u, .p (.pt 2 3), .p (.pt 1 1), .p (.int .i64), .p (.int .i64), .u, .u, .u, .u, .u, .u, .u, .u, .u, .u, .u, .u, .u, .u, .u, .u]
def f_s_DrawTripleCount_frg5 (v0 : List Sc) (v1 : List Sc) (v2 : List Sc) (v3 : Int) (v4 : Int) (t8 : Int) (t9 : Int) : List AV := enc f_s_DrawTripleCount_hg5 [.l v0, .l v1, .l v2, .i v3, .i v4, .i t8, .i t9]
def f_s_DrawTripleCount_xg5 (v0 : List Sc) (v1 : List Sc) (v2 : List Sc) (v3 : Int) (v4 : Int) (t8 : Int) (t9 : Int) (e : Int) : X × List AV := (.norm, enc [.p .sl, .u, .u, .u, .u, .u, .u, .u, .p (.pt 0 1), .p (.int .i64), .p (.int .i64), .p (.int .i64), .u, .u, .u, .u, .u, .u, .u, .u, .u, .u, .u, .u, .u, .u, .u, .u, .u, .u, .u, .u] [.l v1, .i t8, .i t9, .i e])
theorem f_s_DrawTripleCount_pg5 {R : Type} (v0 : List Sc) (v1 : List Sc) (v2 : List Sc) (v3 : Int) (v4 : Int) (t8 : Int) (t9 : Int) (kA : Int → Option R) : f_s_DrawTripleCount_g5_k v0 v1 v2 v3 v4 t8 t9 kA = (f_s_DrawTripleCount_g5 v0 v1 v2 v3 v4 t8 t9).bind kA := by
  simp only [f_s_DrawTripleCount_g5_k, f_s_DrawTripleCount_g5, boB, someB]
theorem f_s_DrawTripleCount_bg5 : bodyOf Try.f51 100005 = .region 5 (opsAt (bodyOf Try.f51 100005)) true := by kernel_rfl
def f_s_DrawTripleCount_Dg5 : List (Array Bool) := [#[false, false, false, false, false, false, false, false, false, false], #[true, false, false, false, false, false, false, false, false, false], #[false, true, false, false, false, false, false, false, false, false], #[false, false, true, false, false, false, false, false, false, false], #[false, false, false, true, false, false, false, false, false, false], #[false, false, false, false, true, false, false, false, false, false], #[true, true, false, false, false, false, false, false, false, false], #[true, false, true, false, false, false, false, false, false, false], #[true, false, false, true, false, false, false, false, false, false], #[true, false, false, false, true, false, false, false, false, false], #[false, true, true, false, false, false, false, false, false, false], #[false, true, false, true, false, false, false, false, false, false], #[false, true, false, false, true, false, false, false, false, false], #[false, false, true, true, false, false, false, false, false, false], #[false, false, true, false, true, false, false, false, false, false], #[false, false, false, true, true, false, false, false, false, false], #[true, true, true, false, false, false, false, false, false, false], #[true, true, false, true, false, false, false, false, false, false], #[true, true, false, false, true, false, false, false, false, false], #[true, false, true, true, false, false, false, false, false, false], #[true, false, true, false, true, false, false, false, false, false], #[true, false, false, true, true, false, false, false, false, false], #[false, true, true, true, false, false, false, false, false, false], #[false, true, true, false, true, false, false, false, false, false], #[false, true, false, true, true, false, false, false, false, false], #[false, false, true, true, true, false, false, false, false, false], #[false, false, false, true, true, true, false, false, false, false], #[true, true, true, true, false, false, false, false, false, false], #[true, true, true, false, true, false, false, false, false, false], #[true, true, false, true, true, false, false, false, false, false], #[true, false, true, true, true, false, false, false, false, false], #[true, false, false, true, true, true, false, false, false, false], #[false, true, true, true, true, false, false, false, false, false], #[false, true, false, true, true, true, false, false, false, false], #[false, false, true, true, true, true, false, false, false, false], #[true, true, true, true, true, false, false, false, false, false], #[true, true, false, true, true, true, false, false, false, false], #[true, false, true, true, true, true, false, false, false, false], #[true, false, false, true, true, true, true, false, false, false], #[false, true, true, true, true, true, false, false, false, false], #[true, true, true, true, true, true, false, false, false, false], #[true, true, false, true, true, true, true, false, false, false], #[true, false, true, true, true, true, true, false, false, false], #[true, true, true, true, true, true, true, false, false, false], #[true, true, false, true, true, true, true, true, false, false], #[true, true, true, true, true, true, true, true, false, false], #[true, true, true, true, true, true, true, true, true, false], #[true, true, true, true, true, true, true, true, true, true]]
theorem f_s_DrawTripleCount_cg5 : closedB (opsAt (bodyOf Try.f51 100005)) f_s_DrawTripleCount_Dg5 = true := by kernel_rfl
def f_s_DrawTripleCount_sg5_0 (v0 : List Sc) (v1 : List Sc) (v2 : List Sc) (v3 : Int) (v4 : Int) (t8 : Int) (t9 : Int) (fr : List AV) : Option (List AV) :=
  some (setAll [] fr)
def f_s_DrawTripleCount_sg5_1 (v0 : List Sc) (v1 : List Sc) (v2 : List Sc) (v3 : Int) (v4 : Int) (t8 : Int) (t9 : Int) (fr : List AV) : Option (List AV) :=
  some (setAll [(26, .p (.gr v1))] fr)
def f_s_DrawTripleCount_sg5_2 (v0 : List Sc) (v1 : List Sc) (v2 : List Sc) (v3 : Int) (v4 : Int) (t8 : Int) (t9 : Int) (fr : List AV) : Option (List AV) :=
  some (setAll [(27, .p (.sc (Sc.n .i64 t8)))] fr)
def f_s_DrawTripleCount_sg5_4 (v0 : List Sc) (v1 : List Sc) (v2 : List Sc) (v3 : Int) (v4 : Int) (t8 : Int) (t9 : Int) (fr : List AV) : Option (List AV) :=
  some (setAll [(28, .p (.sc (Sc.n .i64 t9)))] fr)
def f_s_DrawTripleCount_sg5_8 (v0 : List Sc) (v1 : List Sc) (v2 : List Sc) (v3 : Int) (v4 : Int) (t8 : Int) (t9 : Int) (fr : List AV) : Option (List AV) :=
  some (setAll [(29, .p (.pt 2 3))] fr)
def f_s_DrawTripleCount_sg5_16 (v0 : List Sc) (v1 : List Sc) (v2 : List Sc) (v3 : Int) (v4 : Int) (t8 : Int) (t9 : Int) (fr : List AV) : Option (List AV) :=
  some (setAll [(30, .p (.gr v1))] fr)
def f_s_DrawTripleCount_sg5_3 (v0 : List Sc) (v1 : List Sc) (v2 : List Sc) (v3 : Int) (v4 : Int) (t8 : Int) (t9 : Int) (fr : List AV) : Option (List AV) :=
  some (setAll [(26, .p (.gr v1)), (27, .p (.sc (Sc.n .i64 t8)))] fr)
def f_s_DrawTripleCount_sg5_5 (v0 : List Sc) (v1 : List Sc) (v2 : List Sc) (v3 : Int) (v4 : Int) (t8 : Int) (t9 : Int) (fr : List AV) : Option (List AV) :=
  some (setAll [(26, .p (.gr v1)), (28, .p (.sc (Sc.n .i64 t9)))] fr)
def f_s_DrawTripleCount_sg5_9 (v0 : List Sc) (v1 : List Sc) (v2 : List Sc) (v3 : Int) (v4 : Int) (t8 : Int) (t9 : Int) (fr : List AV) : Option (List AV) :=
  some (setAll [(26, .p (.gr v1)), (29, .p (.pt 2 3))] fr)
def f_s_DrawTripleCount_sg5_17 (v0 : List Sc) (v1 : List Sc) (v2 : List Sc) (v3 : Int) (v4 : Int) (t8 : Int) (t9 : Int) (fr : List AV) : Option (List AV) :=
  some (setAll [(26, .p (.gr v1)), (30, .p (.gr v1))] fr)
def f_s_DrawTripleCount_sg5_6 (v0 : List Sc) (v1 : List Sc) (v2 : List Sc) (v3 : Int) (v4 : Int) (t8 : Int) (t9 : Int) (fr : List AV) : Option (List AV) :=
  some (setAll [(27, .p (.sc (Sc.n .i64 t8))), (28, .p (.sc (Sc.n .i64 t9)))] fr)
def f_s_DrawTripleCount_sg5_10 (v0 : List Sc) (v1 : List Sc) (v2 : List Sc) (v3 : Int) (v4 : Int) (t8 : Int) (t9 : Int) (fr : List AV) : Option (List AV) :=
  some (setAll [(27, .p (.sc (Sc.n .i64 t8))), (29, .p (.pt 2 3))] fr)
def f_s_DrawTripleCount_sg5_18 (v0 : List Sc) (v1 : List Sc) (v2 : List Sc) (v3 : Int) (v4 : Int) (t8 : Int) (t9 : Int) (fr : List AV) : Option (List AV) :=
  some (setAll [(27, .p (.sc (Sc.n .i64 t8))), (30, .p (.gr v1))] fr)
def f_s_DrawTripleCount_sg5_12 (v0 : List Sc) (v1 : List Sc) (v2 : List Sc) (v3 : Int) (v4 : Int) (t8 : Int) (t9 : Int) (fr : List AV) : Option (List AV) :=
  some (setAll [(28, .p (.sc (Sc.n .i64 t9))), (29, .p (.pt 2 3))] fr)
def f_s_DrawTripleCount_sg5_20 (v0 : List Sc) (v1 : List Sc) (v2 : List Sc) (v3 : Int) (v4 : Int) (t8 : Int) (t9 : Int) (fr : List AV) : Option (List AV) :=
  some (setAll [(28, .p (.sc (Sc.n .i64 t9))), (30, .p (.gr v1))] fr)
def f_s_DrawTripleCount_sg5_24 (v0 : List Sc) (v1 : List Sc) (v2 : List Sc) (v3 : Int) (v4 : Int) (t8 : Int) (t9 : Int) (fr : List AV) : Option (List AV) :=
  some (setAll [(29, .p (.pt 2 3)), (30, .p (.gr v1))] fr)
def f_s_DrawTripleCount_sg5_7 (v0 : List Sc) (v1 : List Sc) (v2 : List Sc) (v3 : Int) (v4 : Int) (t8 : Int) (t9 : Int) (fr : List AV) : Option (List AV) :=
  some (setAll [(26, .p (.gr v1)), (27, .p (.sc (Sc.n .i64 t8))), (28, .p (.sc (Sc.n .i64 t9)))] fr)
def f_s_DrawTripleCount_sg5_11 (v0 : List Sc) (v1 : List Sc) (v2 : List Sc) (v3 : Int) (v4 : Int) (t8 : Int) (t9 : Int) (fr : List AV) : Option (List AV) :=
  some (setAll [(26, .p (.gr v1)), (27, .p (.sc (Sc.n .i64 t8))), (29, .p (.pt 2 3))] fr)
def f_s_DrawTripleCount_sg5_19 (v0 : List Sc) (v1 : List Sc) (v2 : List Sc) (v3 : Int) (v4 : Int) (t8 : Int) (t9 : Int) (fr : List AV) : Option (List AV) :=
  some (setAll [(26, .p (.gr v1)), (27, .p (.sc (Sc.n .i64 t8))), (30, .p (.gr v1))] fr)
def f_s_DrawTripleCount_sg5_13 (v0 : List Sc) (v1 : List Sc) (v2 : List Sc) (v3 : Int) (v4 : Int) (t8 : Int) (t9 : Int) (fr : List AV) : Option (List AV) :=
  some (setAll [(26, .p (.gr v1)), (28, .p (.sc (Sc.n .i64 t9))), (29, .p (.pt 2 3))] fr)
def f_s_DrawTripleCount_sg5_21 (v0 : List Sc) (v1 : List Sc) (v2 : List Sc) (v3 : Int) (v4 : Int) (t8 : Int) (t9 : Int) (fr : List AV) : Option (List AV) :=
  some (setAll [(26, .p (.gr v1)), (28, .p (.sc (Sc.n .i64 t9))), (30, .p (.gr v1))] fr)
def f_s_DrawTripleCount_sg5_25 (v0 : List Sc) (v1 : List Sc) (v2 : List Sc) (v3 : Int) (v4 : Int) (t8 : Int) (t9 : Int) (fr : List AV) : Option (List AV) :=
  some (setAll [(26, .p (.gr v1)), (29, .p (.pt 2 3)), (30, .p (.gr v1))] fr)
def f_s_DrawTripleCount_sg5_14 (v0 : List Sc) (v1 : List Sc) (v2 : List Sc) (v3 : Int) (v4 : Int) (t8 : Int) (t9 : Int) (fr : List AV) : Option (List AV) :=
  some (setAll [(27, .p (.sc (Sc.n .i64 t8))), (28, .p (.sc (Sc.n .i64 t9))), (29, .p (.pt 2 3))] fr)
def f_s_DrawTripleCount_sg5_22 (v0 : List Sc) (v1 : List Sc) (v2 : List Sc) (v3 : Int) (v4 : Int) (t8 : Int) (t9 : Int) (fr : List AV) : Option (List AV) :=
  some (setAll [(27, .p (.sc (Sc.n .i64 t8))), (28, .p (.sc (Sc.n .i64 t9))), (30, .p (.gr v1))] fr)
def f_s_DrawTripleCount_sg5_26 (v0 : List Sc) (v1 : List Sc) (v2 : List Sc) (v3 : Int) (v4 : Int) (t8 : Int) (t9 : Int) (fr : List AV) : Option (List AV) :=
  some (setAll [(27, .p (.sc (Sc.n .i64 t8))), (29, .p (.pt 2 3)), (30, .p (.gr v1))] fr)
def f_s_DrawTripleCount_sg5_28 (v0 : List Sc) (v1 : List Sc) (v2 : List Sc) (v3 : Int) (v4 : Int) (t8 : Int) (t9 : Int) (fr : List AV) : Option (List AV) :=
  some (setAll [(28, .p (.sc (Sc.n .i64 t9))), (29, .p (.pt 2 3)), (30, .p (.gr v1))] fr)
def f_s_DrawTripleCount_sg5_56 (v0 : List Sc) (v1 : List Sc) (v2 : List Sc) (v3 : Int) (v4 : Int) (t8 : Int) (t9 : Int) (fr : List AV) : Option (List AV) :=
  bo (f_s_l3Set_io v1 v2 v3 v4) (0, [], 0, 0) fun r6 =>
  some (setAll [(2, .p (.sl r6.2.1)), (3, .p (.sc (Sc.n .i64 r6.2.2.1))), (4, .p (.sc (Sc.n .i64 r6.2.2.2))), (29, .p (.pt 2 3)), (30, .p (.gr v1)), (31, .p (.sc (Sc.n .i64 r6.1)))] fr)
def f_s_DrawTripleCount_sg5_15 (v0 : List Sc) (v1 : List Sc) (v2 : List Sc) (v3 : Int) (v4 : Int) (t8 : Int) (t9 : Int) (fr : List AV) : Option (List AV) :=
  some (setAll [(26, .p (.gr v1)), (27, .p (.sc (Sc.n .i64 t8))), (28, .p (.sc (Sc.n .i64 t9))), (29, .p (.pt 2 3))] fr)
def f_s_DrawTripleCount_sg5_23 (v0 : List Sc) (v1 : List Sc) (v2 : List Sc) (v3 : Int) (v4 : Int) (t8 : Int) (t9 : Int) (fr : List AV) : Option (List AV) :=
  some (setAll [(26, .p (.gr v1)), (27, .p (.sc (Sc.n .i64 t8))), (28, .p (.sc (Sc.n .i64 t9))), (30, .p (.gr v1))] fr)
def f_s_DrawTripleCount_sg5_27 (v0 : List Sc) (v1 : List Sc) (v2 : List Sc) (v3 : Int) (v4 : Int) (t8 : Int) (t9 : Int) (fr : List AV) : Option (List AV) :=
  some (setAll [(26, .p (.gr v1)), (27, .p (.sc (Sc.n .i64 t8))), (29, .p (.pt 2 3)), (30, .p (.gr v1))] fr)
def f_s_DrawTripleCount_sg5_29 (v0 : List Sc) (v1 : List Sc) (v2 : List Sc) (v3 : Int) (v4 : Int) (t8 : Int) (t9 : Int) (fr : List AV) : Option (List AV) :=
  some (setAll [(26, .p (.gr v1)), (28, .p (.sc (Sc.n .i64 t9))), (29, .p (.pt 2 3)), (30, .p (.gr v1))] fr)
def f_s_DrawTripleCount_sg5_57 (v0 : List Sc) (v1 : List Sc) (v2 : List Sc) (v3 : Int) (v4 : Int) (t8 : Int) (t9 : Int) (fr : List AV) : Option (List AV) :=
  bo (f_s_l3Set_io v1 v2 v3 v4) (0, [], 0, 0) fun r7 =>
  some (setAll [(2, .p (.sl r7.2.1)), (3, .p (.sc (Sc.n .i64 r7.2.2.1))), (4, .p (.sc (Sc.n .i64 r7.2.2.2))), (26, .p (.gr v1)), (29, .p (.pt 2 3)), (30, .p (.gr v1)), (31, .p (.sc (Sc.n .i64 r7.1)))] fr)
def f_s_DrawTripleCount_sg5_30 (v0 : List Sc) (v1 : List Sc) (v2 : List Sc) (v3 : Int) (v4 : Int) (t8 : Int) (t9 : Int) (fr : List AV) : Option (List AV) :=
  some (setAll [(27, .p (.sc (Sc.n .i64 t8))), (28, .p (.sc (Sc.n .i64 t9))), (29, .p (.pt 2 3)), (30, .p (.gr v1))] fr)
def f_s_DrawTripleCount_sg5_58 (v0 : List Sc) (v1 : List Sc) (v2 : List Sc) (v3 : Int) (v4 : Int) (t8 : Int) (t9 : Int) (fr : List AV) : Option (List AV) :=
  bo (f_s_l3Set_io v1 v2 v3 v4) (0, [], 0, 0) fun r8 =>
  some (setAll [(2, .p (.sl r8.2.1)), (3, .p (.sc (Sc.n .i64 r8.2.2.1))), (4, .p (.sc (Sc.n .i64 r8.2.2.2))), (27, .p (.sc (Sc.n .i64 t8))), (29, .p (.pt 2 3)), (30, .p (.gr v1)), (31, .p (.sc (Sc.n .i64 r8.1)))] fr)
def f_s_DrawTripleCount_sg5_60 (v0 : List Sc) (v1 : List Sc) (v2 : List Sc) (v3 : Int) (v4 : Int) (t8 : Int) (t9 : Int) (fr : List AV) : Option (List AV) :=
  bo (f_s_l3Set_io v1 v2 v3 v4) (0, [], 0, 0) fun r9 =>
  some (setAll [(2, .p (.sl r9.2.1)), (3, .p (.sc (Sc.n .i64 r9.2.2.1))), (4, .p (.sc (Sc.n .i64 r9.2.2.2))), (28, .p (.sc (Sc.n .i64 t9))), (29, .p (.pt 2 3)), (30, .p (.gr v1)), (31, .p (.sc (Sc.n .i64 r9.1)))] fr)
def f_s_DrawTripleCount_sg5_31 (v0 : List Sc) (v1 : List Sc) (v2 : List Sc) (v3 : Int) (v4 : Int) (t8 : Int) (t9 : Int) (fr : List AV) : Option (List AV) :=
  some (setAll [(26, .p (.gr v1)), (27, .p (.sc (Sc.n .i64 t8))), (28, .p (.sc (Sc.n .i64 t9))), (29, .p (.pt 2 3)), (30, .p (.gr v1))] fr)
def f_s_DrawTripleCount_sg5_59 (v0 : List Sc) (v1 : List Sc) (v2 : List Sc) (v3 : Int) (v4 : Int) (t8 : Int) (t9 : Int) (fr : List AV) : Option (List AV) :=
  bo (f_s_l3Set_io v1 v2 v3 v4) (0, [], 0, 0) fun r10 =>
  some (setAll [(2, .p (.sl r10.2.1)), (3, .p (.sc (Sc.n .i64 r10.2.2.1))), (4, .p (.sc (Sc.n .i64 r10.2.2.2))), (26, .p (.gr v1)), (27, .p (.sc (Sc.n .i64 t8))), (29, .p (.pt 2 3)), (30, .p (.gr v1)), (31, .p (.sc (Sc.n .i64 r10.1)))] fr)
def f_s_DrawTripleCount_sg5_61 (v0 : List Sc) (v1 : List Sc) (v2 : List Sc) (v3 : Int) (v4 : Int) (t8 : Int) (t9 : Int) (fr : List AV) : Option (List AV) :=
  bo (f_s_l3Set_io v1 v2 v3 v4) (0, [], 0, 0) fun r11 =>
  some (setAll [(2, .p (.sl r11.2.1)), (3, .p (.sc (Sc.n .i64 r11.2.2.1))), (4, .p (.sc (Sc.n .i64 r11.2.2.2))), (26, .p (.gr v1)), (28, .p (.sc (Sc.n .i64 t9))), (29, .p (.pt 2 3)), (30, .p (.gr v1)), (31, .p (.sc (Sc.n .i64 r11.1)))] fr)
def f_s_DrawTripleCount_sg5_121 (v0 : List Sc) (v1 : List Sc) (v2 : List Sc) (v3 : Int) (v4 : Int) (t8 : Int) (t9 : Int) (fr : List AV) : Option (List AV) :=
  bo (f_s_l3Set_io v1 v2 v3 v4) (0, [], 0, 0) fun r12 =>
  some (setAll [(0, .p (.sl v1)), (2, .p (.sl r12.2.1)), (3, .p (.sc (Sc.n .i64 r12.2.2.1))), (4, .p (.sc (Sc.n .i64 r12.2.2.2))), (26, .p (.gr v1)), (29, .p (.pt 2 3)), (30, .p (.gr v1)), (31, .p (.sc (Sc.n .i64 r12.1)))] fr)
def f_s_DrawTripleCount_sg5_62 (v0 : List Sc) (v1 : List Sc) (v2 : List Sc) (v3 : Int) (v4 : Int) (t8 : Int) (t9 : Int) (fr : List AV) : Option (List AV) :=
  bo (f_s_l3Set_io v1 v2 v3 v4) (0, [], 0, 0) fun r13 =>
  some (setAll [(2, .p (.sl r13.2.1)), (3, .p (.sc (Sc.n .i64 r13.2.2.1))), (4, .p (.sc (Sc.n .i64 r13.2.2.2))), (27, .p (.sc (Sc.n .i64 t8))), (28, .p (.sc (Sc.n .i64 t9))), (29, .p (.pt 2 3)), (30, .p (.gr v1)), (31, .p (.sc (Sc.n .i64 r13.1)))] fr)
def f_s_DrawTripleCount_sg5_63 (v0 : List Sc) (v1 : List Sc) (v2 : List Sc) (v3 : Int) (v4 : Int) (t8 : Int) (t9 : Int) (fr : List AV) : Option (List AV) :=
  bo (f_s_l3Set_io v1 v2 v3 v4) (0, [], 0, 0) fun r14 =>
  some (setAll [(2, .p (.sl r14.2.1)), (3, .p (.sc (Sc.n .i64 r14.2.2.1))), (4, .p (.sc (Sc.n .i64 r14.2.2.2))), (26, .p (.gr v1)), (27, .p (.sc (Sc.n .i64 t8))), (28, .p (.sc (Sc.n .i64 t9))), (29, .p (.pt 2 3)), (30, .p (.gr v1)), (31, .p (.sc (Sc.n .i64 r14.1)))] fr)
def f_s_DrawTripleCount_sg5_123 (v0 : List Sc) (v1 : List Sc) (v2 : List Sc) (v3 : Int) (v4 : Int) (t8 : Int) (t9 : Int) (fr : List AV) : Option (List AV) :=
  bo (f_s_l3Set_io v1 v2 v3 v4) (0, [], 0, 0) fun r15 =>
  some (setAll [(0, .p (.sl v1)), (2, .p (.sl r15.2.1)), (3, .p (.sc (Sc.n .i64 r15.2.2.1))), (4, .p (.sc (Sc.n .i64 r15.2.2.2))), (26, .p (.gr v1)), (27, .p (.sc (Sc.n .i64 t8))), (29, .p (.pt 2 3)), (30, .p (.gr v1)), (31, .p (.sc (Sc.n .i64 r15.1)))] fr)
def f_s_DrawTripleCount_sg5_125 (v0 : List Sc) (v1 : List Sc) (v2 : List Sc) (v3 : Int) (v4 : Int) (t8 : Int) (t9 : Int) (fr : List AV) : Option (List AV) :=
  bo (f_s_l3Set_io v1 v2 v3 v4) (0, [], 0, 0) fun r16 =>
  some (setAll [(0, .p (.sl v1)), (2, .p (.sl r16.2.1)), (3, .p (.sc (Sc.n .i64 r16.2.2.1))), (4, .p (.sc (Sc.n .i64 r16.2.2.2))), (26, .p (.gr v1)), (28, .p (.sc (Sc.n .i64 t9))), (29, .p (.pt 2 3)), (30, .p (.gr v1)), (31, .p (.sc (Sc.n .i64 r16.1)))] fr)
def f_s_DrawTripleCount_sg5_127 (v0 : List Sc) (v1 : List Sc) (v2 : List Sc) (v3 : Int) (v4 : Int) (t8 : Int) (t9 : Int) (fr : List AV) : Option (List AV) :=
  bo (f_s_l3Set_io v1 v2 v3 v4) (0, [], 0, 0) fun r17 =>
  some (setAll [(0, .p (.sl v1)), (2, .p (.sl r17.2.1)), (3, .p (.sc (Sc.n .i64 r17.2.2.1))), (4, .p (.sc (Sc.n .i64 r17.2.2.2))), (26, .p (.gr v1)), (27, .p (.sc (Sc.n .i64 t8))), (28, .p (.sc (Sc.n .i64 t9))), (29, .p (.pt 2 3)), (30, .p (.gr v1)), (31, .p (.sc (Sc.n .i64 r17.1)))] fr)
def f_s_DrawTripleCount_sg5_251 (v0 : List Sc) (v1 : List Sc) (v2 : List Sc) (v3 : Int) (v4 : Int) (t8 : Int) (t9 : Int) (fr : List AV) : Option (List AV) :=
  bo (f_s_l3Set_io v1 v2 v3 v4) (0, [], 0, 0) fun r18 =>
  some (setAll [(0, .p (.sl v1)), (2, .p (.sl r18.2.1)), (3, .p (.sc (Sc.n .i64 r18.2.2.1))), (4, .p (.sc (Sc.n .i64 r18.2.2.2))), (9, .p (.sc (Sc.n .i64 t8))), (26, .p (.gr v1)), (27, .p (.sc (Sc.n .i64 t8))), (29, .p (.pt 2 3)), (30, .p (.gr v1)), (31, .p (.sc (Sc.n .i64 r18.1)))] fr)
def f_s_DrawTripleCount_sg5_255 (v0 : List Sc) (v1 : List Sc) (v2 : List Sc) (v3 : Int) (v4 : Int) (t8 : Int) (t9 : Int) (fr : List AV) : Option (List AV) :=
  bo (f_s_l3Set_io v1 v2 v3 v4) (0, [], 0, 0) fun r19 =>
  some (setAll [(0, .p (.sl v1)), (2, .p (.sl r19.2.1)), (3, .p (.sc (Sc.n .i64 r19.2.2.1))), (4, .p (.sc (Sc.n .i64 r19.2.2.2))), (9, .p (.sc (Sc.n .i64 t8))), (26, .p (.gr v1)), (27, .p (.sc (Sc.n .i64 t8))), (28, .p (.sc (Sc.n .i64 t9))), (29, .p (.pt 2 3)), (30, .p (.gr v1)), (31, .p (.sc (Sc.n .i64 r19.1)))] fr)
def f_s_DrawTripleCount_sg5_511 (v0 : List Sc) (v1 : List Sc) (v2 : List Sc) (v3 : Int) (v4 : Int) (t8 : Int) (t9 : Int) (fr : List AV) : Option (List AV) :=
  bo (f_s_l3Set_io v1 v2 v3 v4) (0, [], 0, 0) fun r20 =>
  some (setAll [(0, .p (.sl v1)), (2, .p (.sl r20.2.1)), (3, .p (.sc (Sc.n .i64 r20.2.2.1))), (4, .p (.sc (Sc.n .i64 r20.2.2.2))), (9, .p (.sc (Sc.n .i64 t8))), (10, .p (.sc (Sc.n .i64 t9))), (26, .p (.gr v1)), (27, .p (.sc (Sc.n .i64 t8))), (28, .p (.sc (Sc.n .i64 t9))), (29, .p (.pt 2 3)), (30, .p (.gr v1)), (31, .p (.sc (Sc.n .i64 r20.1)))] fr)
def f_s_DrawTripleCount_sg5_1023 (v0 : List Sc) (v1 : List Sc) (v2 : List Sc) (v3 : Int) (v4 : Int) (t8 : Int) (t9 : Int) (fr : List AV) : Option (List AV) :=
  bo (f_s_l3Set_io v1 v2 v3 v4) (0, [], 0, 0) fun r21 =>
  some (setAll [(0, .p (.sl v1)), (2, .p (.sl r21.2.1)), (3, .p (.sc (Sc.n .i64 r21.2.2.1))), (4, .p (.sc (Sc.n .i64 r21.2.2.2))), (9, .p (.sc (Sc.n .i64 t8))), (10, .p (.sc (Sc.n .i64 t9))), (11, .p (.sc (Sc.n .i64 r21.1))), (26, .p (.gr v1)), (27, .p (.sc (Sc.n .i64 t8))), (28, .p (.sc (Sc.n .i64 t9))), (29, .p (.pt 2 3)), (30, .p (.gr v1)), (31, .p (.sc (Sc.n .i64 r21.1)))] fr)
def f_s_DrawTripleCount_Eg5 (v0 : List Sc) (v1 : List Sc) (v2 : List Sc) (v3 : Int) (v4 : Int) (t8 : Int) (t9 : Int) (fr : List AV) : List (Option (List AV)) := [f_s_DrawTripleCount_sg5_1 v0 v1 v2 v3 v4 t8 t9 fr, f_s_DrawTripleCount_sg5_2 v0 v1 v2 v3 v4 t8 t9 fr, f_s_DrawTripleCount_sg5_4 v0 v1 v2 v3 v4 t8 t9 fr, f_s_DrawTripleCount_sg5_8 v0 v1 v2 v3 v4 t8 t9 fr, f_s_DrawTripleCount_sg5_16 v0 v1 v2 v3 v4 t8 t9 fr, f_s_DrawTripleCount_sg5_3 v0 v1 v2 v3 v4 t8 t9 fr, f_s_DrawTripleCount_sg5_5 v0 v1 v2 v3 v4 t8 t9 fr, f_s_DrawTripleCount_sg5_9 v0 v1 v2 v3 v4 t8 t9 fr, f_s_DrawTripleCount_sg5_17 v0 v1 v2 v3 v4 t8 t9 fr, f_s_DrawTripleCount_sg5_3 v0 v1 v2 v3 v4 t8 t9 fr, f_s_DrawTripleCount_sg5_6 v0 v1 v2 v3 v4 t8 t9 fr, f_s_DrawTripleCount_sg5_10 v0 v1 v2 v3 v4 t8 t9 fr, f_s_DrawTripleCount_sg5_18 v0 v1 v2 v3 v4 t8 t9 fr, f_s_DrawTripleCount_sg5_5 v0 v1 v2 v3 v4 t8 t9 fr, f_s_DrawTripleCount_sg5_6 v0 v1 v2 v3 v4 t8 t9 fr, f_s_DrawTripleCount_sg5_12 v0 v1 v2 v3 v4 t8 t9 fr, f_s_DrawTripleCount_sg5_20 v0 v1 v2 v3 v4 t8 t9 fr, f_s_DrawTripleCount_sg5_9 v0 v1 v2 v3 v4 t8 t9 fr, f_s_DrawTripleCount_sg5_10 v0 v1 v2 v3 v4 t8 t9 fr, f_s_DrawTripleCount_sg5_12 v0 v1 v2 v3 v4 t8 t9 fr, f_s_DrawTripleCount_sg5_24 v0 v1 v2 v3 v4 t8 t9 fr, f_s_DrawTripleCount_sg5_17 v0 v1 v2 v3 v4 t8 t9 fr, f_s_DrawTripleCount_sg5_18 v0 v1 v2 v3 v4 t8 t9 fr, f_s_DrawTripleCount_sg5_20 v0 v1 v2 v3 v4 t8 t9 fr, f_s_DrawTripleCount_sg5_24 v0 v1 v2 v3 v4 t8 t9 fr, f_s_DrawTripleCount_sg5_7 v0 v1 v2 v3 v4 t8 t9 fr, f_s_DrawTripleCount_sg5_11 v0 v1 v2 v3 v4 t8 t9 fr, f_s_DrawTripleCount_sg5_19 v0 v1 v2 v3 v4 t8 t9 fr, f_s_DrawTripleCount_sg5_7 v0 v1 v2 v3 v4 t8 t9 fr, f_s_DrawTripleCount_sg5_13 v0 v1 v2 v3 v4 t8 t9 fr, f_s_DrawTripleCount_sg5_21 v0 v1 v2 v3 v4 t8 t9 fr, f_s_DrawTripleCount_sg5_11 v0 v1 v2 v3 v4 t8 t9 fr, f_s_DrawTripleCount_sg5_13 v0 v1 v2 v3 v4 t8 t9 fr, f_s_DrawTripleCount_sg5_25 v0 v1 v2 v3 v4 t8 t9 fr, f_s_DrawTripleCount_sg5_19 v0 v1 v2 v3 v4 t8 t9 fr, f_s_DrawTripleCount_sg5_21 v0 v1 v2 v3 v4 t8 t9 fr, f_s_DrawTripleCount_sg5_25 v0 v1 v2 v3 v4 t8 t9 fr, f_s_DrawTripleCount_sg5_7 v0 v1 v2 v3 v4 t8 t9 fr, f_s_DrawTripleCount_sg5_14 v0 v1 v2 v3 v4 t8 t9 fr, f_s_DrawTripleCount_sg5_22 v0 v1 v2 v3 v4 t8 t9 fr, f_s_DrawTripleCount_sg5_11 v0 v1 v2 v3 v4 t8 t9 fr, f_s_DrawTripleCount_sg5_14 v0 v1 v2 v3 v4 t8 t9 fr, f_s_DrawTripleCount_sg5_26 v0 v1 v2 v3 v4 t8 t9 fr, f_s_DrawTripleCount_sg5_19 v0 v1 v2 v3 v4 t8 t9 fr, f_s_DrawTripleCount_sg5_22 v0 v1 v2 v3 v4 t8 t9 fr, f_s_DrawTripleCount_sg5_26 v0 v1 v2 v3 v4 t8 t9 fr, f_s_DrawTripleCount_sg5_13 v0 v1 v2 v3 v4 t8 t9 fr, f_s_DrawTripleCount_sg5_14 v0 v1 v2 v3 v4 t8 t9 fr, f_s_DrawTripleCount_sg5_28 v0 v1 v2 v3 v4 t8 t9 fr, f_s_DrawTripleCount_sg5_21 v0 v1 v2 v3 v4 t8 t9 fr, f_s_DrawTripleCount_sg5_22 v0 v1 v2 v3 v4 t8 t9 fr, f_s_DrawTripleCount_sg5_28 v0 v1 v2 v3 v4 t8 t9 fr, f_s_DrawTripleCount_sg5_25 v0 v1 v2 v3 v4 t8 t9 fr, f_s_DrawTripleCount_sg5_26 v0 v1 v2 v3 v4 t8 t9 fr, f_s_DrawTripleCount_sg5_28 v0 v1 v2 v3 v4 t8 t9 fr, f_s_DrawTripleCount_sg5_56 v0 v1 v2 v3 v4 t8 t9 fr, f_s_DrawTripleCount_sg5_15 v0 v1 v2 v3 v4 t8 t9 fr, f_s_DrawTripleCount_sg5_23 v0 v1 v2 v3 v4 t8 t9 fr, f_s_DrawTripleCount_sg5_15 v0 v1 v2 v3 v4 t8 t9 fr, f_s_DrawTripleCount_sg5_27 v0 v1 v2 v3 v4 t8 t9 fr, f_s_DrawTripleCount_sg5_23 v0 v1 v2 v3 v4 t8 t9 fr, f_s_DrawTripleCount_sg5_27 v0 v1 v2 v3 v4 t8 t9 fr, f_s_DrawTripleCount_sg5_15 v0 v1 v2 v3 v4 t8 t9 fr, f_s_DrawTripleCount_sg5_29 v0 v1 v2 v3 v4 t8 t9 fr, f_s_DrawTripleCount_sg5_23 v0 v1 v2 v3 v4 t8 t9 fr, f_s_DrawTripleCount_sg5_29 v0 v1 v2 v3 v4 t8 t9 fr, f_s_DrawTripleCount_sg5_27 v0 v1 v2 v3 v4 t8 t9 fr, f_s_DrawTripleCount_sg5_29 v0 v1 v2 v3 v4 t8 t9 fr, f_s_DrawTripleCount_sg5_57 v0 v1 v2 v3 v4 t8 t9 fr, f_s_DrawTripleCount_sg5_15 v0 v1 v2 v3 v4 t8 t9 fr, f_s_DrawTripleCount_sg5_30 v0 v1 v2 v3 v4 t8 t9 fr, f_s_DrawTripleCount_sg5_23 v0 v1 v2 v3 v4 t8 t9 fr, f_s_DrawTripleCount_sg5_30 v0 v1 v2 v3 v4 t8 t9 fr, f_s_DrawTripleCount_sg5_27 v0 v1 v2 v3 v4 t8 t9 fr, f_s_DrawTripleCount_sg5_30 v0 v1 v2 v3 v4 t8 t9 fr, f_s_DrawTripleCount_sg5_58 v0 v1 v2 v3 v4 t8 t9 fr, f_s_DrawTripleCount_sg5_29 v0 v1 v2 v3 v4 t8 t9 fr, f_s_DrawTripleCount_sg5_30 v0 v1 v2 v3 v4 t8 t9 fr, f_s_DrawTripleCount_sg5_60 v0 v1 v2 v3 v4 t8 t9 fr, f_s_DrawTripleCount_sg5_57 v0 v1 v2 v3 v4 t8 t9 fr, f_s_DrawTripleCount_sg5_58 v0 v1 v2 v3 v4 t8 t9 fr, f_s_DrawTripleCount_sg5_60 v0 v1 v2 v3 v4 t8 t9 fr, f_s_DrawTripleCount_sg5_31 v0 v1 v2 v3 v4 t8 t9 fr, f_s_DrawTripleCount_sg5_31 v0 v1 v2 v3 v4 t8 t9 fr, f_s_DrawTripleCount_sg5_31 v0 v1 v2 v3 v4 t8 t9 fr, f_s_DrawTripleCount_sg5_59 v0 v1 v2 v3 v4 t8 t9 fr, f_s_DrawTripleCount_sg5_31 v0 v1 v2 v3 v4 t8 t9 fr, f_s_DrawTripleCount_sg5_61 v0 v1 v2 v3 v4 t8 t9 fr, f_s_DrawTripleCount_sg5_59 v0 v1 v2 v3 v4 t8 t9 fr, f_s_DrawTripleCount_sg5_61 v0 v1 v2 v3 v4 t8 t9 fr, f_s_DrawTripleCount_sg5_121 v0 v1 v2 v3 v4 t8 t9 fr, f_s_DrawTripleCount_sg5_31 v0 v1 v2 v3 v4 t8 t9 fr, f_s_DrawTripleCount_sg5_62 v0 v1 v2 v3 v4 t8 t9 fr, f_s_DrawTripleCount_sg5_59 v0 v1 v2 v3 v4 t8 t9 fr, f_s_DrawTripleCount_sg5_62 v0 v1 v2 v3 v4 t8 t9 fr, f_s_DrawTripleCount_sg5_61 v0 v1 v2 v3 v4 t8 t9 fr, f_s_DrawTripleCount_sg5_62 v0 v1 v2 v3 v4 t8 t9 fr, f_s_DrawTripleCount_sg5_63 v0 v1 v2 v3 v4 t8 t9 fr, f_s_DrawTripleCount_sg5_63 v0 v1 v2 v3 v4 t8 t9 fr, f_s_DrawTripleCount_sg5_123 v0 v1 v2 v3 v4 t8 t9 fr, f_s_DrawTripleCount_sg5_63 v0 v1 v2 v3 v4 t8 t9 fr, f_s_DrawTripleCount_sg5_125 v0 v1 v2 v3 v4 t8 t9 fr, f_s_DrawTripleCount_sg5_123 v0 v1 v2 v3 v4 t8 t9 fr, f_s_DrawTripleCount_sg5_125 v0 v1 v2 v3 v4 t8 t9 fr, f_s_DrawTripleCount_sg5_63 v0 v1 v2 v3 v4 t8 t9 fr, f_s_DrawTripleCount_sg5_127 v0 v1 v2 v3 v4 t8 t9 fr, f_s_DrawTripleCount_sg5_127 v0 v1 v2 v3 v4 t8 t9 fr, f_s_DrawTripleCount_sg5_251 v0 v1 v2 v3 v4 t8 t9 fr, f_s_DrawTripleCount_sg5_127 v0 v1 v2 v3 v4 t8 t9 fr, f_s_DrawTripleCount_sg5_255 v0 v1 v2 v3 v4 t8 t9 fr, f_s_DrawTripleCount_sg5_255 v0 v1 v2 v3 v4 t8 t9 fr, f_s_DrawTripleCount_sg5_511 v0 v1 v2 v3 v4 t8 t9 fr, f_s_DrawTripleCount_sg5_1023 v0 v1 v2 v3 v4 t8 t9 fr]
theorem f_s_DrawTripleCount_dLg5 (v0 : List Sc) (v1 : List Sc) (v2 : List Sc) (v3 : Int) (v4 : Int) (t8 : Int) (t9 : Int) : edgeL E0 f_s_DrawTripleCount_M H0 f_s_DrawTripleCount_F (opsAt (bodyOf Try.f51 100005)) f_s_DrawTripleCount_Dg5 (f_s_DrawTripleCount_frg5 v0 v1 v2 v3 v4 t8 t9) = f_s_DrawTripleCount_Eg5 v0 v1 v2 v3 v4 t8 t9 (f_s_DrawTripleCount_frg5 v0 v1 v2 v3 v4 t8 t9) := by kernel_rfl
theorem f_s_DrawTripleCount_dRg5 (v0 : List Sc) (v1 : List Sc) (v2 : List Sc) (v3 : Int) (v4 : Int) (t8 : Int) (t9 : Int) : edgeR E0 f_s_DrawTripleCount_M H0 f_s_DrawTripleCount_F (opsAt (bodyOf Try.f51 100005)) f_s_DrawTripleCount_Dg5 (f_s_DrawTripleCount_frg5 v0 v1 v2 v3 v4 t8 t9) = f_s_DrawTripleCount_Eg5 v0 v1 v2 v3 v4 t8 t9 (f_s_DrawTripleCount_frg5 v0 v1 v2 v3 v4 t8 t9) := by kernel_rfl
theorem f_s_DrawTripleCount_dg5 (v0 : List Sc) (v1 : List Sc) (v2 : List Sc) (v3 : Int) (v4 : Int) (t8 : Int) (t9 : Int) : edgeL E0 f_s_DrawTripleCount_M H0 f_s_DrawTripleCount_F (opsAt (bodyOf Try.f51 100005)) f_s_DrawTripleCount_Dg5 (f_s_DrawTripleCount_frg5 v0 v1 v2 v3 v4 t8 t9) = edgeR E0 f_s_DrawTripleCount_M H0 f_s_DrawTripleCount_F (opsAt (bodyOf Try.f51 100005)) f_s_DrawTripleCount_Dg5 (f_s_DrawTripleCount_frg5 v0 v1 v2 v3 v4 t8 t9) := (f_s_DrawTripleCount_dLg5 v0 v1 v2 v3 v4 t8 t9).trans (f_s_DrawTripleCount_dRg5 v0 v1 v2 v3 v4 t8 t9).symm
theorem f_s_DrawTripleCount_eg5 (v0 : List Sc) (v1 : List Sc) (v2 : List Sc) (v3 : Int) (v4 : Int) (t8 : Int) (t9 : Int) : goL E0 f_s_DrawTripleCount_M H0 f_s_DrawTripleCount_F (opsAt (bodyOf Try.f51 100005)) (Array.replicate (opsAt (bodyOf Try.f51 100005)).size true) (opsAt (bodyOf Try.f51 100005)).toList 0 (f_s_DrawTripleCount_frg5 v0 v1 v2 v3 v4 t8 t9) (fun s => some (X.norm, clear (klOf f_s_DrawTripleCount_F 100005).2.1 s)) = f_s_DrawTripleCount_g5_k v0 v1 v2 v3 v4 t8 t9 (fun e => some (f_s_DrawTripleCount_xg5 v0 v1 v2 v3 v4 t8 t9 e)) := by kernel_rfl
theorem f_s_DrawTripleCount_lg5 (v0 : List Sc) (v1 : List Sc) (v2 : List Sc) (v3 : Int) (v4 : Int) (t8 : Int) (t9 : Int) (r : Int) (h : f_s_DrawTripleCount_g5 v0 v1 v2 v3 v4 t8 t9 = some r) : LS Try.prog f_s_DrawTripleCount_F (bodyOf Try.f51 100005) (f_s_DrawTripleCount_frg5 v0 v1 v2 v3 v4 t8 t9) (f_s_DrawTripleCount_xg5 v0 v1 v2 v3 v4 t8 t9 r) :=
  region_true (S := Unit) (id := 5) (G := fun _ => f_s_DrawTripleCount_g5 v0 v1 v2 v3 v4 t8 t9) (Gk := fun _ k => f_s_DrawTripleCount_g5_k v0 v1 v2 v3 v4 t8 t9 k) (fr := fun _ => f_s_DrawTripleCount_frg5 v0 v1 v2 v3 v4 t8 t9) (f1 := fun e => f_s_DrawTripleCount_xg5 v0 v1 v2 v3 v4 t8 t9 e) E0ok f_s_DrawTripleCount_Mt f_s_DrawTripleCount_bg5 f_s_DrawTripleCount_cg5 (fun _ => f_s_DrawTripleCount_dg5 v0 v1 v2 v3 v4 t8 t9) (fun _ => rfl) (fun _ => f_s_DrawTripleCount_eg5 v0 v1 v2 v3 v4 t8 t9) (fun _ k => f_s_DrawTripleCount_pg5 v0 v1 v2 v3 v4 t8 t9 k) () r h
def f_s_DrawTripleCount_tg5 (σ : List AV) : Option (Bool × Bool × (X × List AV) × (X × List AV)) := match dec f_s_DrawTripleCount_hg5 σ with
  | some [.l v0, .l v1, .l v2, .i v3, .i v4, .i t8, .i t9] => some ((f_s_DrawTripleCount_g5 v0 v1 v2 v3 v4 t8 t9).isSome, true, f_s_DrawTripleCount_xg5 v0 v1 v2 v3 v4 t8 t9 ((f_s_DrawTripleCount_g5 v0 v1 v2 v3 v4 t8 t9).getD 0), (.ret, []))
  | _ => none
theorem f_s_DrawTripleCount_ttg5 : TTrue Try.prog f_s_DrawTripleCount_F Try.f51 100005 f_s_DrawTripleCount_tg5 := by
  intro σ p r r' h
  unfold f_s_DrawTripleCount_tg5 at h
  split at h
  · rename_i hd
    rw [← dec_enc hd]
    exact rowR (f_s_DrawTripleCount_lg5 _ _ _ _ _ _ _) h
  · cases h
theorem f_s_DrawTripleCount_p {R : Type} (code0 : List Sc) (kR : List Sc × Int × Int × Int → Option R) : f_s_DrawTripleCount_k code0 kR = (f_s_DrawTripleCount_k code0 some).bind kR := by
  simp only [f_s_DrawTripleCount_k, boB, someB]
theorem f_s_DrawTripleCount_e (code0 : List Sc) : runFn E0 f_s_DrawTripleCount_M H0 f_s_DrawTripleCount_F (asL (addL 100005 f_s_DrawTripleCount_tg5 (noL))) Try.f51 (f_s_DrawTripleCount_a code0) (f_s_DrawTripleCount_i code0) = f_s_DrawTripleCount_k code0 (fun r => some (f_s_DrawTripleCount_en r)) := by kernel_rfl
theorem f_s_DrawTripleCount_ok (code0 : List Sc) (r : List Sc × Int × Int × Int) (h : f_s_DrawTripleCount code0 = some r) : CS Try.prog 51 (f_s_DrawTripleCount_a code0) (f_s_DrawTripleCount_i code0) (f_s_DrawTripleCount_en r).1 (f_s_DrawTripleCount_en r).2 :=
  fn_true (Gk := fun k => f_s_DrawTripleCount_k code0 k) (en := f_s_DrawTripleCount_en) Try.func51 E0ok f_s_DrawTripleCount_Mt (addL_true f_s_DrawTripleCount_ttg5 (noL_true)) f_s_DrawTripleCount_o (f_s_DrawTripleCount_e code0) (f_s_DrawTripleCount_p code0) h
def f_s_DrawTripleCount_c : CRow := fun args inh => match dec2 [.p .sl] [] args inh with
  | some ([.l code0], []) => some ((f_s_DrawTripleCount code0).isSome, (f_s_DrawTripleCount_en ((f_s_DrawTripleCount code0).getD ([], 0, 0, 0))).1, (f_s_DrawTripleCount_en ((f_s_DrawTripleCount code0).getD ([], 0, 0, 0))).2)
  | _ => none
theorem f_s_DrawTripleCount_cc : CTrue Try.prog 51 f_s_DrawTripleCount_c := by
  intro args inh rs out h
  unfold f_s_DrawTripleCount_c at h
  split at h
  · rename_i hd
    obtain ⟨h1, h2⟩ := dec2_enc hd
    rw [← h1, ← h2]
    exact rowC (f_s_DrawTripleCount_ok _) h
  · cases h

def f_i_TripleCount_F : Fi := { nv := 0, nc := 0, m := 0, vt := [], kl := [(0, ([0, 1, 2, 4, 5, 6, 7, 8, 10, 11, 12, 13, 14, 15, 16, 17, 18, 19, 20, 21, 25, 26, 27, 28, 29, 30, 31, 32, 33, 34, 35, 36], [0, 1, 2, 3, 4, 5, 6, 7, 8, 10, 11, 12, 13, 14, 15, 16, 17, 18, 19, 20, 21, 22, 23, 24, 25, 26, 27, 28, 29, 30, 31, 32, 33, 34, 35, 36], [0, 1, 2, 3, 4, 5, 6, 7, 9, 10, 11, 12, 13, 14, 15, 16, 17, 18, 19, 20, 21, 22, 23, 24, 25, 26, 27, 28, 29, 30, 31, 32, 33, 34, 35, 36]))], sk := [], mvs := [], fz := [] }
def f_i_TripleCount_a (g0 : List Sc) (a1 : Int) (b2 : Int) (c3 : Int) : List AV := enc [.p .gr, .p (.int .i64), .p (.int .i64), .p (.int .i64)] [.l g0, .i a1, .i b2, .i c3]
def f_i_TripleCount_i (g0 : List Sc) (a1 : Int) (b2 : Int) (c3 : Int) : List AV := enc [] []
def f_i_TripleCount_en (r : Int) : List AV × List AV := (enc [.p (.int .i64)] [.i r], enc [] [])
def f_i_TripleCount_M : Calling := addC 158 f_i_areSets_c (addC 159 f_i_SumTable_c (addC 153 f_i_in_c (noC)))
theorem f_i_TripleCount_Mt : CallOk Try.prog (f_i_TripleCount_M) := addC_true f_i_areSets_cc (addC_true f_i_SumTable_cc (addC_true f_i_in_cc (noC_true)))
theorem f_i_TripleCount_o : loopsOnce Try.f52 = true := by kernel_rfl
def f_i_TripleCount_h0 : List Sh := [.u, .u, .u, .p (.int .i64), .u, .u, .u, .u, .u, .p (.int .i64), .u, .u, .u, .u, .u, .u, .u, .u, .u, .u, .u, .u, .own 3, .p (.int .i64), .p (.int .i64), .u, .u, .u, .u, .u, .u, .u, .u, .u, .u, .u, .u]
def f_i_TripleCount_fr0 (c3 : Int) (t23 : Int) (s : Int × List Sc × Int) : List AV := enc f_i_TripleCount_h0 [.i c3, .i s.1, .l s.2.1, .i t23, .i s.2.2]
def f_i_TripleCount_g0_1 : List Sh := [.u, .u, .u, .u, .u, .u, .u, .u, .u, .p (.int .i64), .u, .u, .u, .u, .u, .u, .u, .u, .u, .u, .u, .u, .u, .u, .u, .u, .u, .u, .u, .u, .u, .u, .u, .u, .u, .u, .u]
def f_i_TripleCount_x0_1 (c3 : Int) (t23 : Int) (e : Int) : X × List AV := (.out 0, enc f_i_TripleCount_g0_1 [.i e])
def f_i_TripleCount_x0_2 (c3 : Int) (t23 : Int) (_e : Unit) : X × List AV := (.ret, [])
theorem f_i_TripleCount_p0 {R : Type} (c3 : Int) (t23 : Int) (s : Int × List Sc × Int) (kN : Int × List Sc × Int → Option R) (kA : Int → Option R) (kB : Unit → Option R) : f_i_TripleCount_k0 c3 t23 s.1 s.2.1 s.2.2 kN kA = (f_i_TripleCount_r0 c3 t23 s).bind (Ro.el kN kA kB) := by
  simp only [f_i_TripleCount_k0, f_i_TripleCount_r0, brB, boB, someB, noneB, Ro.el]
theorem f_i_TripleCount_e0 (c3 : Int) (t23 : Int) (s : Int × List Sc × Int) : EC E0 f_i_TripleCount_M H0 f_i_TripleCount_F (asL (noL)) 0 (bodyOf Try.f52 0) (f_i_TripleCount_fr0 c3 t23 s) (done (klOf f_i_TripleCount_F 0)) = f_i_TripleCount_k0 c3 t23 s.1 s.2.1 s.2.2 (fun s => some (.norm, f_i_TripleCount_fr0 c3 t23 s)) (fun e => some (f_i_TripleCount_x0_1 c3 t23 e)) := by kernel_rfl
theorem f_i_TripleCount_l0 (c3 : Int) (t23 : Int) : ∀ s r, loopL (f_i_TripleCount_r0 c3 t23) s = some r → LS Try.prog f_i_TripleCount_F (bodyOf Try.f52 0) (f_i_TripleCount_fr0 c3 t23 s) (enX (f_i_TripleCount_x0_1 c3 t23) (f_i_TripleCount_x0_2 c3 t23) r) :=
  loop_true E0ok f_i_TripleCount_Mt (noL_true) f_i_TripleCount_o (fun _ h => by cases h) (fun _ h => by cases h) (fun s => (f_i_TripleCount_e0 c3 t23 s).trans (f_i_TripleCount_p0 c3 t23 s _ _ (fun e => some (f_i_TripleCount_x0_2 c3 t23 e))))
def f_i_TripleCount_t0 (σ : List AV) : Option (Bool × Bool × (X × List AV) × (X × List AV)) := match dec f_i_TripleCount_h0 σ with
  | some [.i c3, .i n9, .l t22, .i t23, .i t24] => some (isOne (loopL (f_i_TripleCount_r0 c3 t23) (n9, t22, t24)), true, f_i_TripleCount_x0_1 c3 t23 (getOne 0 (loopL (f_i_TripleCount_r0 c3 t23) (n9, t22, t24))), (.ret, []))
  | _ => none
theorem f_i_TripleCount_tt0 : TTrue Try.prog f_i_TripleCount_F Try.f52 0 (f_i_TripleCount_t0) := by
  intro σ p r r' h
  unfold f_i_TripleCount_t0 at h
  split at h
  · rename_i hd
    rw [← dec_enc hd]
    exact row1 (f_i_TripleCount_l0 _ _ _) h
  · cases h
theorem f_i_TripleCount_p {R : Type} (g0 : List Sc) (a1 : Int) (b2 : Int) (c3 : Int) (kR : Int → Option R) : f_i_TripleCount_k g0 a1 b2 c3 kR = (f_i_TripleCount_k g0 a1 b2 c3 some).bind kR := by
  simp only [f_i_TripleCount_k, brB, boB, bl1B, someB]
theorem f_i_TripleCount_e (g0 : List Sc) (a1 : Int) (b2 : Int) (c3 : Int) : runFn E0 f_i_TripleCount_M H0 f_i_TripleCount_F (asL (addL 0 (f_i_TripleCount_t0) (noL))) Try.f52 (f_i_TripleCount_a g0 a1 b2 c3) (f_i_TripleCount_i g0 a1 b2 c3) = f_i_TripleCount_k g0 a1 b2 c3 (fun r => some (f_i_TripleCount_en r)) := by kernel_rfl
theorem f_i_TripleCount_ok (g0 : List Sc) (a1 : Int) (b2 : Int) (c3 : Int) (r : Int) (h : f_i_TripleCount g0 a1 b2 c3 = some r) : CS Try.prog 52 (f_i_TripleCount_a g0 a1 b2 c3) (f_i_TripleCount_i g0 a1 b2 c3) (f_i_TripleCount_en r).1 (f_i_TripleCount_en r).2 :=
  fn_true (Gk := fun k => f_i_TripleCount_k g0 a1 b2 c3 k) (en := f_i_TripleCount_en) Try.func52 E0ok f_i_TripleCount_Mt (addL_true (f_i_TripleCount_tt0) (noL_true)) f_i_TripleCount_o (f_i_TripleCount_e g0 a1 b2 c3) (f_i_TripleCount_p g0 a1 b2 c3) h
def f_i_TripleCount_c : CRow := fun args inh => match dec2 [.p .gr, .p (.int .i64), .p (.int .i64), .p (.int .i64)] [] args inh with
  | some ([.l g0, .i a1, .i b2, .i c3], []) => some ((f_i_TripleCount g0 a1 b2 c3).isSome, (f_i_TripleCount_en ((f_i_TripleCount g0 a1 b2 c3).getD 0)).1, (f_i_TripleCount_en ((f_i_TripleCount g0 a1 b2 c3).getD 0)).2)
  | _ => none
theorem f_i_TripleCount_cc : CTrue Try.prog 52 f_i_TripleCount_c := by
  intro args inh rs out h
  unfold f_i_TripleCount_c at h
  split at h
  · rename_i hd
    obtain ⟨h1, h2⟩ := dec2_enc hd
    rw [← h1, ← h2]
    exact rowC (f_i_TripleCount_ok _ _ _ _) h
  · cases h

def f_s_TripleCount_F : Fi := { nv := 0, nc := 0, m := 0, vt := [], kl := [(0, ([0, 1, 2, 4, 5, 6, 7, 8, 12, 13, 14, 15, 16, 17, 18, 19, 20, 21, 22, 23, 24, 25, 26, 27, 28, 29, 30, 31, 32, 33, 34, 35, 36, 37, 38, 39, 40, 41, 42], [0, 1, 2, 3, 4, 5, 6, 7, 8, 9, 11, 12, 13, 14, 15, 16, 17, 18, 19, 20, 21, 22, 23, 24, 25, 26, 27, 28, 29, 30, 31, 32, 33, 34, 35, 36, 37, 38, 39, 40, 41, 42], [0, 1, 2, 3, 4, 5, 6, 7, 9, 10, 11, 12, 13, 14, 15, 16, 17, 18, 19, 20, 21, 22, 23, 24, 25, 26, 27, 28, 29, 30, 31, 32, 33, 34, 35, 36, 37, 38, 39, 40, 41, 42]))], sk := [], mvs := [], fz := [] }
def f_s_TripleCount_a (g0 : List Sc) (a1 : Int) (b2 : Int) (c3 : Int) : List AV := enc [.p .gr, .p (.int .i64), .p (.int .i64), .p (.int .i64)] [.l g0, .i a1, .i b2, .i c3]
def f_s_TripleCount_i (g0 : List Sc) (a1 : Int) (b2 : Int) (c3 : Int) : List AV := enc [] []
def f_s_TripleCount_en (r : Int) : List AV × List AV := (enc [.p (.int .i64)] [.i r], enc [] [])
def f_s_TripleCount_M : Calling := addC 161 f_s_SumTable_c (addC 124 f_s_IsSet_c (noC))
theorem f_s_TripleCount_Mt : CallOk Try.prog (f_s_TripleCount_M) := addC_true f_s_SumTable_cc (addC_true f_s_IsSet_cc (noC_true))
theorem f_s_TripleCount_o : loopsOnce Try.f53 = true := by kernel_rfl
def f_s_TripleCount_h0 : List Sh := [.u, .u, .u, .p (.int .i64), .u, .u, .u, .u, .u, .own 3, .p (.int .i64), .p (.int .i64), .u, .u, .u, .u, .u, .u, .u, .u, .u, .u, .u, .u, .u, .u, .u, .u, .u, .u, .u, .u, .u, .u, .u, .u, .u, .u, .u, .u, .u, .u, .u]
def f_s_TripleCount_fr0 (c3 : Int) (s : List Sc × Int × Int) : List AV := enc f_s_TripleCount_h0 [.i c3, .l s.1, .i s.2.1, .i s.2.2]
def f_s_TripleCount_g0_1 : List Sh := [.u, .u, .u, .u, .u, .u, .u, .u, .u, .u, .p (.int .i64), .u, .u, .u, .u, .u, .u, .u, .u, .u, .u, .u, .u, .u, .u, .u, .u, .u, .u, .u, .u, .u, .u, .u, .u, .u, .u, .u, .u, .u, .u, .u, .u]
def f_s_TripleCount_x0_1 (c3 : Int) (e : Int) : X × List AV := (.out 0, enc f_s_TripleCount_g0_1 [.i e])
def f_s_TripleCount_x0_2 (c3 : Int) (_e : Unit) : X × List AV := (.ret, [])
theorem f_s_TripleCount_p0 {R : Type} (c3 : Int) (s : List Sc × Int × Int) (kN : List Sc × Int × Int → Option R) (kA : Int → Option R) (kB : Unit → Option R) : f_s_TripleCount_k0 c3 s.1 s.2.1 s.2.2 kN kA = (f_s_TripleCount_r0 c3 s).bind (Ro.el kN kA kB) := by
  simp only [f_s_TripleCount_k0, f_s_TripleCount_r0, brB, someB, noneB, Ro.el]
theorem f_s_TripleCount_e0 (c3 : Int) (s : List Sc × Int × Int) : EC E0 f_s_TripleCount_M H0 f_s_TripleCount_F (asL (noL)) 0 (bodyOf Try.f53 0) (f_s_TripleCount_fr0 c3 s) (done (klOf f_s_TripleCount_F 0)) = f_s_TripleCount_k0 c3 s.1 s.2.1 s.2.2 (fun s => some (.norm, f_s_TripleCount_fr0 c3 s)) (fun e => some (f_s_TripleCount_x0_1 c3 e)) := by kernel_rfl
theorem f_s_TripleCount_l0 (c3 : Int) : ∀ s r, loopL (f_s_TripleCount_r0 c3) s = some r → LS Try.prog f_s_TripleCount_F (bodyOf Try.f53 0) (f_s_TripleCount_fr0 c3 s) (enX (f_s_TripleCount_x0_1 c3) (f_s_TripleCount_x0_2 c3) r) :=
  loop_true E0ok f_s_TripleCount_Mt (noL_true) f_s_TripleCount_o (fun _ h => by cases h) (fun _ h => by cases h) (fun s => (f_s_TripleCount_e0 c3 s).trans (f_s_TripleCount_p0 c3 s _ _ (fun e => some (f_s_TripleCount_x0_2 c3 e))))
def f_s_TripleCount_t0 (σ : List AV) : Option (Bool × Bool × (X × List AV) × (X × List AV)) := match dec f_s_TripleCount_h0 σ with
  | some [.i c3, .l s9, .i n10, .i i11] => some (isOne (loopL (f_s_TripleCount_r0 c3) (s9, n10, i11)), true, f_s_TripleCount_x0_1 c3 (getOne 0 (loopL (f_s_TripleCount_r0 c3) (s9, n10, i11))), (.ret, []))
  | _ => none
theorem f_s_TripleCount_tt0 : TTrue Try.prog f_s_TripleCount_F Try.f53 0 (f_s_TripleCount_t0) := by
  intro σ p r r' h
  unfold f_s_TripleCount_t0 at h
  split at h
  · rename_i hd
    rw [← dec_enc hd]
    exact row1 (f_s_TripleCount_l0 _ _) h
  · cases h
theorem f_s_TripleCount_p {R : Type} (g0 : List Sc) (a1 : Int) (b2 : Int) (c3 : Int) (kR : Int → Option R) : f_s_TripleCount_k g0 a1 b2 c3 kR = (f_s_TripleCount_k g0 a1 b2 c3 some).bind kR := by
  simp only [f_s_TripleCount_k, brB, boB, bl1B, someB]
theorem f_s_TripleCount_e (g0 : List Sc) (a1 : Int) (b2 : Int) (c3 : Int) : runFn E0 f_s_TripleCount_M H0 f_s_TripleCount_F (asL (addL 0 (f_s_TripleCount_t0) (noL))) Try.f53 (f_s_TripleCount_a g0 a1 b2 c3) (f_s_TripleCount_i g0 a1 b2 c3) = f_s_TripleCount_k g0 a1 b2 c3 (fun r => some (f_s_TripleCount_en r)) := by kernel_rfl
theorem f_s_TripleCount_ok (g0 : List Sc) (a1 : Int) (b2 : Int) (c3 : Int) (r : Int) (h : f_s_TripleCount g0 a1 b2 c3 = some r) : CS Try.prog 53 (f_s_TripleCount_a g0 a1 b2 c3) (f_s_TripleCount_i g0 a1 b2 c3) (f_s_TripleCount_en r).1 (f_s_TripleCount_en r).2 :=
  fn_true (Gk := fun k => f_s_TripleCount_k g0 a1 b2 c3 k) (en := f_s_TripleCount_en) Try.func53 E0ok f_s_TripleCount_Mt (addL_true (f_s_TripleCount_tt0) (noL_true)) f_s_TripleCount_o (f_s_TripleCount_e g0 a1 b2 c3) (f_s_TripleCount_p g0 a1 b2 c3) h
def f_s_TripleCount_c : CRow := fun args inh => match dec2 [.p .gr, .p (.int .i64), .p (.int .i64), .p (.int .i64)] [] args inh with
  | some ([.l g0, .i a1, .i b2, .i c3], []) => some ((f_s_TripleCount g0 a1 b2 c3).isSome, (f_s_TripleCount_en ((f_s_TripleCount g0 a1 b2 c3).getD 0)).1, (f_s_TripleCount_en ((f_s_TripleCount g0 a1 b2 c3).getD 0)).2)
  | _ => none
theorem f_s_TripleCount_cc : CTrue Try.prog 53 f_s_TripleCount_c := by
  intro args inh rs out h
  unfold f_s_TripleCount_c at h
  split at h
  · rename_i hd
    obtain ⟨h1, h2⟩ := dec2_enc hd
    rw [← h1, ← h2]
    exact rowC (f_s_TripleCount_ok _ _ _ _) h
  · cases h

def f_s_l1Once_io_F : Fi := { nv := 3, nc := 3, m := 3, vt := [], kl := [], sk := [], mvs := [], fz := [] }
def f_s_l1Once_io_a (n1 : Int) (h0 : List Sc) (h1 : Int) (h2 : Int) : List AV := enc [.p (.pt 0 3), .p (.int .i64)] [.i n1]
def f_s_l1Once_io_i (n1 : Int) (h0 : List Sc) (h1 : Int) (h2 : Int) : List AV := enc [.p .sl, .p (.int .i64), .p (.int .i64)] [.l h0, .i h1, .i h2]
def f_s_l1Once_io_en (r : Bool × List Sc × Int × Int) : List AV × List AV := (enc [.p .boo] [.b r.1], enc [.p .sl, .p (.int .i64), .p (.int .i64)] [.l r.2.1, .i r.2.2.1, .i r.2.2.2])
def f_s_l1Once_io_M : Calling := addC 166 f_s_l1Below_io_c (noC)
theorem f_s_l1Once_io_Mt : CallOk Try.prog (f_s_l1Once_io_M) := addC_true f_s_l1Below_io_cc (noC_true)
theorem f_s_l1Once_io_o : loopsOnce Try.f167 = true := by kernel_rfl
theorem f_s_l1Once_io_p {R : Type} (n1 : Int) (h0 : List Sc) (h1 : Int) (h2 : Int) (kR : Bool × List Sc × Int × Int → Option R) : f_s_l1Once_io_k n1 h0 h1 h2 kR = (f_s_l1Once_io_k n1 h0 h1 h2 some).bind kR := by
  simp only [f_s_l1Once_io_k, boB, someB]
theorem f_s_l1Once_io_e (n1 : Int) (h0 : List Sc) (h1 : Int) (h2 : Int) : runFn E0 f_s_l1Once_io_M H0 f_s_l1Once_io_F (asL (noL)) Try.f167 (f_s_l1Once_io_a n1 h0 h1 h2) (f_s_l1Once_io_i n1 h0 h1 h2) = f_s_l1Once_io_k n1 h0 h1 h2 (fun r => some (f_s_l1Once_io_en r)) := by kernel_rfl
theorem f_s_l1Once_io_ok (n1 : Int) (h0 : List Sc) (h1 : Int) (h2 : Int) (r : Bool × List Sc × Int × Int) (h : f_s_l1Once_io n1 h0 h1 h2 = some r) : CS Try.prog 167 (f_s_l1Once_io_a n1 h0 h1 h2) (f_s_l1Once_io_i n1 h0 h1 h2) (f_s_l1Once_io_en r).1 (f_s_l1Once_io_en r).2 :=
  fn_true (Gk := fun k => f_s_l1Once_io_k n1 h0 h1 h2 k) (en := f_s_l1Once_io_en) Try.func167 E0ok f_s_l1Once_io_Mt (noL_true) f_s_l1Once_io_o (f_s_l1Once_io_e n1 h0 h1 h2) (f_s_l1Once_io_p n1 h0 h1 h2) h
def f_s_l1Once_io_c : CRow := fun args inh => match dec2 [.p (.pt 0 3), .p (.int .i64)] [.p .sl, .p (.int .i64), .p (.int .i64)] args inh with
  | some ([.i n1], [.l h0, .i h1, .i h2]) => some ((f_s_l1Once_io n1 h0 h1 h2).isSome, (f_s_l1Once_io_en ((f_s_l1Once_io n1 h0 h1 h2).getD (false, [], 0, 0))).1, (f_s_l1Once_io_en ((f_s_l1Once_io n1 h0 h1 h2).getD (false, [], 0, 0))).2)
  | _ => none
theorem f_s_l1Once_io_cc : CTrue Try.prog 167 f_s_l1Once_io_c := by
  intro args inh rs out h
  unfold f_s_l1Once_io_c at h
  split at h
  · rename_i hd
    obtain ⟨h1, h2⟩ := dec2_enc hd
    rw [← h1, ← h2]
    exact rowC (f_s_l1Once_io_ok _ _ _ _) h
  · cases h

def f_s_DrawConvolveTables_F : Fi := { nv := 6, nc := 5, m := 0, vt := [(2, 0), (6, 1), (11, 2), (13, 5)], kl := [(0, ([5, 6, 7, 9, 10, 16, 17, 18, 19, 20, 21, 22, 23, 24, 25, 26, 27, 28, 29, 30, 31, 32, 33, 34, 35, 36, 37, 38, 39, 40, 41, 42, 43, 44, 45, 46, 47, 48, 49], [5, 6, 7, 9, 10, 15, 16, 17, 18, 19, 20, 21, 22, 23, 24, 25, 26, 27, 28, 29, 30, 31, 32, 33, 34, 35, 36, 37, 38, 39, 40, 41, 42, 43, 44, 45, 46, 47, 48, 49], [1, 2, 3, 4, 5, 6, 7, 11, 12, 13, 14, 15, 16, 17, 18, 19, 20, 21, 22, 23, 24, 25, 26, 27, 28, 29, 30, 31, 32, 33, 34, 35, 36, 37, 38, 39, 40, 41, 42, 43, 44, 45, 46, 47, 48, 49]))], sk := [], mvs := [5], fz := [] }
def f_s_DrawConvolveTables_a (code0 : List Sc) : List AV := enc [.p .sl] [.l code0]
def f_s_DrawConvolveTables_i (code0 : List Sc) : List AV := enc [] []
def f_s_DrawConvolveTables_en (r : List Sc × List Sc × List Sc) : List AV × List AV := (enc [.p (.go 0), .p (.al 1), .p (.al 2)] [], enc [.own 3, .own 3, .own 3] [.l r.1, .l r.2.1, .l r.2.2])
def f_s_DrawConvolveTables_M : Calling := addC 162 f_s_l1New_c (addC 165 f_s_l2Draw_io_c (addC 139 f_s_l2Order_c (addC 166 f_s_l1Below_io_c (addC 167 f_s_l1Once_io_c (addC 168 f_s_l1PickInt_io_c (noC))))))
theorem f_s_DrawConvolveTables_Mt : CallOk Try.prog (f_s_DrawConvolveTables_M) := addC_true f_s_l1New_cc (addC_true f_s_l2Draw_io_cc (addC_true f_s_l2Order_cc (addC_true f_s_l1Below_io_cc (addC_true f_s_l1Once_io_cc (addC_true f_s_l1PickInt_io_cc (noC_true))))))
theorem f_s_DrawConvolveTables_o : loopsOnce Try.f54 = true := by kernel_rfl
def f_s_DrawConvolveTables_h0 : List Sh := [.p .sl, .own 3, .p .sl, .p (.int .i64), .p (.int .i64), .u, .u, .u, .p (.pt 0 1), .u, .u, .p (.pt 2 3), .p (.pt 1 1), .own 3, .own 3, .p (.int .i64), .u, .u, .u, .u, .u, .u, .u, .u, .u, .u, .u, .u, .u, .u, .u, .u, .u, .u, .u, .u, .u, .u, .u, .u, .u, .u, .u, .u, .u, .u, .u, .u, .u, .u]
def f_s_DrawConvolveTables_fr0 (s : List Sc × List Sc × List Sc × Int × Int × List Sc × List Sc × Int) : List AV := enc f_s_DrawConvolveTables_h0 [.l s.1, .l s.2.1, .l s.2.2.1, .i s.2.2.2.1, .i s.2.2.2.2.1, .l s.2.2.2.2.2.1, .l s.2.2.2.2.2.2.1, .i s.2.2.2.2.2.2.2]
def f_s_DrawConvolveTables_g0_1 : List Sh := [.p .sl, .own 3, .p .sl, .p (.int .i64), .p (.int .i64), .u, .u, .u, .p (.pt 0 1), .u, .u, .p (.pt 2 3), .p (.pt 1 1), .own 3, .own 3, .u, .u, .u, .u, .u, .u, .u, .u, .u, .u, .u, .u, .u, .u, .u, .u, .u, .u, .u, .u, .u, .u, .u, .u, .u, .u, .u, .u, .u, .u, .u, .u, .u, .u, .u]
def f_s_DrawConvolveTables_x0_1 (e : List Sc × List Sc × List Sc × Int × Int × List Sc × List Sc) : X × List AV := (.out 0, enc f_s_DrawConvolveTables_g0_1 [.l e.1, .l e.2.1, .l e.2.2.1, .i e.2.2.2.1, .i e.2.2.2.2.1, .l e.2.2.2.2.2.1, .l e.2.2.2.2.2.2])
def f_s_DrawConvolveTables_x0_2 (_e : Unit) : X × List AV := (.ret, [])
theorem f_s_DrawConvolveTables_p0 {R : Type} (s : List Sc × List Sc × List Sc × Int × Int × List Sc × List Sc × Int) (kN : List Sc × List Sc × List Sc × Int × Int × List Sc × List Sc × Int → Option R) (kA : List Sc × List Sc × List Sc × Int × Int × List Sc × List Sc → Option R) (kB : Unit → Option R) : f_s_DrawConvolveTables_k0 s.1 s.2.1 s.2.2.1 s.2.2.2.1 s.2.2.2.2.1 s.2.2.2.2.2.1 s.2.2.2.2.2.2.1 s.2.2.2.2.2.2.2 kN kA = (f_s_DrawConvolveTables_r0 s).bind (Ro.el kN kA kB) := by
  simp only [f_s_DrawConvolveTables_k0, f_s_DrawConvolveTables_r0, brB, boB, someB, noneB, Ro.el]
theorem f_s_DrawConvolveTables_e0 (s : List Sc × List Sc × List Sc × Int × Int × List Sc × List Sc × Int) : EC E0 f_s_DrawConvolveTables_M H0 f_s_DrawConvolveTables_F (asL (noL)) 0 (bodyOf Try.f54 0) (f_s_DrawConvolveTables_fr0 s) (done (klOf f_s_DrawConvolveTables_F 0)) = f_s_DrawConvolveTables_k0 s.1 s.2.1 s.2.2.1 s.2.2.2.1 s.2.2.2.2.1 s.2.2.2.2.2.1 s.2.2.2.2.2.2.1 s.2.2.2.2.2.2.2 (fun s => some (.norm, f_s_DrawConvolveTables_fr0 s)) (fun e => some (f_s_DrawConvolveTables_x0_1 e)) := by kernel_rfl
theorem f_s_DrawConvolveTables_l0 : ∀ s r, loopL (f_s_DrawConvolveTables_r0) s = some r → LS Try.prog f_s_DrawConvolveTables_F (bodyOf Try.f54 0) (f_s_DrawConvolveTables_fr0 s) (enX (f_s_DrawConvolveTables_x0_1) (f_s_DrawConvolveTables_x0_2) r) :=
  loop_true E0ok f_s_DrawConvolveTables_Mt (noL_true) f_s_DrawConvolveTables_o (fun _ h => by cases h) (fun _ h => by cases h) (fun s => (f_s_DrawConvolveTables_e0 s).trans (f_s_DrawConvolveTables_p0 s _ _ (fun e => some (f_s_DrawConvolveTables_x0_2 e))))
def f_s_DrawConvolveTables_t0 (σ : List AV) : Option (Bool × Bool × (X × List AV) × (X × List AV)) := match dec f_s_DrawConvolveTables_h0 σ with
  | some [.l v0, .l v1, .l v2, .i v3, .i v4, .l p7, .l q8, .i i9] => some (isOne (loopL (f_s_DrawConvolveTables_r0) (v0, v1, v2, v3, v4, p7, q8, i9)), true, f_s_DrawConvolveTables_x0_1 (getOne ([], [], [], 0, 0, [], []) (loopL (f_s_DrawConvolveTables_r0) (v0, v1, v2, v3, v4, p7, q8, i9))), (.ret, []))
  | _ => none
theorem f_s_DrawConvolveTables_tt0 : TTrue Try.prog f_s_DrawConvolveTables_F Try.f54 0 (f_s_DrawConvolveTables_t0) := by
  intro σ p r r' h
  unfold f_s_DrawConvolveTables_t0 at h
  split at h
  · rename_i hd
    rw [← dec_enc hd]
    exact row1 (f_s_DrawConvolveTables_l0 _) h
  · cases h
theorem f_s_DrawConvolveTables_p {R : Type} (code0 : List Sc) (kR : List Sc × List Sc × List Sc → Option R) : f_s_DrawConvolveTables_k code0 kR = (f_s_DrawConvolveTables_k code0 some).bind kR := by
  simp only [f_s_DrawConvolveTables_k, brB, boB, bl1B, someB, noneB]
theorem f_s_DrawConvolveTables_e (code0 : List Sc) : runFn E0 f_s_DrawConvolveTables_M H0 f_s_DrawConvolveTables_F (asL (addL 0 (f_s_DrawConvolveTables_t0) (noL))) Try.f54 (f_s_DrawConvolveTables_a code0) (f_s_DrawConvolveTables_i code0) = f_s_DrawConvolveTables_k code0 (fun r => some (f_s_DrawConvolveTables_en r)) := by kernel_rfl
theorem f_s_DrawConvolveTables_ok (code0 : List Sc) (r : List Sc × List Sc × List Sc) (h : f_s_DrawConvolveTables code0 = some r) : CS Try.prog 54 (f_s_DrawConvolveTables_a code0) (f_s_DrawConvolveTables_i code0) (f_s_DrawConvolveTables_en r).1 (f_s_DrawConvolveTables_en r).2 :=
  fn_true (Gk := fun k => f_s_DrawConvolveTables_k code0 k) (en := f_s_DrawConvolveTables_en) Try.func54 E0ok f_s_DrawConvolveTables_Mt (addL_true (f_s_DrawConvolveTables_tt0) (noL_true)) f_s_DrawConvolveTables_o (f_s_DrawConvolveTables_e code0) (f_s_DrawConvolveTables_p code0) h
def f_s_DrawConvolveTables_c : CRow := fun args inh => match dec2 [.p .sl] [] args inh with
  | some ([.l code0], []) => some ((f_s_DrawConvolveTables code0).isSome, (f_s_DrawConvolveTables_en ((f_s_DrawConvolveTables code0).getD ([], [], []))).1, (f_s_DrawConvolveTables_en ((f_s_DrawConvolveTables code0).getD ([], [], []))).2)
  | _ => none
theorem f_s_DrawConvolveTables_cc : CTrue Try.prog 54 f_s_DrawConvolveTables_c := by
  intro args inh rs out h
  unfold f_s_DrawConvolveTables_c at h
  split at h
  · rename_i hd
    obtain ⟨h1, h2⟩ := dec2_enc hd
    rw [← h1, ← h2]
    exact rowC (f_s_DrawConvolveTables_ok _) h
  · cases h

def f_i_copyInts_F : Fi := { nv := 0, nc := 0, m := 0, vt := [], kl := [], sk := [], mvs := [], fz := [] }
def f_i_copyInts_a (l0 : List Sc) : List AV := enc [.p .sl] [.l l0]
def f_i_copyInts_i (l0 : List Sc) : List AV := enc [] []
def f_i_copyInts_en (r : List Sc) : List AV × List AV := (enc [.p (.al 0)] [], enc [.own 3] [.l r])
def f_i_copyInts_M : Calling := noC
theorem f_i_copyInts_Mt : CallOk Try.prog (f_i_copyInts_M) := noC_true
theorem f_i_copyInts_o : loopsOnce Try.f169 = true := by kernel_rfl
theorem f_i_copyInts_p {R : Type} (l0 : List Sc) (kR : List Sc → Option R) : f_i_copyInts_k l0 kR = (f_i_copyInts_k l0 some).bind kR := by
  simp only [f_i_copyInts_k, brB, someB, noneB]
theorem f_i_copyInts_e (l0 : List Sc) : runFn E0 f_i_copyInts_M H0 f_i_copyInts_F (asL (noL)) Try.f169 (f_i_copyInts_a l0) (f_i_copyInts_i l0) = f_i_copyInts_k l0 (fun r => some (f_i_copyInts_en r)) := by kernel_rfl
theorem f_i_copyInts_ok (l0 : List Sc) (r : List Sc) (h : f_i_copyInts l0 = some r) : CS Try.prog 169 (f_i_copyInts_a l0) (f_i_copyInts_i l0) (f_i_copyInts_en r).1 (f_i_copyInts_en r).2 :=
  fn_true (Gk := fun k => f_i_copyInts_k l0 k) (en := f_i_copyInts_en) Try.func169 E0ok f_i_copyInts_Mt (noL_true) f_i_copyInts_o (f_i_copyInts_e l0) (f_i_copyInts_p l0) h
def f_i_copyInts_c : CRow := fun args inh => match dec2 [.p .sl] [] args inh with
  | some ([.l l0], []) => some ((f_i_copyInts l0).isSome, (f_i_copyInts_en ((f_i_copyInts l0).getD [])).1, (f_i_copyInts_en ((f_i_copyInts l0).getD [])).2)
  | _ => none
theorem f_i_copyInts_cc : CTrue Try.prog 169 f_i_copyInts_c := by
  intro args inh rs out h
  unfold f_i_copyInts_c at h
  split at h
  · rename_i hd
    obtain ⟨h1, h2⟩ := dec2_enc hd
    rw [← h1, ← h2]
    exact rowC (f_i_copyInts_ok _) h
  · cases h
end
end Go.Proofs.Ytphbclogflflmaa
