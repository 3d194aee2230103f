/-
  That the program computes just that (printed by gen2.py).
-/
import Derived.Test.YtgbjlmhokkhiaaaRunb
set_option linter.unusedVariables false
set_option linter.unusedSimpArgs false
namespace Go.Proofs.Ytgbjlmhokkhiaaa
open Go Ev
noncomputable section
def f_s_DrawReplaceFactor_F : Fi := { nv := 2, nc := 2, m := 0, vt := [(2, 0), (6, 1)], kl := [(100002, ([3, 5, 6, 7, 11, 12, 13, 14, 15, 16, 17, 18, 19, 20, 21, 22, 23, 24, 25], [1, 2, 3, 8, 9, 10, 11, 12, 13, 14, 15, 16, 17, 18, 19, 20, 21, 22, 23, 24, 25], []))], sk := [], mvs := [], fz := [], tb := [2] }
def f_s_DrawReplaceFactor_a (code0 : List Sc) : List AV := enc [.p .sl] [.l code0]
def f_s_DrawReplaceFactor_i (code0 : List Sc) : List AV := enc [] []
def f_s_DrawReplaceFactor_en (r : List Sc × Int × Int × Int) : List AV × List AV := (enc [.p .gr, .p (.int .i64), .p (.int .i64), .p (.int .i64)] [.l r.1, .i r.2.1, .i r.2.2.1, .i r.2.2.2], enc [] [])
def f_s_DrawReplaceFactor_M : Calling := addC 27 f_s_l20Both_c (noC)
theorem f_s_DrawReplaceFactor_Mt : CallOk Try.prog (f_s_DrawReplaceFactor_M) := addC_true f_s_l20Both_cc (noC_true)
theorem f_s_DrawReplaceFactor_o : loopsOnce Try.f17 = true := by kernel_rfl
def f_s_DrawReplaceFactor_hg2 : List Sh := [.p .sl, .p .sl, .p .sl, .u, .p (.pt 0 1), .u, .u, .u, .p (.pt 1 1), .p (.int .i64), .p (.int .i64), .u, .u, .u, .u, .u, .u, .u, .u, .u, .u, .u, .u, .u, .u, .u]
def f_s_DrawReplaceFactor_frg2 (v0 : List Sc) (v1 : List Sc) (t0 : List Sc) (t7 : Int) (t8 : Int) : List AV := enc f_s_DrawReplaceFactor_hg2 [.l v0, .l v1, .l t0, .i t7, .i t8]
def f_s_DrawReplaceFactor_xg2 (v0 : List Sc) (v1 : List Sc) (t0 : List Sc) (t7 : Int) (t8 : Int) (e : Int) : X × List AV := (.norm, enc [.p .sl, .u, .u, .u, .p (.pt 0 1), .p (.int .i64), .p (.int .i64), .p (.int .i64), .u, .u, .u, .u, .u, .u, .u, .u, .u, .u, .u, .u, .u, .u, .u, .u, .u, .u] [.l v1, .i t7, .i t8, .i e])
theorem f_s_DrawReplaceFactor_pg2 {R : Type} (v0 : List Sc) (v1 : List Sc) (t0 : List Sc) (t7 : Int) (t8 : Int) (kA : Int → Option R) : f_s_DrawReplaceFactor_g2_k v0 v1 t0 t7 t8 kA = (f_s_DrawReplaceFactor_g2 v0 v1 t0 t7 t8).bind kA := by
  simp only [f_s_DrawReplaceFactor_g2_k, f_s_DrawReplaceFactor_g2, brB, someB, noneB]
theorem f_s_DrawReplaceFactor_bg2 : bodyOf Try.f17 100002 = .region 2 (opsAt (bodyOf Try.f17 100002)) true := by kernel_rfl
def f_s_DrawReplaceFactor_Dg2 : List (Array Bool) := [#[false, false, false, false, false, false, false, false, false, false, false, false, false], #[true, false, false, false, false, false, false, false, false, false, false, false, false], #[false, true, false, false, false, false, false, false, false, false, false, false, false], #[false, false, true, false, false, false, false, false, false, false, false, false, false], #[false, false, false, true, false, false, false, false, false, false, false, false, false], #[false, false, false, false, true, false, false, false, false, false, false, false, false], #[true, true, false, false, false, false, false, false, false, false, false, false, false], #[true, false, true, false, false, false, false, false, false, false, false, false, false], #[true, false, false, true, false, false, false, false, false, false, false, false, false], #[true, false, false, false, true, false, false, false, false, false, false, false, false], #[true, false, false, false, false, false, false, false, false, true, false, false, false], #[false, true, true, false, false, false, false, false, false, false, false, false, false], #[false, true, false, true, false, false, false, false, false, false, false, false, false], #[false, true, false, false, true, false, false, false, false, false, false, false, false], #[false, false, true, true, false, false, false, false, false, false, false, false, false], #[false, false, true, false, true, false, false, false, false, false, false, false, false], #[false, false, false, true, true, false, false, false, false, false, false, false, false], #[false, false, false, false, true, true, false, false, false, false, false, false, false], #[true, true, true, false, false, false, false, false, false, false, false, false, false], #[true, true, false, true, false, false, false, false, false, false, false, false, false], #[true, true, false, false, true, false, false, false, false, false, false, false, false], #[true, true, false, false, false, false, false, false, false, true, false, false, false], #[true, false, true, true, false, false, false, false, false, false, false, false, false], #[true, false, true, false, true, false, false, false, false, false, false, false, false], #[true, false, true, false, false, false, false, false, false, true, false, false, false], #[true, false, false, true, true, false, false, false, false, false, false, false, false], #[true, false, false, true, false, false, false, false, false, true, false, false, false], #[true, false, false, false, true, true, false, false, false, false, false, false, false], #[true, false, false, false, true, false, false, false, false, true, false, false, false], #[false, true, true, true, false, false, false, false, false, false, false, false, false], #[false, true, true, false, true, false, false, false, false, false, false, false, false], #[false, true, false, true, true, false, false, false, false, false, false, false, false], #[false, true, false, false, true, true, false, false, false, false, false, false, false], #[false, false, true, true, true, false, false, false, false, false, false, false, false], #[false, false, true, false, true, true, false, false, false, false, false, false, false], #[false, false, false, true, true, true, false, false, false, false, false, false, false], #[false, false, false, false, true, true, true, false, false, false, false, false, false], #[true, true, true, true, false, false, false, false, false, false, false, false, false], #[true, true, true, false, true, false, false, false, false, false, false, false, false], #[true, true, true, false, false, false, false, false, false, true, false, false, false], #[true, true, false, true, true, false, false, false, false, false, false, false, false], #[true, true, false, true, false, false, false, false, false, true, false, false, false], #[true, true, false, false, true, true, false, false, false, false, false, false, false], #[true, true, false, false, true, false, false, false, false, true, false, false, false], #[true, true, false, false, false, false, false, false, false, true, true, false, false], #[true, false, true, true, true, false, false, false, false, false, false, false, false], #[true, false, true, true, false, false, false, false, false, true, false, false, false], #[true, false, true, false, true, true, false, false, false, false, false, false, false], #[true, false, true, false, true, false, false, false, false, true, false, false, false], #[true, false, false, true, true, true, false, false, false, false, false, false, false], #[true, false, false, true, true, false, false, false, false, true, false, false, false], #[true, false, false, false, true, true, true, false, false, false, false, false, false], #[true, false, false, false, true, true, false, false, false, true, false, false, false], #[false, true, true, true, true, false, false, false, false, false, false, false, false], #[false, true, true, false, true, true, false, false, false, false, false, false, false], #[false, true, false, true, true, true, false, false, false, false, false, false, false], #[false, true, false, false, true, true, true, false, false, false, false, false, false], #[false, false, true, true, true, true, false, false, false, false, false, false, false], #[false, false, true, false, true, true, true, false, false, false, false, false, false], #[false, false, false, true, true, true, true, false, false, false, false, false, false], #[true, true, true, true, true, false, false, false, false, false, false, false, false], #[true, true, true, true, false, false, false, false, false, true, false, false, false], #[true, true, true, false, true, true, false, false, false, false, false, false, false], #[true, true, true, false, true, false, false, false, false, true, false, false, false], #[true, true, true, false, false, false, false, false, false, true, true, false, false], #[true, true, false, true, true, true, false, false, false, false, false, false, false], #[true, true, false, true, true, false, false, false, false, true, false, false, false], #[true, true, false, true, false, false, false, false, false, true, true, false, false], #[true, true, false, false, true, true, true, false, false, false, false, false, false], #[true, true, false, false, true, true, false, false, false, true, false, false, false], #[true, true, false, false, true, false, false, false, false, true, true, false, false], #[true, false, true, true, true, true, false, false, false, false, false, false, false], #[true, false, true, true, true, false, false, false, false, true, false, false, false], #[true, false, true, false, true, true, true, false, false, false, false, false, false], #[true, false, true, false, true, true, false, false, false, true, false, false, false], #[true, false, false, true, true, true, true, false, false, false, false, false, false], #[true, false, false, true, true, true, false, false, false, true, false, false, false], #[true, false, false, false, true, true, true, false, false, true, false, false, false], #[false, true, true, true, true, true, false, false, false, false, false, false, false], #[false, true, true, false, true, true, true, false, false, false, false, false, false], #[false, true, false, true, true, true, true, false, false, false, false, false, false], #[false, false, true, true, true, true, true, false, false, false, false, false, false], #[false, false, false, true, true, true, true, true, false, false, false, false, false], #[true, true, true, true, true, true, false, false, false, false, false, false, false], #[true, true, true, true, true, false, false, false, false, true, false, false, false], #[true, true, true, true, false, false, false, false, false, true, true, false, false], #[true, true, true, false, true, true, true, false, false, false, false, false, false], #[true, true, true, false, true, true, false, false, false, true, false, false, false], #[true, true, true, false, true, false, false, false, false, true, true, false, false], #[true, true, true, false, false, false, false, false, false, true, true, true, false], #[true, true, false, true, true, true, true, false, false, false, false, false, false], #[true, true, false, true, true, true, false, false, false, true, false, false, false], #[true, true, false, true, true, false, false, false, false, true, true, false, false], #[true, true, false, false, true, true, true, false, false, true, false, false, false], #[true, true, false, false, true, true, false, false, false, true, true, false, false], #[true, false, true, true, true, true, true, false, false, false, false, false, false], #[true, false, true, true, true, true, false, false, false, true, false, false, false], #[true, false, true, false, true, true, true, false, false, true, false, false, false], #[true, false, false, true, true, true, true, true, false, false, false, false, false], #[true, false, false, true, true, true, true, false, false, true, false, false, false], #[false, true, true, true, true, true, true, false, false, false, false, false, false], #[false, true, false, true, true, true, true, true, false, false, false, false, false], #[false, false, true, true, true, true, true, true, false, false, false, false, false], #[false, false, false, true, true, true, true, true, true, false, false, false, false], #[true, true, true, true, true, true, true, false, false, false, false, false, false], #[true, true, true, true, true, true, false, false, false, true, false, false, false], #[true, true, true, true, true, false, false, false, false, true, true, false, false], #[true, true, true, true, false, false, false, false, false, true, true, true, false], #[true, true, true, false, true, true, true, false, false, true, false, false, false], #[true, true, true, false, true, true, false, false, false, true, true, false, false], #[true, true, true, false, true, false, false, false, false, true, true, true, false], #[true, true, false, true, true, true, true, true, false, false, false, false, false], #[true, true, false, true, true, true, true, false, false, true, false, false, false], #[true, true, false, true, true, true, false, false, false, true, true, false, false], #[true, true, false, false, true, true, true, false, false, true, true, false, false], #[true, false, true, true, true, true, true, true, false, false, false, false, false], #[true, false, true, true, true, true, true, false, false, true, false, false, false], #[true, false, false, true, true, true, true, true, true, false, false, false, false], #[true, false, false, true, true, true, true, true, false, true, false, false, false], #[false, true, true, true, true, true, true, true, false, false, false, false, false], #[false, true, false, true, true, true, true, true, true, false, false, false, false], #[false, false, true, true, true, true, true, true, true, false, false, false, false], #[true, true, true, true, true, true, true, true, false, false, false, false, false], #[true, true, true, true, true, true, true, false, false, true, false, false, false], #[true, true, true, true, true, true, false, false, false, true, true, false, false], #[true, true, true, true, true, false, false, false, false, true, true, true, false], #[true, true, true, false, true, true, true, false, false, true, true, false, false], #[true, true, true, false, true, true, false, false, false, true, true, true, false], #[true, true, false, true, true, true, true, true, true, false, false, false, false], #[true, true, false, true, true, true, true, true, false, true, false, false, false], #[true, true, false, true, true, true, true, false, false, true, true, false, false], #[true, false, true, true, true, true, true, true, true, false, false, false, false], #[true, false, true, true, true, true, true, true, false, true, false, false, false], #[true, false, false, true, true, true, true, true, true, true, false, false, false], #[false, true, true, true, true, true, true, true, true, false, false, false, false], #[true, true, true, true, true, true, true, true, true, false, false, false, false], #[true, true, true, true, true, true, true, true, false, true, false, false, false], #[true, true, true, true, true, true, true, false, false, true, true, false, false], #[true, true, true, true, true, true, false, false, false, true, true, true, false], #[true, true, true, false, true, true, true, false, false, true, true, true, false], #[true, true, false, true, true, true, true, true, true, true, false, false, false], #[true, true, false, true, true, true, true, true, false, true, true, false, false], #[true, false, true, true, true, true, true, true, true, true, false, false, false], #[true, true, true, true, true, true, true, true, true, true, false, false, false], #[true, true, true, true, true, true, true, true, false, true, true, false, false], #[true, true, true, true, true, true, true, false, false, true, true, true, false], #[true, true, false, true, true, true, true, true, true, true, true, false, false], #[true, true, true, true, true, true, true, true, true, true, true, false, false], #[true, true, true, true, true, true, true, true, false, true, true, true, false], #[true, true, true, true, true, true, true, true, true, true, true, true, false], #[true, true, true, true, true, true, true, true, true, true, true, true, true]]
theorem f_s_DrawReplaceFactor_cg2 : closedB (opsAt (bodyOf Try.f17 100002)) f_s_DrawReplaceFactor_Dg2 = true := by kernel_rfl
def f_s_DrawReplaceFactor_sg2_0 (v0 : List Sc) (v1 : List Sc) (t0 : List Sc) (t7 : Int) (t8 : Int) (fr : List AV) : Option (List AV) :=
  some (setAll [] fr)
def f_s_DrawReplaceFactor_sg2_1 (v0 : List Sc) (v1 : List Sc) (t0 : List Sc) (t7 : Int) (t8 : Int) (fr : List AV) : Option (List AV) :=
  some (setAll [(17, .p (.gr v1))] fr)
def f_s_DrawReplaceFactor_sg2_2 (v0 : List Sc) (v1 : List Sc) (t0 : List Sc) (t7 : Int) (t8 : Int) (fr : List AV) : Option (List AV) :=
  some (setAll [(18, .p (.sc (Sc.n .i64 t7)))] fr)
def f_s_DrawReplaceFactor_sg2_4 (v0 : List Sc) (v1 : List Sc) (t0 : List Sc) (t7 : Int) (t8 : Int) (fr : List AV) : Option (List AV) :=
  some (setAll [(19, .p (.sc (Sc.n .i64 t8)))] fr)
def f_s_DrawReplaceFactor_sg2_8 (v0 : List Sc) (v1 : List Sc) (t0 : List Sc) (t7 : Int) (t8 : Int) (fr : List AV) : Option (List AV) :=
  some (setAll [(20, .own 3 [(Sc.n .i64 1), (Sc.n .i64 (-1)), (Sc.n .i64 2), (Sc.n .i64 3), (Sc.n .i64 5), (Sc.n .i64 7), (Sc.n .i64 101)])] fr)
def f_s_DrawReplaceFactor_sg2_16 (v0 : List Sc) (v1 : List Sc) (t0 : List Sc) (t7 : Int) (t8 : Int) (fr : List AV) : Option (List AV) :=
  some (setAll [(21, .p (.sl t0))] fr)
def f_s_DrawReplaceFactor_sg2_3 (v0 : List Sc) (v1 : List Sc) (t0 : List Sc) (t7 : Int) (t8 : Int) (fr : List AV) : Option (List AV) :=
  some (setAll [(17, .p (.gr v1)), (18, .p (.sc (Sc.n .i64 t7)))] fr)
def f_s_DrawReplaceFactor_sg2_5 (v0 : List Sc) (v1 : List Sc) (t0 : List Sc) (t7 : Int) (t8 : Int) (fr : List AV) : Option (List AV) :=
  some (setAll [(17, .p (.gr v1)), (19, .p (.sc (Sc.n .i64 t8)))] fr)
def f_s_DrawReplaceFactor_sg2_9 (v0 : List Sc) (v1 : List Sc) (t0 : List Sc) (t7 : Int) (t8 : Int) (fr : List AV) : Option (List AV) :=
  some (setAll [(17, .p (.gr v1)), (20, .own 3 [(Sc.n .i64 1), (Sc.n .i64 (-1)), (Sc.n .i64 2), (Sc.n .i64 3), (Sc.n .i64 5), (Sc.n .i64 7), (Sc.n .i64 101)])] fr)
def f_s_DrawReplaceFactor_sg2_17 (v0 : List Sc) (v1 : List Sc) (t0 : List Sc) (t7 : Int) (t8 : Int) (fr : List AV) : Option (List AV) :=
  some (setAll [(17, .p (.gr v1)), (21, .p (.sl t0))] fr)
def f_s_DrawReplaceFactor_sg2_513 (v0 : List Sc) (v1 : List Sc) (t0 : List Sc) (t7 : Int) (t8 : Int) (fr : List AV) : Option (List AV) :=
  some (setAll [(0, .p (.sl v1)), (17, .p (.gr v1))] fr)
def f_s_DrawReplaceFactor_sg2_6 (v0 : List Sc) (v1 : List Sc) (t0 : List Sc) (t7 : Int) (t8 : Int) (fr : List AV) : Option (List AV) :=
  some (setAll [(18, .p (.sc (Sc.n .i64 t7))), (19, .p (.sc (Sc.n .i64 t8)))] fr)
def f_s_DrawReplaceFactor_sg2_10 (v0 : List Sc) (v1 : List Sc) (t0 : List Sc) (t7 : Int) (t8 : Int) (fr : List AV) : Option (List AV) :=
  some (setAll [(18, .p (.sc (Sc.n .i64 t7))), (20, .own 3 [(Sc.n .i64 1), (Sc.n .i64 (-1)), (Sc.n .i64 2), (Sc.n .i64 3), (Sc.n .i64 5), (Sc.n .i64 7), (Sc.n .i64 101)])] fr)
def f_s_DrawReplaceFactor_sg2_18 (v0 : List Sc) (v1 : List Sc) (t0 : List Sc) (t7 : Int) (t8 : Int) (fr : List AV) : Option (List AV) :=
  some (setAll [(18, .p (.sc (Sc.n .i64 t7))), (21, .p (.sl t0))] fr)
def f_s_DrawReplaceFactor_sg2_12 (v0 : List Sc) (v1 : List Sc) (t0 : List Sc) (t7 : Int) (t8 : Int) (fr : List AV) : Option (List AV) :=
  some (setAll [(19, .p (.sc (Sc.n .i64 t8))), (20, .own 3 [(Sc.n .i64 1), (Sc.n .i64 (-1)), (Sc.n .i64 2), (Sc.n .i64 3), (Sc.n .i64 5), (Sc.n .i64 7), (Sc.n .i64 101)])] fr)
def f_s_DrawReplaceFactor_sg2_20 (v0 : List Sc) (v1 : List Sc) (t0 : List Sc) (t7 : Int) (t8 : Int) (fr : List AV) : Option (List AV) :=
  some (setAll [(19, .p (.sc (Sc.n .i64 t8))), (21, .p (.sl t0))] fr)
def f_s_DrawReplaceFactor_sg2_24 (v0 : List Sc) (v1 : List Sc) (t0 : List Sc) (t7 : Int) (t8 : Int) (fr : List AV) : Option (List AV) :=
  some (setAll [(20, .own 3 [(Sc.n .i64 1), (Sc.n .i64 (-1)), (Sc.n .i64 2), (Sc.n .i64 3), (Sc.n .i64 5), (Sc.n .i64 7), (Sc.n .i64 101)]), (21, .p (.sl t0))] fr)
def f_s_DrawReplaceFactor_sg2_48 (v0 : List Sc) (v1 : List Sc) (t0 : List Sc) (t7 : Int) (t8 : Int) (fr : List AV) : Option (List AV) :=
  some (setAll [(21, .p (.sl t0)), (22, .p (.sc (Sc.n .i64 (t0.length : Int))))] fr)
def f_s_DrawReplaceFactor_sg2_7 (v0 : List Sc) (v1 : List Sc) (t0 : List Sc) (t7 : Int) (t8 : Int) (fr : List AV) : Option (List AV) :=
  some (setAll [(17, .p (.gr v1)), (18, .p (.sc (Sc.n .i64 t7))), (19, .p (.sc (Sc.n .i64 t8)))] fr)
def f_s_DrawReplaceFactor_sg2_11 (v0 : List Sc) (v1 : List Sc) (t0 : List Sc) (t7 : Int) (t8 : Int) (fr : List AV) : Option (List AV) :=
  some (setAll [(17, .p (.gr v1)), (18, .p (.sc (Sc.n .i64 t7))), (20, .own 3 [(Sc.n .i64 1), (Sc.n .i64 (-1)), (Sc.n .i64 2), (Sc.n .i64 3), (Sc.n .i64 5), (Sc.n .i64 7), (Sc.n .i64 101)])] fr)
def f_s_DrawReplaceFactor_sg2_19 (v0 : List Sc) (v1 : List Sc) (t0 : List Sc) (t7 : Int) (t8 : Int) (fr : List AV) : Option (List AV) :=
  some (setAll [(17, .p (.gr v1)), (18, .p (.sc (Sc.n .i64 t7))), (21, .p (.sl t0))] fr)
def f_s_DrawReplaceFactor_sg2_515 (v0 : List Sc) (v1 : List Sc) (t0 : List Sc) (t7 : Int) (t8 : Int) (fr : List AV) : Option (List AV) :=
  some (setAll [(0, .p (.sl v1)), (17, .p (.gr v1)), (18, .p (.sc (Sc.n .i64 t7)))] fr)
def f_s_DrawReplaceFactor_sg2_13 (v0 : List Sc) (v1 : List Sc) (t0 : List Sc) (t7 : Int) (t8 : Int) (fr : List AV) : Option (List AV) :=
  some (setAll [(17, .p (.gr v1)), (19, .p (.sc (Sc.n .i64 t8))), (20, .own 3 [(Sc.n .i64 1), (Sc.n .i64 (-1)), (Sc.n .i64 2), (Sc.n .i64 3), (Sc.n .i64 5), (Sc.n .i64 7), (Sc.n .i64 101)])] fr)
def f_s_DrawReplaceFactor_sg2_21 (v0 : List Sc) (v1 : List Sc) (t0 : List Sc) (t7 : Int) (t8 : Int) (fr : List AV) : Option (List AV) :=
  some (setAll [(17, .p (.gr v1)), (19, .p (.sc (Sc.n .i64 t8))), (21, .p (.sl t0))] fr)
def f_s_DrawReplaceFactor_sg2_517 (v0 : List Sc) (v1 : List Sc) (t0 : List Sc) (t7 : Int) (t8 : Int) (fr : List AV) : Option (List AV) :=
  some (setAll [(0, .p (.sl v1)), (17, .p (.gr v1)), (19, .p (.sc (Sc.n .i64 t8)))] fr)
def f_s_DrawReplaceFactor_sg2_25 (v0 : List Sc) (v1 : List Sc) (t0 : List Sc) (t7 : Int) (t8 : Int) (fr : List AV) : Option (List AV) :=
  some (setAll [(17, .p (.gr v1)), (20, .own 3 [(Sc.n .i64 1), (Sc.n .i64 (-1)), (Sc.n .i64 2), (Sc.n .i64 3), (Sc.n .i64 5), (Sc.n .i64 7), (Sc.n .i64 101)]), (21, .p (.sl t0))] fr)
def f_s_DrawReplaceFactor_sg2_521 (v0 : List Sc) (v1 : List Sc) (t0 : List Sc) (t7 : Int) (t8 : Int) (fr : List AV) : Option (List AV) :=
  some (setAll [(0, .p (.sl v1)), (17, .p (.gr v1)), (20, .own 3 [(Sc.n .i64 1), (Sc.n .i64 (-1)), (Sc.n .i64 2), (Sc.n .i64 3), (Sc.n .i64 5), (Sc.n .i64 7), (Sc.n .i64 101)])] fr)
def f_s_DrawReplaceFactor_sg2_49 (v0 : List Sc) (v1 : List Sc) (t0 : List Sc) (t7 : Int) (t8 : Int) (fr : List AV) : Option (List AV) :=
  some (setAll [(17, .p (.gr v1)), (21, .p (.sl t0)), (22, .p (.sc (Sc.n .i64 (t0.length : Int))))] fr)
def f_s_DrawReplaceFactor_sg2_529 (v0 : List Sc) (v1 : List Sc) (t0 : List Sc) (t7 : Int) (t8 : Int) (fr : List AV) : Option (List AV) :=
  some (setAll [(0, .p (.sl v1)), (17, .p (.gr v1)), (21, .p (.sl t0))] fr)
def f_s_DrawReplaceFactor_sg2_14 (v0 : List Sc) (v1 : List Sc) (t0 : List Sc) (t7 : Int) (t8 : Int) (fr : List AV) : Option (List AV) :=
  some (setAll [(18, .p (.sc (Sc.n .i64 t7))), (19, .p (.sc (Sc.n .i64 t8))), (20, .own 3 [(Sc.n .i64 1), (Sc.n .i64 (-1)), (Sc.n .i64 2), (Sc.n .i64 3), (Sc.n .i64 5), (Sc.n .i64 7), (Sc.n .i64 101)])] fr)
def f_s_DrawReplaceFactor_sg2_22 (v0 : List Sc) (v1 : List Sc) (t0 : List Sc) (t7 : Int) (t8 : Int) (fr : List AV) : Option (List AV) :=
  some (setAll [(18, .p (.sc (Sc.n .i64 t7))), (19, .p (.sc (Sc.n .i64 t8))), (21, .p (.sl t0))] fr)
def f_s_DrawReplaceFactor_sg2_26 (v0 : List Sc) (v1 : List Sc) (t0 : List Sc) (t7 : Int) (t8 : Int) (fr : List AV) : Option (List AV) :=
  some (setAll [(18, .p (.sc (Sc.n .i64 t7))), (20, .own 3 [(Sc.n .i64 1), (Sc.n .i64 (-1)), (Sc.n .i64 2), (Sc.n .i64 3), (Sc.n .i64 5), (Sc.n .i64 7), (Sc.n .i64 101)]), (21, .p (.sl t0))] fr)
def f_s_DrawReplaceFactor_sg2_50 (v0 : List Sc) (v1 : List Sc) (t0 : List Sc) (t7 : Int) (t8 : Int) (fr : List AV) : Option (List AV) :=
  some (setAll [(18, .p (.sc (Sc.n .i64 t7))), (21, .p (.sl t0)), (22, .p (.sc (Sc.n .i64 (t0.length : Int))))] fr)
def f_s_DrawReplaceFactor_sg2_28 (v0 : List Sc) (v1 : List Sc) (t0 : List Sc) (t7 : Int) (t8 : Int) (fr : List AV) : Option (List AV) :=
  some (setAll [(19, .p (.sc (Sc.n .i64 t8))), (20, .own 3 [(Sc.n .i64 1), (Sc.n .i64 (-1)), (Sc.n .i64 2), (Sc.n .i64 3), (Sc.n .i64 5), (Sc.n .i64 7), (Sc.n .i64 101)]), (21, .p (.sl t0))] fr)
def f_s_DrawReplaceFactor_sg2_52 (v0 : List Sc) (v1 : List Sc) (t0 : List Sc) (t7 : Int) (t8 : Int) (fr : List AV) : Option (List AV) :=
  some (setAll [(19, .p (.sc (Sc.n .i64 t8))), (21, .p (.sl t0)), (22, .p (.sc (Sc.n .i64 (t0.length : Int))))] fr)
def f_s_DrawReplaceFactor_sg2_56 (v0 : List Sc) (v1 : List Sc) (t0 : List Sc) (t7 : Int) (t8 : Int) (fr : List AV) : Option (List AV) :=
  some (setAll [(20, .own 3 [(Sc.n .i64 1), (Sc.n .i64 (-1)), (Sc.n .i64 2), (Sc.n .i64 3), (Sc.n .i64 5), (Sc.n .i64 7), (Sc.n .i64 101)]), (21, .p (.sl t0)), (22, .p (.sc (Sc.n .i64 (t0.length : Int))))] fr)
def f_s_DrawReplaceFactor_sg2_112 (v0 : List Sc) (v1 : List Sc) (t0 : List Sc) (t7 : Int) (t8 : Int) (fr : List AV) : Option (List AV) :=
  some (setAll [(21, .p (.sl t0)), (22, .p (.sc (Sc.n .i64 (t0.length : Int)))), (23, .p (.sc (Sc.n .i64 ((t0.length : Int).tmod 7))))] fr)
def f_s_DrawReplaceFactor_sg2_15 (v0 : List Sc) (v1 : List Sc) (t0 : List Sc) (t7 : Int) (t8 : Int) (fr : List AV) : Option (List AV) :=
  some (setAll [(17, .p (.gr v1)), (18, .p (.sc (Sc.n .i64 t7))), (19, .p (.sc (Sc.n .i64 t8))), (20, .own 3 [(Sc.n .i64 1), (Sc.n .i64 (-1)), (Sc.n .i64 2), (Sc.n .i64 3), (Sc.n .i64 5), (Sc.n .i64 7), (Sc.n .i64 101)])] fr)
def f_s_DrawReplaceFactor_sg2_23 (v0 : List Sc) (v1 : List Sc) (t0 : List Sc) (t7 : Int) (t8 : Int) (fr : List AV) : Option (List AV) :=
  some (setAll [(17, .p (.gr v1)), (18, .p (.sc (Sc.n .i64 t7))), (19, .p (.sc (Sc.n .i64 t8))), (21, .p (.sl t0))] fr)
def f_s_DrawReplaceFactor_sg2_519 (v0 : List Sc) (v1 : List Sc) (t0 : List Sc) (t7 : Int) (t8 : Int) (fr : List AV) : Option (List AV) :=
  some (setAll [(0, .p (.sl v1)), (17, .p (.gr v1)), (18, .p (.sc (Sc.n .i64 t7))), (19, .p (.sc (Sc.n .i64 t8)))] fr)
def f_s_DrawReplaceFactor_sg2_27 (v0 : List Sc) (v1 : List Sc) (t0 : List Sc) (t7 : Int) (t8 : Int) (fr : List AV) : Option (List AV) :=
  some (setAll [(17, .p (.gr v1)), (18, .p (.sc (Sc.n .i64 t7))), (20, .own 3 [(Sc.n .i64 1), (Sc.n .i64 (-1)), (Sc.n .i64 2), (Sc.n .i64 3), (Sc.n .i64 5), (Sc.n .i64 7), (Sc.n .i64 101)]), (21, .p (.sl t0))] fr)
def f_s_DrawReplaceFactor_sg2_523 (v0 : List Sc) (v1 : List Sc) (t0 : List Sc) (t7 : Int) (t8 : Int) (fr : List AV) : Option (List AV) :=
  some (setAll [(0, .p (.sl v1)), (17, .p (.gr v1)), (18, .p (.sc (Sc.n .i64 t7))), (20, .own 3 [(Sc.n .i64 1), (Sc.n .i64 (-1)), (Sc.n .i64 2), (Sc.n .i64 3), (Sc.n .i64 5), (Sc.n .i64 7), (Sc.n .i64 101)])] fr)
def f_s_DrawReplaceFactor_sg2_51 (v0 : List Sc) (v1 : List Sc) (t0 : List Sc) (t7 : Int) (t8 : Int) (fr : List AV) : Option (List AV) :=
  some (setAll [(17, .p (.gr v1)), (18, .p (.sc (Sc.n .i64 t7))), (21, .p (.sl t0)), (22, .p (.sc (Sc.n .i64 (t0.length : Int))))] fr)
def f_s_DrawReplaceFactor_sg2_531 (v0 : List Sc) (v1 : List Sc) (t0 : List Sc) (t7 : Int) (t8 : Int) (fr : List AV) : Option (List AV) :=
  some (setAll [(0, .p (.sl v1)), (17, .p (.gr v1)), (18, .p (.sc (Sc.n .i64 t7))), (21, .p (.sl t0))] fr)
def f_s_DrawReplaceFactor_sg2_1539 (v0 : List Sc) (v1 : List Sc) (t0 : List Sc) (t7 : Int) (t8 : Int) (fr : List AV) : Option (List AV) :=
  some (setAll [(0, .p (.sl v1)), (5, .p (.sc (Sc.n .i64 t7))), (17, .p (.gr v1)), (18, .p (.sc (Sc.n .i64 t7)))] fr)
def f_s_DrawReplaceFactor_sg2_29 (v0 : List Sc) (v1 : List Sc) (t0 : List Sc) (t7 : Int) (t8 : Int) (fr : List AV) : Option (List AV) :=
  some (setAll [(17, .p (.gr v1)), (19, .p (.sc (Sc.n .i64 t8))), (20, .own 3 [(Sc.n .i64 1), (Sc.n .i64 (-1)), (Sc.n .i64 2), (Sc.n .i64 3), (Sc.n .i64 5), (Sc.n .i64 7), (Sc.n .i64 101)]), (21, .p (.sl t0))] fr)
def f_s_DrawReplaceFactor_sg2_525 (v0 : List Sc) (v1 : List Sc) (t0 : List Sc) (t7 : Int) (t8 : Int) (fr : List AV) : Option (List AV) :=
  some (setAll [(0, .p (.sl v1)), (17, .p (.gr v1)), (19, .p (.sc (Sc.n .i64 t8))), (20, .own 3 [(Sc.n .i64 1), (Sc.n .i64 (-1)), (Sc.n .i64 2), (Sc.n .i64 3), (Sc.n .i64 5), (Sc.n .i64 7), (Sc.n .i64 101)])] fr)
def f_s_DrawReplaceFactor_sg2_53 (v0 : List Sc) (v1 : List Sc) (t0 : List Sc) (t7 : Int) (t8 : Int) (fr : List AV) : Option (List AV) :=
  some (setAll [(17, .p (.gr v1)), (19, .p (.sc (Sc.n .i64 t8))), (21, .p (.sl t0)), (22, .p (.sc (Sc.n .i64 (t0.length : Int))))] fr)
def f_s_DrawReplaceFactor_sg2_533 (v0 : List Sc) (v1 : List Sc) (t0 : List Sc) (t7 : Int) (t8 : Int) (fr : List AV) : Option (List AV) :=
  some (setAll [(0, .p (.sl v1)), (17, .p (.gr v1)), (19, .p (.sc (Sc.n .i64 t8))), (21, .p (.sl t0))] fr)
def f_s_DrawReplaceFactor_sg2_57 (v0 : List Sc) (v1 : List Sc) (t0 : List Sc) (t7 : Int) (t8 : Int) (fr : List AV) : Option (List AV) :=
  some (setAll [(17, .p (.gr v1)), (20, .own 3 [(Sc.n .i64 1), (Sc.n .i64 (-1)), (Sc.n .i64 2), (Sc.n .i64 3), (Sc.n .i64 5), (Sc.n .i64 7), (Sc.n .i64 101)]), (21, .p (.sl t0)), (22, .p (.sc (Sc.n .i64 (t0.length : Int))))] fr)
def f_s_DrawReplaceFactor_sg2_537 (v0 : List Sc) (v1 : List Sc) (t0 : List Sc) (t7 : Int) (t8 : Int) (fr : List AV) : Option (List AV) :=
  some (setAll [(0, .p (.sl v1)), (17, .p (.gr v1)), (20, .own 3 [(Sc.n .i64 1), (Sc.n .i64 (-1)), (Sc.n .i64 2), (Sc.n .i64 3), (Sc.n .i64 5), (Sc.n .i64 7), (Sc.n .i64 101)]), (21, .p (.sl t0))] fr)
def f_s_DrawReplaceFactor_sg2_113 (v0 : List Sc) (v1 : List Sc) (t0 : List Sc) (t7 : Int) (t8 : Int) (fr : List AV) : Option (List AV) :=
  some (setAll [(17, .p (.gr v1)), (21, .p (.sl t0)), (22, .p (.sc (Sc.n .i64 (t0.length : Int)))), (23, .p (.sc (Sc.n .i64 ((t0.length : Int).tmod 7))))] fr)
def f_s_DrawReplaceFactor_sg2_561 (v0 : List Sc) (v1 : List Sc) (t0 : List Sc) (t7 : Int) (t8 : Int) (fr : List AV) : Option (List AV) :=
  some (setAll [(0, .p (.sl v1)), (17, .p (.gr v1)), (21, .p (.sl t0)), (22, .p (.sc (Sc.n .i64 (t0.length : Int))))] fr)
def f_s_DrawReplaceFactor_sg2_30 (v0 : List Sc) (v1 : List Sc) (t0 : List Sc) (t7 : Int) (t8 : Int) (fr : List AV) : Option (List AV) :=
  some (setAll [(18, .p (.sc (Sc.n .i64 t7))), (19, .p (.sc (Sc.n .i64 t8))), (20, .own 3 [(Sc.n .i64 1), (Sc.n .i64 (-1)), (Sc.n .i64 2), (Sc.n .i64 3), (Sc.n .i64 5), (Sc.n .i64 7), (Sc.n .i64 101)]), (21, .p (.sl t0))] fr)
def f_s_DrawReplaceFactor_sg2_54 (v0 : List Sc) (v1 : List Sc) (t0 : List Sc) (t7 : Int) (t8 : Int) (fr : List AV) : Option (List AV) :=
  some (setAll [(18, .p (.sc (Sc.n .i64 t7))), (19, .p (.sc (Sc.n .i64 t8))), (21, .p (.sl t0)), (22, .p (.sc (Sc.n .i64 (t0.length : Int))))] fr)
def f_s_DrawReplaceFactor_sg2_58 (v0 : List Sc) (v1 : List Sc) (t0 : List Sc) (t7 : Int) (t8 : Int) (fr : List AV) : Option (List AV) :=
  some (setAll [(18, .p (.sc (Sc.n .i64 t7))), (20, .own 3 [(Sc.n .i64 1), (Sc.n .i64 (-1)), (Sc.n .i64 2), (Sc.n .i64 3), (Sc.n .i64 5), (Sc.n .i64 7), (Sc.n .i64 101)]), (21, .p (.sl t0)), (22, .p (.sc (Sc.n .i64 (t0.length : Int))))] fr)
def f_s_DrawReplaceFactor_sg2_114 (v0 : List Sc) (v1 : List Sc) (t0 : List Sc) (t7 : Int) (t8 : Int) (fr : List AV) : Option (List AV) :=
  some (setAll [(18, .p (.sc (Sc.n .i64 t7))), (21, .p (.sl t0)), (22, .p (.sc (Sc.n .i64 (t0.length : Int)))), (23, .p (.sc (Sc.n .i64 ((t0.length : Int).tmod 7))))] fr)
def f_s_DrawReplaceFactor_sg2_60 (v0 : List Sc) (v1 : List Sc) (t0 : List Sc) (t7 : Int) (t8 : Int) (fr : List AV) : Option (List AV) :=
  some (setAll [(19, .p (.sc (Sc.n .i64 t8))), (20, .own 3 [(Sc.n .i64 1), (Sc.n .i64 (-1)), (Sc.n .i64 2), (Sc.n .i64 3), (Sc.n .i64 5), (Sc.n .i64 7), (Sc.n .i64 101)]), (21, .p (.sl t0)), (22, .p (.sc (Sc.n .i64 (t0.length : Int))))] fr)
def f_s_DrawReplaceFactor_sg2_116 (v0 : List Sc) (v1 : List Sc) (t0 : List Sc) (t7 : Int) (t8 : Int) (fr : List AV) : Option (List AV) :=
  some (setAll [(19, .p (.sc (Sc.n .i64 t8))), (21, .p (.sl t0)), (22, .p (.sc (Sc.n .i64 (t0.length : Int)))), (23, .p (.sc (Sc.n .i64 ((t0.length : Int).tmod 7))))] fr)
def f_s_DrawReplaceFactor_sg2_120 (v0 : List Sc) (v1 : List Sc) (t0 : List Sc) (t7 : Int) (t8 : Int) (fr : List AV) : Option (List AV) :=
  some (setAll [(20, .own 3 [(Sc.n .i64 1), (Sc.n .i64 (-1)), (Sc.n .i64 2), (Sc.n .i64 3), (Sc.n .i64 5), (Sc.n .i64 7), (Sc.n .i64 101)]), (21, .p (.sl t0)), (22, .p (.sc (Sc.n .i64 (t0.length : Int)))), (23, .p (.sc (Sc.n .i64 ((t0.length : Int).tmod 7))))] fr)
def f_s_DrawReplaceFactor_sg2_31 (v0 : List Sc) (v1 : List Sc) (t0 : List Sc) (t7 : Int) (t8 : Int) (fr : List AV) : Option (List AV) :=
  some (setAll [(17, .p (.gr v1)), (18, .p (.sc (Sc.n .i64 t7))), (19, .p (.sc (Sc.n .i64 t8))), (20, .own 3 [(Sc.n .i64 1), (Sc.n .i64 (-1)), (Sc.n .i64 2), (Sc.n .i64 3), (Sc.n .i64 5), (Sc.n .i64 7), (Sc.n .i64 101)]), (21, .p (.sl t0))] fr)
def f_s_DrawReplaceFactor_sg2_527 (v0 : List Sc) (v1 : List Sc) (t0 : List Sc) (t7 : Int) (t8 : Int) (fr : List AV) : Option (List AV) :=
  some (setAll [(0, .p (.sl v1)), (17, .p (.gr v1)), (18, .p (.sc (Sc.n .i64 t7))), (19, .p (.sc (Sc.n .i64 t8))), (20, .own 3 [(Sc.n .i64 1), (Sc.n .i64 (-1)), (Sc.n .i64 2), (Sc.n .i64 3), (Sc.n .i64 5), (Sc.n .i64 7), (Sc.n .i64 101)])] fr)
def f_s_DrawReplaceFactor_sg2_55 (v0 : List Sc) (v1 : List Sc) (t0 : List Sc) (t7 : Int) (t8 : Int) (fr : List AV) : Option (List AV) :=
  some (setAll [(17, .p (.gr v1)), (18, .p (.sc (Sc.n .i64 t7))), (19, .p (.sc (Sc.n .i64 t8))), (21, .p (.sl t0)), (22, .p (.sc (Sc.n .i64 (t0.length : Int))))] fr)
def f_s_DrawReplaceFactor_sg2_535 (v0 : List Sc) (v1 : List Sc) (t0 : List Sc) (t7 : Int) (t8 : Int) (fr : List AV) : Option (List AV) :=
  some (setAll [(0, .p (.sl v1)), (17, .p (.gr v1)), (18, .p (.sc (Sc.n .i64 t7))), (19, .p (.sc (Sc.n .i64 t8))), (21, .p (.sl t0))] fr)
def f_s_DrawReplaceFactor_sg2_1543 (v0 : List Sc) (v1 : List Sc) (t0 : List Sc) (t7 : Int) (t8 : Int) (fr : List AV) : Option (List AV) :=
  some (setAll [(0, .p (.sl v1)), (5, .p (.sc (Sc.n .i64 t7))), (17, .p (.gr v1)), (18, .p (.sc (Sc.n .i64 t7))), (19, .p (.sc (Sc.n .i64 t8)))] fr)
def f_s_DrawReplaceFactor_sg2_59 (v0 : List Sc) (v1 : List Sc) (t0 : List Sc) (t7 : Int) (t8 : Int) (fr : List AV) : Option (List AV) :=
  some (setAll [(17, .p (.gr v1)), (18, .p (.sc (Sc.n .i64 t7))), (20, .own 3 [(Sc.n .i64 1), (Sc.n .i64 (-1)), (Sc.n .i64 2), (Sc.n .i64 3), (Sc.n .i64 5), (Sc.n .i64 7), (Sc.n .i64 101)]), (21, .p (.sl t0)), (22, .p (.sc (Sc.n .i64 (t0.length : Int))))] fr)
def f_s_DrawReplaceFactor_sg2_539 (v0 : List Sc) (v1 : List Sc) (t0 : List Sc) (t7 : Int) (t8 : Int) (fr : List AV) : Option (List AV) :=
  some (setAll [(0, .p (.sl v1)), (17, .p (.gr v1)), (18, .p (.sc (Sc.n .i64 t7))), (20, .own 3 [(Sc.n .i64 1), (Sc.n .i64 (-1)), (Sc.n .i64 2), (Sc.n .i64 3), (Sc.n .i64 5), (Sc.n .i64 7), (Sc.n .i64 101)]), (21, .p (.sl t0))] fr)
def f_s_DrawReplaceFactor_sg2_1547 (v0 : List Sc) (v1 : List Sc) (t0 : List Sc) (t7 : Int) (t8 : Int) (fr : List AV) : Option (List AV) :=
  some (setAll [(0, .p (.sl v1)), (5, .p (.sc (Sc.n .i64 t7))), (17, .p (.gr v1)), (18, .p (.sc (Sc.n .i64 t7))), (20, .own 3 [(Sc.n .i64 1), (Sc.n .i64 (-1)), (Sc.n .i64 2), (Sc.n .i64 3), (Sc.n .i64 5), (Sc.n .i64 7), (Sc.n .i64 101)])] fr)
def f_s_DrawReplaceFactor_sg2_115 (v0 : List Sc) (v1 : List Sc) (t0 : List Sc) (t7 : Int) (t8 : Int) (fr : List AV) : Option (List AV) :=
  some (setAll [(17, .p (.gr v1)), (18, .p (.sc (Sc.n .i64 t7))), (21, .p (.sl t0)), (22, .p (.sc (Sc.n .i64 (t0.length : Int)))), (23, .p (.sc (Sc.n .i64 ((t0.length : Int).tmod 7))))] fr)
def f_s_DrawReplaceFactor_sg2_563 (v0 : List Sc) (v1 : List Sc) (t0 : List Sc) (t7 : Int) (t8 : Int) (fr : List AV) : Option (List AV) :=
  some (setAll [(0, .p (.sl v1)), (17, .p (.gr v1)), (18, .p (.sc (Sc.n .i64 t7))), (21, .p (.sl t0)), (22, .p (.sc (Sc.n .i64 (t0.length : Int))))] fr)
def f_s_DrawReplaceFactor_sg2_1555 (v0 : List Sc) (v1 : List Sc) (t0 : List Sc) (t7 : Int) (t8 : Int) (fr : List AV) : Option (List AV) :=
  some (setAll [(0, .p (.sl v1)), (5, .p (.sc (Sc.n .i64 t7))), (17, .p (.gr v1)), (18, .p (.sc (Sc.n .i64 t7))), (21, .p (.sl t0))] fr)
def f_s_DrawReplaceFactor_sg2_61 (v0 : List Sc) (v1 : List Sc) (t0 : List Sc) (t7 : Int) (t8 : Int) (fr : List AV) : Option (List AV) :=
  some (setAll [(17, .p (.gr v1)), (19, .p (.sc (Sc.n .i64 t8))), (20, .own 3 [(Sc.n .i64 1), (Sc.n .i64 (-1)), (Sc.n .i64 2), (Sc.n .i64 3), (Sc.n .i64 5), (Sc.n .i64 7), (Sc.n .i64 101)]), (21, .p (.sl t0)), (22, .p (.sc (Sc.n .i64 (t0.length : Int))))] fr)
def f_s_DrawReplaceFactor_sg2_541 (v0 : List Sc) (v1 : List Sc) (t0 : List Sc) (t7 : Int) (t8 : Int) (fr : List AV) : Option (List AV) :=
  some (setAll [(0, .p (.sl v1)), (17, .p (.gr v1)), (19, .p (.sc (Sc.n .i64 t8))), (20, .own 3 [(Sc.n .i64 1), (Sc.n .i64 (-1)), (Sc.n .i64 2), (Sc.n .i64 3), (Sc.n .i64 5), (Sc.n .i64 7), (Sc.n .i64 101)]), (21, .p (.sl t0))] fr)
def f_s_DrawReplaceFactor_sg2_117 (v0 : List Sc) (v1 : List Sc) (t0 : List Sc) (t7 : Int) (t8 : Int) (fr : List AV) : Option (List AV) :=
  some (setAll [(17, .p (.gr v1)), (19, .p (.sc (Sc.n .i64 t8))), (21, .p (.sl t0)), (22, .p (.sc (Sc.n .i64 (t0.length : Int)))), (23, .p (.sc (Sc.n .i64 ((t0.length : Int).tmod 7))))] fr)
def f_s_DrawReplaceFactor_sg2_565 (v0 : List Sc) (v1 : List Sc) (t0 : List Sc) (t7 : Int) (t8 : Int) (fr : List AV) : Option (List AV) :=
  some (setAll [(0, .p (.sl v1)), (17, .p (.gr v1)), (19, .p (.sc (Sc.n .i64 t8))), (21, .p (.sl t0)), (22, .p (.sc (Sc.n .i64 (t0.length : Int))))] fr)
def f_s_DrawReplaceFactor_sg2_121 (v0 : List Sc) (v1 : List Sc) (t0 : List Sc) (t7 : Int) (t8 : Int) (fr : List AV) : Option (List AV) :=
  some (setAll [(17, .p (.gr v1)), (20, .own 3 [(Sc.n .i64 1), (Sc.n .i64 (-1)), (Sc.n .i64 2), (Sc.n .i64 3), (Sc.n .i64 5), (Sc.n .i64 7), (Sc.n .i64 101)]), (21, .p (.sl t0)), (22, .p (.sc (Sc.n .i64 (t0.length : Int)))), (23, .p (.sc (Sc.n .i64 ((t0.length : Int).tmod 7))))] fr)
def f_s_DrawReplaceFactor_sg2_569 (v0 : List Sc) (v1 : List Sc) (t0 : List Sc) (t7 : Int) (t8 : Int) (fr : List AV) : Option (List AV) :=
  some (setAll [(0, .p (.sl v1)), (17, .p (.gr v1)), (20, .own 3 [(Sc.n .i64 1), (Sc.n .i64 (-1)), (Sc.n .i64 2), (Sc.n .i64 3), (Sc.n .i64 5), (Sc.n .i64 7), (Sc.n .i64 101)]), (21, .p (.sl t0)), (22, .p (.sc (Sc.n .i64 (t0.length : Int))))] fr)
def f_s_DrawReplaceFactor_sg2_625 (v0 : List Sc) (v1 : List Sc) (t0 : List Sc) (t7 : Int) (t8 : Int) (fr : List AV) : Option (List AV) :=
  some (setAll [(0, .p (.sl v1)), (17, .p (.gr v1)), (21, .p (.sl t0)), (22, .p (.sc (Sc.n .i64 (t0.length : Int)))), (23, .p (.sc (Sc.n .i64 ((t0.length : Int).tmod 7))))] fr)
def f_s_DrawReplaceFactor_sg2_62 (v0 : List Sc) (v1 : List Sc) (t0 : List Sc) (t7 : Int) (t8 : Int) (fr : List AV) : Option (List AV) :=
  some (setAll [(18, .p (.sc (Sc.n .i64 t7))), (19, .p (.sc (Sc.n .i64 t8))), (20, .own 3 [(Sc.n .i64 1), (Sc.n .i64 (-1)), (Sc.n .i64 2), (Sc.n .i64 3), (Sc.n .i64 5), (Sc.n .i64 7), (Sc.n .i64 101)]), (21, .p (.sl t0)), (22, .p (.sc (Sc.n .i64 (t0.length : Int))))] fr)
def f_s_DrawReplaceFactor_sg2_118 (v0 : List Sc) (v1 : List Sc) (t0 : List Sc) (t7 : Int) (t8 : Int) (fr : List AV) : Option (List AV) :=
  some (setAll [(18, .p (.sc (Sc.n .i64 t7))), (19, .p (.sc (Sc.n .i64 t8))), (21, .p (.sl t0)), (22, .p (.sc (Sc.n .i64 (t0.length : Int)))), (23, .p (.sc (Sc.n .i64 ((t0.length : Int).tmod 7))))] fr)
def f_s_DrawReplaceFactor_sg2_122 (v0 : List Sc) (v1 : List Sc) (t0 : List Sc) (t7 : Int) (t8 : Int) (fr : List AV) : Option (List AV) :=
  some (setAll [(18, .p (.sc (Sc.n .i64 t7))), (20, .own 3 [(Sc.n .i64 1), (Sc.n .i64 (-1)), (Sc.n .i64 2), (Sc.n .i64 3), (Sc.n .i64 5), (Sc.n .i64 7), (Sc.n .i64 101)]), (21, .p (.sl t0)), (22, .p (.sc (Sc.n .i64 (t0.length : Int)))), (23, .p (.sc (Sc.n .i64 ((t0.length : Int).tmod 7))))] fr)
def f_s_DrawReplaceFactor_sg2_124 (v0 : List Sc) (v1 : List Sc) (t0 : List Sc) (t7 : Int) (t8 : Int) (fr : List AV) : Option (List AV) :=
  some (setAll [(19, .p (.sc (Sc.n .i64 t8))), (20, .own 3 [(Sc.n .i64 1), (Sc.n .i64 (-1)), (Sc.n .i64 2), (Sc.n .i64 3), (Sc.n .i64 5), (Sc.n .i64 7), (Sc.n .i64 101)]), (21, .p (.sl t0)), (22, .p (.sc (Sc.n .i64 (t0.length : Int)))), (23, .p (.sc (Sc.n .i64 ((t0.length : Int).tmod 7))))] fr)
def f_s_DrawReplaceFactor_sg2_248 (v0 : List Sc) (v1 : List Sc) (t0 : List Sc) (t7 : Int) (t8 : Int) (fr : List AV) : Option (List AV) :=
  br (inRange ((t0.length : Int).tmod 7) ([(Sc.n .i64 1), (Sc.n .i64 (-1)), (Sc.n .i64 2), (Sc.n .i64 3), (Sc.n .i64 5), (Sc.n .i64 7), (Sc.n .i64 101)]).length)
    (some (setAll [(20, .own 3 [(Sc.n .i64 1), (Sc.n .i64 (-1)), (Sc.n .i64 2), (Sc.n .i64 3), (Sc.n .i64 5), (Sc.n .i64 7), (Sc.n .i64 101)]), (21, .p (.sl t0)), (22, .p (.sc (Sc.n .i64 (t0.length : Int)))), (23, .p (.sc (Sc.n .i64 ((t0.length : Int).tmod 7)))), (24, .ep 20 (((t0.length : Int).tmod 7).toNat))] fr))
    none
def f_s_DrawReplaceFactor_sg2_63 (v0 : List Sc) (v1 : List Sc) (t0 : List Sc) (t7 : Int) (t8 : Int) (fr : List AV) : Option (List AV) :=
  some (setAll [(17, .p (.gr v1)), (18, .p (.sc (Sc.n .i64 t7))), (19, .p (.sc (Sc.n .i64 t8))), (20, .own 3 [(Sc.n .i64 1), (Sc.n .i64 (-1)), (Sc.n .i64 2), (Sc.n .i64 3), (Sc.n .i64 5), (Sc.n .i64 7), (Sc.n .i64 101)]), (21, .p (.sl t0)), (22, .p (.sc (Sc.n .i64 (t0.length : Int))))] fr)
def f_s_DrawReplaceFactor_sg2_543 (v0 : List Sc) (v1 : List Sc) (t0 : List Sc) (t7 : Int) (t8 : Int) (fr : List AV) : Option (List AV) :=
  some (setAll [(0, .p (.sl v1)), (17, .p (.gr v1)), (18, .p (.sc (Sc.n .i64 t7))), (19, .p (.sc (Sc.n .i64 t8))), (20, .own 3 [(Sc.n .i64 1), (Sc.n .i64 (-1)), (Sc.n .i64 2), (Sc.n .i64 3), (Sc.n .i64 5), (Sc.n .i64 7), (Sc.n .i64 101)]), (21, .p (.sl t0))] fr)
def f_s_DrawReplaceFactor_sg2_1551 (v0 : List Sc) (v1 : List Sc) (t0 : List Sc) (t7 : Int) (t8 : Int) (fr : List AV) : Option (List AV) :=
  some (setAll [(0, .p (.sl v1)), (5, .p (.sc (Sc.n .i64 t7))), (17, .p (.gr v1)), (18, .p (.sc (Sc.n .i64 t7))), (19, .p (.sc (Sc.n .i64 t8))), (20, .own 3 [(Sc.n .i64 1), (Sc.n .i64 (-1)), (Sc.n .i64 2), (Sc.n .i64 3), (Sc.n .i64 5), (Sc.n .i64 7), (Sc.n .i64 101)])] fr)
def f_s_DrawReplaceFactor_sg2_119 (v0 : List Sc) (v1 : List Sc) (t0 : List Sc) (t7 : Int) (t8 : Int) (fr : List AV) : Option (List AV) :=
  some (setAll [(17, .p (.gr v1)), (18, .p (.sc (Sc.n .i64 t7))), (19, .p (.sc (Sc.n .i64 t8))), (21, .p (.sl t0)), (22, .p (.sc (Sc.n .i64 (t0.length : Int)))), (23, .p (.sc (Sc.n .i64 ((t0.length : Int).tmod 7))))] fr)
def f_s_DrawReplaceFactor_sg2_567 (v0 : List Sc) (v1 : List Sc) (t0 : List Sc) (t7 : Int) (t8 : Int) (fr : List AV) : Option (List AV) :=
  some (setAll [(0, .p (.sl v1)), (17, .p (.gr v1)), (18, .p (.sc (Sc.n .i64 t7))), (19, .p (.sc (Sc.n .i64 t8))), (21, .p (.sl t0)), (22, .p (.sc (Sc.n .i64 (t0.length : Int))))] fr)
def f_s_DrawReplaceFactor_sg2_1559 (v0 : List Sc) (v1 : List Sc) (t0 : List Sc) (t7 : Int) (t8 : Int) (fr : List AV) : Option (List AV) :=
  some (setAll [(0, .p (.sl v1)), (5, .p (.sc (Sc.n .i64 t7))), (17, .p (.gr v1)), (18, .p (.sc (Sc.n .i64 t7))), (19, .p (.sc (Sc.n .i64 t8))), (21, .p (.sl t0))] fr)
def f_s_DrawReplaceFactor_sg2_3591 (v0 : List Sc) (v1 : List Sc) (t0 : List Sc) (t7 : Int) (t8 : Int) (fr : List AV) : Option (List AV) :=
  some (setAll [(0, .p (.sl v1)), (5, .p (.sc (Sc.n .i64 t7))), (6, .p (.sc (Sc.n .i64 t8))), (17, .p (.gr v1)), (18, .p (.sc (Sc.n .i64 t7))), (19, .p (.sc (Sc.n .i64 t8)))] fr)
def f_s_DrawReplaceFactor_sg2_123 (v0 : List Sc) (v1 : List Sc) (t0 : List Sc) (t7 : Int) (t8 : Int) (fr : List AV) : Option (List AV) :=
  some (setAll [(17, .p (.gr v1)), (18, .p (.sc (Sc.n .i64 t7))), (20, .own 3 [(Sc.n .i64 1), (Sc.n .i64 (-1)), (Sc.n .i64 2), (Sc.n .i64 3), (Sc.n .i64 5), (Sc.n .i64 7), (Sc.n .i64 101)]), (21, .p (.sl t0)), (22, .p (.sc (Sc.n .i64 (t0.length : Int)))), (23, .p (.sc (Sc.n .i64 ((t0.length : Int).tmod 7))))] fr)
def f_s_DrawReplaceFactor_sg2_571 (v0 : List Sc) (v1 : List Sc) (t0 : List Sc) (t7 : Int) (t8 : Int) (fr : List AV) : Option (List AV) :=
  some (setAll [(0, .p (.sl v1)), (17, .p (.gr v1)), (18, .p (.sc (Sc.n .i64 t7))), (20, .own 3 [(Sc.n .i64 1), (Sc.n .i64 (-1)), (Sc.n .i64 2), (Sc.n .i64 3), (Sc.n .i64 5), (Sc.n .i64 7), (Sc.n .i64 101)]), (21, .p (.sl t0)), (22, .p (.sc (Sc.n .i64 (t0.length : Int))))] fr)
def f_s_DrawReplaceFactor_sg2_1563 (v0 : List Sc) (v1 : List Sc) (t0 : List Sc) (t7 : Int) (t8 : Int) (fr : List AV) : Option (List AV) :=
  some (setAll [(0, .p (.sl v1)), (5, .p (.sc (Sc.n .i64 t7))), (17, .p (.gr v1)), (18, .p (.sc (Sc.n .i64 t7))), (20, .own 3 [(Sc.n .i64 1), (Sc.n .i64 (-1)), (Sc.n .i64 2), (Sc.n .i64 3), (Sc.n .i64 5), (Sc.n .i64 7), (Sc.n .i64 101)]), (21, .p (.sl t0))] fr)
def f_s_DrawReplaceFactor_sg2_627 (v0 : List Sc) (v1 : List Sc) (t0 : List Sc) (t7 : Int) (t8 : Int) (fr : List AV) : Option (List AV) :=
  some (setAll [(0, .p (.sl v1)), (17, .p (.gr v1)), (18, .p (.sc (Sc.n .i64 t7))), (21, .p (.sl t0)), (22, .p (.sc (Sc.n .i64 (t0.length : Int)))), (23, .p (.sc (Sc.n .i64 ((t0.length : Int).tmod 7))))] fr)
def f_s_DrawReplaceFactor_sg2_1587 (v0 : List Sc) (v1 : List Sc) (t0 : List Sc) (t7 : Int) (t8 : Int) (fr : List AV) : Option (List AV) :=
  some (setAll [(0, .p (.sl v1)), (5, .p (.sc (Sc.n .i64 t7))), (17, .p (.gr v1)), (18, .p (.sc (Sc.n .i64 t7))), (21, .p (.sl t0)), (22, .p (.sc (Sc.n .i64 (t0.length : Int))))] fr)
def f_s_DrawReplaceFactor_sg2_125 (v0 : List Sc) (v1 : List Sc) (t0 : List Sc) (t7 : Int) (t8 : Int) (fr : List AV) : Option (List AV) :=
  some (setAll [(17, .p (.gr v1)), (19, .p (.sc (Sc.n .i64 t8))), (20, .own 3 [(Sc.n .i64 1), (Sc.n .i64 (-1)), (Sc.n .i64 2), (Sc.n .i64 3), (Sc.n .i64 5), (Sc.n .i64 7), (Sc.n .i64 101)]), (21, .p (.sl t0)), (22, .p (.sc (Sc.n .i64 (t0.length : Int)))), (23, .p (.sc (Sc.n .i64 ((t0.length : Int).tmod 7))))] fr)
def f_s_DrawReplaceFactor_sg2_573 (v0 : List Sc) (v1 : List Sc) (t0 : List Sc) (t7 : Int) (t8 : Int) (fr : List AV) : Option (List AV) :=
  some (setAll [(0, .p (.sl v1)), (17, .p (.gr v1)), (19, .p (.sc (Sc.n .i64 t8))), (20, .own 3 [(Sc.n .i64 1), (Sc.n .i64 (-1)), (Sc.n .i64 2), (Sc.n .i64 3), (Sc.n .i64 5), (Sc.n .i64 7), (Sc.n .i64 101)]), (21, .p (.sl t0)), (22, .p (.sc (Sc.n .i64 (t0.length : Int))))] fr)
def f_s_DrawReplaceFactor_sg2_629 (v0 : List Sc) (v1 : List Sc) (t0 : List Sc) (t7 : Int) (t8 : Int) (fr : List AV) : Option (List AV) :=
  some (setAll [(0, .p (.sl v1)), (17, .p (.gr v1)), (19, .p (.sc (Sc.n .i64 t8))), (21, .p (.sl t0)), (22, .p (.sc (Sc.n .i64 (t0.length : Int)))), (23, .p (.sc (Sc.n .i64 ((t0.length : Int).tmod 7))))] fr)
def f_s_DrawReplaceFactor_sg2_249 (v0 : List Sc) (v1 : List Sc) (t0 : List Sc) (t7 : Int) (t8 : Int) (fr : List AV) : Option (List AV) :=
  br (inRange ((t0.length : Int).tmod 7) ([(Sc.n .i64 1), (Sc.n .i64 (-1)), (Sc.n .i64 2), (Sc.n .i64 3), (Sc.n .i64 5), (Sc.n .i64 7), (Sc.n .i64 101)]).length)
    (some (setAll [(17, .p (.gr v1)), (20, .own 3 [(Sc.n .i64 1), (Sc.n .i64 (-1)), (Sc.n .i64 2), (Sc.n .i64 3), (Sc.n .i64 5), (Sc.n .i64 7), (Sc.n .i64 101)]), (21, .p (.sl t0)), (22, .p (.sc (Sc.n .i64 (t0.length : Int)))), (23, .p (.sc (Sc.n .i64 ((t0.length : Int).tmod 7)))), (24, .ep 20 (((t0.length : Int).tmod 7).toNat))] fr))
    none
def f_s_DrawReplaceFactor_sg2_633 (v0 : List Sc) (v1 : List Sc) (t0 : List Sc) (t7 : Int) (t8 : Int) (fr : List AV) : Option (List AV) :=
  some (setAll [(0, .p (.sl v1)), (17, .p (.gr v1)), (20, .own 3 [(Sc.n .i64 1), (Sc.n .i64 (-1)), (Sc.n .i64 2), (Sc.n .i64 3), (Sc.n .i64 5), (Sc.n .i64 7), (Sc.n .i64 101)]), (21, .p (.sl t0)), (22, .p (.sc (Sc.n .i64 (t0.length : Int)))), (23, .p (.sc (Sc.n .i64 ((t0.length : Int).tmod 7))))] fr)
def f_s_DrawReplaceFactor_sg2_126 (v0 : List Sc) (v1 : List Sc) (t0 : List Sc) (t7 : Int) (t8 : Int) (fr : List AV) : Option (List AV) :=
  some (setAll [(18, .p (.sc (Sc.n .i64 t7))), (19, .p (.sc (Sc.n .i64 t8))), (20, .own 3 [(Sc.n .i64 1), (Sc.n .i64 (-1)), (Sc.n .i64 2), (Sc.n .i64 3), (Sc.n .i64 5), (Sc.n .i64 7), (Sc.n .i64 101)]), (21, .p (.sl t0)), (22, .p (.sc (Sc.n .i64 (t0.length : Int)))), (23, .p (.sc (Sc.n .i64 ((t0.length : Int).tmod 7))))] fr)
def f_s_DrawReplaceFactor_sg2_250 (v0 : List Sc) (v1 : List Sc) (t0 : List Sc) (t7 : Int) (t8 : Int) (fr : List AV) : Option (List AV) :=
  br (inRange ((t0.length : Int).tmod 7) ([(Sc.n .i64 1), (Sc.n .i64 (-1)), (Sc.n .i64 2), (Sc.n .i64 3), (Sc.n .i64 5), (Sc.n .i64 7), (Sc.n .i64 101)]).length)
    (some (setAll [(18, .p (.sc (Sc.n .i64 t7))), (20, .own 3 [(Sc.n .i64 1), (Sc.n .i64 (-1)), (Sc.n .i64 2), (Sc.n .i64 3), (Sc.n .i64 5), (Sc.n .i64 7), (Sc.n .i64 101)]), (21, .p (.sl t0)), (22, .p (.sc (Sc.n .i64 (t0.length : Int)))), (23, .p (.sc (Sc.n .i64 ((t0.length : Int).tmod 7)))), (24, .ep 20 (((t0.length : Int).tmod 7).toNat))] fr))
    none
def f_s_DrawReplaceFactor_sg2_252 (v0 : List Sc) (v1 : List Sc) (t0 : List Sc) (t7 : Int) (t8 : Int) (fr : List AV) : Option (List AV) :=
  br (inRange ((t0.length : Int).tmod 7) ([(Sc.n .i64 1), (Sc.n .i64 (-1)), (Sc.n .i64 2), (Sc.n .i64 3), (Sc.n .i64 5), (Sc.n .i64 7), (Sc.n .i64 101)]).length)
    (some (setAll [(19, .p (.sc (Sc.n .i64 t8))), (20, .own 3 [(Sc.n .i64 1), (Sc.n .i64 (-1)), (Sc.n .i64 2), (Sc.n .i64 3), (Sc.n .i64 5), (Sc.n .i64 7), (Sc.n .i64 101)]), (21, .p (.sl t0)), (22, .p (.sc (Sc.n .i64 (t0.length : Int)))), (23, .p (.sc (Sc.n .i64 ((t0.length : Int).tmod 7)))), (24, .ep 20 (((t0.length : Int).tmod 7).toNat))] fr))
    none
def f_s_DrawReplaceFactor_sg2_504 (v0 : List Sc) (v1 : List Sc) (t0 : List Sc) (t7 : Int) (t8 : Int) (fr : List AV) : Option (List AV) :=
  br (inRange ((t0.length : Int).tmod 7) ([(Sc.n .i64 1), (Sc.n .i64 (-1)), (Sc.n .i64 2), (Sc.n .i64 3), (Sc.n .i64 5), (Sc.n .i64 7), (Sc.n .i64 101)]).length)
    (br (kAt [(Sc.n .i64 1), (Sc.n .i64 (-1)), (Sc.n .i64 2), (Sc.n .i64 3), (Sc.n .i64 5), (Sc.n .i64 7), (Sc.n .i64 101)] ((t0.length : Int).tmod 7).toNat)
      (some (setAll [(20, .own 3 [(Sc.n .i64 1), (Sc.n .i64 (-1)), (Sc.n .i64 2), (Sc.n .i64 3), (Sc.n .i64 5), (Sc.n .i64 7), (Sc.n .i64 101)]), (21, .p (.sl t0)), (22, .p (.sc (Sc.n .i64 (t0.length : Int)))), (23, .p (.sc (Sc.n .i64 ((t0.length : Int).tmod 7)))), (24, .ep 20 (((t0.length : Int).tmod 7).toNat)), (25, .p (.sc (Sc.n .i64 (atN [(Sc.n .i64 1), (Sc.n .i64 (-1)), (Sc.n .i64 2), (Sc.n .i64 3), (Sc.n .i64 5), (Sc.n .i64 7), (Sc.n .i64 101)] ((t0.length : Int).tmod 7).toNat))))] fr))
      none)
    none
def f_s_DrawReplaceFactor_sg2_127 (v0 : List Sc) (v1 : List Sc) (t0 : List Sc) (t7 : Int) (t8 : Int) (fr : List AV) : Option (List AV) :=
  some (setAll [(17, .p (.gr v1)), (18, .p (.sc (Sc.n .i64 t7))), (19, .p (.sc (Sc.n .i64 t8))), (20, .own 3 [(Sc.n .i64 1), (Sc.n .i64 (-1)), (Sc.n .i64 2), (Sc.n .i64 3), (Sc.n .i64 5), (Sc.n .i64 7), (Sc.n .i64 101)]), (21, .p (.sl t0)), (22, .p (.sc (Sc.n .i64 (t0.length : Int)))), (23, .p (.sc (Sc.n .i64 ((t0.length : Int).tmod 7))))] fr)
def f_s_DrawReplaceFactor_sg2_575 (v0 : List Sc) (v1 : List Sc) (t0 : List Sc) (t7 : Int) (t8 : Int) (fr : List AV) : Option (List AV) :=
  some (setAll [(0, .p (.sl v1)), (17, .p (.gr v1)), (18, .p (.sc (Sc.n .i64 t7))), (19, .p (.sc (Sc.n .i64 t8))), (20, .own 3 [(Sc.n .i64 1), (Sc.n .i64 (-1)), (Sc.n .i64 2), (Sc.n .i64 3), (Sc.n .i64 5), (Sc.n .i64 7), (Sc.n .i64 101)]), (21, .p (.sl t0)), (22, .p (.sc (Sc.n .i64 (t0.length : Int))))] fr)
def f_s_DrawReplaceFactor_sg2_1567 (v0 : List Sc) (v1 : List Sc) (t0 : List Sc) (t7 : Int) (t8 : Int) (fr : List AV) : Option (List AV) :=
  some (setAll [(0, .p (.sl v1)), (5, .p (.sc (Sc.n .i64 t7))), (17, .p (.gr v1)), (18, .p (.sc (Sc.n .i64 t7))), (19, .p (.sc (Sc.n .i64 t8))), (20, .own 3 [(Sc.n .i64 1), (Sc.n .i64 (-1)), (Sc.n .i64 2), (Sc.n .i64 3), (Sc.n .i64 5), (Sc.n .i64 7), (Sc.n .i64 101)]), (21, .p (.sl t0))] fr)
def f_s_DrawReplaceFactor_sg2_3599 (v0 : List Sc) (v1 : List Sc) (t0 : List Sc) (t7 : Int) (t8 : Int) (fr : List AV) : Option (List AV) :=
  some (setAll [(0, .p (.sl v1)), (5, .p (.sc (Sc.n .i64 t7))), (6, .p (.sc (Sc.n .i64 t8))), (17, .p (.gr v1)), (18, .p (.sc (Sc.n .i64 t7))), (19, .p (.sc (Sc.n .i64 t8))), (20, .own 3 [(Sc.n .i64 1), (Sc.n .i64 (-1)), (Sc.n .i64 2), (Sc.n .i64 3), (Sc.n .i64 5), (Sc.n .i64 7), (Sc.n .i64 101)])] fr)
def f_s_DrawReplaceFactor_sg2_631 (v0 : List Sc) (v1 : List Sc) (t0 : List Sc) (t7 : Int) (t8 : Int) (fr : List AV) : Option (List AV) :=
  some (setAll [(0, .p (.sl v1)), (17, .p (.gr v1)), (18, .p (.sc (Sc.n .i64 t7))), (19, .p (.sc (Sc.n .i64 t8))), (21, .p (.sl t0)), (22, .p (.sc (Sc.n .i64 (t0.length : Int)))), (23, .p (.sc (Sc.n .i64 ((t0.length : Int).tmod 7))))] fr)
def f_s_DrawReplaceFactor_sg2_1591 (v0 : List Sc) (v1 : List Sc) (t0 : List Sc) (t7 : Int) (t8 : Int) (fr : List AV) : Option (List AV) :=
  some (setAll [(0, .p (.sl v1)), (5, .p (.sc (Sc.n .i64 t7))), (17, .p (.gr v1)), (18, .p (.sc (Sc.n .i64 t7))), (19, .p (.sc (Sc.n .i64 t8))), (21, .p (.sl t0)), (22, .p (.sc (Sc.n .i64 (t0.length : Int))))] fr)
def f_s_DrawReplaceFactor_sg2_3607 (v0 : List Sc) (v1 : List Sc) (t0 : List Sc) (t7 : Int) (t8 : Int) (fr : List AV) : Option (List AV) :=
  some (setAll [(0, .p (.sl v1)), (5, .p (.sc (Sc.n .i64 t7))), (6, .p (.sc (Sc.n .i64 t8))), (17, .p (.gr v1)), (18, .p (.sc (Sc.n .i64 t7))), (19, .p (.sc (Sc.n .i64 t8))), (21, .p (.sl t0))] fr)
def f_s_DrawReplaceFactor_sg2_251 (v0 : List Sc) (v1 : List Sc) (t0 : List Sc) (t7 : Int) (t8 : Int) (fr : List AV) : Option (List AV) :=
  br (inRange ((t0.length : Int).tmod 7) ([(Sc.n .i64 1), (Sc.n .i64 (-1)), (Sc.n .i64 2), (Sc.n .i64 3), (Sc.n .i64 5), (Sc.n .i64 7), (Sc.n .i64 101)]).length)
    (some (setAll [(17, .p (.gr v1)), (18, .p (.sc (Sc.n .i64 t7))), (20, .own 3 [(Sc.n .i64 1), (Sc.n .i64 (-1)), (Sc.n .i64 2), (Sc.n .i64 3), (Sc.n .i64 5), (Sc.n .i64 7), (Sc.n .i64 101)]), (21, .p (.sl t0)), (22, .p (.sc (Sc.n .i64 (t0.length : Int)))), (23, .p (.sc (Sc.n .i64 ((t0.length : Int).tmod 7)))), (24, .ep 20 (((t0.length : Int).tmod 7).toNat))] fr))
    none
def f_s_DrawReplaceFactor_sg2_635 (v0 : List Sc) (v1 : List Sc) (t0 : List Sc) (t7 : Int) (t8 : Int) (fr : List AV) : Option (List AV) :=
  some (setAll [(0, .p (.sl v1)), (17, .p (.gr v1)), (18, .p (.sc (Sc.n .i64 t7))), (20, .own 3 [(Sc.n .i64 1), (Sc.n .i64 (-1)), (Sc.n .i64 2), (Sc.n .i64 3), (Sc.n .i64 5), (Sc.n .i64 7), (Sc.n .i64 101)]), (21, .p (.sl t0)), (22, .p (.sc (Sc.n .i64 (t0.length : Int)))), (23, .p (.sc (Sc.n .i64 ((t0.length : Int).tmod 7))))] fr)
def f_s_DrawReplaceFactor_sg2_1595 (v0 : List Sc) (v1 : List Sc) (t0 : List Sc) (t7 : Int) (t8 : Int) (fr : List AV) : Option (List AV) :=
  some (setAll [(0, .p (.sl v1)), (5, .p (.sc (Sc.n .i64 t7))), (17, .p (.gr v1)), (18, .p (.sc (Sc.n .i64 t7))), (20, .own 3 [(Sc.n .i64 1), (Sc.n .i64 (-1)), (Sc.n .i64 2), (Sc.n .i64 3), (Sc.n .i64 5), (Sc.n .i64 7), (Sc.n .i64 101)]), (21, .p (.sl t0)), (22, .p (.sc (Sc.n .i64 (t0.length : Int))))] fr)
def f_s_DrawReplaceFactor_sg2_1651 (v0 : List Sc) (v1 : List Sc) (t0 : List Sc) (t7 : Int) (t8 : Int) (fr : List AV) : Option (List AV) :=
  some (setAll [(0, .p (.sl v1)), (5, .p (.sc (Sc.n .i64 t7))), (17, .p (.gr v1)), (18, .p (.sc (Sc.n .i64 t7))), (21, .p (.sl t0)), (22, .p (.sc (Sc.n .i64 (t0.length : Int)))), (23, .p (.sc (Sc.n .i64 ((t0.length : Int).tmod 7))))] fr)
def f_s_DrawReplaceFactor_sg2_253 (v0 : List Sc) (v1 : List Sc) (t0 : List Sc) (t7 : Int) (t8 : Int) (fr : List AV) : Option (List AV) :=
  br (inRange ((t0.length : Int).tmod 7) ([(Sc.n .i64 1), (Sc.n .i64 (-1)), (Sc.n .i64 2), (Sc.n .i64 3), (Sc.n .i64 5), (Sc.n .i64 7), (Sc.n .i64 101)]).length)
    (some (setAll [(17, .p (.gr v1)), (19, .p (.sc (Sc.n .i64 t8))), (20, .own 3 [(Sc.n .i64 1), (Sc.n .i64 (-1)), (Sc.n .i64 2), (Sc.n .i64 3), (Sc.n .i64 5), (Sc.n .i64 7), (Sc.n .i64 101)]), (21, .p (.sl t0)), (22, .p (.sc (Sc.n .i64 (t0.length : Int)))), (23, .p (.sc (Sc.n .i64 ((t0.length : Int).tmod 7)))), (24, .ep 20 (((t0.length : Int).tmod 7).toNat))] fr))
    none
def f_s_DrawReplaceFactor_sg2_637 (v0 : List Sc) (v1 : List Sc) (t0 : List Sc) (t7 : Int) (t8 : Int) (fr : List AV) : Option (List AV) :=
  some (setAll [(0, .p (.sl v1)), (17, .p (.gr v1)), (19, .p (.sc (Sc.n .i64 t8))), (20, .own 3 [(Sc.n .i64 1), (Sc.n .i64 (-1)), (Sc.n .i64 2), (Sc.n .i64 3), (Sc.n .i64 5), (Sc.n .i64 7), (Sc.n .i64 101)]), (21, .p (.sl t0)), (22, .p (.sc (Sc.n .i64 (t0.length : Int)))), (23, .p (.sc (Sc.n .i64 ((t0.length : Int).tmod 7))))] fr)
def f_s_DrawReplaceFactor_sg2_505 (v0 : List Sc) (v1 : List Sc) (t0 : List Sc) (t7 : Int) (t8 : Int) (fr : List AV) : Option (List AV) :=
  br (inRange ((t0.length : Int).tmod 7) ([(Sc.n .i64 1), (Sc.n .i64 (-1)), (Sc.n .i64 2), (Sc.n .i64 3), (Sc.n .i64 5), (Sc.n .i64 7), (Sc.n .i64 101)]).length)
    (br (kAt [(Sc.n .i64 1), (Sc.n .i64 (-1)), (Sc.n .i64 2), (Sc.n .i64 3), (Sc.n .i64 5), (Sc.n .i64 7), (Sc.n .i64 101)] ((t0.length : Int).tmod 7).toNat)
      (some (setAll [(17, .p (.gr v1)), (20, .own 3 [(Sc.n .i64 1), (Sc.n .i64 (-1)), (Sc.n .i64 2), (Sc.n .i64 3), (Sc.n .i64 5), (Sc.n .i64 7), (Sc.n .i64 101)]), (21, .p (.sl t0)), (22, .p (.sc (Sc.n .i64 (t0.length : Int)))), (23, .p (.sc (Sc.n .i64 ((t0.length : Int).tmod 7)))), (24, .ep 20 (((t0.length : Int).tmod 7).toNat)), (25, .p (.sc (Sc.n .i64 (atN [(Sc.n .i64 1), (Sc.n .i64 (-1)), (Sc.n .i64 2), (Sc.n .i64 3), (Sc.n .i64 5), (Sc.n .i64 7), (Sc.n .i64 101)] ((t0.length : Int).tmod 7).toNat))))] fr))
      none)
    none
def f_s_DrawReplaceFactor_sg2_761 (v0 : List Sc) (v1 : List Sc) (t0 : List Sc) (t7 : Int) (t8 : Int) (fr : List AV) : Option (List AV) :=
  br (inRange ((t0.length : Int).tmod 7) ([(Sc.n .i64 1), (Sc.n .i64 (-1)), (Sc.n .i64 2), (Sc.n .i64 3), (Sc.n .i64 5), (Sc.n .i64 7), (Sc.n .i64 101)]).length)
    (some (setAll [(0, .p (.sl v1)), (17, .p (.gr v1)), (20, .own 3 [(Sc.n .i64 1), (Sc.n .i64 (-1)), (Sc.n .i64 2), (Sc.n .i64 3), (Sc.n .i64 5), (Sc.n .i64 7), (Sc.n .i64 101)]), (21, .p (.sl t0)), (22, .p (.sc (Sc.n .i64 (t0.length : Int)))), (23, .p (.sc (Sc.n .i64 ((t0.length : Int).tmod 7)))), (24, .ep 20 (((t0.length : Int).tmod 7).toNat))] fr))
    none
def f_s_DrawReplaceFactor_sg2_254 (v0 : List Sc) (v1 : List Sc) (t0 : List Sc) (t7 : Int) (t8 : Int) (fr : List AV) : Option (List AV) :=
  br (inRange ((t0.length : Int).tmod 7) ([(Sc.n .i64 1), (Sc.n .i64 (-1)), (Sc.n .i64 2), (Sc.n .i64 3), (Sc.n .i64 5), (Sc.n .i64 7), (Sc.n .i64 101)]).length)
    (some (setAll [(18, .p (.sc (Sc.n .i64 t7))), (19, .p (.sc (Sc.n .i64 t8))), (20, .own 3 [(Sc.n .i64 1), (Sc.n .i64 (-1)), (Sc.n .i64 2), (Sc.n .i64 3), (Sc.n .i64 5), (Sc.n .i64 7), (Sc.n .i64 101)]), (21, .p (.sl t0)), (22, .p (.sc (Sc.n .i64 (t0.length : Int)))), (23, .p (.sc (Sc.n .i64 ((t0.length : Int).tmod 7)))), (24, .ep 20 (((t0.length : Int).tmod 7).toNat))] fr))
    none
def f_s_DrawReplaceFactor_sg2_506 (v0 : List Sc) (v1 : List Sc) (t0 : List Sc) (t7 : Int) (t8 : Int) (fr : List AV) : Option (List AV) :=
  br (inRange ((t0.length : Int).tmod 7) ([(Sc.n .i64 1), (Sc.n .i64 (-1)), (Sc.n .i64 2), (Sc.n .i64 3), (Sc.n .i64 5), (Sc.n .i64 7), (Sc.n .i64 101)]).length)
    (br (kAt [(Sc.n .i64 1), (Sc.n .i64 (-1)), (Sc.n .i64 2), (Sc.n .i64 3), (Sc.n .i64 5), (Sc.n .i64 7), (Sc.n .i64 101)] ((t0.length : Int).tmod 7).toNat)
      (some (setAll [(18, .p (.sc (Sc.n .i64 t7))), (20, .own 3 [(Sc.n .i64 1), (Sc.n .i64 (-1)), (Sc.n .i64 2), (Sc.n .i64 3), (Sc.n .i64 5), (Sc.n .i64 7), (Sc.n .i64 101)]), (21, .p (.sl t0)), (22, .p (.sc (Sc.n .i64 (t0.length : Int)))), (23, .p (.sc (Sc.n .i64 ((t0.length : Int).tmod 7)))), (24, .ep 20 (((t0.length : Int).tmod 7).toNat)), (25, .p (.sc (Sc.n .i64 (atN [(Sc.n .i64 1), (Sc.n .i64 (-1)), (Sc.n .i64 2), (Sc.n .i64 3), (Sc.n .i64 5), (Sc.n .i64 7), (Sc.n .i64 101)] ((t0.length : Int).tmod 7).toNat))))] fr))
      none)
    none
def f_s_DrawReplaceFactor_sg2_508 (v0 : List Sc) (v1 : List Sc) (t0 : List Sc) (t7 : Int) (t8 : Int) (fr : List AV) : Option (List AV) :=
  br (inRange ((t0.length : Int).tmod 7) ([(Sc.n .i64 1), (Sc.n .i64 (-1)), (Sc.n .i64 2), (Sc.n .i64 3), (Sc.n .i64 5), (Sc.n .i64 7), (Sc.n .i64 101)]).length)
    (br (kAt [(Sc.n .i64 1), (Sc.n .i64 (-1)), (Sc.n .i64 2), (Sc.n .i64 3), (Sc.n .i64 5), (Sc.n .i64 7), (Sc.n .i64 101)] ((t0.length : Int).tmod 7).toNat)
      (some (setAll [(19, .p (.sc (Sc.n .i64 t8))), (20, .own 3 [(Sc.n .i64 1), (Sc.n .i64 (-1)), (Sc.n .i64 2), (Sc.n .i64 3), (Sc.n .i64 5), (Sc.n .i64 7), (Sc.n .i64 101)]), (21, .p (.sl t0)), (22, .p (.sc (Sc.n .i64 (t0.length : Int)))), (23, .p (.sc (Sc.n .i64 ((t0.length : Int).tmod 7)))), (24, .ep 20 (((t0.length : Int).tmod 7).toNat)), (25, .p (.sc (Sc.n .i64 (atN [(Sc.n .i64 1), (Sc.n .i64 (-1)), (Sc.n .i64 2), (Sc.n .i64 3), (Sc.n .i64 5), (Sc.n .i64 7), (Sc.n .i64 101)] ((t0.length : Int).tmod 7).toNat))))] fr))
      none)
    none
def f_s_DrawReplaceFactor_sg2_255 (v0 : List Sc) (v1 : List Sc) (t0 : List Sc) (t7 : Int) (t8 : Int) (fr : List AV) : Option (List AV) :=
  br (inRange ((t0.length : Int).tmod 7) ([(Sc.n .i64 1), (Sc.n .i64 (-1)), (Sc.n .i64 2), (Sc.n .i64 3), (Sc.n .i64 5), (Sc.n .i64 7), (Sc.n .i64 101)]).length)
    (some (setAll [(17, .p (.gr v1)), (18, .p (.sc (Sc.n .i64 t7))), (19, .p (.sc (Sc.n .i64 t8))), (20, .own 3 [(Sc.n .i64 1), (Sc.n .i64 (-1)), (Sc.n .i64 2), (Sc.n .i64 3), (Sc.n .i64 5), (Sc.n .i64 7), (Sc.n .i64 101)]), (21, .p (.sl t0)), (22, .p (.sc (Sc.n .i64 (t0.length : Int)))), (23, .p (.sc (Sc.n .i64 ((t0.length : Int).tmod 7)))), (24, .ep 20 (((t0.length : Int).tmod 7).toNat))] fr))
    none
def f_s_DrawReplaceFactor_sg2_639 (v0 : List Sc) (v1 : List Sc) (t0 : List Sc) (t7 : Int) (t8 : Int) (fr : List AV) : Option (List AV) :=
  some (setAll [(0, .p (.sl v1)), (17, .p (.gr v1)), (18, .p (.sc (Sc.n .i64 t7))), (19, .p (.sc (Sc.n .i64 t8))), (20, .own 3 [(Sc.n .i64 1), (Sc.n .i64 (-1)), (Sc.n .i64 2), (Sc.n .i64 3), (Sc.n .i64 5), (Sc.n .i64 7), (Sc.n .i64 101)]), (21, .p (.sl t0)), (22, .p (.sc (Sc.n .i64 (t0.length : Int)))), (23, .p (.sc (Sc.n .i64 ((t0.length : Int).tmod 7))))] fr)
def f_s_DrawReplaceFactor_sg2_1599 (v0 : List Sc) (v1 : List Sc) (t0 : List Sc) (t7 : Int) (t8 : Int) (fr : List AV) : Option (List AV) :=
  some (setAll [(0, .p (.sl v1)), (5, .p (.sc (Sc.n .i64 t7))), (17, .p (.gr v1)), (18, .p (.sc (Sc.n .i64 t7))), (19, .p (.sc (Sc.n .i64 t8))), (20, .own 3 [(Sc.n .i64 1), (Sc.n .i64 (-1)), (Sc.n .i64 2), (Sc.n .i64 3), (Sc.n .i64 5), (Sc.n .i64 7), (Sc.n .i64 101)]), (21, .p (.sl t0)), (22, .p (.sc (Sc.n .i64 (t0.length : Int))))] fr)
def f_s_DrawReplaceFactor_sg2_3615 (v0 : List Sc) (v1 : List Sc) (t0 : List Sc) (t7 : Int) (t8 : Int) (fr : List AV) : Option (List AV) :=
  some (setAll [(0, .p (.sl v1)), (5, .p (.sc (Sc.n .i64 t7))), (6, .p (.sc (Sc.n .i64 t8))), (17, .p (.gr v1)), (18, .p (.sc (Sc.n .i64 t7))), (19, .p (.sc (Sc.n .i64 t8))), (20, .own 3 [(Sc.n .i64 1), (Sc.n .i64 (-1)), (Sc.n .i64 2), (Sc.n .i64 3), (Sc.n .i64 5), (Sc.n .i64 7), (Sc.n .i64 101)]), (21, .p (.sl t0))] fr)
def f_s_DrawReplaceFactor_sg2_1655 (v0 : List Sc) (v1 : List Sc) (t0 : List Sc) (t7 : Int) (t8 : Int) (fr : List AV) : Option (List AV) :=
  some (setAll [(0, .p (.sl v1)), (5, .p (.sc (Sc.n .i64 t7))), (17, .p (.gr v1)), (18, .p (.sc (Sc.n .i64 t7))), (19, .p (.sc (Sc.n .i64 t8))), (21, .p (.sl t0)), (22, .p (.sc (Sc.n .i64 (t0.length : Int)))), (23, .p (.sc (Sc.n .i64 ((t0.length : Int).tmod 7))))] fr)
def f_s_DrawReplaceFactor_sg2_3639 (v0 : List Sc) (v1 : List Sc) (t0 : List Sc) (t7 : Int) (t8 : Int) (fr : List AV) : Option (List AV) :=
  some (setAll [(0, .p (.sl v1)), (5, .p (.sc (Sc.n .i64 t7))), (6, .p (.sc (Sc.n .i64 t8))), (17, .p (.gr v1)), (18, .p (.sc (Sc.n .i64 t7))), (19, .p (.sc (Sc.n .i64 t8))), (21, .p (.sl t0)), (22, .p (.sc (Sc.n .i64 (t0.length : Int))))] fr)
def f_s_DrawReplaceFactor_sg2_507 (v0 : List Sc) (v1 : List Sc) (t0 : List Sc) (t7 : Int) (t8 : Int) (fr : List AV) : Option (List AV) :=
  br (inRange ((t0.length : Int).tmod 7) ([(Sc.n .i64 1), (Sc.n .i64 (-1)), (Sc.n .i64 2), (Sc.n .i64 3), (Sc.n .i64 5), (Sc.n .i64 7), (Sc.n .i64 101)]).length)
    (br (kAt [(Sc.n .i64 1), (Sc.n .i64 (-1)), (Sc.n .i64 2), (Sc.n .i64 3), (Sc.n .i64 5), (Sc.n .i64 7), (Sc.n .i64 101)] ((t0.length : Int).tmod 7).toNat)
      (some (setAll [(17, .p (.gr v1)), (18, .p (.sc (Sc.n .i64 t7))), (20, .own 3 [(Sc.n .i64 1), (Sc.n .i64 (-1)), (Sc.n .i64 2), (Sc.n .i64 3), (Sc.n .i64 5), (Sc.n .i64 7), (Sc.n .i64 101)]), (21, .p (.sl t0)), (22, .p (.sc (Sc.n .i64 (t0.length : Int)))), (23, .p (.sc (Sc.n .i64 ((t0.length : Int).tmod 7)))), (24, .ep 20 (((t0.length : Int).tmod 7).toNat)), (25, .p (.sc (Sc.n .i64 (atN [(Sc.n .i64 1), (Sc.n .i64 (-1)), (Sc.n .i64 2), (Sc.n .i64 3), (Sc.n .i64 5), (Sc.n .i64 7), (Sc.n .i64 101)] ((t0.length : Int).tmod 7).toNat))))] fr))
      none)
    none
def f_s_DrawReplaceFactor_sg2_763 (v0 : List Sc) (v1 : List Sc) (t0 : List Sc) (t7 : Int) (t8 : Int) (fr : List AV) : Option (List AV) :=
  br (inRange ((t0.length : Int).tmod 7) ([(Sc.n .i64 1), (Sc.n .i64 (-1)), (Sc.n .i64 2), (Sc.n .i64 3), (Sc.n .i64 5), (Sc.n .i64 7), (Sc.n .i64 101)]).length)
    (some (setAll [(0, .p (.sl v1)), (17, .p (.gr v1)), (18, .p (.sc (Sc.n .i64 t7))), (20, .own 3 [(Sc.n .i64 1), (Sc.n .i64 (-1)), (Sc.n .i64 2), (Sc.n .i64 3), (Sc.n .i64 5), (Sc.n .i64 7), (Sc.n .i64 101)]), (21, .p (.sl t0)), (22, .p (.sc (Sc.n .i64 (t0.length : Int)))), (23, .p (.sc (Sc.n .i64 ((t0.length : Int).tmod 7)))), (24, .ep 20 (((t0.length : Int).tmod 7).toNat))] fr))
    none
def f_s_DrawReplaceFactor_sg2_1659 (v0 : List Sc) (v1 : List Sc) (t0 : List Sc) (t7 : Int) (t8 : Int) (fr : List AV) : Option (List AV) :=
  some (setAll [(0, .p (.sl v1)), (5, .p (.sc (Sc.n .i64 t7))), (17, .p (.gr v1)), (18, .p (.sc (Sc.n .i64 t7))), (20, .own 3 [(Sc.n .i64 1), (Sc.n .i64 (-1)), (Sc.n .i64 2), (Sc.n .i64 3), (Sc.n .i64 5), (Sc.n .i64 7), (Sc.n .i64 101)]), (21, .p (.sl t0)), (22, .p (.sc (Sc.n .i64 (t0.length : Int)))), (23, .p (.sc (Sc.n .i64 ((t0.length : Int).tmod 7))))] fr)
def f_s_DrawReplaceFactor_sg2_509 (v0 : List Sc) (v1 : List Sc) (t0 : List Sc) (t7 : Int) (t8 : Int) (fr : List AV) : Option (List AV) :=
  br (inRange ((t0.length : Int).tmod 7) ([(Sc.n .i64 1), (Sc.n .i64 (-1)), (Sc.n .i64 2), (Sc.n .i64 3), (Sc.n .i64 5), (Sc.n .i64 7), (Sc.n .i64 101)]).length)
    (br (kAt [(Sc.n .i64 1), (Sc.n .i64 (-1)), (Sc.n .i64 2), (Sc.n .i64 3), (Sc.n .i64 5), (Sc.n .i64 7), (Sc.n .i64 101)] ((t0.length : Int).tmod 7).toNat)
      (some (setAll [(17, .p (.gr v1)), (19, .p (.sc (Sc.n .i64 t8))), (20, .own 3 [(Sc.n .i64 1), (Sc.n .i64 (-1)), (Sc.n .i64 2), (Sc.n .i64 3), (Sc.n .i64 5), (Sc.n .i64 7), (Sc.n .i64 101)]), (21, .p (.sl t0)), (22, .p (.sc (Sc.n .i64 (t0.length : Int)))), (23, .p (.sc (Sc.n .i64 ((t0.length : Int).tmod 7)))), (24, .ep 20 (((t0.length : Int).tmod 7).toNat)), (25, .p (.sc (Sc.n .i64 (atN [(Sc.n .i64 1), (Sc.n .i64 (-1)), (Sc.n .i64 2), (Sc.n .i64 3), (Sc.n .i64 5), (Sc.n .i64 7), (Sc.n .i64 101)] ((t0.length : Int).tmod 7).toNat))))] fr))
      none)
    none
def f_s_DrawReplaceFactor_sg2_765 (v0 : List Sc) (v1 : List Sc) (t0 : List Sc) (t7 : Int) (t8 : Int) (fr : List AV) : Option (List AV) :=
  br (inRange ((t0.length : Int).tmod 7) ([(Sc.n .i64 1), (Sc.n .i64 (-1)), (Sc.n .i64 2), (Sc.n .i64 3), (Sc.n .i64 5), (Sc.n .i64 7), (Sc.n .i64 101)]).length)
    (some (setAll [(0, .p (.sl v1)), (17, .p (.gr v1)), (19, .p (.sc (Sc.n .i64 t8))), (20, .own 3 [(Sc.n .i64 1), (Sc.n .i64 (-1)), (Sc.n .i64 2), (Sc.n .i64 3), (Sc.n .i64 5), (Sc.n .i64 7), (Sc.n .i64 101)]), (21, .p (.sl t0)), (22, .p (.sc (Sc.n .i64 (t0.length : Int)))), (23, .p (.sc (Sc.n .i64 ((t0.length : Int).tmod 7)))), (24, .ep 20 (((t0.length : Int).tmod 7).toNat))] fr))
    none
def f_s_DrawReplaceFactor_sg2_1017 (v0 : List Sc) (v1 : List Sc) (t0 : List Sc) (t7 : Int) (t8 : Int) (fr : List AV) : Option (List AV) :=
  br (inRange ((t0.length : Int).tmod 7) ([(Sc.n .i64 1), (Sc.n .i64 (-1)), (Sc.n .i64 2), (Sc.n .i64 3), (Sc.n .i64 5), (Sc.n .i64 7), (Sc.n .i64 101)]).length)
    (br (kAt [(Sc.n .i64 1), (Sc.n .i64 (-1)), (Sc.n .i64 2), (Sc.n .i64 3), (Sc.n .i64 5), (Sc.n .i64 7), (Sc.n .i64 101)] ((t0.length : Int).tmod 7).toNat)
      (some (setAll [(0, .p (.sl v1)), (17, .p (.gr v1)), (20, .own 3 [(Sc.n .i64 1), (Sc.n .i64 (-1)), (Sc.n .i64 2), (Sc.n .i64 3), (Sc.n .i64 5), (Sc.n .i64 7), (Sc.n .i64 101)]), (21, .p (.sl t0)), (22, .p (.sc (Sc.n .i64 (t0.length : Int)))), (23, .p (.sc (Sc.n .i64 ((t0.length : Int).tmod 7)))), (24, .ep 20 (((t0.length : Int).tmod 7).toNat)), (25, .p (.sc (Sc.n .i64 (atN [(Sc.n .i64 1), (Sc.n .i64 (-1)), (Sc.n .i64 2), (Sc.n .i64 3), (Sc.n .i64 5), (Sc.n .i64 7), (Sc.n .i64 101)] ((t0.length : Int).tmod 7).toNat))))] fr))
      none)
    none
def f_s_DrawReplaceFactor_sg2_510 (v0 : List Sc) (v1 : List Sc) (t0 : List Sc) (t7 : Int) (t8 : Int) (fr : List AV) : Option (List AV) :=
  br (inRange ((t0.length : Int).tmod 7) ([(Sc.n .i64 1), (Sc.n .i64 (-1)), (Sc.n .i64 2), (Sc.n .i64 3), (Sc.n .i64 5), (Sc.n .i64 7), (Sc.n .i64 101)]).length)
    (br (kAt [(Sc.n .i64 1), (Sc.n .i64 (-1)), (Sc.n .i64 2), (Sc.n .i64 3), (Sc.n .i64 5), (Sc.n .i64 7), (Sc.n .i64 101)] ((t0.length : Int).tmod 7).toNat)
      (some (setAll [(18, .p (.sc (Sc.n .i64 t7))), (19, .p (.sc (Sc.n .i64 t8))), (20, .own 3 [(Sc.n .i64 1), (Sc.n .i64 (-1)), (Sc.n .i64 2), (Sc.n .i64 3), (Sc.n .i64 5), (Sc.n .i64 7), (Sc.n .i64 101)]), (21, .p (.sl t0)), (22, .p (.sc (Sc.n .i64 (t0.length : Int)))), (23, .p (.sc (Sc.n .i64 ((t0.length : Int).tmod 7)))), (24, .ep 20 (((t0.length : Int).tmod 7).toNat)), (25, .p (.sc (Sc.n .i64 (atN [(Sc.n .i64 1), (Sc.n .i64 (-1)), (Sc.n .i64 2), (Sc.n .i64 3), (Sc.n .i64 5), (Sc.n .i64 7), (Sc.n .i64 101)] ((t0.length : Int).tmod 7).toNat))))] fr))
      none)
    none
def f_s_DrawReplaceFactor_sg2_511 (v0 : List Sc) (v1 : List Sc) (t0 : List Sc) (t7 : Int) (t8 : Int) (fr : List AV) : Option (List AV) :=
  br (inRange ((t0.length : Int).tmod 7) ([(Sc.n .i64 1), (Sc.n .i64 (-1)), (Sc.n .i64 2), (Sc.n .i64 3), (Sc.n .i64 5), (Sc.n .i64 7), (Sc.n .i64 101)]).length)
    (br (kAt [(Sc.n .i64 1), (Sc.n .i64 (-1)), (Sc.n .i64 2), (Sc.n .i64 3), (Sc.n .i64 5), (Sc.n .i64 7), (Sc.n .i64 101)] ((t0.length : Int).tmod 7).toNat)
      (some (setAll [(17, .p (.gr v1)), (18, .p (.sc (Sc.n .i64 t7))), (19, .p (.sc (Sc.n .i64 t8))), (20, .own 3 [(Sc.n .i64 1), (Sc.n .i64 (-1)), (Sc.n .i64 2), (Sc.n .i64 3), (Sc.n .i64 5), (Sc.n .i64 7), (Sc.n .i64 101)]), (21, .p (.sl t0)), (22, .p (.sc (Sc.n .i64 (t0.length : Int)))), (23, .p (.sc (Sc.n .i64 ((t0.length : Int).tmod 7)))), (24, .ep 20 (((t0.length : Int).tmod 7).toNat)), (25, .p (.sc (Sc.n .i64 (atN [(Sc.n .i64 1), (Sc.n .i64 (-1)), (Sc.n .i64 2), (Sc.n .i64 3), (Sc.n .i64 5), (Sc.n .i64 7), (Sc.n .i64 101)] ((t0.length : Int).tmod 7).toNat))))] fr))
      none)
    none
def f_s_DrawReplaceFactor_sg2_767 (v0 : List Sc) (v1 : List Sc) (t0 : List Sc) (t7 : Int) (t8 : Int) (fr : List AV) : Option (List AV) :=
  br (inRange ((t0.length : Int).tmod 7) ([(Sc.n .i64 1), (Sc.n .i64 (-1)), (Sc.n .i64 2), (Sc.n .i64 3), (Sc.n .i64 5), (Sc.n .i64 7), (Sc.n .i64 101)]).length)
    (some (setAll [(0, .p (.sl v1)), (17, .p (.gr v1)), (18, .p (.sc (Sc.n .i64 t7))), (19, .p (.sc (Sc.n .i64 t8))), (20, .own 3 [(Sc.n .i64 1), (Sc.n .i64 (-1)), (Sc.n .i64 2), (Sc.n .i64 3), (Sc.n .i64 5), (Sc.n .i64 7), (Sc.n .i64 101)]), (21, .p (.sl t0)), (22, .p (.sc (Sc.n .i64 (t0.length : Int)))), (23, .p (.sc (Sc.n .i64 ((t0.length : Int).tmod 7)))), (24, .ep 20 (((t0.length : Int).tmod 7).toNat))] fr))
    none
def f_s_DrawReplaceFactor_sg2_1663 (v0 : List Sc) (v1 : List Sc) (t0 : List Sc) (t7 : Int) (t8 : Int) (fr : List AV) : Option (List AV) :=
  some (setAll [(0, .p (.sl v1)), (5, .p (.sc (Sc.n .i64 t7))), (17, .p (.gr v1)), (18, .p (.sc (Sc.n .i64 t7))), (19, .p (.sc (Sc.n .i64 t8))), (20, .own 3 [(Sc.n .i64 1), (Sc.n .i64 (-1)), (Sc.n .i64 2), (Sc.n .i64 3), (Sc.n .i64 5), (Sc.n .i64 7), (Sc.n .i64 101)]), (21, .p (.sl t0)), (22, .p (.sc (Sc.n .i64 (t0.length : Int)))), (23, .p (.sc (Sc.n .i64 ((t0.length : Int).tmod 7))))] fr)
def f_s_DrawReplaceFactor_sg2_3647 (v0 : List Sc) (v1 : List Sc) (t0 : List Sc) (t7 : Int) (t8 : Int) (fr : List AV) : Option (List AV) :=
  some (setAll [(0, .p (.sl v1)), (5, .p (.sc (Sc.n .i64 t7))), (6, .p (.sc (Sc.n .i64 t8))), (17, .p (.gr v1)), (18, .p (.sc (Sc.n .i64 t7))), (19, .p (.sc (Sc.n .i64 t8))), (20, .own 3 [(Sc.n .i64 1), (Sc.n .i64 (-1)), (Sc.n .i64 2), (Sc.n .i64 3), (Sc.n .i64 5), (Sc.n .i64 7), (Sc.n .i64 101)]), (21, .p (.sl t0)), (22, .p (.sc (Sc.n .i64 (t0.length : Int))))] fr)
def f_s_DrawReplaceFactor_sg2_3703 (v0 : List Sc) (v1 : List Sc) (t0 : List Sc) (t7 : Int) (t8 : Int) (fr : List AV) : Option (List AV) :=
  some (setAll [(0, .p (.sl v1)), (5, .p (.sc (Sc.n .i64 t7))), (6, .p (.sc (Sc.n .i64 t8))), (17, .p (.gr v1)), (18, .p (.sc (Sc.n .i64 t7))), (19, .p (.sc (Sc.n .i64 t8))), (21, .p (.sl t0)), (22, .p (.sc (Sc.n .i64 (t0.length : Int)))), (23, .p (.sc (Sc.n .i64 ((t0.length : Int).tmod 7))))] fr)
def f_s_DrawReplaceFactor_sg2_1019 (v0 : List Sc) (v1 : List Sc) (t0 : List Sc) (t7 : Int) (t8 : Int) (fr : List AV) : Option (List AV) :=
  br (inRange ((t0.length : Int).tmod 7) ([(Sc.n .i64 1), (Sc.n .i64 (-1)), (Sc.n .i64 2), (Sc.n .i64 3), (Sc.n .i64 5), (Sc.n .i64 7), (Sc.n .i64 101)]).length)
    (br (kAt [(Sc.n .i64 1), (Sc.n .i64 (-1)), (Sc.n .i64 2), (Sc.n .i64 3), (Sc.n .i64 5), (Sc.n .i64 7), (Sc.n .i64 101)] ((t0.length : Int).tmod 7).toNat)
      (some (setAll [(0, .p (.sl v1)), (17, .p (.gr v1)), (18, .p (.sc (Sc.n .i64 t7))), (20, .own 3 [(Sc.n .i64 1), (Sc.n .i64 (-1)), (Sc.n .i64 2), (Sc.n .i64 3), (Sc.n .i64 5), (Sc.n .i64 7), (Sc.n .i64 101)]), (21, .p (.sl t0)), (22, .p (.sc (Sc.n .i64 (t0.length : Int)))), (23, .p (.sc (Sc.n .i64 ((t0.length : Int).tmod 7)))), (24, .ep 20 (((t0.length : Int).tmod 7).toNat)), (25, .p (.sc (Sc.n .i64 (atN [(Sc.n .i64 1), (Sc.n .i64 (-1)), (Sc.n .i64 2), (Sc.n .i64 3), (Sc.n .i64 5), (Sc.n .i64 7), (Sc.n .i64 101)] ((t0.length : Int).tmod 7).toNat))))] fr))
      none)
    none
def f_s_DrawReplaceFactor_sg2_1787 (v0 : List Sc) (v1 : List Sc) (t0 : List Sc) (t7 : Int) (t8 : Int) (fr : List AV) : Option (List AV) :=
  br (inRange ((t0.length : Int).tmod 7) ([(Sc.n .i64 1), (Sc.n .i64 (-1)), (Sc.n .i64 2), (Sc.n .i64 3), (Sc.n .i64 5), (Sc.n .i64 7), (Sc.n .i64 101)]).length)
    (some (setAll [(0, .p (.sl v1)), (5, .p (.sc (Sc.n .i64 t7))), (17, .p (.gr v1)), (18, .p (.sc (Sc.n .i64 t7))), (20, .own 3 [(Sc.n .i64 1), (Sc.n .i64 (-1)), (Sc.n .i64 2), (Sc.n .i64 3), (Sc.n .i64 5), (Sc.n .i64 7), (Sc.n .i64 101)]), (21, .p (.sl t0)), (22, .p (.sc (Sc.n .i64 (t0.length : Int)))), (23, .p (.sc (Sc.n .i64 ((t0.length : Int).tmod 7)))), (24, .ep 20 (((t0.length : Int).tmod 7).toNat))] fr))
    none
def f_s_DrawReplaceFactor_sg2_1021 (v0 : List Sc) (v1 : List Sc) (t0 : List Sc) (t7 : Int) (t8 : Int) (fr : List AV) : Option (List AV) :=
  br (inRange ((t0.length : Int).tmod 7) ([(Sc.n .i64 1), (Sc.n .i64 (-1)), (Sc.n .i64 2), (Sc.n .i64 3), (Sc.n .i64 5), (Sc.n .i64 7), (Sc.n .i64 101)]).length)
    (br (kAt [(Sc.n .i64 1), (Sc.n .i64 (-1)), (Sc.n .i64 2), (Sc.n .i64 3), (Sc.n .i64 5), (Sc.n .i64 7), (Sc.n .i64 101)] ((t0.length : Int).tmod 7).toNat)
      (some (setAll [(0, .p (.sl v1)), (17, .p (.gr v1)), (19, .p (.sc (Sc.n .i64 t8))), (20, .own 3 [(Sc.n .i64 1), (Sc.n .i64 (-1)), (Sc.n .i64 2), (Sc.n .i64 3), (Sc.n .i64 5), (Sc.n .i64 7), (Sc.n .i64 101)]), (21, .p (.sl t0)), (22, .p (.sc (Sc.n .i64 (t0.length : Int)))), (23, .p (.sc (Sc.n .i64 ((t0.length : Int).tmod 7)))), (24, .ep 20 (((t0.length : Int).tmod 7).toNat)), (25, .p (.sc (Sc.n .i64 (atN [(Sc.n .i64 1), (Sc.n .i64 (-1)), (Sc.n .i64 2), (Sc.n .i64 3), (Sc.n .i64 5), (Sc.n .i64 7), (Sc.n .i64 101)] ((t0.length : Int).tmod 7).toNat))))] fr))
      none)
    none
def f_s_DrawReplaceFactor_sg2_1023 (v0 : List Sc) (v1 : List Sc) (t0 : List Sc) (t7 : Int) (t8 : Int) (fr : List AV) : Option (List AV) :=
  br (inRange ((t0.length : Int).tmod 7) ([(Sc.n .i64 1), (Sc.n .i64 (-1)), (Sc.n .i64 2), (Sc.n .i64 3), (Sc.n .i64 5), (Sc.n .i64 7), (Sc.n .i64 101)]).length)
    (br (kAt [(Sc.n .i64 1), (Sc.n .i64 (-1)), (Sc.n .i64 2), (Sc.n .i64 3), (Sc.n .i64 5), (Sc.n .i64 7), (Sc.n .i64 101)] ((t0.length : Int).tmod 7).toNat)
      (some (setAll [(0, .p (.sl v1)), (17, .p (.gr v1)), (18, .p (.sc (Sc.n .i64 t7))), (19, .p (.sc (Sc.n .i64 t8))), (20, .own 3 [(Sc.n .i64 1), (Sc.n .i64 (-1)), (Sc.n .i64 2), (Sc.n .i64 3), (Sc.n .i64 5), (Sc.n .i64 7), (Sc.n .i64 101)]), (21, .p (.sl t0)), (22, .p (.sc (Sc.n .i64 (t0.length : Int)))), (23, .p (.sc (Sc.n .i64 ((t0.length : Int).tmod 7)))), (24, .ep 20 (((t0.length : Int).tmod 7).toNat)), (25, .p (.sc (Sc.n .i64 (atN [(Sc.n .i64 1), (Sc.n .i64 (-1)), (Sc.n .i64 2), (Sc.n .i64 3), (Sc.n .i64 5), (Sc.n .i64 7), (Sc.n .i64 101)] ((t0.length : Int).tmod 7).toNat))))] fr))
      none)
    none
def f_s_DrawReplaceFactor_sg2_1791 (v0 : List Sc) (v1 : List Sc) (t0 : List Sc) (t7 : Int) (t8 : Int) (fr : List AV) : Option (List AV) :=
  br (inRange ((t0.length : Int).tmod 7) ([(Sc.n .i64 1), (Sc.n .i64 (-1)), (Sc.n .i64 2), (Sc.n .i64 3), (Sc.n .i64 5), (Sc.n .i64 7), (Sc.n .i64 101)]).length)
    (some (setAll [(0, .p (.sl v1)), (5, .p (.sc (Sc.n .i64 t7))), (17, .p (.gr v1)), (18, .p (.sc (Sc.n .i64 t7))), (19, .p (.sc (Sc.n .i64 t8))), (20, .own 3 [(Sc.n .i64 1), (Sc.n .i64 (-1)), (Sc.n .i64 2), (Sc.n .i64 3), (Sc.n .i64 5), (Sc.n .i64 7), (Sc.n .i64 101)]), (21, .p (.sl t0)), (22, .p (.sc (Sc.n .i64 (t0.length : Int)))), (23, .p (.sc (Sc.n .i64 ((t0.length : Int).tmod 7)))), (24, .ep 20 (((t0.length : Int).tmod 7).toNat))] fr))
    none
def f_s_DrawReplaceFactor_sg2_3711 (v0 : List Sc) (v1 : List Sc) (t0 : List Sc) (t7 : Int) (t8 : Int) (fr : List AV) : Option (List AV) :=
  some (setAll [(0, .p (.sl v1)), (5, .p (.sc (Sc.n .i64 t7))), (6, .p (.sc (Sc.n .i64 t8))), (17, .p (.gr v1)), (18, .p (.sc (Sc.n .i64 t7))), (19, .p (.sc (Sc.n .i64 t8))), (20, .own 3 [(Sc.n .i64 1), (Sc.n .i64 (-1)), (Sc.n .i64 2), (Sc.n .i64 3), (Sc.n .i64 5), (Sc.n .i64 7), (Sc.n .i64 101)]), (21, .p (.sl t0)), (22, .p (.sc (Sc.n .i64 (t0.length : Int)))), (23, .p (.sc (Sc.n .i64 ((t0.length : Int).tmod 7))))] fr)
def f_s_DrawReplaceFactor_sg2_2043 (v0 : List Sc) (v1 : List Sc) (t0 : List Sc) (t7 : Int) (t8 : Int) (fr : List AV) : Option (List AV) :=
  br (inRange ((t0.length : Int).tmod 7) ([(Sc.n .i64 1), (Sc.n .i64 (-1)), (Sc.n .i64 2), (Sc.n .i64 3), (Sc.n .i64 5), (Sc.n .i64 7), (Sc.n .i64 101)]).length)
    (br (kAt [(Sc.n .i64 1), (Sc.n .i64 (-1)), (Sc.n .i64 2), (Sc.n .i64 3), (Sc.n .i64 5), (Sc.n .i64 7), (Sc.n .i64 101)] ((t0.length : Int).tmod 7).toNat)
      (some (setAll [(0, .p (.sl v1)), (5, .p (.sc (Sc.n .i64 t7))), (17, .p (.gr v1)), (18, .p (.sc (Sc.n .i64 t7))), (20, .own 3 [(Sc.n .i64 1), (Sc.n .i64 (-1)), (Sc.n .i64 2), (Sc.n .i64 3), (Sc.n .i64 5), (Sc.n .i64 7), (Sc.n .i64 101)]), (21, .p (.sl t0)), (22, .p (.sc (Sc.n .i64 (t0.length : Int)))), (23, .p (.sc (Sc.n .i64 ((t0.length : Int).tmod 7)))), (24, .ep 20 (((t0.length : Int).tmod 7).toNat)), (25, .p (.sc (Sc.n .i64 (atN [(Sc.n .i64 1), (Sc.n .i64 (-1)), (Sc.n .i64 2), (Sc.n .i64 3), (Sc.n .i64 5), (Sc.n .i64 7), (Sc.n .i64 101)] ((t0.length : Int).tmod 7).toNat))))] fr))
      none)
    none
def f_s_DrawReplaceFactor_sg2_2047 (v0 : List Sc) (v1 : List Sc) (t0 : List Sc) (t7 : Int) (t8 : Int) (fr : List AV) : Option (List AV) :=
  br (inRange ((t0.length : Int).tmod 7) ([(Sc.n .i64 1), (Sc.n .i64 (-1)), (Sc.n .i64 2), (Sc.n .i64 3), (Sc.n .i64 5), (Sc.n .i64 7), (Sc.n .i64 101)]).length)
    (br (kAt [(Sc.n .i64 1), (Sc.n .i64 (-1)), (Sc.n .i64 2), (Sc.n .i64 3), (Sc.n .i64 5), (Sc.n .i64 7), (Sc.n .i64 101)] ((t0.length : Int).tmod 7).toNat)
      (some (setAll [(0, .p (.sl v1)), (5, .p (.sc (Sc.n .i64 t7))), (17, .p (.gr v1)), (18, .p (.sc (Sc.n .i64 t7))), (19, .p (.sc (Sc.n .i64 t8))), (20, .own 3 [(Sc.n .i64 1), (Sc.n .i64 (-1)), (Sc.n .i64 2), (Sc.n .i64 3), (Sc.n .i64 5), (Sc.n .i64 7), (Sc.n .i64 101)]), (21, .p (.sl t0)), (22, .p (.sc (Sc.n .i64 (t0.length : Int)))), (23, .p (.sc (Sc.n .i64 ((t0.length : Int).tmod 7)))), (24, .ep 20 (((t0.length : Int).tmod 7).toNat)), (25, .p (.sc (Sc.n .i64 (atN [(Sc.n .i64 1), (Sc.n .i64 (-1)), (Sc.n .i64 2), (Sc.n .i64 3), (Sc.n .i64 5), (Sc.n .i64 7), (Sc.n .i64 101)] ((t0.length : Int).tmod 7).toNat))))] fr))
      none)
    none
def f_s_DrawReplaceFactor_sg2_3839 (v0 : List Sc) (v1 : List Sc) (t0 : List Sc) (t7 : Int) (t8 : Int) (fr : List AV) : Option (List AV) :=
  br (inRange ((t0.length : Int).tmod 7) ([(Sc.n .i64 1), (Sc.n .i64 (-1)), (Sc.n .i64 2), (Sc.n .i64 3), (Sc.n .i64 5), (Sc.n .i64 7), (Sc.n .i64 101)]).length)
    (some (setAll [(0, .p (.sl v1)), (5, .p (.sc (Sc.n .i64 t7))), (6, .p (.sc (Sc.n .i64 t8))), (17, .p (.gr v1)), (18, .p (.sc (Sc.n .i64 t7))), (19, .p (.sc (Sc.n .i64 t8))), (20, .own 3 [(Sc.n .i64 1), (Sc.n .i64 (-1)), (Sc.n .i64 2), (Sc.n .i64 3), (Sc.n .i64 5), (Sc.n .i64 7), (Sc.n .i64 101)]), (21, .p (.sl t0)), (22, .p (.sc (Sc.n .i64 (t0.length : Int)))), (23, .p (.sc (Sc.n .i64 ((t0.length : Int).tmod 7)))), (24, .ep 20 (((t0.length : Int).tmod 7).toNat))] fr))
    none
def f_s_DrawReplaceFactor_sg2_4095 (v0 : List Sc) (v1 : List Sc) (t0 : List Sc) (t7 : Int) (t8 : Int) (fr : List AV) : Option (List AV) :=
  br (inRange ((t0.length : Int).tmod 7) ([(Sc.n .i64 1), (Sc.n .i64 (-1)), (Sc.n .i64 2), (Sc.n .i64 3), (Sc.n .i64 5), (Sc.n .i64 7), (Sc.n .i64 101)]).length)
    (br (kAt [(Sc.n .i64 1), (Sc.n .i64 (-1)), (Sc.n .i64 2), (Sc.n .i64 3), (Sc.n .i64 5), (Sc.n .i64 7), (Sc.n .i64 101)] ((t0.length : Int).tmod 7).toNat)
      (some (setAll [(0, .p (.sl v1)), (5, .p (.sc (Sc.n .i64 t7))), (6, .p (.sc (Sc.n .i64 t8))), (17, .p (.gr v1)), (18, .p (.sc (Sc.n .i64 t7))), (19, .p (.sc (Sc.n .i64 t8))), (20, .own 3 [(Sc.n .i64 1), (Sc.n .i64 (-1)), (Sc.n .i64 2), (Sc.n .i64 3), (Sc.n .i64 5), (Sc.n .i64 7), (Sc.n .i64 101)]), (21, .p (.sl t0)), (22, .p (.sc (Sc.n .i64 (t0.length : Int)))), (23, .p (.sc (Sc.n .i64 ((t0.length : Int).tmod 7)))), (24, .ep 20 (((t0.length : Int).tmod 7).toNat)), (25, .p (.sc (Sc.n .i64 (atN [(Sc.n .i64 1), (Sc.n .i64 (-1)), (Sc.n .i64 2), (Sc.n .i64 3), (Sc.n .i64 5), (Sc.n .i64 7), (Sc.n .i64 101)] ((t0.length : Int).tmod 7).toNat))))] fr))
      none)
    none
def f_s_DrawReplaceFactor_sg2_8191 (v0 : List Sc) (v1 : List Sc) (t0 : List Sc) (t7 : Int) (t8 : Int) (fr : List AV) : Option (List AV) :=
  br (inRange ((t0.length : Int).tmod 7) ([(Sc.n .i64 1), (Sc.n .i64 (-1)), (Sc.n .i64 2), (Sc.n .i64 3), (Sc.n .i64 5), (Sc.n .i64 7), (Sc.n .i64 101)]).length)
    (br (kAt [(Sc.n .i64 1), (Sc.n .i64 (-1)), (Sc.n .i64 2), (Sc.n .i64 3), (Sc.n .i64 5), (Sc.n .i64 7), (Sc.n .i64 101)] ((t0.length : Int).tmod 7).toNat)
      (some (setAll [(0, .p (.sl v1)), (5, .p (.sc (Sc.n .i64 t7))), (6, .p (.sc (Sc.n .i64 t8))), (7, .p (.sc (Sc.n .i64 (atN [(Sc.n .i64 1), (Sc.n .i64 (-1)), (Sc.n .i64 2), (Sc.n .i64 3), (Sc.n .i64 5), (Sc.n .i64 7), (Sc.n .i64 101)] ((t0.length : Int).tmod 7).toNat)))), (17, .p (.gr v1)), (18, .p (.sc (Sc.n .i64 t7))), (19, .p (.sc (Sc.n .i64 t8))), (20, .own 3 [(Sc.n .i64 1), (Sc.n .i64 (-1)), (Sc.n .i64 2), (Sc.n .i64 3), (Sc.n .i64 5), (Sc.n .i64 7), (Sc.n .i64 101)]), (21, .p (.sl t0)), (22, .p (.sc (Sc.n .i64 (t0.length : Int)))), (23, .p (.sc (Sc.n .i64 ((t0.length : Int).tmod 7)))), (24, .ep 20 (((t0.length : Int).tmod 7).toNat)), (25, .p (.sc (Sc.n .i64 (atN [(Sc.n .i64 1), (Sc.n .i64 (-1)), (Sc.n .i64 2), (Sc.n .i64 3), (Sc.n .i64 5), (Sc.n .i64 7), (Sc.n .i64 101)] ((t0.length : Int).tmod 7).toNat))))] fr))
      none)
    none
def f_s_DrawReplaceFactor_Eg2 (v0 : List Sc) (v1 : List Sc) (t0 : List Sc) (t7 : Int) (t8 : Int) (fr : List AV) : List (Option (List AV)) := [f_s_DrawReplaceFactor_sg2_1 v0 v1 t0 t7 t8 fr, f_s_DrawReplaceFactor_sg2_2 v0 v1 t0 t7 t8 fr, f_s_DrawReplaceFactor_sg2_4 v0 v1 t0 t7 t8 fr, f_s_DrawReplaceFactor_sg2_8 v0 v1 t0 t7 t8 fr, f_s_DrawReplaceFactor_sg2_16 v0 v1 t0 t7 t8 fr, f_s_DrawReplaceFactor_sg2_3 v0 v1 t0 t7 t8 fr, f_s_DrawReplaceFactor_sg2_5 v0 v1 t0 t7 t8 fr, f_s_DrawReplaceFactor_sg2_9 v0 v1 t0 t7 t8 fr, f_s_DrawReplaceFactor_sg2_17 v0 v1 t0 t7 t8 fr, f_s_DrawReplaceFactor_sg2_513 v0 v1 t0 t7 t8 fr, f_s_DrawReplaceFactor_sg2_3 v0 v1 t0 t7 t8 fr, f_s_DrawReplaceFactor_sg2_6 v0 v1 t0 t7 t8 fr, f_s_DrawReplaceFactor_sg2_10 v0 v1 t0 t7 t8 fr, f_s_DrawReplaceFactor_sg2_18 v0 v1 t0 t7 t8 fr, f_s_DrawReplaceFactor_sg2_5 v0 v1 t0 t7 t8 fr, f_s_DrawReplaceFactor_sg2_6 v0 v1 t0 t7 t8 fr, f_s_DrawReplaceFactor_sg2_12 v0 v1 t0 t7 t8 fr, f_s_DrawReplaceFactor_sg2_20 v0 v1 t0 t7 t8 fr, f_s_DrawReplaceFactor_sg2_9 v0 v1 t0 t7 t8 fr, f_s_DrawReplaceFactor_sg2_10 v0 v1 t0 t7 t8 fr, f_s_DrawReplaceFactor_sg2_12 v0 v1 t0 t7 t8 fr, f_s_DrawReplaceFactor_sg2_24 v0 v1 t0 t7 t8 fr, f_s_DrawReplaceFactor_sg2_17 v0 v1 t0 t7 t8 fr, f_s_DrawReplaceFactor_sg2_18 v0 v1 t0 t7 t8 fr, f_s_DrawReplaceFactor_sg2_20 v0 v1 t0 t7 t8 fr, f_s_DrawReplaceFactor_sg2_24 v0 v1 t0 t7 t8 fr, f_s_DrawReplaceFactor_sg2_48 v0 v1 t0 t7 t8 fr, f_s_DrawReplaceFactor_sg2_7 v0 v1 t0 t7 t8 fr, f_s_DrawReplaceFactor_sg2_11 v0 v1 t0 t7 t8 fr, f_s_DrawReplaceFactor_sg2_19 v0 v1 t0 t7 t8 fr, f_s_DrawReplaceFactor_sg2_515 v0 v1 t0 t7 t8 fr, f_s_DrawReplaceFactor_sg2_7 v0 v1 t0 t7 t8 fr, f_s_DrawReplaceFactor_sg2_13 v0 v1 t0 t7 t8 fr, f_s_DrawReplaceFactor_sg2_21 v0 v1 t0 t7 t8 fr, f_s_DrawReplaceFactor_sg2_517 v0 v1 t0 t7 t8 fr, f_s_DrawReplaceFactor_sg2_11 v0 v1 t0 t7 t8 fr, f_s_DrawReplaceFactor_sg2_13 v0 v1 t0 t7 t8 fr, f_s_DrawReplaceFactor_sg2_25 v0 v1 t0 t7 t8 fr, f_s_DrawReplaceFactor_sg2_521 v0 v1 t0 t7 t8 fr, f_s_DrawReplaceFactor_sg2_19 v0 v1 t0 t7 t8 fr, f_s_DrawReplaceFactor_sg2_21 v0 v1 t0 t7 t8 fr, f_s_DrawReplaceFactor_sg2_25 v0 v1 t0 t7 t8 fr, f_s_DrawReplaceFactor_sg2_49 v0 v1 t0 t7 t8 fr, f_s_DrawReplaceFactor_sg2_529 v0 v1 t0 t7 t8 fr, f_s_DrawReplaceFactor_sg2_515 v0 v1 t0 t7 t8 fr, f_s_DrawReplaceFactor_sg2_517 v0 v1 t0 t7 t8 fr, f_s_DrawReplaceFactor_sg2_521 v0 v1 t0 t7 t8 fr, f_s_DrawReplaceFactor_sg2_529 v0 v1 t0 t7 t8 fr, f_s_DrawReplaceFactor_sg2_7 v0 v1 t0 t7 t8 fr, f_s_DrawReplaceFactor_sg2_14 v0 v1 t0 t7 t8 fr, f_s_DrawReplaceFactor_sg2_22 v0 v1 t0 t7 t8 fr, f_s_DrawReplaceFactor_sg2_11 v0 v1 t0 t7 t8 fr, f_s_DrawReplaceFactor_sg2_14 v0 v1 t0 t7 t8 fr, f_s_DrawReplaceFactor_sg2_26 v0 v1 t0 t7 t8 fr, f_s_DrawReplaceFactor_sg2_19 v0 v1 t0 t7 t8 fr, f_s_DrawReplaceFactor_sg2_22 v0 v1 t0 t7 t8 fr, f_s_DrawReplaceFactor_sg2_26 v0 v1 t0 t7 t8 fr, f_s_DrawReplaceFactor_sg2_50 v0 v1 t0 t7 t8 fr, f_s_DrawReplaceFactor_sg2_13 v0 v1 t0 t7 t8 fr, f_s_DrawReplaceFactor_sg2_14 v0 v1 t0 t7 t8 fr, f_s_DrawReplaceFactor_sg2_28 v0 v1 t0 t7 t8 fr, f_s_DrawReplaceFactor_sg2_21 v0 v1 t0 t7 t8 fr, f_s_DrawReplaceFactor_sg2_22 v0 v1 t0 t7 t8 fr, f_s_DrawReplaceFactor_sg2_28 v0 v1 t0 t7 t8 fr, f_s_DrawReplaceFactor_sg2_52 v0 v1 t0 t7 t8 fr, f_s_DrawReplaceFactor_sg2_25 v0 v1 t0 t7 t8 fr, f_s_DrawReplaceFactor_sg2_26 v0 v1 t0 t7 t8 fr, f_s_DrawReplaceFactor_sg2_28 v0 v1 t0 t7 t8 fr, f_s_DrawReplaceFactor_sg2_56 v0 v1 t0 t7 t8 fr, f_s_DrawReplaceFactor_sg2_49 v0 v1 t0 t7 t8 fr, f_s_DrawReplaceFactor_sg2_50 v0 v1 t0 t7 t8 fr, f_s_DrawReplaceFactor_sg2_52 v0 v1 t0 t7 t8 fr, f_s_DrawReplaceFactor_sg2_56 v0 v1 t0 t7 t8 fr, f_s_DrawReplaceFactor_sg2_112 v0 v1 t0 t7 t8 fr, f_s_DrawReplaceFactor_sg2_15 v0 v1 t0 t7 t8 fr, f_s_DrawReplaceFactor_sg2_23 v0 v1 t0 t7 t8 fr, f_s_DrawReplaceFactor_sg2_519 v0 v1 t0 t7 t8 fr, f_s_DrawReplaceFactor_sg2_15 v0 v1 t0 t7 t8 fr, f_s_DrawReplaceFactor_sg2_27 v0 v1 t0 t7 t8 fr, f_s_DrawReplaceFactor_sg2_523 v0 v1 t0 t7 t8 fr, f_s_DrawReplaceFactor_sg2_23 v0 v1 t0 t7 t8 fr, f_s_DrawReplaceFactor_sg2_27 v0 v1 t0 t7 t8 fr, f_s_DrawReplaceFactor_sg2_51 v0 v1 t0 t7 t8 fr, f_s_DrawReplaceFactor_sg2_531 v0 v1 t0 t7 t8 fr, f_s_DrawReplaceFactor_sg2_519 v0 v1 t0 t7 t8 fr, f_s_DrawReplaceFactor_sg2_523 v0 v1 t0 t7 t8 fr, f_s_DrawReplaceFactor_sg2_531 v0 v1 t0 t7 t8 fr, f_s_DrawReplaceFactor_sg2_1539 v0 v1 t0 t7 t8 fr, f_s_DrawReplaceFactor_sg2_15 v0 v1 t0 t7 t8 fr, f_s_DrawReplaceFactor_sg2_29 v0 v1 t0 t7 t8 fr, f_s_DrawReplaceFactor_sg2_525 v0 v1 t0 t7 t8 fr, f_s_DrawReplaceFactor_sg2_23 v0 v1 t0 t7 t8 fr, f_s_DrawReplaceFactor_sg2_29 v0 v1 t0 t7 t8 fr, f_s_DrawReplaceFactor_sg2_53 v0 v1 t0 t7 t8 fr, f_s_DrawReplaceFactor_sg2_533 v0 v1 t0 t7 t8 fr, f_s_DrawReplaceFactor_sg2_519 v0 v1 t0 t7 t8 fr, f_s_DrawReplaceFactor_sg2_525 v0 v1 t0 t7 t8 fr, f_s_DrawReplaceFactor_sg2_533 v0 v1 t0 t7 t8 fr, f_s_DrawReplaceFactor_sg2_27 v0 v1 t0 t7 t8 fr, f_s_DrawReplaceFactor_sg2_29 v0 v1 t0 t7 t8 fr, f_s_DrawReplaceFactor_sg2_57 v0 v1 t0 t7 t8 fr, f_s_DrawReplaceFactor_sg2_537 v0 v1 t0 t7 t8 fr, f_s_DrawReplaceFactor_sg2_523 v0 v1 t0 t7 t8 fr, f_s_DrawReplaceFactor_sg2_525 v0 v1 t0 t7 t8 fr, f_s_DrawReplaceFactor_sg2_537 v0 v1 t0 t7 t8 fr, f_s_DrawReplaceFactor_sg2_51 v0 v1 t0 t7 t8 fr, f_s_DrawReplaceFactor_sg2_53 v0 v1 t0 t7 t8 fr, f_s_DrawReplaceFactor_sg2_57 v0 v1 t0 t7 t8 fr, f_s_DrawReplaceFactor_sg2_113 v0 v1 t0 t7 t8 fr, f_s_DrawReplaceFactor_sg2_561 v0 v1 t0 t7 t8 fr, f_s_DrawReplaceFactor_sg2_531 v0 v1 t0 t7 t8 fr, f_s_DrawReplaceFactor_sg2_533 v0 v1 t0 t7 t8 fr, f_s_DrawReplaceFactor_sg2_537 v0 v1 t0 t7 t8 fr, f_s_DrawReplaceFactor_sg2_561 v0 v1 t0 t7 t8 fr, f_s_DrawReplaceFactor_sg2_15 v0 v1 t0 t7 t8 fr, f_s_DrawReplaceFactor_sg2_30 v0 v1 t0 t7 t8 fr, f_s_DrawReplaceFactor_sg2_23 v0 v1 t0 t7 t8 fr, f_s_DrawReplaceFactor_sg2_30 v0 v1 t0 t7 t8 fr, f_s_DrawReplaceFactor_sg2_54 v0 v1 t0 t7 t8 fr, f_s_DrawReplaceFactor_sg2_27 v0 v1 t0 t7 t8 fr, f_s_DrawReplaceFactor_sg2_30 v0 v1 t0 t7 t8 fr, f_s_DrawReplaceFactor_sg2_58 v0 v1 t0 t7 t8 fr, f_s_DrawReplaceFactor_sg2_51 v0 v1 t0 t7 t8 fr, f_s_DrawReplaceFactor_sg2_54 v0 v1 t0 t7 t8 fr, f_s_DrawReplaceFactor_sg2_58 v0 v1 t0 t7 t8 fr, f_s_DrawReplaceFactor_sg2_114 v0 v1 t0 t7 t8 fr, f_s_DrawReplaceFactor_sg2_29 v0 v1 t0 t7 t8 fr, f_s_DrawReplaceFactor_sg2_30 v0 v1 t0 t7 t8 fr, f_s_DrawReplaceFactor_sg2_60 v0 v1 t0 t7 t8 fr, f_s_DrawReplaceFactor_sg2_53 v0 v1 t0 t7 t8 fr, f_s_DrawReplaceFactor_sg2_54 v0 v1 t0 t7 t8 fr, f_s_DrawReplaceFactor_sg2_60 v0 v1 t0 t7 t8 fr, f_s_DrawReplaceFactor_sg2_116 v0 v1 t0 t7 t8 fr, f_s_DrawReplaceFactor_sg2_57 v0 v1 t0 t7 t8 fr, f_s_DrawReplaceFactor_sg2_58 v0 v1 t0 t7 t8 fr, f_s_DrawReplaceFactor_sg2_60 v0 v1 t0 t7 t8 fr, f_s_DrawReplaceFactor_sg2_120 v0 v1 t0 t7 t8 fr, f_s_DrawReplaceFactor_sg2_113 v0 v1 t0 t7 t8 fr, f_s_DrawReplaceFactor_sg2_114 v0 v1 t0 t7 t8 fr, f_s_DrawReplaceFactor_sg2_116 v0 v1 t0 t7 t8 fr, f_s_DrawReplaceFactor_sg2_120 v0 v1 t0 t7 t8 fr, f_s_DrawReplaceFactor_sg2_31 v0 v1 t0 t7 t8 fr, f_s_DrawReplaceFactor_sg2_527 v0 v1 t0 t7 t8 fr, f_s_DrawReplaceFactor_sg2_31 v0 v1 t0 t7 t8 fr, f_s_DrawReplaceFactor_sg2_55 v0 v1 t0 t7 t8 fr, f_s_DrawReplaceFactor_sg2_535 v0 v1 t0 t7 t8 fr, f_s_DrawReplaceFactor_sg2_527 v0 v1 t0 t7 t8 fr, f_s_DrawReplaceFactor_sg2_535 v0 v1 t0 t7 t8 fr, f_s_DrawReplaceFactor_sg2_1543 v0 v1 t0 t7 t8 fr, f_s_DrawReplaceFactor_sg2_31 v0 v1 t0 t7 t8 fr, f_s_DrawReplaceFactor_sg2_59 v0 v1 t0 t7 t8 fr, f_s_DrawReplaceFactor_sg2_539 v0 v1 t0 t7 t8 fr, f_s_DrawReplaceFactor_sg2_527 v0 v1 t0 t7 t8 fr, f_s_DrawReplaceFactor_sg2_539 v0 v1 t0 t7 t8 fr, f_s_DrawReplaceFactor_sg2_1547 v0 v1 t0 t7 t8 fr, f_s_DrawReplaceFactor_sg2_55 v0 v1 t0 t7 t8 fr, f_s_DrawReplaceFactor_sg2_59 v0 v1 t0 t7 t8 fr, f_s_DrawReplaceFactor_sg2_115 v0 v1 t0 t7 t8 fr, f_s_DrawReplaceFactor_sg2_563 v0 v1 t0 t7 t8 fr, f_s_DrawReplaceFactor_sg2_535 v0 v1 t0 t7 t8 fr, f_s_DrawReplaceFactor_sg2_539 v0 v1 t0 t7 t8 fr, f_s_DrawReplaceFactor_sg2_563 v0 v1 t0 t7 t8 fr, f_s_DrawReplaceFactor_sg2_1555 v0 v1 t0 t7 t8 fr, f_s_DrawReplaceFactor_sg2_1543 v0 v1 t0 t7 t8 fr, f_s_DrawReplaceFactor_sg2_1547 v0 v1 t0 t7 t8 fr, f_s_DrawReplaceFactor_sg2_1555 v0 v1 t0 t7 t8 fr, f_s_DrawReplaceFactor_sg2_31 v0 v1 t0 t7 t8 fr, f_s_DrawReplaceFactor_sg2_61 v0 v1 t0 t7 t8 fr, f_s_DrawReplaceFactor_sg2_541 v0 v1 t0 t7 t8 fr, f_s_DrawReplaceFactor_sg2_527 v0 v1 t0 t7 t8 fr, f_s_DrawReplaceFactor_sg2_541 v0 v1 t0 t7 t8 fr, f_s_DrawReplaceFactor_sg2_55 v0 v1 t0 t7 t8 fr, f_s_DrawReplaceFactor_sg2_61 v0 v1 t0 t7 t8 fr, f_s_DrawReplaceFactor_sg2_117 v0 v1 t0 t7 t8 fr, f_s_DrawReplaceFactor_sg2_565 v0 v1 t0 t7 t8 fr, f_s_DrawReplaceFactor_sg2_535 v0 v1 t0 t7 t8 fr, f_s_DrawReplaceFactor_sg2_541 v0 v1 t0 t7 t8 fr, f_s_DrawReplaceFactor_sg2_565 v0 v1 t0 t7 t8 fr, f_s_DrawReplaceFactor_sg2_59 v0 v1 t0 t7 t8 fr, f_s_DrawReplaceFactor_sg2_61 v0 v1 t0 t7 t8 fr, f_s_DrawReplaceFactor_sg2_121 v0 v1 t0 t7 t8 fr, f_s_DrawReplaceFactor_sg2_569 v0 v1 t0 t7 t8 fr, f_s_DrawReplaceFactor_sg2_539 v0 v1 t0 t7 t8 fr, f_s_DrawReplaceFactor_sg2_541 v0 v1 t0 t7 t8 fr, f_s_DrawReplaceFactor_sg2_569 v0 v1 t0 t7 t8 fr, f_s_DrawReplaceFactor_sg2_115 v0 v1 t0 t7 t8 fr, f_s_DrawReplaceFactor_sg2_117 v0 v1 t0 t7 t8 fr, f_s_DrawReplaceFactor_sg2_121 v0 v1 t0 t7 t8 fr, f_s_DrawReplaceFactor_sg2_625 v0 v1 t0 t7 t8 fr, f_s_DrawReplaceFactor_sg2_563 v0 v1 t0 t7 t8 fr, f_s_DrawReplaceFactor_sg2_565 v0 v1 t0 t7 t8 fr, f_s_DrawReplaceFactor_sg2_569 v0 v1 t0 t7 t8 fr, f_s_DrawReplaceFactor_sg2_625 v0 v1 t0 t7 t8 fr, f_s_DrawReplaceFactor_sg2_31 v0 v1 t0 t7 t8 fr, f_s_DrawReplaceFactor_sg2_62 v0 v1 t0 t7 t8 fr, f_s_DrawReplaceFactor_sg2_55 v0 v1 t0 t7 t8 fr, f_s_DrawReplaceFactor_sg2_62 v0 v1 t0 t7 t8 fr, f_s_DrawReplaceFactor_sg2_118 v0 v1 t0 t7 t8 fr, f_s_DrawReplaceFactor_sg2_59 v0 v1 t0 t7 t8 fr, f_s_DrawReplaceFactor_sg2_62 v0 v1 t0 t7 t8 fr, f_s_DrawReplaceFactor_sg2_122 v0 v1 t0 t7 t8 fr, f_s_DrawReplaceFactor_sg2_115 v0 v1 t0 t7 t8 fr, f_s_DrawReplaceFactor_sg2_118 v0 v1 t0 t7 t8 fr, f_s_DrawReplaceFactor_sg2_122 v0 v1 t0 t7 t8 fr, f_s_DrawReplaceFactor_sg2_61 v0 v1 t0 t7 t8 fr, f_s_DrawReplaceFactor_sg2_62 v0 v1 t0 t7 t8 fr, f_s_DrawReplaceFactor_sg2_124 v0 v1 t0 t7 t8 fr, f_s_DrawReplaceFactor_sg2_117 v0 v1 t0 t7 t8 fr, f_s_DrawReplaceFactor_sg2_118 v0 v1 t0 t7 t8 fr, f_s_DrawReplaceFactor_sg2_124 v0 v1 t0 t7 t8 fr, f_s_DrawReplaceFactor_sg2_121 v0 v1 t0 t7 t8 fr, f_s_DrawReplaceFactor_sg2_122 v0 v1 t0 t7 t8 fr, f_s_DrawReplaceFactor_sg2_124 v0 v1 t0 t7 t8 fr, f_s_DrawReplaceFactor_sg2_248 v0 v1 t0 t7 t8 fr, f_s_DrawReplaceFactor_sg2_63 v0 v1 t0 t7 t8 fr, f_s_DrawReplaceFactor_sg2_543 v0 v1 t0 t7 t8 fr, f_s_DrawReplaceFactor_sg2_543 v0 v1 t0 t7 t8 fr, f_s_DrawReplaceFactor_sg2_1551 v0 v1 t0 t7 t8 fr, f_s_DrawReplaceFactor_sg2_63 v0 v1 t0 t7 t8 fr, f_s_DrawReplaceFactor_sg2_119 v0 v1 t0 t7 t8 fr, f_s_DrawReplaceFactor_sg2_567 v0 v1 t0 t7 t8 fr, f_s_DrawReplaceFactor_sg2_543 v0 v1 t0 t7 t8 fr, f_s_DrawReplaceFactor_sg2_567 v0 v1 t0 t7 t8 fr, f_s_DrawReplaceFactor_sg2_1559 v0 v1 t0 t7 t8 fr, f_s_DrawReplaceFactor_sg2_1551 v0 v1 t0 t7 t8 fr, f_s_DrawReplaceFactor_sg2_1559 v0 v1 t0 t7 t8 fr, f_s_DrawReplaceFactor_sg2_3591 v0 v1 t0 t7 t8 fr, f_s_DrawReplaceFactor_sg2_63 v0 v1 t0 t7 t8 fr, f_s_DrawReplaceFactor_sg2_123 v0 v1 t0 t7 t8 fr, f_s_DrawReplaceFactor_sg2_571 v0 v1 t0 t7 t8 fr, f_s_DrawReplaceFactor_sg2_543 v0 v1 t0 t7 t8 fr, f_s_DrawReplaceFactor_sg2_571 v0 v1 t0 t7 t8 fr, f_s_DrawReplaceFactor_sg2_1563 v0 v1 t0 t7 t8 fr, f_s_DrawReplaceFactor_sg2_1551 v0 v1 t0 t7 t8 fr, f_s_DrawReplaceFactor_sg2_1563 v0 v1 t0 t7 t8 fr, f_s_DrawReplaceFactor_sg2_119 v0 v1 t0 t7 t8 fr, f_s_DrawReplaceFactor_sg2_123 v0 v1 t0 t7 t8 fr, f_s_DrawReplaceFactor_sg2_627 v0 v1 t0 t7 t8 fr, f_s_DrawReplaceFactor_sg2_567 v0 v1 t0 t7 t8 fr, f_s_DrawReplaceFactor_sg2_571 v0 v1 t0 t7 t8 fr, f_s_DrawReplaceFactor_sg2_627 v0 v1 t0 t7 t8 fr, f_s_DrawReplaceFactor_sg2_1587 v0 v1 t0 t7 t8 fr, f_s_DrawReplaceFactor_sg2_1559 v0 v1 t0 t7 t8 fr, f_s_DrawReplaceFactor_sg2_1563 v0 v1 t0 t7 t8 fr, f_s_DrawReplaceFactor_sg2_1587 v0 v1 t0 t7 t8 fr, f_s_DrawReplaceFactor_sg2_63 v0 v1 t0 t7 t8 fr, f_s_DrawReplaceFactor_sg2_125 v0 v1 t0 t7 t8 fr, f_s_DrawReplaceFactor_sg2_573 v0 v1 t0 t7 t8 fr, f_s_DrawReplaceFactor_sg2_543 v0 v1 t0 t7 t8 fr, f_s_DrawReplaceFactor_sg2_573 v0 v1 t0 t7 t8 fr, f_s_DrawReplaceFactor_sg2_119 v0 v1 t0 t7 t8 fr, f_s_DrawReplaceFactor_sg2_125 v0 v1 t0 t7 t8 fr, f_s_DrawReplaceFactor_sg2_629 v0 v1 t0 t7 t8 fr, f_s_DrawReplaceFactor_sg2_567 v0 v1 t0 t7 t8 fr, f_s_DrawReplaceFactor_sg2_573 v0 v1 t0 t7 t8 fr, f_s_DrawReplaceFactor_sg2_629 v0 v1 t0 t7 t8 fr, f_s_DrawReplaceFactor_sg2_123 v0 v1 t0 t7 t8 fr, f_s_DrawReplaceFactor_sg2_125 v0 v1 t0 t7 t8 fr, f_s_DrawReplaceFactor_sg2_249 v0 v1 t0 t7 t8 fr, f_s_DrawReplaceFactor_sg2_633 v0 v1 t0 t7 t8 fr, f_s_DrawReplaceFactor_sg2_571 v0 v1 t0 t7 t8 fr, f_s_DrawReplaceFactor_sg2_573 v0 v1 t0 t7 t8 fr, f_s_DrawReplaceFactor_sg2_633 v0 v1 t0 t7 t8 fr, f_s_DrawReplaceFactor_sg2_627 v0 v1 t0 t7 t8 fr, f_s_DrawReplaceFactor_sg2_629 v0 v1 t0 t7 t8 fr, f_s_DrawReplaceFactor_sg2_633 v0 v1 t0 t7 t8 fr, f_s_DrawReplaceFactor_sg2_63 v0 v1 t0 t7 t8 fr, f_s_DrawReplaceFactor_sg2_126 v0 v1 t0 t7 t8 fr, f_s_DrawReplaceFactor_sg2_119 v0 v1 t0 t7 t8 fr, f_s_DrawReplaceFactor_sg2_126 v0 v1 t0 t7 t8 fr, f_s_DrawReplaceFactor_sg2_123 v0 v1 t0 t7 t8 fr, f_s_DrawReplaceFactor_sg2_126 v0 v1 t0 t7 t8 fr, f_s_DrawReplaceFactor_sg2_250 v0 v1 t0 t7 t8 fr, f_s_DrawReplaceFactor_sg2_125 v0 v1 t0 t7 t8 fr, f_s_DrawReplaceFactor_sg2_126 v0 v1 t0 t7 t8 fr, f_s_DrawReplaceFactor_sg2_252 v0 v1 t0 t7 t8 fr, f_s_DrawReplaceFactor_sg2_249 v0 v1 t0 t7 t8 fr, f_s_DrawReplaceFactor_sg2_250 v0 v1 t0 t7 t8 fr, f_s_DrawReplaceFactor_sg2_252 v0 v1 t0 t7 t8 fr, f_s_DrawReplaceFactor_sg2_504 v0 v1 t0 t7 t8 fr, f_s_DrawReplaceFactor_sg2_127 v0 v1 t0 t7 t8 fr, f_s_DrawReplaceFactor_sg2_575 v0 v1 t0 t7 t8 fr, f_s_DrawReplaceFactor_sg2_575 v0 v1 t0 t7 t8 fr, f_s_DrawReplaceFactor_sg2_1567 v0 v1 t0 t7 t8 fr, f_s_DrawReplaceFactor_sg2_1567 v0 v1 t0 t7 t8 fr, f_s_DrawReplaceFactor_sg2_3599 v0 v1 t0 t7 t8 fr, f_s_DrawReplaceFactor_sg2_127 v0 v1 t0 t7 t8 fr, f_s_DrawReplaceFactor_sg2_631 v0 v1 t0 t7 t8 fr, f_s_DrawReplaceFactor_sg2_575 v0 v1 t0 t7 t8 fr, f_s_DrawReplaceFactor_sg2_631 v0 v1 t0 t7 t8 fr, f_s_DrawReplaceFactor_sg2_1591 v0 v1 t0 t7 t8 fr, f_s_DrawReplaceFactor_sg2_1567 v0 v1 t0 t7 t8 fr, f_s_DrawReplaceFactor_sg2_1591 v0 v1 t0 t7 t8 fr, f_s_DrawReplaceFactor_sg2_3607 v0 v1 t0 t7 t8 fr, f_s_DrawReplaceFactor_sg2_3599 v0 v1 t0 t7 t8 fr, f_s_DrawReplaceFactor_sg2_3607 v0 v1 t0 t7 t8 fr, f_s_DrawReplaceFactor_sg2_127 v0 v1 t0 t7 t8 fr, f_s_DrawReplaceFactor_sg2_251 v0 v1 t0 t7 t8 fr, f_s_DrawReplaceFactor_sg2_635 v0 v1 t0 t7 t8 fr, f_s_DrawReplaceFactor_sg2_575 v0 v1 t0 t7 t8 fr, f_s_DrawReplaceFactor_sg2_635 v0 v1 t0 t7 t8 fr, f_s_DrawReplaceFactor_sg2_1595 v0 v1 t0 t7 t8 fr, f_s_DrawReplaceFactor_sg2_1567 v0 v1 t0 t7 t8 fr, f_s_DrawReplaceFactor_sg2_1595 v0 v1 t0 t7 t8 fr, f_s_DrawReplaceFactor_sg2_631 v0 v1 t0 t7 t8 fr, f_s_DrawReplaceFactor_sg2_635 v0 v1 t0 t7 t8 fr, f_s_DrawReplaceFactor_sg2_1651 v0 v1 t0 t7 t8 fr, f_s_DrawReplaceFactor_sg2_1591 v0 v1 t0 t7 t8 fr, f_s_DrawReplaceFactor_sg2_1595 v0 v1 t0 t7 t8 fr, f_s_DrawReplaceFactor_sg2_1651 v0 v1 t0 t7 t8 fr, f_s_DrawReplaceFactor_sg2_127 v0 v1 t0 t7 t8 fr, f_s_DrawReplaceFactor_sg2_253 v0 v1 t0 t7 t8 fr, f_s_DrawReplaceFactor_sg2_637 v0 v1 t0 t7 t8 fr, f_s_DrawReplaceFactor_sg2_575 v0 v1 t0 t7 t8 fr, f_s_DrawReplaceFactor_sg2_637 v0 v1 t0 t7 t8 fr, f_s_DrawReplaceFactor_sg2_631 v0 v1 t0 t7 t8 fr, f_s_DrawReplaceFactor_sg2_637 v0 v1 t0 t7 t8 fr, f_s_DrawReplaceFactor_sg2_251 v0 v1 t0 t7 t8 fr, f_s_DrawReplaceFactor_sg2_253 v0 v1 t0 t7 t8 fr, f_s_DrawReplaceFactor_sg2_505 v0 v1 t0 t7 t8 fr, f_s_DrawReplaceFactor_sg2_761 v0 v1 t0 t7 t8 fr, f_s_DrawReplaceFactor_sg2_635 v0 v1 t0 t7 t8 fr, f_s_DrawReplaceFactor_sg2_637 v0 v1 t0 t7 t8 fr, f_s_DrawReplaceFactor_sg2_761 v0 v1 t0 t7 t8 fr, f_s_DrawReplaceFactor_sg2_127 v0 v1 t0 t7 t8 fr, f_s_DrawReplaceFactor_sg2_254 v0 v1 t0 t7 t8 fr, f_s_DrawReplaceFactor_sg2_251 v0 v1 t0 t7 t8 fr, f_s_DrawReplaceFactor_sg2_254 v0 v1 t0 t7 t8 fr, f_s_DrawReplaceFactor_sg2_506 v0 v1 t0 t7 t8 fr, f_s_DrawReplaceFactor_sg2_253 v0 v1 t0 t7 t8 fr, f_s_DrawReplaceFactor_sg2_254 v0 v1 t0 t7 t8 fr, f_s_DrawReplaceFactor_sg2_508 v0 v1 t0 t7 t8 fr, f_s_DrawReplaceFactor_sg2_505 v0 v1 t0 t7 t8 fr, f_s_DrawReplaceFactor_sg2_506 v0 v1 t0 t7 t8 fr, f_s_DrawReplaceFactor_sg2_508 v0 v1 t0 t7 t8 fr, f_s_DrawReplaceFactor_sg2_255 v0 v1 t0 t7 t8 fr, f_s_DrawReplaceFactor_sg2_639 v0 v1 t0 t7 t8 fr, f_s_DrawReplaceFactor_sg2_639 v0 v1 t0 t7 t8 fr, f_s_DrawReplaceFactor_sg2_1599 v0 v1 t0 t7 t8 fr, f_s_DrawReplaceFactor_sg2_1599 v0 v1 t0 t7 t8 fr, f_s_DrawReplaceFactor_sg2_3615 v0 v1 t0 t7 t8 fr, f_s_DrawReplaceFactor_sg2_3615 v0 v1 t0 t7 t8 fr, f_s_DrawReplaceFactor_sg2_639 v0 v1 t0 t7 t8 fr, f_s_DrawReplaceFactor_sg2_1655 v0 v1 t0 t7 t8 fr, f_s_DrawReplaceFactor_sg2_1599 v0 v1 t0 t7 t8 fr, f_s_DrawReplaceFactor_sg2_1655 v0 v1 t0 t7 t8 fr, f_s_DrawReplaceFactor_sg2_3639 v0 v1 t0 t7 t8 fr, f_s_DrawReplaceFactor_sg2_3615 v0 v1 t0 t7 t8 fr, f_s_DrawReplaceFactor_sg2_3639 v0 v1 t0 t7 t8 fr, f_s_DrawReplaceFactor_sg2_255 v0 v1 t0 t7 t8 fr, f_s_DrawReplaceFactor_sg2_507 v0 v1 t0 t7 t8 fr, f_s_DrawReplaceFactor_sg2_763 v0 v1 t0 t7 t8 fr, f_s_DrawReplaceFactor_sg2_639 v0 v1 t0 t7 t8 fr, f_s_DrawReplaceFactor_sg2_763 v0 v1 t0 t7 t8 fr, f_s_DrawReplaceFactor_sg2_1659 v0 v1 t0 t7 t8 fr, f_s_DrawReplaceFactor_sg2_1599 v0 v1 t0 t7 t8 fr, f_s_DrawReplaceFactor_sg2_1659 v0 v1 t0 t7 t8 fr, f_s_DrawReplaceFactor_sg2_1655 v0 v1 t0 t7 t8 fr, f_s_DrawReplaceFactor_sg2_1659 v0 v1 t0 t7 t8 fr, f_s_DrawReplaceFactor_sg2_255 v0 v1 t0 t7 t8 fr, f_s_DrawReplaceFactor_sg2_509 v0 v1 t0 t7 t8 fr, f_s_DrawReplaceFactor_sg2_765 v0 v1 t0 t7 t8 fr, f_s_DrawReplaceFactor_sg2_639 v0 v1 t0 t7 t8 fr, f_s_DrawReplaceFactor_sg2_765 v0 v1 t0 t7 t8 fr, f_s_DrawReplaceFactor_sg2_507 v0 v1 t0 t7 t8 fr, f_s_DrawReplaceFactor_sg2_509 v0 v1 t0 t7 t8 fr, f_s_DrawReplaceFactor_sg2_1017 v0 v1 t0 t7 t8 fr, f_s_DrawReplaceFactor_sg2_763 v0 v1 t0 t7 t8 fr, f_s_DrawReplaceFactor_sg2_765 v0 v1 t0 t7 t8 fr, f_s_DrawReplaceFactor_sg2_1017 v0 v1 t0 t7 t8 fr, f_s_DrawReplaceFactor_sg2_255 v0 v1 t0 t7 t8 fr, f_s_DrawReplaceFactor_sg2_510 v0 v1 t0 t7 t8 fr, f_s_DrawReplaceFactor_sg2_507 v0 v1 t0 t7 t8 fr, f_s_DrawReplaceFactor_sg2_510 v0 v1 t0 t7 t8 fr, f_s_DrawReplaceFactor_sg2_509 v0 v1 t0 t7 t8 fr, f_s_DrawReplaceFactor_sg2_510 v0 v1 t0 t7 t8 fr, f_s_DrawReplaceFactor_sg2_511 v0 v1 t0 t7 t8 fr, f_s_DrawReplaceFactor_sg2_767 v0 v1 t0 t7 t8 fr, f_s_DrawReplaceFactor_sg2_767 v0 v1 t0 t7 t8 fr, f_s_DrawReplaceFactor_sg2_1663 v0 v1 t0 t7 t8 fr, f_s_DrawReplaceFactor_sg2_1663 v0 v1 t0 t7 t8 fr, f_s_DrawReplaceFactor_sg2_3647 v0 v1 t0 t7 t8 fr, f_s_DrawReplaceFactor_sg2_3647 v0 v1 t0 t7 t8 fr, f_s_DrawReplaceFactor_sg2_1663 v0 v1 t0 t7 t8 fr, f_s_DrawReplaceFactor_sg2_3703 v0 v1 t0 t7 t8 fr, f_s_DrawReplaceFactor_sg2_3647 v0 v1 t0 t7 t8 fr, f_s_DrawReplaceFactor_sg2_3703 v0 v1 t0 t7 t8 fr, f_s_DrawReplaceFactor_sg2_511 v0 v1 t0 t7 t8 fr, f_s_DrawReplaceFactor_sg2_1019 v0 v1 t0 t7 t8 fr, f_s_DrawReplaceFactor_sg2_767 v0 v1 t0 t7 t8 fr, f_s_DrawReplaceFactor_sg2_1019 v0 v1 t0 t7 t8 fr, f_s_DrawReplaceFactor_sg2_1787 v0 v1 t0 t7 t8 fr, f_s_DrawReplaceFactor_sg2_1663 v0 v1 t0 t7 t8 fr, f_s_DrawReplaceFactor_sg2_1787 v0 v1 t0 t7 t8 fr, f_s_DrawReplaceFactor_sg2_511 v0 v1 t0 t7 t8 fr, f_s_DrawReplaceFactor_sg2_1021 v0 v1 t0 t7 t8 fr, f_s_DrawReplaceFactor_sg2_767 v0 v1 t0 t7 t8 fr, f_s_DrawReplaceFactor_sg2_1021 v0 v1 t0 t7 t8 fr, f_s_DrawReplaceFactor_sg2_1019 v0 v1 t0 t7 t8 fr, f_s_DrawReplaceFactor_sg2_1021 v0 v1 t0 t7 t8 fr, f_s_DrawReplaceFactor_sg2_511 v0 v1 t0 t7 t8 fr, f_s_DrawReplaceFactor_sg2_1023 v0 v1 t0 t7 t8 fr, f_s_DrawReplaceFactor_sg2_1023 v0 v1 t0 t7 t8 fr, f_s_DrawReplaceFactor_sg2_1791 v0 v1 t0 t7 t8 fr, f_s_DrawReplaceFactor_sg2_1791 v0 v1 t0 t7 t8 fr, f_s_DrawReplaceFactor_sg2_3711 v0 v1 t0 t7 t8 fr, f_s_DrawReplaceFactor_sg2_3711 v0 v1 t0 t7 t8 fr, f_s_DrawReplaceFactor_sg2_3711 v0 v1 t0 t7 t8 fr, f_s_DrawReplaceFactor_sg2_1023 v0 v1 t0 t7 t8 fr, f_s_DrawReplaceFactor_sg2_2043 v0 v1 t0 t7 t8 fr, f_s_DrawReplaceFactor_sg2_1791 v0 v1 t0 t7 t8 fr, f_s_DrawReplaceFactor_sg2_2043 v0 v1 t0 t7 t8 fr, f_s_DrawReplaceFactor_sg2_1023 v0 v1 t0 t7 t8 fr, f_s_DrawReplaceFactor_sg2_2047 v0 v1 t0 t7 t8 fr, f_s_DrawReplaceFactor_sg2_2047 v0 v1 t0 t7 t8 fr, f_s_DrawReplaceFactor_sg2_3839 v0 v1 t0 t7 t8 fr, f_s_DrawReplaceFactor_sg2_3839 v0 v1 t0 t7 t8 fr, f_s_DrawReplaceFactor_sg2_2047 v0 v1 t0 t7 t8 fr, f_s_DrawReplaceFactor_sg2_4095 v0 v1 t0 t7 t8 fr, f_s_DrawReplaceFactor_sg2_4095 v0 v1 t0 t7 t8 fr, f_s_DrawReplaceFactor_sg2_8191 v0 v1 t0 t7 t8 fr]
theorem f_s_DrawReplaceFactor_dLg2 (v0 : List Sc) (v1 : List Sc) (t0 : List Sc) (t7 : Int) (t8 : Int) : edgeL E0 f_s_DrawReplaceFactor_M H0 f_s_DrawReplaceFactor_F (opsAt (bodyOf Try.f17 100002)) f_s_DrawReplaceFactor_Dg2 (f_s_DrawReplaceFactor_frg2 v0 v1 t0 t7 t8) = f_s_DrawReplaceFactor_Eg2 v0 v1 t0 t7 t8 (f_s_DrawReplaceFactor_frg2 v0 v1 t0 t7 t8) := by kernel_rfl
theorem f_s_DrawReplaceFactor_dRg2 (v0 : List Sc) (v1 : List Sc) (t0 : List Sc) (t7 : Int) (t8 : Int) : edgeR E0 f_s_DrawReplaceFactor_M H0 f_s_DrawReplaceFactor_F (opsAt (bodyOf Try.f17 100002)) f_s_DrawReplaceFactor_Dg2 (f_s_DrawReplaceFactor_frg2 v0 v1 t0 t7 t8) = f_s_DrawReplaceFactor_Eg2 v0 v1 t0 t7 t8 (f_s_DrawReplaceFactor_frg2 v0 v1 t0 t7 t8) := by kernel_rfl
theorem f_s_DrawReplaceFactor_dg2 (v0 : List Sc) (v1 : List Sc) (t0 : List Sc) (t7 : Int) (t8 : Int) : edgeL E0 f_s_DrawReplaceFactor_M H0 f_s_DrawReplaceFactor_F (opsAt (bodyOf Try.f17 100002)) f_s_DrawReplaceFactor_Dg2 (f_s_DrawReplaceFactor_frg2 v0 v1 t0 t7 t8) = edgeR E0 f_s_DrawReplaceFactor_M H0 f_s_DrawReplaceFactor_F (opsAt (bodyOf Try.f17 100002)) f_s_DrawReplaceFactor_Dg2 (f_s_DrawReplaceFactor_frg2 v0 v1 t0 t7 t8) := (f_s_DrawReplaceFactor_dLg2 v0 v1 t0 t7 t8).trans (f_s_DrawReplaceFactor_dRg2 v0 v1 t0 t7 t8).symm
theorem f_s_DrawReplaceFactor_eg2 (v0 : List Sc) (v1 : List Sc) (t0 : List Sc) (t7 : Int) (t8 : Int) : goL E0 f_s_DrawReplaceFactor_M H0 f_s_DrawReplaceFactor_F (opsAt (bodyOf Try.f17 100002)) (Array.replicate (opsAt (bodyOf Try.f17 100002)).size true) (opsAt (bodyOf Try.f17 100002)).toList 0 (f_s_DrawReplaceFactor_frg2 v0 v1 t0 t7 t8) (fun s => some (X.norm, clear (klOf f_s_DrawReplaceFactor_F 100002).2.1 s)) = f_s_DrawReplaceFactor_g2_k v0 v1 t0 t7 t8 (fun e => some (f_s_DrawReplaceFactor_xg2 v0 v1 t0 t7 t8 e)) := by kernel_rfl
theorem f_s_DrawReplaceFactor_lg2 (v0 : List Sc) (v1 : List Sc) (t0 : List Sc) (t7 : Int) (t8 : Int) (r : Int) (h : f_s_DrawReplaceFactor_g2 v0 v1 t0 t7 t8 = some r) : LS Try.prog f_s_DrawReplaceFactor_F (bodyOf Try.f17 100002) (f_s_DrawReplaceFactor_frg2 v0 v1 t0 t7 t8) (f_s_DrawReplaceFactor_xg2 v0 v1 t0 t7 t8 r) :=
  region_true (S := Unit) (id := 2) (G := fun _ => f_s_DrawReplaceFactor_g2 v0 v1 t0 t7 t8) (Gk := fun _ k => f_s_DrawReplaceFactor_g2_k v0 v1 t0 t7 t8 k) (fr := fun _ => f_s_DrawReplaceFactor_frg2 v0 v1 t0 t7 t8) (f1 := fun e => f_s_DrawReplaceFactor_xg2 v0 v1 t0 t7 t8 e) E0ok f_s_DrawReplaceFactor_Mt f_s_DrawReplaceFactor_bg2 f_s_DrawReplaceFactor_cg2 (fun _ => f_s_DrawReplaceFactor_dg2 v0 v1 t0 t7 t8) (fun _ => rfl) (fun _ => f_s_DrawReplaceFactor_eg2 v0 v1 t0 t7 t8) (fun _ k => f_s_DrawReplaceFactor_pg2 v0 v1 t0 t7 t8 k) () r h
def f_s_DrawReplaceFactor_tg2 (σ : List AV) : Option (Bool × Bool × (X × List AV) × (X × List AV)) := match dec f_s_DrawReplaceFactor_hg2 σ with
  | some [.l v0, .l v1, .l t0, .i t7, .i t8] => some ((f_s_DrawReplaceFactor_g2 v0 v1 t0 t7 t8).isSome, true, f_s_DrawReplaceFactor_xg2 v0 v1 t0 t7 t8 ((f_s_DrawReplaceFactor_g2 v0 v1 t0 t7 t8).getD 0), (.ret, []))
  | _ => none
theorem f_s_DrawReplaceFactor_ttg2 : TTrue Try.prog f_s_DrawReplaceFactor_F Try.f17 100002 f_s_DrawReplaceFactor_tg2 := by
  intro σ p r r' h
  unfold f_s_DrawReplaceFactor_tg2 at h
  split at h
  · rename_i hd
    rw [← dec_enc hd]
    exact rowR (f_s_DrawReplaceFactor_lg2 _ _ _ _ _) h
  · cases h
theorem f_s_DrawReplaceFactor_p {R : Type} (code0 : List Sc) (kR : List Sc × Int × Int × Int → Option R) : f_s_DrawReplaceFactor_k code0 kR = (f_s_DrawReplaceFactor_k code0 some).bind kR := by
  simp only [f_s_DrawReplaceFactor_k, boB, someB]
theorem f_s_DrawReplaceFactor_e (code0 : List Sc) : runFn E0 f_s_DrawReplaceFactor_M H0 f_s_DrawReplaceFactor_F (asL (addL 100002 f_s_DrawReplaceFactor_tg2 (noL))) Try.f17 (f_s_DrawReplaceFactor_a code0) (f_s_DrawReplaceFactor_i code0) = f_s_DrawReplaceFactor_k code0 (fun r => some (f_s_DrawReplaceFactor_en r)) := by kernel_rfl
theorem f_s_DrawReplaceFactor_ok (code0 : List Sc) (r : List Sc × Int × Int × Int) (h : f_s_DrawReplaceFactor code0 = some r) : CS Try.prog 17 (f_s_DrawReplaceFactor_a code0) (f_s_DrawReplaceFactor_i code0) (f_s_DrawReplaceFactor_en r).1 (f_s_DrawReplaceFactor_en r).2 :=
  fn_true (Gk := fun k => f_s_DrawReplaceFactor_k code0 k) (en := f_s_DrawReplaceFactor_en) Try.func17 E0ok f_s_DrawReplaceFactor_Mt (addL_true f_s_DrawReplaceFactor_ttg2 (noL_true)) f_s_DrawReplaceFactor_o (f_s_DrawReplaceFactor_e code0) (f_s_DrawReplaceFactor_p code0) h
def f_s_DrawReplaceFactor_c : CRow := fun args inh => match dec2 [.p .sl] [] args inh with
  | some ([.l code0], []) => some ((f_s_DrawReplaceFactor code0).isSome, (f_s_DrawReplaceFactor_en ((f_s_DrawReplaceFactor code0).getD ([], 0, 0, 0))).1, (f_s_DrawReplaceFactor_en ((f_s_DrawReplaceFactor code0).getD ([], 0, 0, 0))).2)
  | _ => none
theorem f_s_DrawReplaceFactor_cc : CTrue Try.prog 17 f_s_DrawReplaceFactor_c := by
  intro args inh rs out h
  unfold f_s_DrawReplaceFactor_c at h
  split at h
  · rename_i hd
    obtain ⟨h1, h2⟩ := dec2_enc hd
    rw [← h1, ← h2]
    exact rowC (f_s_DrawReplaceFactor_ok _) h
  · cases h

def f_i_Group_times_F : Fi := { nv := 0, nc := 0, m := 0, vt := [], kl := [(0, ([0, 2, 4, 5, 6, 8, 9, 10, 11, 12, 13, 14, 17, 18, 19, 20, 21, 22, 23], [0, 1, 2, 3, 4, 5, 6, 8, 9, 10, 11, 12, 13, 14, 15, 16, 17, 18, 19, 20, 21, 22, 23], [0, 1, 2, 3, 4, 5, 7, 8, 9, 10, 11, 12, 13, 14, 15, 16, 17, 18, 19, 20, 21, 22, 23]))], sk := [], mvs := [], fz := [] }
def f_i_Group_times_a (g0 : List Sc) (x1 : Int) (n2 : Int) : List AV := enc [.p .gr, .p (.int .i64), .p (.int .i64)] [.l g0, .i x1, .i n2]
def f_i_Group_times_i (g0 : List Sc) (x1 : Int) (n2 : Int) : List AV := enc [] []
def f_i_Group_times_en (r : Int) : List AV × List AV := (enc [.p (.int .i64)] [.i r], enc [] [])
def f_i_Group_times_M : Calling := addC 74 f_i_Group_negate_c (addC 73 f_i_Group_add_c (noC))
theorem f_i_Group_times_Mt : CallOk Try.prog (f_i_Group_times_M) := addC_true f_i_Group_negate_cc (addC_true f_i_Group_add_cc (noC_true))
theorem f_i_Group_times_o : loopsOnce Try.f63 = true := by kernel_rfl
def f_i_Group_times_h0 : List Sh := [.u, .p (.int .i64), .u, .p .el, .u, .u, .u, .p (.int .i64), .u, .u, .u, .u, .u, .u, .u, .p (.int .i64), .p (.int .i64), .u, .u, .u, .u, .u, .u, .u]
def f_i_Group_times_fr0 (x1 : Int) (g3 : List Sc) (t15 : Int) (s : Int × Int) : List AV := enc f_i_Group_times_h0 [.i x1, .l g3, .i s.1, .i t15, .i s.2]
def f_i_Group_times_g0_1 : List Sh := [.u, .u, .u, .u, .u, .u, .u, .p (.int .i64), .u, .u, .u, .u, .u, .u, .u, .u, .u, .u, .u, .u, .u, .u, .u, .u]
def f_i_Group_times_x0_1 (x1 : Int) (g3 : List Sc) (t15 : Int) (e : Int) : X × List AV := (.out 0, enc f_i_Group_times_g0_1 [.i e])
def f_i_Group_times_x0_2 (x1 : Int) (g3 : List Sc) (t15 : Int) (_e : Unit) : X × List AV := (.ret, [])
theorem f_i_Group_times_p0 {R : Type} (x1 : Int) (g3 : List Sc) (t15 : Int) (s : Int × Int) (kN : Int × Int → Option R) (kA : Int → Option R) (kB : Unit → Option R) : f_i_Group_times_k0 x1 g3 t15 s.1 s.2 kN kA = (f_i_Group_times_r0 x1 g3 t15 s).bind (Ro.el kN kA kB) := by
  simp only [f_i_Group_times_k0, f_i_Group_times_r0, brB, boB, someB, Ro.el]
theorem f_i_Group_times_e0 (x1 : Int) (g3 : List Sc) (t15 : Int) (s : Int × Int) : EC E0 f_i_Group_times_M H0 f_i_Group_times_F (asL (noL)) 0 (bodyOf Try.f63 0) (f_i_Group_times_fr0 x1 g3 t15 s) (done (klOf f_i_Group_times_F 0)) = f_i_Group_times_k0 x1 g3 t15 s.1 s.2 (fun s => some (.norm, f_i_Group_times_fr0 x1 g3 t15 s)) (fun e => some (f_i_Group_times_x0_1 x1 g3 t15 e)) := by kernel_rfl
theorem f_i_Group_times_l0 (x1 : Int) (g3 : List Sc) (t15 : Int) : ∀ s r, loopL (f_i_Group_times_r0 x1 g3 t15) s = some r → LS Try.prog f_i_Group_times_F (bodyOf Try.f63 0) (f_i_Group_times_fr0 x1 g3 t15 s) (enX (f_i_Group_times_x0_1 x1 g3 t15) (f_i_Group_times_x0_2 x1 g3 t15) r) :=
  loop_true E0ok f_i_Group_times_Mt (noL_true) f_i_Group_times_o (fun _ h => by cases h) (fun _ h => by cases h) (fun s => (f_i_Group_times_e0 x1 g3 t15 s).trans (f_i_Group_times_p0 x1 g3 t15 s _ _ (fun e => some (f_i_Group_times_x0_2 x1 g3 t15 e))))
def f_i_Group_times_t0 (σ : List AV) : Option (Bool × Bool × (X × List AV) × (X × List AV)) := match dec f_i_Group_times_h0 σ with
  | some [.i x1, .l g3, .i sum7, .i t15, .i t16] => some (isOne (loopL (f_i_Group_times_r0 x1 g3 t15) (sum7, t16)), true, f_i_Group_times_x0_1 x1 g3 t15 (getOne 0 (loopL (f_i_Group_times_r0 x1 g3 t15) (sum7, t16))), (.ret, []))
  | _ => none
theorem f_i_Group_times_tt0 : TTrue Try.prog f_i_Group_times_F Try.f63 0 (f_i_Group_times_t0) := by
  intro σ p r r' h
  unfold f_i_Group_times_t0 at h
  split at h
  · rename_i hd
    rw [← dec_enc hd]
    exact row1 (f_i_Group_times_l0 _ _ _ _) h
  · cases h
theorem f_i_Group_times_p {R : Type} (g0 : List Sc) (x1 : Int) (n2 : Int) (kR : Int → Option R) : f_i_Group_times_k g0 x1 n2 kR = (f_i_Group_times_k g0 x1 n2 some).bind kR := by
  simp only [f_i_Group_times_k, brB, boB, bl1B, someB]
theorem f_i_Group_times_e (g0 : List Sc) (x1 : Int) (n2 : Int) : runFn E0 f_i_Group_times_M H0 f_i_Group_times_F (asL (addL 0 (f_i_Group_times_t0) (noL))) Try.f63 (f_i_Group_times_a g0 x1 n2) (f_i_Group_times_i g0 x1 n2) = f_i_Group_times_k g0 x1 n2 (fun r => some (f_i_Group_times_en r)) := by kernel_rfl
theorem f_i_Group_times_ok (g0 : List Sc) (x1 : Int) (n2 : Int) (r : Int) (h : f_i_Group_times g0 x1 n2 = some r) : CS Try.prog 63 (f_i_Group_times_a g0 x1 n2) (f_i_Group_times_i g0 x1 n2) (f_i_Group_times_en r).1 (f_i_Group_times_en r).2 :=
  fn_true (Gk := fun k => f_i_Group_times_k g0 x1 n2 k) (en := f_i_Group_times_en) Try.func63 E0ok f_i_Group_times_Mt (addL_true (f_i_Group_times_tt0) (noL_true)) f_i_Group_times_o (f_i_Group_times_e g0 x1 n2) (f_i_Group_times_p g0 x1 n2) h
def f_i_Group_times_c : CRow := fun args inh => match dec2 [.p .gr, .p (.int .i64), .p (.int .i64)] [] args inh with
  | some ([.l g0, .i x1, .i n2], []) => some ((f_i_Group_times g0 x1 n2).isSome, (f_i_Group_times_en ((f_i_Group_times g0 x1 n2).getD 0)).1, (f_i_Group_times_en ((f_i_Group_times g0 x1 n2).getD 0)).2)
  | _ => none
theorem f_i_Group_times_cc : CTrue Try.prog 63 f_i_Group_times_c := by
  intro args inh rs out h
  unfold f_i_Group_times_c at h
  split at h
  · rename_i hd
    obtain ⟨h1, h2⟩ := dec2_enc hd
    rw [← h1, ← h2]
    exact rowC (f_i_Group_times_ok _ _ _) h
  · cases h

def f_i_DilateSet_F : Fi := { nv := 0, nc := 0, m := 0, vt := [], kl := [(0, ([0, 1, 4, 5, 6, 8, 9, 10, 11, 12, 13, 14, 15, 16, 17, 18, 19, 23, 24, 25, 26, 27, 28, 29, 30, 31, 32, 33, 34], [0, 1, 2, 3, 4, 5, 6, 8, 9, 10, 11, 12, 13, 14, 15, 16, 17, 18, 19, 20, 21, 22, 23, 24, 25, 26, 27, 28, 29, 30, 31, 32, 33, 34], [0, 1, 2, 3, 4, 5, 7, 8, 9, 10, 11, 12, 13, 14, 15, 16, 17, 18, 19, 20, 21, 22, 23, 24, 25, 26, 27, 28, 29, 30, 31, 32, 33, 34]))], sk := [], mvs := [], fz := [] }
def f_i_DilateSet_a (g0 : List Sc) (a1 : Int) (n2 : Int) : List AV := enc [.p .gr, .p (.int .i64), .p (.int .i64)] [.l g0, .i a1, .i n2]
def f_i_DilateSet_i (g0 : List Sc) (a1 : Int) (n2 : Int) : List AV := enc [] []
def f_i_DilateSet_en (r : Int) : List AV × List AV := (enc [.p (.int .i64)] [.i r], enc [] [])
def f_i_DilateSet_M : Calling := addC 28 f_i_IsSet_c (addC 62 f_i_within_c (addC 52 f_i_members_c (addC 63 f_i_Group_times_c (noC))))
theorem f_i_DilateSet_Mt : CallOk Try.prog (f_i_DilateSet_M) := addC_true f_i_IsSet_cc (addC_true f_i_within_cc (addC_true f_i_members_cc (addC_true f_i_Group_times_cc (noC_true))))
theorem f_i_DilateSet_o : loopsOnce Try.f41 = true := by kernel_rfl
def f_i_DilateSet_h0 : List Sh := [.u, .u, .p (.int .i64), .p .el, .u, .u, .u, .p (.int .i64), .u, .u, .u, .u, .u, .u, .u, .u, .u, .u, .u, .u, .own 3, .p (.int .i64), .p (.int .i64), .u, .u, .u, .u, .u, .u, .u, .u, .u, .u, .u, .u]
def f_i_DilateSet_fr0 (n2 : Int) (g3 : List Sc) (t21 : Int) (s : Int × List Sc × Int) : List AV := enc f_i_DilateSet_h0 [.i n2, .l g3, .i s.1, .l s.2.1, .i t21, .i s.2.2]
def f_i_DilateSet_g0_1 : List Sh := [.u, .u, .u, .u, .u, .u, .u, .p (.int .i64), .u, .u, .u, .u, .u, .u, .u, .u, .u, .u, .u, .u, .u, .u, .u, .u, .u, .u, .u, .u, .u, .u, .u, .u, .u, .u, .u]
def f_i_DilateSet_x0_1 (n2 : Int) (g3 : List Sc) (t21 : Int) (e : Int) : X × List AV := (.out 0, enc f_i_DilateSet_g0_1 [.i e])
def f_i_DilateSet_x0_2 (n2 : Int) (g3 : List Sc) (t21 : Int) (_e : Unit) : X × List AV := (.ret, [])
theorem f_i_DilateSet_p0 {R : Type} (n2 : Int) (g3 : List Sc) (t21 : Int) (s : Int × List Sc × Int) (kN : Int × List Sc × Int → Option R) (kA : Int → Option R) (kB : Unit → Option R) : f_i_DilateSet_k0 n2 g3 t21 s.1 s.2.1 s.2.2 kN kA = (f_i_DilateSet_r0 n2 g3 t21 s).bind (Ro.el kN kA kB) := by
  simp only [f_i_DilateSet_k0, f_i_DilateSet_r0, brB, boB, someB, noneB, Ro.el]
theorem f_i_DilateSet_e0 (n2 : Int) (g3 : List Sc) (t21 : Int) (s : Int × List Sc × Int) : EC E0 f_i_DilateSet_M H0 f_i_DilateSet_F (asL (noL)) 0 (bodyOf Try.f41 0) (f_i_DilateSet_fr0 n2 g3 t21 s) (done (klOf f_i_DilateSet_F 0)) = f_i_DilateSet_k0 n2 g3 t21 s.1 s.2.1 s.2.2 (fun s => some (.norm, f_i_DilateSet_fr0 n2 g3 t21 s)) (fun e => some (f_i_DilateSet_x0_1 n2 g3 t21 e)) := by kernel_rfl
theorem f_i_DilateSet_l0 (n2 : Int) (g3 : List Sc) (t21 : Int) : ∀ s r, loopL (f_i_DilateSet_r0 n2 g3 t21) s = some r → LS Try.prog f_i_DilateSet_F (bodyOf Try.f41 0) (f_i_DilateSet_fr0 n2 g3 t21 s) (enX (f_i_DilateSet_x0_1 n2 g3 t21) (f_i_DilateSet_x0_2 n2 g3 t21) r) :=
  loop_true E0ok f_i_DilateSet_Mt (noL_true) f_i_DilateSet_o (fun _ h => by cases h) (fun _ h => by cases h) (fun s => (f_i_DilateSet_e0 n2 g3 t21 s).trans (f_i_DilateSet_p0 n2 g3 t21 s _ _ (fun e => some (f_i_DilateSet_x0_2 n2 g3 t21 e))))
def f_i_DilateSet_t0 (σ : List AV) : Option (Bool × Bool × (X × List AV) × (X × List AV)) := match dec f_i_DilateSet_h0 σ with
  | some [.i n2, .l g3, .i out7, .l t20, .i t21, .i t22] => some (isOne (loopL (f_i_DilateSet_r0 n2 g3 t21) (out7, t20, t22)), true, f_i_DilateSet_x0_1 n2 g3 t21 (getOne 0 (loopL (f_i_DilateSet_r0 n2 g3 t21) (out7, t20, t22))), (.ret, []))
  | _ => none
theorem f_i_DilateSet_tt0 : TTrue Try.prog f_i_DilateSet_F Try.f41 0 (f_i_DilateSet_t0) := by
  intro σ p r r' h
  unfold f_i_DilateSet_t0 at h
  split at h
  · rename_i hd
    rw [← dec_enc hd]
    exact row1 (f_i_DilateSet_l0 _ _ _ _) h
  · cases h
theorem f_i_DilateSet_p {R : Type} (g0 : List Sc) (a1 : Int) (n2 : Int) (kR : Int → Option R) : f_i_DilateSet_k g0 a1 n2 kR = (f_i_DilateSet_k g0 a1 n2 some).bind kR := by
  simp only [f_i_DilateSet_k, brB, boB, bl1B, someB]
theorem f_i_DilateSet_e (g0 : List Sc) (a1 : Int) (n2 : Int) : runFn E0 f_i_DilateSet_M H0 f_i_DilateSet_F (asL (addL 0 (f_i_DilateSet_t0) (noL))) Try.f41 (f_i_DilateSet_a g0 a1 n2) (f_i_DilateSet_i g0 a1 n2) = f_i_DilateSet_k g0 a1 n2 (fun r => some (f_i_DilateSet_en r)) := by kernel_rfl
theorem f_i_DilateSet_ok (g0 : List Sc) (a1 : Int) (n2 : Int) (r : Int) (h : f_i_DilateSet g0 a1 n2 = some r) : CS Try.prog 41 (f_i_DilateSet_a g0 a1 n2) (f_i_DilateSet_i g0 a1 n2) (f_i_DilateSet_en r).1 (f_i_DilateSet_en r).2 :=
  fn_true (Gk := fun k => f_i_DilateSet_k g0 a1 n2 k) (en := f_i_DilateSet_en) Try.func41 E0ok f_i_DilateSet_Mt (addL_true (f_i_DilateSet_tt0) (noL_true)) f_i_DilateSet_o (f_i_DilateSet_e g0 a1 n2) (f_i_DilateSet_p g0 a1 n2) h
def f_i_DilateSet_c : CRow := fun args inh => match dec2 [.p .gr, .p (.int .i64), .p (.int .i64)] [] args inh with
  | some ([.l g0, .i a1, .i n2], []) => some ((f_i_DilateSet g0 a1 n2).isSome, (f_i_DilateSet_en ((f_i_DilateSet g0 a1 n2).getD 0)).1, (f_i_DilateSet_en ((f_i_DilateSet g0 a1 n2).getD 0)).2)
  | _ => none
theorem f_i_DilateSet_cc : CTrue Try.prog 41 f_i_DilateSet_c := by
  intro args inh rs out h
  unfold f_i_DilateSet_c at h
  split at h
  · rename_i hd
    obtain ⟨h1, h2⟩ := dec2_enc hd
    rw [← h1, ← h2]
    exact rowC (f_i_DilateSet_ok _ _ _) h
  · cases h

def f_i_ReplaceFactor_F : Fi := { nv := 0, nc := 0, m := 0, vt := [], kl := [], sk := [], mvs := [], fz := [] }
def f_i_ReplaceFactor_a (g0 : List Sc) (a1 : Int) (b2 : Int) (n3 : Int) : List AV := enc [.p .gr, .p (.int .i64), .p (.int .i64), .p (.int .i64)] [.l g0, .i a1, .i b2, .i n3]
def f_i_ReplaceFactor_i (g0 : List Sc) (a1 : Int) (b2 : Int) (n3 : Int) : List AV := enc [] []
def f_i_ReplaceFactor_en (r : Bool) : List AV × List AV := (enc [.p .boo] [.b r], enc [] [])
def f_i_ReplaceFactor_M : Calling := addC 41 f_i_DilateSet_c (addC 13 f_i_IsTiling_c (addC 38 f_i_bits_c (noC)))
theorem f_i_ReplaceFactor_Mt : CallOk Try.prog (f_i_ReplaceFactor_M) := addC_true f_i_DilateSet_cc (addC_true f_i_IsTiling_cc (addC_true f_i_bits_cc (noC_true)))
theorem f_i_ReplaceFactor_o : loopsOnce Try.f18 = true := by kernel_rfl
theorem f_i_ReplaceFactor_p {R : Type} (g0 : List Sc) (a1 : Int) (b2 : Int) (n3 : Int) (kR : Bool → Option R) : f_i_ReplaceFactor_k g0 a1 b2 n3 kR = (f_i_ReplaceFactor_k g0 a1 b2 n3 some).bind kR := by
  simp only [f_i_ReplaceFactor_k, brB, boB, someB]
theorem f_i_ReplaceFactor_e (g0 : List Sc) (a1 : Int) (b2 : Int) (n3 : Int) : runFn E0 f_i_ReplaceFactor_M H0 f_i_ReplaceFactor_F (asL (noL)) Try.f18 (f_i_ReplaceFactor_a g0 a1 b2 n3) (f_i_ReplaceFactor_i g0 a1 b2 n3) = f_i_ReplaceFactor_k g0 a1 b2 n3 (fun r => some (f_i_ReplaceFactor_en r)) := by kernel_rfl
theorem f_i_ReplaceFactor_ok (g0 : List Sc) (a1 : Int) (b2 : Int) (n3 : Int) (r : Bool) (h : f_i_ReplaceFactor g0 a1 b2 n3 = some r) : CS Try.prog 18 (f_i_ReplaceFactor_a g0 a1 b2 n3) (f_i_ReplaceFactor_i g0 a1 b2 n3) (f_i_ReplaceFactor_en r).1 (f_i_ReplaceFactor_en r).2 :=
  fn_true (Gk := fun k => f_i_ReplaceFactor_k g0 a1 b2 n3 k) (en := f_i_ReplaceFactor_en) Try.func18 E0ok f_i_ReplaceFactor_Mt (noL_true) f_i_ReplaceFactor_o (f_i_ReplaceFactor_e g0 a1 b2 n3) (f_i_ReplaceFactor_p g0 a1 b2 n3) h
def f_i_ReplaceFactor_c : CRow := fun args inh => match dec2 [.p .gr, .p (.int .i64), .p (.int .i64), .p (.int .i64)] [] args inh with
  | some ([.l g0, .i a1, .i b2, .i n3], []) => some ((f_i_ReplaceFactor g0 a1 b2 n3).isSome, (f_i_ReplaceFactor_en ((f_i_ReplaceFactor g0 a1 b2 n3).getD false)).1, (f_i_ReplaceFactor_en ((f_i_ReplaceFactor g0 a1 b2 n3).getD false)).2)
  | _ => none
theorem f_i_ReplaceFactor_cc : CTrue Try.prog 18 f_i_ReplaceFactor_c := by
  intro args inh rs out h
  unfold f_i_ReplaceFactor_c at h
  split at h
  · rename_i hd
    obtain ⟨h1, h2⟩ := dec2_enc hd
    rw [← h1, ← h2]
    exact rowC (f_i_ReplaceFactor_ok _ _ _ _) h
  · cases h

def f_s_l2Is_F : Fi := { nv := 0, nc := 0, m := 0, vt := [], kl := [], sk := [], mvs := [], fz := [] }
def f_s_l2Is_a (g0 : List Sc) (x1 : Int) : List AV := enc [.p .gr, .p (.int .i64)] [.l g0, .i x1]
def f_s_l2Is_i (g0 : List Sc) (x1 : Int) : List AV := enc [] []
def f_s_l2Is_en (r : Bool) : List AV × List AV := (enc [.p .boo] [.b r], enc [] [])
def f_s_l2Is_M : Calling := addC 15 f_s_OrderOf_c (noC)
theorem f_s_l2Is_Mt : CallOk Try.prog (f_s_l2Is_M) := addC_true f_s_OrderOf_cc (noC_true)
theorem f_s_l2Is_o : loopsOnce Try.f86 = true := by kernel_rfl
theorem f_s_l2Is_p {R : Type} (g0 : List Sc) (x1 : Int) (kR : Bool → Option R) : f_s_l2Is_k g0 x1 kR = (f_s_l2Is_k g0 x1 some).bind kR := by
  simp only [f_s_l2Is_k, brB, boB, someB]
theorem f_s_l2Is_e (g0 : List Sc) (x1 : Int) : runFn E0 f_s_l2Is_M H0 f_s_l2Is_F (asL (noL)) Try.f86 (f_s_l2Is_a g0 x1) (f_s_l2Is_i g0 x1) = f_s_l2Is_k g0 x1 (fun r => some (f_s_l2Is_en r)) := by kernel_rfl
theorem f_s_l2Is_ok (g0 : List Sc) (x1 : Int) (r : Bool) (h : f_s_l2Is g0 x1 = some r) : CS Try.prog 86 (f_s_l2Is_a g0 x1) (f_s_l2Is_i g0 x1) (f_s_l2Is_en r).1 (f_s_l2Is_en r).2 :=
  fn_true (Gk := fun k => f_s_l2Is_k g0 x1 k) (en := f_s_l2Is_en) Try.func86 E0ok f_s_l2Is_Mt (noL_true) f_s_l2Is_o (f_s_l2Is_e g0 x1) (f_s_l2Is_p g0 x1) h
def f_s_l2Is_c : CRow := fun args inh => match dec2 [.p .gr, .p (.int .i64)] [] args inh with
  | some ([.l g0, .i x1], []) => some ((f_s_l2Is g0 x1).isSome, (f_s_l2Is_en ((f_s_l2Is g0 x1).getD false)).1, (f_s_l2Is_en ((f_s_l2Is g0 x1).getD false)).2)
  | _ => none
theorem f_s_l2Is_cc : CTrue Try.prog 86 f_s_l2Is_c := by
  intro args inh rs out h
  unfold f_s_l2Is_c at h
  split at h
  · rename_i hd
    obtain ⟨h1, h2⟩ := dec2_enc hd
    rw [← h1, ← h2]
    exact rowC (f_s_l2Is_ok _ _) h
  · cases h

def f_s_MultipleOf_F : Fi := { nv := 0, nc := 0, m := 0, vt := [], kl := [(0, ([0, 4, 5, 6, 9, 10, 11, 12, 13, 14, 15, 16, 17, 18, 19, 20, 21, 22, 23, 24, 25, 26, 27, 28, 29, 30, 31, 32, 33, 34], [0, 1, 2, 3, 4, 5, 6, 8, 9, 10, 11, 12, 13, 14, 15, 16, 17, 18, 19, 20, 21, 22, 23, 24, 25, 26, 27, 28, 29, 30, 31, 32, 33, 34], [0, 1, 2, 3, 4, 5, 7, 8, 9, 10, 11, 12, 13, 14, 15, 16, 17, 18, 19, 20, 21, 22, 23, 24, 25, 26, 27, 28, 29, 30, 31, 32, 33, 34]))], sk := [], mvs := [], fz := [] }
def f_s_MultipleOf_a (g0 : List Sc) (x1 : Int) (n2 : Int) : List AV := enc [.p .gr, .p (.int .i64), .p (.int .i64)] [.l g0, .i x1, .i n2]
def f_s_MultipleOf_i (g0 : List Sc) (x1 : Int) (n2 : Int) : List AV := enc [] []
def f_s_MultipleOf_en (r : Int) : List AV × List AV := (enc [.p (.int .i64)] [.i r], enc [] [])
def f_s_MultipleOf_M : Calling := addC 86 f_s_l2Is_c (addC 57 f_s_l1In_c (addC 60 f_s_l2Negate_c (addC 59 f_s_l2Add_c (noC))))
theorem f_s_MultipleOf_Mt : CallOk Try.prog (f_s_MultipleOf_M) := addC_true f_s_l2Is_cc (addC_true f_s_l1In_cc (addC_true f_s_l2Negate_cc (addC_true f_s_l2Add_cc (noC_true))))
theorem f_s_MultipleOf_o : loopsOnce Try.f64 = true := by kernel_rfl
def f_s_MultipleOf_h0 : List Sh := [.u, .p (.int .i64), .p (.int .i64), .p .el, .u, .u, .u, .p (.int .i64), .p (.int .i64), .u, .u, .u, .u, .u, .u, .u, .u, .u, .u, .u, .u, .u, .u, .u, .u, .u, .u, .u, .u, .u, .u, .u, .u, .u, .u]
def f_s_MultipleOf_fr0 (x1 : Int) (n2 : Int) (g3 : List Sc) (s : Int × Int) : List AV := enc f_s_MultipleOf_h0 [.i x1, .i n2, .l g3, .i s.1, .i s.2]
def f_s_MultipleOf_g0_1 : List Sh := [.u, .u, .u, .u, .u, .u, .u, .p (.int .i64), .u, .u, .u, .u, .u, .u, .u, .u, .u, .u, .u, .u, .u, .u, .u, .u, .u, .u, .u, .u, .u, .u, .u, .u, .u, .u, .u]
def f_s_MultipleOf_x0_1 (x1 : Int) (n2 : Int) (g3 : List Sc) (e : Int) : X × List AV := (.out 0, enc f_s_MultipleOf_g0_1 [.i e])
def f_s_MultipleOf_x0_2 (x1 : Int) (n2 : Int) (g3 : List Sc) (_e : Unit) : X × List AV := (.ret, [])
theorem f_s_MultipleOf_p0 {R : Type} (x1 : Int) (n2 : Int) (g3 : List Sc) (s : Int × Int) (kN : Int × Int → Option R) (kA : Int → Option R) (kB : Unit → Option R) : f_s_MultipleOf_k0 x1 n2 g3 s.1 s.2 kN kA = (f_s_MultipleOf_r0 x1 n2 g3 s).bind (Ro.el kN kA kB) := by
  simp only [f_s_MultipleOf_k0, f_s_MultipleOf_r0, brB, boB, someB, Ro.el]
theorem f_s_MultipleOf_e0 (x1 : Int) (n2 : Int) (g3 : List Sc) (s : Int × Int) : EC E0 f_s_MultipleOf_M H0 f_s_MultipleOf_F (asL (noL)) 0 (bodyOf Try.f64 0) (f_s_MultipleOf_fr0 x1 n2 g3 s) (done (klOf f_s_MultipleOf_F 0)) = f_s_MultipleOf_k0 x1 n2 g3 s.1 s.2 (fun s => some (.norm, f_s_MultipleOf_fr0 x1 n2 g3 s)) (fun e => some (f_s_MultipleOf_x0_1 x1 n2 g3 e)) := by kernel_rfl
theorem f_s_MultipleOf_l0 (x1 : Int) (n2 : Int) (g3 : List Sc) : ∀ s r, loopL (f_s_MultipleOf_r0 x1 n2 g3) s = some r → LS Try.prog f_s_MultipleOf_F (bodyOf Try.f64 0) (f_s_MultipleOf_fr0 x1 n2 g3 s) (enX (f_s_MultipleOf_x0_1 x1 n2 g3) (f_s_MultipleOf_x0_2 x1 n2 g3) r) :=
  loop_true E0ok f_s_MultipleOf_Mt (noL_true) f_s_MultipleOf_o (fun _ h => by cases h) (fun _ h => by cases h) (fun s => (f_s_MultipleOf_e0 x1 n2 g3 s).trans (f_s_MultipleOf_p0 x1 n2 g3 s _ _ (fun e => some (f_s_MultipleOf_x0_2 x1 n2 g3 e))))
def f_s_MultipleOf_t0 (σ : List AV) : Option (Bool × Bool × (X × List AV) × (X × List AV)) := match dec f_s_MultipleOf_h0 σ with
  | some [.i x1, .i n2, .l g3, .i z7, .i i8] => some (isOne (loopL (f_s_MultipleOf_r0 x1 n2 g3) (z7, i8)), true, f_s_MultipleOf_x0_1 x1 n2 g3 (getOne 0 (loopL (f_s_MultipleOf_r0 x1 n2 g3) (z7, i8))), (.ret, []))
  | _ => none
theorem f_s_MultipleOf_tt0 : TTrue Try.prog f_s_MultipleOf_F Try.f64 0 (f_s_MultipleOf_t0) := by
  intro σ p r r' h
  unfold f_s_MultipleOf_t0 at h
  split at h
  · rename_i hd
    rw [← dec_enc hd]
    exact row1 (f_s_MultipleOf_l0 _ _ _ _) h
  · cases h
theorem f_s_MultipleOf_p {R : Type} (g0 : List Sc) (x1 : Int) (n2 : Int) (kR : Int → Option R) : f_s_MultipleOf_k g0 x1 n2 kR = (f_s_MultipleOf_k g0 x1 n2 some).bind kR := by
  simp only [f_s_MultipleOf_k, brB, boB, bl1B, someB]
theorem f_s_MultipleOf_e (g0 : List Sc) (x1 : Int) (n2 : Int) : runFn E0 f_s_MultipleOf_M H0 f_s_MultipleOf_F (asL (addL 0 (f_s_MultipleOf_t0) (noL))) Try.f64 (f_s_MultipleOf_a g0 x1 n2) (f_s_MultipleOf_i g0 x1 n2) = f_s_MultipleOf_k g0 x1 n2 (fun r => some (f_s_MultipleOf_en r)) := by kernel_rfl
theorem f_s_MultipleOf_ok (g0 : List Sc) (x1 : Int) (n2 : Int) (r : Int) (h : f_s_MultipleOf g0 x1 n2 = some r) : CS Try.prog 64 (f_s_MultipleOf_a g0 x1 n2) (f_s_MultipleOf_i g0 x1 n2) (f_s_MultipleOf_en r).1 (f_s_MultipleOf_en r).2 :=
  fn_true (Gk := fun k => f_s_MultipleOf_k g0 x1 n2 k) (en := f_s_MultipleOf_en) Try.func64 E0ok f_s_MultipleOf_Mt (addL_true (f_s_MultipleOf_tt0) (noL_true)) f_s_MultipleOf_o (f_s_MultipleOf_e g0 x1 n2) (f_s_MultipleOf_p g0 x1 n2) h
def f_s_MultipleOf_c : CRow := fun args inh => match dec2 [.p .gr, .p (.int .i64), .p (.int .i64)] [] args inh with
  | some ([.l g0, .i x1, .i n2], []) => some ((f_s_MultipleOf g0 x1 n2).isSome, (f_s_MultipleOf_en ((f_s_MultipleOf g0 x1 n2).getD 0)).1, (f_s_MultipleOf_en ((f_s_MultipleOf g0 x1 n2).getD 0)).2)
  | _ => none
theorem f_s_MultipleOf_cc : CTrue Try.prog 64 f_s_MultipleOf_c := by
  intro args inh rs out h
  unfold f_s_MultipleOf_c at h
  split at h
  · rename_i hd
    obtain ⟨h1, h2⟩ := dec2_enc hd
    rw [← h1, ← h2]
    exact rowC (f_s_MultipleOf_ok _ _ _) h
  · cases h

def f_s_DilateSet_F : Fi := { nv := 0, nc := 0, m := 0, vt := [], kl := [(0, ([0, 1, 4, 5, 6, 10, 11, 12, 13, 14, 15, 16, 17, 18, 19, 20, 21, 22, 23, 24, 25, 26, 27, 28, 29, 30, 31, 32, 33, 34, 35, 36, 37], [0, 1, 2, 3, 4, 5, 6, 8, 9, 10, 11, 12, 13, 14, 15, 16, 17, 18, 19, 20, 21, 22, 23, 24, 25, 26, 27, 28, 29, 30, 31, 32, 33, 34, 35, 36, 37], [0, 1, 2, 3, 4, 5, 7, 8, 9, 10, 11, 12, 13, 14, 15, 16, 17, 18, 19, 20, 21, 22, 23, 24, 25, 26, 27, 28, 29, 30, 31, 32, 33, 34, 35, 36, 37]))], sk := [], mvs := [], fz := [] }
def f_s_DilateSet_a (g0 : List Sc) (a1 : Int) (n2 : Int) : List AV := enc [.p .gr, .p (.int .i64), .p (.int .i64)] [.l g0, .i a1, .i n2]
def f_s_DilateSet_i (g0 : List Sc) (a1 : Int) (n2 : Int) : List AV := enc [] []
def f_s_DilateSet_en (r : Int) : List AV × List AV := (enc [.p (.int .i64)] [.i r], enc [] [])
def f_s_DilateSet_M : Calling := addC 31 f_s_IsSet_c (addC 57 f_s_l1In_c (addC 58 f_s_l3List_c (addC 64 f_s_MultipleOf_c (noC))))
theorem f_s_DilateSet_Mt : CallOk Try.prog (f_s_DilateSet_M) := addC_true f_s_IsSet_cc (addC_true f_s_l1In_cc (addC_true f_s_l3List_cc (addC_true f_s_MultipleOf_cc (noC_true))))
theorem f_s_DilateSet_o : loopsOnce Try.f42 = true := by kernel_rfl
def f_s_DilateSet_h0 : List Sh := [.u, .u, .p (.int .i64), .p .el, .u, .u, .u, .p (.int .i64), .own 3, .p (.int .i64), .u, .u, .u, .u, .u, .u, .u, .u, .u, .u, .u, .u, .u, .u, .u, .u, .u, .u, .u, .u, .u, .u, .u, .u, .u, .u, .u, .u]
def f_s_DilateSet_fr0 (n2 : Int) (g3 : List Sc) (s : Int × List Sc × Int) : List AV := enc f_s_DilateSet_h0 [.i n2, .l g3, .i s.1, .l s.2.1, .i s.2.2]
def f_s_DilateSet_g0_1 : List Sh := [.u, .u, .u, .u, .u, .u, .u, .p (.int .i64), .u, .u, .u, .u, .u, .u, .u, .u, .u, .u, .u, .u, .u, .u, .u, .u, .u, .u, .u, .u, .u, .u, .u, .u, .u, .u, .u, .u, .u, .u]
def f_s_DilateSet_x0_1 (n2 : Int) (g3 : List Sc) (e : Int) : X × List AV := (.out 0, enc f_s_DilateSet_g0_1 [.i e])
def f_s_DilateSet_x0_2 (n2 : Int) (g3 : List Sc) (_e : Unit) : X × List AV := (.ret, [])
theorem f_s_DilateSet_p0 {R : Type} (n2 : Int) (g3 : List Sc) (s : Int × List Sc × Int) (kN : Int × List Sc × Int → Option R) (kA : Int → Option R) (kB : Unit → Option R) : f_s_DilateSet_k0 n2 g3 s.1 s.2.1 s.2.2 kN kA = (f_s_DilateSet_r0 n2 g3 s).bind (Ro.el kN kA kB) := by
  simp only [f_s_DilateSet_k0, f_s_DilateSet_r0, brB, boB, someB, noneB, Ro.el]
theorem f_s_DilateSet_e0 (n2 : Int) (g3 : List Sc) (s : Int × List Sc × Int) : EC E0 f_s_DilateSet_M H0 f_s_DilateSet_F (asL (noL)) 0 (bodyOf Try.f42 0) (f_s_DilateSet_fr0 n2 g3 s) (done (klOf f_s_DilateSet_F 0)) = f_s_DilateSet_k0 n2 g3 s.1 s.2.1 s.2.2 (fun s => some (.norm, f_s_DilateSet_fr0 n2 g3 s)) (fun e => some (f_s_DilateSet_x0_1 n2 g3 e)) := by kernel_rfl
theorem f_s_DilateSet_l0 (n2 : Int) (g3 : List Sc) : ∀ s r, loopL (f_s_DilateSet_r0 n2 g3) s = some r → LS Try.prog f_s_DilateSet_F (bodyOf Try.f42 0) (f_s_DilateSet_fr0 n2 g3 s) (enX (f_s_DilateSet_x0_1 n2 g3) (f_s_DilateSet_x0_2 n2 g3) r) :=
  loop_true E0ok f_s_DilateSet_Mt (noL_true) f_s_DilateSet_o (fun _ h => by cases h) (fun _ h => by cases h) (fun s => (f_s_DilateSet_e0 n2 g3 s).trans (f_s_DilateSet_p0 n2 g3 s _ _ (fun e => some (f_s_DilateSet_x0_2 n2 g3 e))))
def f_s_DilateSet_t0 (σ : List AV) : Option (Bool × Bool × (X × List AV) × (X × List AV)) := match dec f_s_DilateSet_h0 σ with
  | some [.i n2, .l g3, .i out7, .l l8, .i i9] => some (isOne (loopL (f_s_DilateSet_r0 n2 g3) (out7, l8, i9)), true, f_s_DilateSet_x0_1 n2 g3 (getOne 0 (loopL (f_s_DilateSet_r0 n2 g3) (out7, l8, i9))), (.ret, []))
  | _ => none
theorem f_s_DilateSet_tt0 : TTrue Try.prog f_s_DilateSet_F Try.f42 0 (f_s_DilateSet_t0) := by
  intro σ p r r' h
  unfold f_s_DilateSet_t0 at h
  split at h
  · rename_i hd
    rw [← dec_enc hd]
    exact row1 (f_s_DilateSet_l0 _ _ _) h
  · cases h
theorem f_s_DilateSet_p {R : Type} (g0 : List Sc) (a1 : Int) (n2 : Int) (kR : Int → Option R) : f_s_DilateSet_k g0 a1 n2 kR = (f_s_DilateSet_k g0 a1 n2 some).bind kR := by
  simp only [f_s_DilateSet_k, brB, boB, bl1B, someB]
theorem f_s_DilateSet_e (g0 : List Sc) (a1 : Int) (n2 : Int) : runFn E0 f_s_DilateSet_M H0 f_s_DilateSet_F (asL (addL 0 (f_s_DilateSet_t0) (noL))) Try.f42 (f_s_DilateSet_a g0 a1 n2) (f_s_DilateSet_i g0 a1 n2) = f_s_DilateSet_k g0 a1 n2 (fun r => some (f_s_DilateSet_en r)) := by kernel_rfl
theorem f_s_DilateSet_ok (g0 : List Sc) (a1 : Int) (n2 : Int) (r : Int) (h : f_s_DilateSet g0 a1 n2 = some r) : CS Try.prog 42 (f_s_DilateSet_a g0 a1 n2) (f_s_DilateSet_i g0 a1 n2) (f_s_DilateSet_en r).1 (f_s_DilateSet_en r).2 :=
  fn_true (Gk := fun k => f_s_DilateSet_k g0 a1 n2 k) (en := f_s_DilateSet_en) Try.func42 E0ok f_s_DilateSet_Mt (addL_true (f_s_DilateSet_tt0) (noL_true)) f_s_DilateSet_o (f_s_DilateSet_e g0 a1 n2) (f_s_DilateSet_p g0 a1 n2) h
def f_s_DilateSet_c : CRow := fun args inh => match dec2 [.p .gr, .p (.int .i64), .p (.int .i64)] [] args inh with
  | some ([.l g0, .i a1, .i n2], []) => some ((f_s_DilateSet g0 a1 n2).isSome, (f_s_DilateSet_en ((f_s_DilateSet g0 a1 n2).getD 0)).1, (f_s_DilateSet_en ((f_s_DilateSet g0 a1 n2).getD 0)).2)
  | _ => none
theorem f_s_DilateSet_cc : CTrue Try.prog 42 f_s_DilateSet_c := by
  intro args inh rs out h
  unfold f_s_DilateSet_c at h
  split at h
  · rename_i hd
    obtain ⟨h1, h2⟩ := dec2_enc hd
    rw [← h1, ← h2]
    exact rowC (f_s_DilateSet_ok _ _ _) h
  · cases h

def f_s_IsDirect_F : Fi := { nv := 0, nc := 0, m := 0, vt := [], kl := [], sk := [], mvs := [], fz := [] }
def f_s_IsDirect_a (g0 : List Sc) (a1 : Int) (b2 : Int) : List AV := enc [.p .gr, .p (.int .i64), .p (.int .i64)] [.l g0, .i a1, .i b2]
def f_s_IsDirect_i (g0 : List Sc) (a1 : Int) (b2 : Int) : List AV := enc [] []
def f_s_IsDirect_en (r : Bool) : List AV × List AV := (enc [.p .boo] [.b r], enc [] [])
def f_s_IsDirect_M : Calling := addC 31 f_s_IsSet_c (addC 43 f_s_l4Sum_c (addC 40 f_s_l3Bits_c (noC)))
theorem f_s_IsDirect_Mt : CallOk Try.prog (f_s_IsDirect_M) := addC_true f_s_IsSet_cc (addC_true f_s_l4Sum_cc (addC_true f_s_l3Bits_cc (noC_true)))
theorem f_s_IsDirect_o : loopsOnce Try.f26 = true := by kernel_rfl
theorem f_s_IsDirect_p {R : Type} (g0 : List Sc) (a1 : Int) (b2 : Int) (kR : Bool → Option R) : f_s_IsDirect_k g0 a1 b2 kR = (f_s_IsDirect_k g0 a1 b2 some).bind kR := by
  simp only [f_s_IsDirect_k, brB, boB, someB]
theorem f_s_IsDirect_e (g0 : List Sc) (a1 : Int) (b2 : Int) : runFn E0 f_s_IsDirect_M H0 f_s_IsDirect_F (asL (noL)) Try.f26 (f_s_IsDirect_a g0 a1 b2) (f_s_IsDirect_i g0 a1 b2) = f_s_IsDirect_k g0 a1 b2 (fun r => some (f_s_IsDirect_en r)) := by kernel_rfl
theorem f_s_IsDirect_ok (g0 : List Sc) (a1 : Int) (b2 : Int) (r : Bool) (h : f_s_IsDirect g0 a1 b2 = some r) : CS Try.prog 26 (f_s_IsDirect_a g0 a1 b2) (f_s_IsDirect_i g0 a1 b2) (f_s_IsDirect_en r).1 (f_s_IsDirect_en r).2 :=
  fn_true (Gk := fun k => f_s_IsDirect_k g0 a1 b2 k) (en := f_s_IsDirect_en) Try.func26 E0ok f_s_IsDirect_Mt (noL_true) f_s_IsDirect_o (f_s_IsDirect_e g0 a1 b2) (f_s_IsDirect_p g0 a1 b2) h
def f_s_IsDirect_c : CRow := fun args inh => match dec2 [.p .gr, .p (.int .i64), .p (.int .i64)] [] args inh with
  | some ([.l g0, .i a1, .i b2], []) => some ((f_s_IsDirect g0 a1 b2).isSome, (f_s_IsDirect_en ((f_s_IsDirect g0 a1 b2).getD false)).1, (f_s_IsDirect_en ((f_s_IsDirect g0 a1 b2).getD false)).2)
  | _ => none
theorem f_s_IsDirect_cc : CTrue Try.prog 26 f_s_IsDirect_c := by
  intro args inh rs out h
  unfold f_s_IsDirect_c at h
  split at h
  · rename_i hd
    obtain ⟨h1, h2⟩ := dec2_enc hd
    rw [← h1, ← h2]
    exact rowC (f_s_IsDirect_ok _ _ _) h
  · cases h

def f_s_IsTiling_F : Fi := { nv := 0, nc := 0, m := 0, vt := [], kl := [], sk := [], mvs := [], fz := [] }
def f_s_IsTiling_a (g0 : List Sc) (a1 : Int) (b2 : Int) : List AV := enc [.p .gr, .p (.int .i64), .p (.int .i64)] [.l g0, .i a1, .i b2]
def f_s_IsTiling_i (g0 : List Sc) (a1 : Int) (b2 : Int) : List AV := enc [] []
def f_s_IsTiling_en (r : Bool) : List AV × List AV := (enc [.p .boo] [.b r], enc [] [])
def f_s_IsTiling_M : Calling := addC 26 f_s_IsDirect_c (addC 43 f_s_l4Sum_c (addC 33 f_s_l2Order_c (noC)))
theorem f_s_IsTiling_Mt : CallOk Try.prog (f_s_IsTiling_M) := addC_true f_s_IsDirect_cc (addC_true f_s_l4Sum_cc (addC_true f_s_l2Order_cc (noC_true)))
theorem f_s_IsTiling_o : loopsOnce Try.f23 = true := by kernel_rfl
theorem f_s_IsTiling_p {R : Type} (g0 : List Sc) (a1 : Int) (b2 : Int) (kR : Bool → Option R) : f_s_IsTiling_k g0 a1 b2 kR = (f_s_IsTiling_k g0 a1 b2 some).bind kR := by
  simp only [f_s_IsTiling_k, brB, boB, someB, noneB]
theorem f_s_IsTiling_e (g0 : List Sc) (a1 : Int) (b2 : Int) : runFn E0 f_s_IsTiling_M H0 f_s_IsTiling_F (asL (noL)) Try.f23 (f_s_IsTiling_a g0 a1 b2) (f_s_IsTiling_i g0 a1 b2) = f_s_IsTiling_k g0 a1 b2 (fun r => some (f_s_IsTiling_en r)) := by kernel_rfl
theorem f_s_IsTiling_ok (g0 : List Sc) (a1 : Int) (b2 : Int) (r : Bool) (h : f_s_IsTiling g0 a1 b2 = some r) : CS Try.prog 23 (f_s_IsTiling_a g0 a1 b2) (f_s_IsTiling_i g0 a1 b2) (f_s_IsTiling_en r).1 (f_s_IsTiling_en r).2 :=
  fn_true (Gk := fun k => f_s_IsTiling_k g0 a1 b2 k) (en := f_s_IsTiling_en) Try.func23 E0ok f_s_IsTiling_Mt (noL_true) f_s_IsTiling_o (f_s_IsTiling_e g0 a1 b2) (f_s_IsTiling_p g0 a1 b2) h
def f_s_IsTiling_c : CRow := fun args inh => match dec2 [.p .gr, .p (.int .i64), .p (.int .i64)] [] args inh with
  | some ([.l g0, .i a1, .i b2], []) => some ((f_s_IsTiling g0 a1 b2).isSome, (f_s_IsTiling_en ((f_s_IsTiling g0 a1 b2).getD false)).1, (f_s_IsTiling_en ((f_s_IsTiling g0 a1 b2).getD false)).2)
  | _ => none
theorem f_s_IsTiling_cc : CTrue Try.prog 23 f_s_IsTiling_c := by
  intro args inh rs out h
  unfold f_s_IsTiling_c at h
  split at h
  · rename_i hd
    obtain ⟨h1, h2⟩ := dec2_enc hd
    rw [← h1, ← h2]
    exact rowC (f_s_IsTiling_ok _ _ _) h
  · cases h

def f_s_ReplaceFactor_F : Fi := { nv := 0, nc := 0, m := 0, vt := [], kl := [], sk := [], mvs := [], fz := [] }
def f_s_ReplaceFactor_a (g0 : List Sc) (a1 : Int) (b2 : Int) (n3 : Int) : List AV := enc [.p .gr, .p (.int .i64), .p (.int .i64), .p (.int .i64)] [.l g0, .i a1, .i b2, .i n3]
def f_s_ReplaceFactor_i (g0 : List Sc) (a1 : Int) (b2 : Int) (n3 : Int) : List AV := enc [] []
def f_s_ReplaceFactor_en (r : Bool) : List AV × List AV := (enc [.p .boo] [.b r], enc [] [])
def f_s_ReplaceFactor_M : Calling := addC 42 f_s_DilateSet_c (addC 23 f_s_IsTiling_c (addC 40 f_s_l3Bits_c (noC)))
theorem f_s_ReplaceFactor_Mt : CallOk Try.prog (f_s_ReplaceFactor_M) := addC_true f_s_DilateSet_cc (addC_true f_s_IsTiling_cc (addC_true f_s_l3Bits_cc (noC_true)))
theorem f_s_ReplaceFactor_o : loopsOnce Try.f19 = true := by kernel_rfl
theorem f_s_ReplaceFactor_p {R : Type} (g0 : List Sc) (a1 : Int) (b2 : Int) (n3 : Int) (kR : Bool → Option R) : f_s_ReplaceFactor_k g0 a1 b2 n3 kR = (f_s_ReplaceFactor_k g0 a1 b2 n3 some).bind kR := by
  simp only [f_s_ReplaceFactor_k, brB, boB, someB]
theorem f_s_ReplaceFactor_e (g0 : List Sc) (a1 : Int) (b2 : Int) (n3 : Int) : runFn E0 f_s_ReplaceFactor_M H0 f_s_ReplaceFactor_F (asL (noL)) Try.f19 (f_s_ReplaceFactor_a g0 a1 b2 n3) (f_s_ReplaceFactor_i g0 a1 b2 n3) = f_s_ReplaceFactor_k g0 a1 b2 n3 (fun r => some (f_s_ReplaceFactor_en r)) := by kernel_rfl
theorem f_s_ReplaceFactor_ok (g0 : List Sc) (a1 : Int) (b2 : Int) (n3 : Int) (r : Bool) (h : f_s_ReplaceFactor g0 a1 b2 n3 = some r) : CS Try.prog 19 (f_s_ReplaceFactor_a g0 a1 b2 n3) (f_s_ReplaceFactor_i g0 a1 b2 n3) (f_s_ReplaceFactor_en r).1 (f_s_ReplaceFactor_en r).2 :=
  fn_true (Gk := fun k => f_s_ReplaceFactor_k g0 a1 b2 n3 k) (en := f_s_ReplaceFactor_en) Try.func19 E0ok f_s_ReplaceFactor_Mt (noL_true) f_s_ReplaceFactor_o (f_s_ReplaceFactor_e g0 a1 b2 n3) (f_s_ReplaceFactor_p g0 a1 b2 n3) h
def f_s_ReplaceFactor_c : CRow := fun args inh => match dec2 [.p .gr, .p (.int .i64), .p (.int .i64), .p (.int .i64)] [] args inh with
  | some ([.l g0, .i a1, .i b2, .i n3], []) => some ((f_s_ReplaceFactor g0 a1 b2 n3).isSome, (f_s_ReplaceFactor_en ((f_s_ReplaceFactor g0 a1 b2 n3).getD false)).1, (f_s_ReplaceFactor_en ((f_s_ReplaceFactor g0 a1 b2 n3).getD false)).2)
  | _ => none
theorem f_s_ReplaceFactor_cc : CTrue Try.prog 19 f_s_ReplaceFactor_c := by
  intro args inh rs out h
  unfold f_s_ReplaceFactor_c at h
  split at h
  · rename_i hd
    obtain ⟨h1, h2⟩ := dec2_enc hd
    rw [← h1, ← h2]
    exact rowC (f_s_ReplaceFactor_ok _ _ _ _) h
  · cases h

def f_s_DrawIsTiling_F : Fi := { nv := 2, nc := 2, m := 0, vt := [(2, 0), (5, 1)], kl := [], sk := [], mvs := [], fz := [] }
def f_s_DrawIsTiling_a (code0 : List Sc) : List AV := enc [.p .sl] [.l code0]
def f_s_DrawIsTiling_i (code0 : List Sc) : List AV := enc [] []
def f_s_DrawIsTiling_en (r : List Sc × Int × Int) : List AV × List AV := (enc [.p .gr, .p (.int .i64), .p (.int .i64)] [.l r.1, .i r.2.1, .i r.2.2], enc [] [])
def f_s_DrawIsTiling_M : Calling := addC 27 f_s_l20Both_c (noC)
theorem f_s_DrawIsTiling_Mt : CallOk Try.prog (f_s_DrawIsTiling_M) := addC_true f_s_l20Both_cc (noC_true)
theorem f_s_DrawIsTiling_o : loopsOnce Try.f20 = true := by kernel_rfl
theorem f_s_DrawIsTiling_p {R : Type} (code0 : List Sc) (kR : List Sc × Int × Int → Option R) : f_s_DrawIsTiling_k code0 kR = (f_s_DrawIsTiling_k code0 some).bind kR := by
  simp only [f_s_DrawIsTiling_k, boB, someB]
theorem f_s_DrawIsTiling_e (code0 : List Sc) : runFn E0 f_s_DrawIsTiling_M H0 f_s_DrawIsTiling_F (asL (noL)) Try.f20 (f_s_DrawIsTiling_a code0) (f_s_DrawIsTiling_i code0) = f_s_DrawIsTiling_k code0 (fun r => some (f_s_DrawIsTiling_en r)) := by kernel_rfl
theorem f_s_DrawIsTiling_ok (code0 : List Sc) (r : List Sc × Int × Int) (h : f_s_DrawIsTiling code0 = some r) : CS Try.prog 20 (f_s_DrawIsTiling_a code0) (f_s_DrawIsTiling_i code0) (f_s_DrawIsTiling_en r).1 (f_s_DrawIsTiling_en r).2 :=
  fn_true (Gk := fun k => f_s_DrawIsTiling_k code0 k) (en := f_s_DrawIsTiling_en) Try.func20 E0ok f_s_DrawIsTiling_Mt (noL_true) f_s_DrawIsTiling_o (f_s_DrawIsTiling_e code0) (f_s_DrawIsTiling_p code0) h
def f_s_DrawIsTiling_c : CRow := fun args inh => match dec2 [.p .sl] [] args inh with
  | some ([.l code0], []) => some ((f_s_DrawIsTiling code0).isSome, (f_s_DrawIsTiling_en ((f_s_DrawIsTiling code0).getD ([], 0, 0))).1, (f_s_DrawIsTiling_en ((f_s_DrawIsTiling code0).getD ([], 0, 0))).2)
  | _ => none
theorem f_s_DrawIsTiling_cc : CTrue Try.prog 20 f_s_DrawIsTiling_c := by
  intro args inh rs out h
  unfold f_s_DrawIsTiling_c at h
  split at h
  · rename_i hd
    obtain ⟨h1, h2⟩ := dec2_enc hd
    rw [← h1, ← h2]
    exact rowC (f_s_DrawIsTiling_ok _) h
  · cases h

def f_s_DrawHasPeriodicFactor_F : Fi := { nv := 2, nc := 2, m := 0, vt := [(2, 0), (5, 1)], kl := [], sk := [], mvs := [], fz := [] }
def f_s_DrawHasPeriodicFactor_a (code0 : List Sc) : List AV := enc [.p .sl] [.l code0]
def f_s_DrawHasPeriodicFactor_i (code0 : List Sc) : List AV := enc [] []
def f_s_DrawHasPeriodicFactor_en (r : List Sc × Int × Int) : List AV × List AV := (enc [.p .gr, .p (.int .i64), .p (.int .i64)] [.l r.1, .i r.2.1, .i r.2.2], enc [] [])
def f_s_DrawHasPeriodicFactor_M : Calling := addC 27 f_s_l20Both_c (noC)
theorem f_s_DrawHasPeriodicFactor_Mt : CallOk Try.prog (f_s_DrawHasPeriodicFactor_M) := addC_true f_s_l20Both_cc (noC_true)
theorem f_s_DrawHasPeriodicFactor_o : loopsOnce Try.f21 = true := by kernel_rfl
theorem f_s_DrawHasPeriodicFactor_p {R : Type} (code0 : List Sc) (kR : List Sc × Int × Int → Option R) : f_s_DrawHasPeriodicFactor_k code0 kR = (f_s_DrawHasPeriodicFactor_k code0 some).bind kR := by
  simp only [f_s_DrawHasPeriodicFactor_k, boB, someB]
theorem f_s_DrawHasPeriodicFactor_e (code0 : List Sc) : runFn E0 f_s_DrawHasPeriodicFactor_M H0 f_s_DrawHasPeriodicFactor_F (asL (noL)) Try.f21 (f_s_DrawHasPeriodicFactor_a code0) (f_s_DrawHasPeriodicFactor_i code0) = f_s_DrawHasPeriodicFactor_k code0 (fun r => some (f_s_DrawHasPeriodicFactor_en r)) := by kernel_rfl
theorem f_s_DrawHasPeriodicFactor_ok (code0 : List Sc) (r : List Sc × Int × Int) (h : f_s_DrawHasPeriodicFactor code0 = some r) : CS Try.prog 21 (f_s_DrawHasPeriodicFactor_a code0) (f_s_DrawHasPeriodicFactor_i code0) (f_s_DrawHasPeriodicFactor_en r).1 (f_s_DrawHasPeriodicFactor_en r).2 :=
  fn_true (Gk := fun k => f_s_DrawHasPeriodicFactor_k code0 k) (en := f_s_DrawHasPeriodicFactor_en) Try.func21 E0ok f_s_DrawHasPeriodicFactor_Mt (noL_true) f_s_DrawHasPeriodicFactor_o (f_s_DrawHasPeriodicFactor_e code0) (f_s_DrawHasPeriodicFactor_p code0) h
def f_s_DrawHasPeriodicFactor_c : CRow := fun args inh => match dec2 [.p .sl] [] args inh with
  | some ([.l code0], []) => some ((f_s_DrawHasPeriodicFactor code0).isSome, (f_s_DrawHasPeriodicFactor_en ((f_s_DrawHasPeriodicFactor code0).getD ([], 0, 0))).1, (f_s_DrawHasPeriodicFactor_en ((f_s_DrawHasPeriodicFactor code0).getD ([], 0, 0))).2)
  | _ => none
theorem f_s_DrawHasPeriodicFactor_cc : CTrue Try.prog 21 f_s_DrawHasPeriodicFactor_c := by
  intro args inh rs out h
  unfold f_s_DrawHasPeriodicFactor_c at h
  split at h
  · rename_i hd
    obtain ⟨h1, h2⟩ := dec2_enc hd
    rw [← h1, ← h2]
    exact rowC (f_s_DrawHasPeriodicFactor_ok _) h
  · cases h

def f_s_DrawIsDirect_F : Fi := { nv := 2, nc := 2, m := 0, vt := [(2, 0), (5, 1)], kl := [], sk := [], mvs := [], fz := [] }
def f_s_DrawIsDirect_a (code0 : List Sc) : List AV := enc [.p .sl] [.l code0]
def f_s_DrawIsDirect_i (code0 : List Sc) : List AV := enc [] []
def f_s_DrawIsDirect_en (r : List Sc × Int × Int) : List AV × List AV := (enc [.p .gr, .p (.int .i64), .p (.int .i64)] [.l r.1, .i r.2.1, .i r.2.2], enc [] [])
def f_s_DrawIsDirect_M : Calling := addC 27 f_s_l20Both_c (noC)
theorem f_s_DrawIsDirect_Mt : CallOk Try.prog (f_s_DrawIsDirect_M) := addC_true f_s_l20Both_cc (noC_true)
theorem f_s_DrawIsDirect_o : loopsOnce Try.f22 = true := by kernel_rfl
theorem f_s_DrawIsDirect_p {R : Type} (code0 : List Sc) (kR : List Sc × Int × Int → Option R) : f_s_DrawIsDirect_k code0 kR = (f_s_DrawIsDirect_k code0 some).bind kR := by
  simp only [f_s_DrawIsDirect_k, boB, someB]
theorem f_s_DrawIsDirect_e (code0 : List Sc) : runFn E0 f_s_DrawIsDirect_M H0 f_s_DrawIsDirect_F (asL (noL)) Try.f22 (f_s_DrawIsDirect_a code0) (f_s_DrawIsDirect_i code0) = f_s_DrawIsDirect_k code0 (fun r => some (f_s_DrawIsDirect_en r)) := by kernel_rfl
theorem f_s_DrawIsDirect_ok (code0 : List Sc) (r : List Sc × Int × Int) (h : f_s_DrawIsDirect code0 = some r) : CS Try.prog 22 (f_s_DrawIsDirect_a code0) (f_s_DrawIsDirect_i code0) (f_s_DrawIsDirect_en r).1 (f_s_DrawIsDirect_en r).2 :=
  fn_true (Gk := fun k => f_s_DrawIsDirect_k code0 k) (en := f_s_DrawIsDirect_en) Try.func22 E0ok f_s_DrawIsDirect_Mt (noL_true) f_s_DrawIsDirect_o (f_s_DrawIsDirect_e code0) (f_s_DrawIsDirect_p code0) h
def f_s_DrawIsDirect_c : CRow := fun args inh => match dec2 [.p .sl] [] args inh with
  | some ([.l code0], []) => some ((f_s_DrawIsDirect code0).isSome, (f_s_DrawIsDirect_en ((f_s_DrawIsDirect code0).getD ([], 0, 0))).1, (f_s_DrawIsDirect_en ((f_s_DrawIsDirect code0).getD ([], 0, 0))).2)
  | _ => none
theorem f_s_DrawIsDirect_cc : CTrue Try.prog 22 f_s_DrawIsDirect_c := by
  intro args inh rs out h
  unfold f_s_DrawIsDirect_c at h
  split at h
  · rename_i hd
    obtain ⟨h1, h2⟩ := dec2_enc hd
    rw [← h1, ← h2]
    exact rowC (f_s_DrawIsDirect_ok _) h
  · cases h

def f_i_StabilizerOf_F : Fi := { nv := 0, nc := 0, m := 0, vt := [], kl := [(0, ([0, 3, 4, 6, 7, 8, 9, 10, 11, 14, 15, 16, 17, 18, 19, 20, 21, 22, 23, 24, 25, 26, 27], [0, 1, 2, 3, 4, 6, 7, 8, 9, 10, 11, 12, 13, 14, 15, 16, 17, 18, 19, 20, 21, 22, 23, 24, 25, 26, 27], [0, 1, 2, 3, 5, 6, 7, 8, 9, 10, 11, 12, 13, 14, 15, 16, 17, 18, 19, 20, 21, 22, 23, 24, 25, 26, 27]))], sk := [], mvs := [], fz := [] }
def f_i_StabilizerOf_a (g0 : List Sc) (a1 : Int) : List AV := enc [.p .gr, .p (.int .i64)] [.l g0, .i a1]
def f_i_StabilizerOf_i (g0 : List Sc) (a1 : Int) : List AV := enc [] []
def f_i_StabilizerOf_en (r : Int) : List AV × List AV := (enc [.p (.int .i64)] [.i r], enc [] [])
def f_i_StabilizerOf_M : Calling := addC 28 f_i_IsSet_c (addC 49 f_i_OrderOf_c (addC 54 f_i_Group_shift_c (noC)))
theorem f_i_StabilizerOf_Mt : CallOk Try.prog (f_i_StabilizerOf_M) := addC_true f_i_IsSet_cc (addC_true f_i_OrderOf_cc (addC_true f_i_Group_shift_cc (noC_true)))
theorem f_i_StabilizerOf_o : loopsOnce Try.f65 = true := by kernel_rfl
def f_i_StabilizerOf_h0 : List Sh := [.u, .p (.int .i64), .p .el, .u, .u, .p (.int .i64), .u, .u, .u, .u, .u, .u, .p (.int .i64), .p (.int .i64), .u, .u, .u, .u, .u, .u, .u, .u, .u, .u, .u, .u, .u, .u]
def f_i_StabilizerOf_fr0 (a1 : Int) (g2 : List Sc) (t12 : Int) (s : Int × Int) : List AV := enc f_i_StabilizerOf_h0 [.i a1, .l g2, .i s.1, .i t12, .i s.2]
def f_i_StabilizerOf_g0_1 : List Sh := [.u, .u, .u, .u, .u, .p (.int .i64), .u, .u, .u, .u, .u, .u, .u, .u, .u, .u, .u, .u, .u, .u, .u, .u, .u, .u, .u, .u, .u, .u]
def f_i_StabilizerOf_x0_1 (a1 : Int) (g2 : List Sc) (t12 : Int) (e : Int) : X × List AV := (.out 0, enc f_i_StabilizerOf_g0_1 [.i e])
def f_i_StabilizerOf_x0_2 (a1 : Int) (g2 : List Sc) (t12 : Int) (_e : Unit) : X × List AV := (.ret, [])
theorem f_i_StabilizerOf_p0 {R : Type} (a1 : Int) (g2 : List Sc) (t12 : Int) (s : Int × Int) (kN : Int × Int → Option R) (kA : Int → Option R) (kB : Unit → Option R) : f_i_StabilizerOf_k0 a1 g2 t12 s.1 s.2 kN kA = (f_i_StabilizerOf_r0 a1 g2 t12 s).bind (Ro.el kN kA kB) := by
  simp only [f_i_StabilizerOf_k0, f_i_StabilizerOf_r0, brB, boB, someB, noneB, Ro.el]
theorem f_i_StabilizerOf_e0 (a1 : Int) (g2 : List Sc) (t12 : Int) (s : Int × Int) : EC E0 f_i_StabilizerOf_M H0 f_i_StabilizerOf_F (asL (noL)) 0 (bodyOf Try.f65 0) (f_i_StabilizerOf_fr0 a1 g2 t12 s) (done (klOf f_i_StabilizerOf_F 0)) = f_i_StabilizerOf_k0 a1 g2 t12 s.1 s.2 (fun s => some (.norm, f_i_StabilizerOf_fr0 a1 g2 t12 s)) (fun e => some (f_i_StabilizerOf_x0_1 a1 g2 t12 e)) := by kernel_rfl
theorem f_i_StabilizerOf_l0 (a1 : Int) (g2 : List Sc) (t12 : Int) : ∀ s r, loopL (f_i_StabilizerOf_r0 a1 g2 t12) s = some r → LS Try.prog f_i_StabilizerOf_F (bodyOf Try.f65 0) (f_i_StabilizerOf_fr0 a1 g2 t12 s) (enX (f_i_StabilizerOf_x0_1 a1 g2 t12) (f_i_StabilizerOf_x0_2 a1 g2 t12) r) :=
  loop_true E0ok f_i_StabilizerOf_Mt (noL_true) f_i_StabilizerOf_o (fun _ h => by cases h) (fun _ h => by cases h) (fun s => (f_i_StabilizerOf_e0 a1 g2 t12 s).trans (f_i_StabilizerOf_p0 a1 g2 t12 s _ _ (fun e => some (f_i_StabilizerOf_x0_2 a1 g2 t12 e))))
def f_i_StabilizerOf_t0 (σ : List AV) : Option (Bool × Bool × (X × List AV) × (X × List AV)) := match dec f_i_StabilizerOf_h0 σ with
  | some [.i a1, .l g2, .i out5, .i t12, .i t13] => some (isOne (loopL (f_i_StabilizerOf_r0 a1 g2 t12) (out5, t13)), true, f_i_StabilizerOf_x0_1 a1 g2 t12 (getOne 0 (loopL (f_i_StabilizerOf_r0 a1 g2 t12) (out5, t13))), (.ret, []))
  | _ => none
theorem f_i_StabilizerOf_tt0 : TTrue Try.prog f_i_StabilizerOf_F Try.f65 0 (f_i_StabilizerOf_t0) := by
  intro σ p r r' h
  unfold f_i_StabilizerOf_t0 at h
  split at h
  · rename_i hd
    rw [← dec_enc hd]
    exact row1 (f_i_StabilizerOf_l0 _ _ _ _) h
  · cases h
theorem f_i_StabilizerOf_p {R : Type} (g0 : List Sc) (a1 : Int) (kR : Int → Option R) : f_i_StabilizerOf_k g0 a1 kR = (f_i_StabilizerOf_k g0 a1 some).bind kR := by
  simp only [f_i_StabilizerOf_k, brB, boB, bl1B, someB]
theorem f_i_StabilizerOf_e (g0 : List Sc) (a1 : Int) : runFn E0 f_i_StabilizerOf_M H0 f_i_StabilizerOf_F (asL (addL 0 (f_i_StabilizerOf_t0) (noL))) Try.f65 (f_i_StabilizerOf_a g0 a1) (f_i_StabilizerOf_i g0 a1) = f_i_StabilizerOf_k g0 a1 (fun r => some (f_i_StabilizerOf_en r)) := by kernel_rfl
theorem f_i_StabilizerOf_ok (g0 : List Sc) (a1 : Int) (r : Int) (h : f_i_StabilizerOf g0 a1 = some r) : CS Try.prog 65 (f_i_StabilizerOf_a g0 a1) (f_i_StabilizerOf_i g0 a1) (f_i_StabilizerOf_en r).1 (f_i_StabilizerOf_en r).2 :=
  fn_true (Gk := fun k => f_i_StabilizerOf_k g0 a1 k) (en := f_i_StabilizerOf_en) Try.func65 E0ok f_i_StabilizerOf_Mt (addL_true (f_i_StabilizerOf_tt0) (noL_true)) f_i_StabilizerOf_o (f_i_StabilizerOf_e g0 a1) (f_i_StabilizerOf_p g0 a1) h
def f_i_StabilizerOf_c : CRow := fun args inh => match dec2 [.p .gr, .p (.int .i64)] [] args inh with
  | some ([.l g0, .i a1], []) => some ((f_i_StabilizerOf g0 a1).isSome, (f_i_StabilizerOf_en ((f_i_StabilizerOf g0 a1).getD 0)).1, (f_i_StabilizerOf_en ((f_i_StabilizerOf g0 a1).getD 0)).2)
  | _ => none
theorem f_i_StabilizerOf_cc : CTrue Try.prog 65 f_i_StabilizerOf_c := by
  intro args inh rs out h
  unfold f_i_StabilizerOf_c at h
  split at h
  · rename_i hd
    obtain ⟨h1, h2⟩ := dec2_enc hd
    rw [← h1, ← h2]
    exact rowC (f_i_StabilizerOf_ok _ _) h
  · cases h

def f_i_IsPeriodic_F : Fi := { nv := 0, nc := 0, m := 0, vt := [], kl := [], sk := [], mvs := [], fz := [] }
def f_i_IsPeriodic_a (g0 : List Sc) (a1 : Int) : List AV := enc [.p .gr, .p (.int .i64)] [.l g0, .i a1]
def f_i_IsPeriodic_i (g0 : List Sc) (a1 : Int) : List AV := enc [] []
def f_i_IsPeriodic_en (r : Bool) : List AV × List AV := (enc [.p .boo] [.b r], enc [] [])
def f_i_IsPeriodic_M : Calling := addC 28 f_i_IsSet_c (addC 65 f_i_StabilizerOf_c (addC 38 f_i_bits_c (noC)))
theorem f_i_IsPeriodic_Mt : CallOk Try.prog (f_i_IsPeriodic_M) := addC_true f_i_IsSet_cc (addC_true f_i_StabilizerOf_cc (addC_true f_i_bits_cc (noC_true)))
theorem f_i_IsPeriodic_o : loopsOnce Try.f44 = true := by kernel_rfl
theorem f_i_IsPeriodic_p {R : Type} (g0 : List Sc) (a1 : Int) (kR : Bool → Option R) : f_i_IsPeriodic_k g0 a1 kR = (f_i_IsPeriodic_k g0 a1 some).bind kR := by
  simp only [f_i_IsPeriodic_k, brB, boB, someB]
theorem f_i_IsPeriodic_e (g0 : List Sc) (a1 : Int) : runFn E0 f_i_IsPeriodic_M H0 f_i_IsPeriodic_F (asL (noL)) Try.f44 (f_i_IsPeriodic_a g0 a1) (f_i_IsPeriodic_i g0 a1) = f_i_IsPeriodic_k g0 a1 (fun r => some (f_i_IsPeriodic_en r)) := by kernel_rfl
theorem f_i_IsPeriodic_ok (g0 : List Sc) (a1 : Int) (r : Bool) (h : f_i_IsPeriodic g0 a1 = some r) : CS Try.prog 44 (f_i_IsPeriodic_a g0 a1) (f_i_IsPeriodic_i g0 a1) (f_i_IsPeriodic_en r).1 (f_i_IsPeriodic_en r).2 :=
  fn_true (Gk := fun k => f_i_IsPeriodic_k g0 a1 k) (en := f_i_IsPeriodic_en) Try.func44 E0ok f_i_IsPeriodic_Mt (noL_true) f_i_IsPeriodic_o (f_i_IsPeriodic_e g0 a1) (f_i_IsPeriodic_p g0 a1) h
def f_i_IsPeriodic_c : CRow := fun args inh => match dec2 [.p .gr, .p (.int .i64)] [] args inh with
  | some ([.l g0, .i a1], []) => some ((f_i_IsPeriodic g0 a1).isSome, (f_i_IsPeriodic_en ((f_i_IsPeriodic g0 a1).getD false)).1, (f_i_IsPeriodic_en ((f_i_IsPeriodic g0 a1).getD false)).2)
  | _ => none
theorem f_i_IsPeriodic_cc : CTrue Try.prog 44 f_i_IsPeriodic_c := by
  intro args inh rs out h
  unfold f_i_IsPeriodic_c at h
  split at h
  · rename_i hd
    obtain ⟨h1, h2⟩ := dec2_enc hd
    rw [← h1, ← h2]
    exact rowC (f_i_IsPeriodic_ok _ _) h
  · cases h

def f_i_HasPeriodicFactor_F : Fi := { nv := 0, nc := 0, m := 0, vt := [], kl := [], sk := [], mvs := [], fz := [] }
def f_i_HasPeriodicFactor_a (g0 : List Sc) (a1 : Int) (b2 : Int) : List AV := enc [.p .gr, .p (.int .i64), .p (.int .i64)] [.l g0, .i a1, .i b2]
def f_i_HasPeriodicFactor_i (g0 : List Sc) (a1 : Int) (b2 : Int) : List AV := enc [] []
def f_i_HasPeriodicFactor_en (r : Bool) : List AV × List AV := (enc [.p .boo] [.b r], enc [] [])
def f_i_HasPeriodicFactor_M : Calling := addC 13 f_i_IsTiling_c (addC 44 f_i_IsPeriodic_c (noC))
theorem f_i_HasPeriodicFactor_Mt : CallOk Try.prog (f_i_HasPeriodicFactor_M) := addC_true f_i_IsTiling_cc (addC_true f_i_IsPeriodic_cc (noC_true))
theorem f_i_HasPeriodicFactor_o : loopsOnce Try.f24 = true := by kernel_rfl
theorem f_i_HasPeriodicFactor_p {R : Type} (g0 : List Sc) (a1 : Int) (b2 : Int) (kR : Bool → Option R) : f_i_HasPeriodicFactor_k g0 a1 b2 kR = (f_i_HasPeriodicFactor_k g0 a1 b2 some).bind kR := by
  simp only [f_i_HasPeriodicFactor_k, brB, boB, someB]
theorem f_i_HasPeriodicFactor_e (g0 : List Sc) (a1 : Int) (b2 : Int) : runFn E0 f_i_HasPeriodicFactor_M H0 f_i_HasPeriodicFactor_F (asL (noL)) Try.f24 (f_i_HasPeriodicFactor_a g0 a1 b2) (f_i_HasPeriodicFactor_i g0 a1 b2) = f_i_HasPeriodicFactor_k g0 a1 b2 (fun r => some (f_i_HasPeriodicFactor_en r)) := by kernel_rfl
theorem f_i_HasPeriodicFactor_ok (g0 : List Sc) (a1 : Int) (b2 : Int) (r : Bool) (h : f_i_HasPeriodicFactor g0 a1 b2 = some r) : CS Try.prog 24 (f_i_HasPeriodicFactor_a g0 a1 b2) (f_i_HasPeriodicFactor_i g0 a1 b2) (f_i_HasPeriodicFactor_en r).1 (f_i_HasPeriodicFactor_en r).2 :=
  fn_true (Gk := fun k => f_i_HasPeriodicFactor_k g0 a1 b2 k) (en := f_i_HasPeriodicFactor_en) Try.func24 E0ok f_i_HasPeriodicFactor_Mt (noL_true) f_i_HasPeriodicFactor_o (f_i_HasPeriodicFactor_e g0 a1 b2) (f_i_HasPeriodicFactor_p g0 a1 b2) h
def f_i_HasPeriodicFactor_c : CRow := fun args inh => match dec2 [.p .gr, .p (.int .i64), .p (.int .i64)] [] args inh with
  | some ([.l g0, .i a1, .i b2], []) => some ((f_i_HasPeriodicFactor g0 a1 b2).isSome, (f_i_HasPeriodicFactor_en ((f_i_HasPeriodicFactor g0 a1 b2).getD false)).1, (f_i_HasPeriodicFactor_en ((f_i_HasPeriodicFactor g0 a1 b2).getD false)).2)
  | _ => none
theorem f_i_HasPeriodicFactor_cc : CTrue Try.prog 24 f_i_HasPeriodicFactor_c := by
  intro args inh rs out h
  unfold f_i_HasPeriodicFactor_c at h
  split at h
  · rename_i hd
    obtain ⟨h1, h2⟩ := dec2_enc hd
    rw [← h1, ← h2]
    exact rowC (f_i_HasPeriodicFactor_ok _ _ _) h
  · cases h

def f_s_l6Stabilizer_F : Fi := { nv := 0, nc := 0, m := 0, vt := [], kl := [(0, ([0, 3, 4, 7, 8, 9, 10, 11, 12, 13, 14, 15, 16, 17, 18, 19, 20, 21, 22, 23], [0, 1, 2, 3, 4, 6, 7, 8, 9, 10, 11, 12, 13, 14, 15, 16, 17, 18, 19, 20, 21, 22, 23], [0, 1, 2, 3, 5, 6, 7, 8, 9, 10, 11, 12, 13, 14, 15, 16, 17, 18, 19, 20, 21, 22, 23]))], sk := [], mvs := [], fz := [] }
def f_s_l6Stabilizer_a (g0 : List Sc) (a1 : Int) : List AV := enc [.p .gr, .p (.int .i64)] [.l g0, .i a1]
def f_s_l6Stabilizer_i (g0 : List Sc) (a1 : Int) : List AV := enc [] []
def f_s_l6Stabilizer_en (r : Int) : List AV × List AV := (enc [.p (.int .i64)] [.i r], enc [] [])
def f_s_l6Stabilizer_M : Calling := addC 33 f_s_l2Order_c (addC 61 f_s_l3Shift_c (noC))
theorem f_s_l6Stabilizer_Mt : CallOk Try.prog (f_s_l6Stabilizer_M) := addC_true f_s_l2Order_cc (addC_true f_s_l3Shift_cc (noC_true))
theorem f_s_l6Stabilizer_o : loopsOnce Try.f66 = true := by kernel_rfl
def f_s_l6Stabilizer_h0 : List Sh := [.u, .p (.int .i64), .p .el, .u, .u, .p (.int .i64), .p (.int .i64), .u, .u, .u, .u, .u, .u, .u, .u, .u, .u, .u, .u, .u, .u, .u, .u, .u]
def f_s_l6Stabilizer_fr0 (a1 : Int) (g2 : List Sc) (s : Int × Int) : List AV := enc f_s_l6Stabilizer_h0 [.i a1, .l g2, .i s.1, .i s.2]
def f_s_l6Stabilizer_g0_1 : List Sh := [.u, .u, .u, .u, .u, .p (.int .i64), .u, .u, .u, .u, .u, .u, .u, .u, .u, .u, .u, .u, .u, .u, .u, .u, .u, .u]
def f_s_l6Stabilizer_x0_1 (a1 : Int) (g2 : List Sc) (e : Int) : X × List AV := (.out 0, enc f_s_l6Stabilizer_g0_1 [.i e])
def f_s_l6Stabilizer_x0_2 (a1 : Int) (g2 : List Sc) (_e : Unit) : X × List AV := (.ret, [])
theorem f_s_l6Stabilizer_p0 {R : Type} (a1 : Int) (g2 : List Sc) (s : Int × Int) (kN : Int × Int → Option R) (kA : Int → Option R) (kB : Unit → Option R) : f_s_l6Stabilizer_k0 a1 g2 s.1 s.2 kN kA = (f_s_l6Stabilizer_r0 a1 g2 s).bind (Ro.el kN kA kB) := by
  simp only [f_s_l6Stabilizer_k0, f_s_l6Stabilizer_r0, brB, boB, someB, noneB, Ro.el]
theorem f_s_l6Stabilizer_e0 (a1 : Int) (g2 : List Sc) (s : Int × Int) : EC E0 f_s_l6Stabilizer_M H0 f_s_l6Stabilizer_F (asL (noL)) 0 (bodyOf Try.f66 0) (f_s_l6Stabilizer_fr0 a1 g2 s) (done (klOf f_s_l6Stabilizer_F 0)) = f_s_l6Stabilizer_k0 a1 g2 s.1 s.2 (fun s => some (.norm, f_s_l6Stabilizer_fr0 a1 g2 s)) (fun e => some (f_s_l6Stabilizer_x0_1 a1 g2 e)) := by kernel_rfl
theorem f_s_l6Stabilizer_l0 (a1 : Int) (g2 : List Sc) : ∀ s r, loopL (f_s_l6Stabilizer_r0 a1 g2) s = some r → LS Try.prog f_s_l6Stabilizer_F (bodyOf Try.f66 0) (f_s_l6Stabilizer_fr0 a1 g2 s) (enX (f_s_l6Stabilizer_x0_1 a1 g2) (f_s_l6Stabilizer_x0_2 a1 g2) r) :=
  loop_true E0ok f_s_l6Stabilizer_Mt (noL_true) f_s_l6Stabilizer_o (fun _ h => by cases h) (fun _ h => by cases h) (fun s => (f_s_l6Stabilizer_e0 a1 g2 s).trans (f_s_l6Stabilizer_p0 a1 g2 s _ _ (fun e => some (f_s_l6Stabilizer_x0_2 a1 g2 e))))
def f_s_l6Stabilizer_t0 (σ : List AV) : Option (Bool × Bool × (X × List AV) × (X × List AV)) := match dec f_s_l6Stabilizer_h0 σ with
  | some [.i a1, .l g2, .i out5, .i x6] => some (isOne (loopL (f_s_l6Stabilizer_r0 a1 g2) (out5, x6)), true, f_s_l6Stabilizer_x0_1 a1 g2 (getOne 0 (loopL (f_s_l6Stabilizer_r0 a1 g2) (out5, x6))), (.ret, []))
  | _ => none
theorem f_s_l6Stabilizer_tt0 : TTrue Try.prog f_s_l6Stabilizer_F Try.f66 0 (f_s_l6Stabilizer_t0) := by
  intro σ p r r' h
  unfold f_s_l6Stabilizer_t0 at h
  split at h
  · rename_i hd
    rw [← dec_enc hd]
    exact row1 (f_s_l6Stabilizer_l0 _ _ _) h
  · cases h
theorem f_s_l6Stabilizer_p {R : Type} (g0 : List Sc) (a1 : Int) (kR : Int → Option R) : f_s_l6Stabilizer_k g0 a1 kR = (f_s_l6Stabilizer_k g0 a1 some).bind kR := by
  simp only [f_s_l6Stabilizer_k, bl1B, someB]
theorem f_s_l6Stabilizer_e (g0 : List Sc) (a1 : Int) : runFn E0 f_s_l6Stabilizer_M H0 f_s_l6Stabilizer_F (asL (addL 0 (f_s_l6Stabilizer_t0) (noL))) Try.f66 (f_s_l6Stabilizer_a g0 a1) (f_s_l6Stabilizer_i g0 a1) = f_s_l6Stabilizer_k g0 a1 (fun r => some (f_s_l6Stabilizer_en r)) := by kernel_rfl
theorem f_s_l6Stabilizer_ok (g0 : List Sc) (a1 : Int) (r : Int) (h : f_s_l6Stabilizer g0 a1 = some r) : CS Try.prog 66 (f_s_l6Stabilizer_a g0 a1) (f_s_l6Stabilizer_i g0 a1) (f_s_l6Stabilizer_en r).1 (f_s_l6Stabilizer_en r).2 :=
  fn_true (Gk := fun k => f_s_l6Stabilizer_k g0 a1 k) (en := f_s_l6Stabilizer_en) Try.func66 E0ok f_s_l6Stabilizer_Mt (addL_true (f_s_l6Stabilizer_tt0) (noL_true)) f_s_l6Stabilizer_o (f_s_l6Stabilizer_e g0 a1) (f_s_l6Stabilizer_p g0 a1) h
def f_s_l6Stabilizer_c : CRow := fun args inh => match dec2 [.p .gr, .p (.int .i64)] [] args inh with
  | some ([.l g0, .i a1], []) => some ((f_s_l6Stabilizer g0 a1).isSome, (f_s_l6Stabilizer_en ((f_s_l6Stabilizer g0 a1).getD 0)).1, (f_s_l6Stabilizer_en ((f_s_l6Stabilizer g0 a1).getD 0)).2)
  | _ => none
theorem f_s_l6Stabilizer_cc : CTrue Try.prog 66 f_s_l6Stabilizer_c := by
  intro args inh rs out h
  unfold f_s_l6Stabilizer_c at h
  split at h
  · rename_i hd
    obtain ⟨h1, h2⟩ := dec2_enc hd
    rw [← h1, ← h2]
    exact rowC (f_s_l6Stabilizer_ok _ _) h
  · cases h

def f_s_IsPeriodic_F : Fi := { nv := 0, nc := 0, m := 0, vt := [], kl := [], sk := [], mvs := [], fz := [] }
def f_s_IsPeriodic_a (g0 : List Sc) (a1 : Int) : List AV := enc [.p .gr, .p (.int .i64)] [.l g0, .i a1]
def f_s_IsPeriodic_i (g0 : List Sc) (a1 : Int) : List AV := enc [] []
def f_s_IsPeriodic_en (r : Bool) : List AV × List AV := (enc [.p .boo] [.b r], enc [] [])
def f_s_IsPeriodic_M : Calling := addC 31 f_s_IsSet_c (addC 66 f_s_l6Stabilizer_c (noC))
theorem f_s_IsPeriodic_Mt : CallOk Try.prog (f_s_IsPeriodic_M) := addC_true f_s_IsSet_cc (addC_true f_s_l6Stabilizer_cc (noC_true))
theorem f_s_IsPeriodic_o : loopsOnce Try.f45 = true := by kernel_rfl
theorem f_s_IsPeriodic_p {R : Type} (g0 : List Sc) (a1 : Int) (kR : Bool → Option R) : f_s_IsPeriodic_k g0 a1 kR = (f_s_IsPeriodic_k g0 a1 some).bind kR := by
  simp only [f_s_IsPeriodic_k, brB, boB, someB]
theorem f_s_IsPeriodic_e (g0 : List Sc) (a1 : Int) : runFn E0 f_s_IsPeriodic_M H0 f_s_IsPeriodic_F (asL (noL)) Try.f45 (f_s_IsPeriodic_a g0 a1) (f_s_IsPeriodic_i g0 a1) = f_s_IsPeriodic_k g0 a1 (fun r => some (f_s_IsPeriodic_en r)) := by kernel_rfl
theorem f_s_IsPeriodic_ok (g0 : List Sc) (a1 : Int) (r : Bool) (h : f_s_IsPeriodic g0 a1 = some r) : CS Try.prog 45 (f_s_IsPeriodic_a g0 a1) (f_s_IsPeriodic_i g0 a1) (f_s_IsPeriodic_en r).1 (f_s_IsPeriodic_en r).2 :=
  fn_true (Gk := fun k => f_s_IsPeriodic_k g0 a1 k) (en := f_s_IsPeriodic_en) Try.func45 E0ok f_s_IsPeriodic_Mt (noL_true) f_s_IsPeriodic_o (f_s_IsPeriodic_e g0 a1) (f_s_IsPeriodic_p g0 a1) h
def f_s_IsPeriodic_c : CRow := fun args inh => match dec2 [.p .gr, .p (.int .i64)] [] args inh with
  | some ([.l g0, .i a1], []) => some ((f_s_IsPeriodic g0 a1).isSome, (f_s_IsPeriodic_en ((f_s_IsPeriodic g0 a1).getD false)).1, (f_s_IsPeriodic_en ((f_s_IsPeriodic g0 a1).getD false)).2)
  | _ => none
theorem f_s_IsPeriodic_cc : CTrue Try.prog 45 f_s_IsPeriodic_c := by
  intro args inh rs out h
  unfold f_s_IsPeriodic_c at h
  split at h
  · rename_i hd
    obtain ⟨h1, h2⟩ := dec2_enc hd
    rw [← h1, ← h2]
    exact rowC (f_s_IsPeriodic_ok _ _) h
  · cases h

def f_s_HasPeriodicFactor_F : Fi := { nv := 0, nc := 0, m := 0, vt := [], kl := [], sk := [], mvs := [], fz := [] }
def f_s_HasPeriodicFactor_a (g0 : List Sc) (a1 : Int) (b2 : Int) : List AV := enc [.p .gr, .p (.int .i64), .p (.int .i64)] [.l g0, .i a1, .i b2]
def f_s_HasPeriodicFactor_i (g0 : List Sc) (a1 : Int) (b2 : Int) : List AV := enc [] []
def f_s_HasPeriodicFactor_en (r : Bool) : List AV × List AV := (enc [.p .boo] [.b r], enc [] [])
def f_s_HasPeriodicFactor_M : Calling := addC 23 f_s_IsTiling_c (addC 45 f_s_IsPeriodic_c (noC))
theorem f_s_HasPeriodicFactor_Mt : CallOk Try.prog (f_s_HasPeriodicFactor_M) := addC_true f_s_IsTiling_cc (addC_true f_s_IsPeriodic_cc (noC_true))
theorem f_s_HasPeriodicFactor_o : loopsOnce Try.f25 = true := by kernel_rfl
theorem f_s_HasPeriodicFactor_p {R : Type} (g0 : List Sc) (a1 : Int) (b2 : Int) (kR : Bool → Option R) : f_s_HasPeriodicFactor_k g0 a1 b2 kR = (f_s_HasPeriodicFactor_k g0 a1 b2 some).bind kR := by
  simp only [f_s_HasPeriodicFactor_k, brB, boB, someB]
theorem f_s_HasPeriodicFactor_e (g0 : List Sc) (a1 : Int) (b2 : Int) : runFn E0 f_s_HasPeriodicFactor_M H0 f_s_HasPeriodicFactor_F (asL (noL)) Try.f25 (f_s_HasPeriodicFactor_a g0 a1 b2) (f_s_HasPeriodicFactor_i g0 a1 b2) = f_s_HasPeriodicFactor_k g0 a1 b2 (fun r => some (f_s_HasPeriodicFactor_en r)) := by kernel_rfl
theorem f_s_HasPeriodicFactor_ok (g0 : List Sc) (a1 : Int) (b2 : Int) (r : Bool) (h : f_s_HasPeriodicFactor g0 a1 b2 = some r) : CS Try.prog 25 (f_s_HasPeriodicFactor_a g0 a1 b2) (f_s_HasPeriodicFactor_i g0 a1 b2) (f_s_HasPeriodicFactor_en r).1 (f_s_HasPeriodicFactor_en r).2 :=
  fn_true (Gk := fun k => f_s_HasPeriodicFactor_k g0 a1 b2 k) (en := f_s_HasPeriodicFactor_en) Try.func25 E0ok f_s_HasPeriodicFactor_Mt (noL_true) f_s_HasPeriodicFactor_o (f_s_HasPeriodicFactor_e g0 a1 b2) (f_s_HasPeriodicFactor_p g0 a1 b2) h
def f_s_HasPeriodicFactor_c : CRow := fun args inh => match dec2 [.p .gr, .p (.int .i64), .p (.int .i64)] [] args inh with
  | some ([.l g0, .i a1, .i b2], []) => some ((f_s_HasPeriodicFactor g0 a1 b2).isSome, (f_s_HasPeriodicFactor_en ((f_s_HasPeriodicFactor g0 a1 b2).getD false)).1, (f_s_HasPeriodicFactor_en ((f_s_HasPeriodicFactor g0 a1 b2).getD false)).2)
  | _ => none
theorem f_s_HasPeriodicFactor_cc : CTrue Try.prog 25 f_s_HasPeriodicFactor_c := by
  intro args inh rs out h
  unfold f_s_HasPeriodicFactor_c at h
  split at h
  · rename_i hd
    obtain ⟨h1, h2⟩ := dec2_enc hd
    rw [← h1, ← h2]
    exact rowC (f_s_HasPeriodicFactor_ok _ _ _) h
  · cases h
end
end Go.Proofs.Ytgbjlmhokkhiaaa
