/-
  That the program computes just that (printed by gen2.py).
-/
import Derived.Test.YtonjcafobhpfdaaRunb
set_option linter.unusedVariables false
set_option linter.unusedSimpArgs false
namespace Go.Proofs.Ytonjcafobhpfdaa
open Go Ev
noncomputable section
def f_s_l7Both_F : Fi := { nv := 5, nc := 5, m := 0, vt := [(2, 0), (6, 1), (9, 2)], kl := [(100003, ([5, 6, 8, 9, 13, 14, 15, 16, 17, 18, 19, 20, 21, 22, 23, 24], [1, 2, 3, 4, 5, 6, 10, 11, 12, 13, 14, 15, 16, 17, 18, 19, 20, 21, 22, 23, 24], []))], sk := [], mvs := [], fz := [], tb := [3] }
def f_s_l7Both_a (code0 : List Sc) : List AV := enc [.p .sl] [.l code0]
def f_s_l7Both_i (code0 : List Sc) : List AV := enc [] []
def f_s_l7Both_en (r : List Sc × Int × Int) : List AV × List AV := (enc [.p .gr, .p (.int .i64), .p (.int .i64)] [.l r.1, .i r.2.1, .i r.2.2], enc [] [])
def f_s_l7Both_M : Calling := addC 63 f_s_l1New_c (addC 76 f_s_l6Set_io_c (addC 65 f_s_l2Element_io_c (noC)))
theorem f_s_l7Both_Mt : CallOk Try.prog (f_s_l7Both_M) := addC_true f_s_l1New_cc (addC_true f_s_l6Set_io_cc (addC_true f_s_l2Element_io_cc (noC_true)))
theorem f_s_l7Both_o : loopsOnce Try.f55 = true := by kernel_rfl
def f_s_l7Both_hg3 : List Sh := [.p .sl, .p .sl, .p .sl, .p (.int .i64), .p (.int .i64), .u, .u, .p (.pt 0 1), .u, .u, .p (.pt 2 3), .p (.pt 1 1), .p (.int .i64), .u, .u, .u, .u, .u, .u, .u, .u, .u, .u, .u, .u]
def f_s_l7Both_frg3 (v0 : List Sc) (v1 : List Sc) (v2 : List Sc) (v3 : Int) (v4 : Int) (t7 : Int) : List AV := enc f_s_l7Both_hg3 [.l v0, .l v1, .l v2, .i v3, .i v4, .i t7]
def f_s_l7Both_xg3 (v0 : List Sc) (v1 : List Sc) (v2 : List Sc) (v3 : Int) (v4 : Int) (t7 : Int) (e : Int) : X × List AV := (.norm, enc [.p .sl, .u, .u, .u, .u, .u, .u, .p (.pt 0 1), .p (.int .i64), .p (.int .i64), .u, .u, .u, .u, .u, .u, .u, .u, .u, .u, .u, .u, .u, .u, .u] [.l v1, .i t7, .i e])
theorem f_s_l7Both_pg3 {R : Type} (v0 : List Sc) (v1 : List Sc) (v2 : List Sc) (v3 : Int) (v4 : Int) (t7 : Int) (kA : Int → Option R) : f_s_l7Both_g3_k v0 v1 v2 v3 v4 t7 kA = (f_s_l7Both_g3 v0 v1 v2 v3 v4 t7).bind kA := by
  simp only [f_s_l7Both_g3_k, f_s_l7Both_g3, boB, someB]
theorem f_s_l7Both_bg3 : bodyOf Try.f55 100003 = .region 3 (opsAt (bodyOf Try.f55 100003)) true := by kernel_rfl
def f_s_l7Both_Dg3 : List (Array Bool) := [#[false, false, false, false, false, false, false, false], #[true, false, false, false, false, false, false, false], #[false, true, false, false, false, false, false, false], #[false, false, true, false, false, false, false, false], #[false, false, false, true, false, false, false, false], #[true, true, false, false, false, false, false, false], #[true, false, true, false, false, false, false, false], #[true, false, false, true, false, false, false, false], #[false, true, true, false, false, false, false, false], #[false, true, false, true, false, false, false, false], #[false, false, true, true, false, false, false, false], #[true, true, true, false, false, false, false, false], #[true, true, false, true, false, false, false, false], #[true, false, true, true, false, false, false, false], #[false, true, true, true, false, false, false, false], #[false, false, true, true, true, false, false, false], #[true, true, true, true, false, false, false, false], #[true, false, true, true, true, false, false, false], #[false, true, true, true, true, false, false, false], #[true, true, true, true, true, false, false, false], #[true, false, true, true, true, true, false, false], #[true, true, true, true, true, true, false, false], #[true, true, true, true, true, true, true, false], #[true, true, true, true, true, true, true, true]]
theorem f_s_l7Both_cg3 : closedB (opsAt (bodyOf Try.f55 100003)) f_s_l7Both_Dg3 = true := by kernel_rfl
def f_s_l7Both_sg3_0 (v0 : List Sc) (v1 : List Sc) (v2 : List Sc) (v3 : Int) (v4 : Int) (t7 : Int) (fr : List AV) : Option (List AV) :=
  some (setAll [] fr)
def f_s_l7Both_sg3_1 (v0 : List Sc) (v1 : List Sc) (v2 : List Sc) (v3 : Int) (v4 : Int) (t7 : Int) (fr : List AV) : Option (List AV) :=
  some (setAll [(20, .p (.gr v1))] fr)
def f_s_l7Both_sg3_2 (v0 : List Sc) (v1 : List Sc) (v2 : List Sc) (v3 : Int) (v4 : Int) (t7 : Int) (fr : List AV) : Option (List AV) :=
  some (setAll [(21, .p (.sc (Sc.n .i64 t7)))] fr)
def f_s_l7Both_sg3_4 (v0 : List Sc) (v1 : List Sc) (v2 : List Sc) (v3 : Int) (v4 : Int) (t7 : Int) (fr : List AV) : Option (List AV) :=
  some (setAll [(22, .p (.pt 2 3))] fr)
def f_s_l7Both_sg3_8 (v0 : List Sc) (v1 : List Sc) (v2 : List Sc) (v3 : Int) (v4 : Int) (t7 : Int) (fr : List AV) : Option (List AV) :=
  some (setAll [(23, .p (.gr v1))] fr)
def f_s_l7Both_sg3_3 (v0 : List Sc) (v1 : List Sc) (v2 : List Sc) (v3 : Int) (v4 : Int) (t7 : Int) (fr : List AV) : Option (List AV) :=
  some (setAll [(20, .p (.gr v1)), (21, .p (.sc (Sc.n .i64 t7)))] fr)
def f_s_l7Both_sg3_5 (v0 : List Sc) (v1 : List Sc) (v2 : List Sc) (v3 : Int) (v4 : Int) (t7 : Int) (fr : List AV) : Option (List AV) :=
  some (setAll [(20, .p (.gr v1)), (22, .p (.pt 2 3))] fr)
def f_s_l7Both_sg3_9 (v0 : List Sc) (v1 : List Sc) (v2 : List Sc) (v3 : Int) (v4 : Int) (t7 : Int) (fr : List AV) : Option (List AV) :=
  some (setAll [(20, .p (.gr v1)), (23, .p (.gr v1))] fr)
def f_s_l7Both_sg3_6 (v0 : List Sc) (v1 : List Sc) (v2 : List Sc) (v3 : Int) (v4 : Int) (t7 : Int) (fr : List AV) : Option (List AV) :=
  some (setAll [(21, .p (.sc (Sc.n .i64 t7))), (22, .p (.pt 2 3))] fr)
def f_s_l7Both_sg3_10 (v0 : List Sc) (v1 : List Sc) (v2 : List Sc) (v3 : Int) (v4 : Int) (t7 : Int) (fr : List AV) : Option (List AV) :=
  some (setAll [(21, .p (.sc (Sc.n .i64 t7))), (23, .p (.gr v1))] fr)
def f_s_l7Both_sg3_12 (v0 : List Sc) (v1 : List Sc) (v2 : List Sc) (v3 : Int) (v4 : Int) (t7 : Int) (fr : List AV) : Option (List AV) :=
  some (setAll [(22, .p (.pt 2 3)), (23, .p (.gr v1))] fr)
def f_s_l7Both_sg3_7 (v0 : List Sc) (v1 : List Sc) (v2 : List Sc) (v3 : Int) (v4 : Int) (t7 : Int) (fr : List AV) : Option (List AV) :=
  some (setAll [(20, .p (.gr v1)), (21, .p (.sc (Sc.n .i64 t7))), (22, .p (.pt 2 3))] fr)
def f_s_l7Both_sg3_11 (v0 : List Sc) (v1 : List Sc) (v2 : List Sc) (v3 : Int) (v4 : Int) (t7 : Int) (fr : List AV) : Option (List AV) :=
  some (setAll [(20, .p (.gr v1)), (21, .p (.sc (Sc.n .i64 t7))), (23, .p (.gr v1))] fr)
def f_s_l7Both_sg3_13 (v0 : List Sc) (v1 : List Sc) (v2 : List Sc) (v3 : Int) (v4 : Int) (t7 : Int) (fr : List AV) : Option (List AV) :=
  some (setAll [(20, .p (.gr v1)), (22, .p (.pt 2 3)), (23, .p (.gr v1))] fr)
def f_s_l7Both_sg3_14 (v0 : List Sc) (v1 : List Sc) (v2 : List Sc) (v3 : Int) (v4 : Int) (t7 : Int) (fr : List AV) : Option (List AV) :=
  some (setAll [(21, .p (.sc (Sc.n .i64 t7))), (22, .p (.pt 2 3)), (23, .p (.gr v1))] fr)
def f_s_l7Both_sg3_28 (v0 : List Sc) (v1 : List Sc) (v2 : List Sc) (v3 : Int) (v4 : Int) (t7 : Int) (fr : List AV) : Option (List AV) :=
  bo (f_s_l2Element_io v1 v2 v3 v4) (0, [], 0, 0) fun r4 =>
  some (setAll [(2, .p (.sl r4.2.1)), (3, .p (.sc (Sc.n .i64 r4.2.2.1))), (4, .p (.sc (Sc.n .i64 r4.2.2.2))), (22, .p (.pt 2 3)), (23, .p (.gr v1)), (24, .p (.sc (Sc.n .i64 r4.1)))] fr)
def f_s_l7Both_sg3_15 (v0 : List Sc) (v1 : List Sc) (v2 : List Sc) (v3 : Int) (v4 : Int) (t7 : Int) (fr : List AV) : Option (List AV) :=
  some (setAll [(20, .p (.gr v1)), (21, .p (.sc (Sc.n .i64 t7))), (22, .p (.pt 2 3)), (23, .p (.gr v1))] fr)
def f_s_l7Both_sg3_29 (v0 : List Sc) (v1 : List Sc) (v2 : List Sc) (v3 : Int) (v4 : Int) (t7 : Int) (fr : List AV) : Option (List AV) :=
  bo (f_s_l2Element_io v1 v2 v3 v4) (0, [], 0, 0) fun r5 =>
  some (setAll [(2, .p (.sl r5.2.1)), (3, .p (.sc (Sc.n .i64 r5.2.2.1))), (4, .p (.sc (Sc.n .i64 r5.2.2.2))), (20, .p (.gr v1)), (22, .p (.pt 2 3)), (23, .p (.gr v1)), (24, .p (.sc (Sc.n .i64 r5.1)))] fr)
def f_s_l7Both_sg3_30 (v0 : List Sc) (v1 : List Sc) (v2 : List Sc) (v3 : Int) (v4 : Int) (t7 : Int) (fr : List AV) : Option (List AV) :=
  bo (f_s_l2Element_io v1 v2 v3 v4) (0, [], 0, 0) fun r6 =>
  some (setAll [(2, .p (.sl r6.2.1)), (3, .p (.sc (Sc.n .i64 r6.2.2.1))), (4, .p (.sc (Sc.n .i64 r6.2.2.2))), (21, .p (.sc (Sc.n .i64 t7))), (22, .p (.pt 2 3)), (23, .p (.gr v1)), (24, .p (.sc (Sc.n .i64 r6.1)))] fr)
def f_s_l7Both_sg3_31 (v0 : List Sc) (v1 : List Sc) (v2 : List Sc) (v3 : Int) (v4 : Int) (t7 : Int) (fr : List AV) : Option (List AV) :=
  bo (f_s_l2Element_io v1 v2 v3 v4) (0, [], 0, 0) fun r7 =>
  some (setAll [(2, .p (.sl r7.2.1)), (3, .p (.sc (Sc.n .i64 r7.2.2.1))), (4, .p (.sc (Sc.n .i64 r7.2.2.2))), (20, .p (.gr v1)), (21, .p (.sc (Sc.n .i64 t7))), (22, .p (.pt 2 3)), (23, .p (.gr v1)), (24, .p (.sc (Sc.n .i64 r7.1)))] fr)
def f_s_l7Both_sg3_61 (v0 : List Sc) (v1 : List Sc) (v2 : List Sc) (v3 : Int) (v4 : Int) (t7 : Int) (fr : List AV) : Option (List AV) :=
  bo (f_s_l2Element_io v1 v2 v3 v4) (0, [], 0, 0) fun r8 =>
  some (setAll [(0, .p (.sl v1)), (2, .p (.sl r8.2.1)), (3, .p (.sc (Sc.n .i64 r8.2.2.1))), (4, .p (.sc (Sc.n .i64 r8.2.2.2))), (20, .p (.gr v1)), (22, .p (.pt 2 3)), (23, .p (.gr v1)), (24, .p (.sc (Sc.n .i64 r8.1)))] fr)
def f_s_l7Both_sg3_63 (v0 : List Sc) (v1 : List Sc) (v2 : List Sc) (v3 : Int) (v4 : Int) (t7 : Int) (fr : List AV) : Option (List AV) :=
  bo (f_s_l2Element_io v1 v2 v3 v4) (0, [], 0, 0) fun r9 =>
  some (setAll [(0, .p (.sl v1)), (2, .p (.sl r9.2.1)), (3, .p (.sc (Sc.n .i64 r9.2.2.1))), (4, .p (.sc (Sc.n .i64 r9.2.2.2))), (20, .p (.gr v1)), (21, .p (.sc (Sc.n .i64 t7))), (22, .p (.pt 2 3)), (23, .p (.gr v1)), (24, .p (.sc (Sc.n .i64 r9.1)))] fr)
def f_s_l7Both_sg3_127 (v0 : List Sc) (v1 : List Sc) (v2 : List Sc) (v3 : Int) (v4 : Int) (t7 : Int) (fr : List AV) : Option (List AV) :=
  bo (f_s_l2Element_io v1 v2 v3 v4) (0, [], 0, 0) fun r10 =>
  some (setAll [(0, .p (.sl v1)), (2, .p (.sl r10.2.1)), (3, .p (.sc (Sc.n .i64 r10.2.2.1))), (4, .p (.sc (Sc.n .i64 r10.2.2.2))), (8, .p (.sc (Sc.n .i64 t7))), (20, .p (.gr v1)), (21, .p (.sc (Sc.n .i64 t7))), (22, .p (.pt 2 3)), (23, .p (.gr v1)), (24, .p (.sc (Sc.n .i64 r10.1)))] fr)
def f_s_l7Both_sg3_255 (v0 : List Sc) (v1 : List Sc) (v2 : List Sc) (v3 : Int) (v4 : Int) (t7 : Int) (fr : List AV) : Option (List AV) :=
  bo (f_s_l2Element_io v1 v2 v3 v4) (0, [], 0, 0) fun r11 =>
  some (setAll [(0, .p (.sl v1)), (2, .p (.sl r11.2.1)), (3, .p (.sc (Sc.n .i64 r11.2.2.1))), (4, .p (.sc (Sc.n .i64 r11.2.2.2))), (8, .p (.sc (Sc.n .i64 t7))), (9, .p (.sc (Sc.n .i64 r11.1))), (20, .p (.gr v1)), (21, .p (.sc (Sc.n .i64 t7))), (22, .p (.pt 2 3)), (23, .p (.gr v1)), (24, .p (.sc (Sc.n .i64 r11.1)))] fr)
def f_s_l7Both_Eg3 (v0 : List Sc) (v1 : List Sc) (v2 : List Sc) (v3 : Int) (v4 : Int) (t7 : Int) (fr : List AV) : List (Option (List AV)) := [f_s_l7Both_sg3_1 v0 v1 v2 v3 v4 t7 fr, f_s_l7Both_sg3_2 v0 v1 v2 v3 v4 t7 fr, f_s_l7Both_sg3_4 v0 v1 v2 v3 v4 t7 fr, f_s_l7Both_sg3_8 v0 v1 v2 v3 v4 t7 fr, f_s_l7Both_sg3_3 v0 v1 v2 v3 v4 t7 fr, f_s_l7Both_sg3_5 v0 v1 v2 v3 v4 t7 fr, f_s_l7Both_sg3_9 v0 v1 v2 v3 v4 t7 fr, f_s_l7Both_sg3_3 v0 v1 v2 v3 v4 t7 fr, f_s_l7Both_sg3_6 v0 v1 v2 v3 v4 t7 fr, f_s_l7Both_sg3_10 v0 v1 v2 v3 v4 t7 fr, f_s_l7Both_sg3_5 v0 v1 v2 v3 v4 t7 fr, f_s_l7Both_sg3_6 v0 v1 v2 v3 v4 t7 fr, f_s_l7Both_sg3_12 v0 v1 v2 v3 v4 t7 fr, f_s_l7Both_sg3_9 v0 v1 v2 v3 v4 t7 fr, f_s_l7Both_sg3_10 v0 v1 v2 v3 v4 t7 fr, f_s_l7Both_sg3_12 v0 v1 v2 v3 v4 t7 fr, f_s_l7Both_sg3_7 v0 v1 v2 v3 v4 t7 fr, f_s_l7Both_sg3_11 v0 v1 v2 v3 v4 t7 fr, f_s_l7Both_sg3_7 v0 v1 v2 v3 v4 t7 fr, f_s_l7Both_sg3_13 v0 v1 v2 v3 v4 t7 fr, f_s_l7Both_sg3_11 v0 v1 v2 v3 v4 t7 fr, f_s_l7Both_sg3_13 v0 v1 v2 v3 v4 t7 fr, f_s_l7Both_sg3_7 v0 v1 v2 v3 v4 t7 fr, f_s_l7Both_sg3_14 v0 v1 v2 v3 v4 t7 fr, f_s_l7Both_sg3_11 v0 v1 v2 v3 v4 t7 fr, f_s_l7Both_sg3_14 v0 v1 v2 v3 v4 t7 fr, f_s_l7Both_sg3_13 v0 v1 v2 v3 v4 t7 fr, f_s_l7Both_sg3_14 v0 v1 v2 v3 v4 t7 fr, f_s_l7Both_sg3_28 v0 v1 v2 v3 v4 t7 fr, f_s_l7Both_sg3_15 v0 v1 v2 v3 v4 t7 fr, f_s_l7Both_sg3_15 v0 v1 v2 v3 v4 t7 fr, f_s_l7Both_sg3_15 v0 v1 v2 v3 v4 t7 fr, f_s_l7Both_sg3_29 v0 v1 v2 v3 v4 t7 fr, f_s_l7Both_sg3_15 v0 v1 v2 v3 v4 t7 fr, f_s_l7Both_sg3_30 v0 v1 v2 v3 v4 t7 fr, f_s_l7Both_sg3_29 v0 v1 v2 v3 v4 t7 fr, f_s_l7Both_sg3_30 v0 v1 v2 v3 v4 t7 fr, f_s_l7Both_sg3_31 v0 v1 v2 v3 v4 t7 fr, f_s_l7Both_sg3_31 v0 v1 v2 v3 v4 t7 fr, f_s_l7Both_sg3_61 v0 v1 v2 v3 v4 t7 fr, f_s_l7Both_sg3_31 v0 v1 v2 v3 v4 t7 fr, f_s_l7Both_sg3_63 v0 v1 v2 v3 v4 t7 fr, f_s_l7Both_sg3_63 v0 v1 v2 v3 v4 t7 fr, f_s_l7Both_sg3_127 v0 v1 v2 v3 v4 t7 fr, f_s_l7Both_sg3_255 v0 v1 v2 v3 v4 t7 fr]
theorem f_s_l7Both_dLg3 (v0 : List Sc) (v1 : List Sc) (v2 : List Sc) (v3 : Int) (v4 : Int) (t7 : Int) : edgeL E0 f_s_l7Both_M H0 f_s_l7Both_F (opsAt (bodyOf Try.f55 100003)) f_s_l7Both_Dg3 (f_s_l7Both_frg3 v0 v1 v2 v3 v4 t7) = f_s_l7Both_Eg3 v0 v1 v2 v3 v4 t7 (f_s_l7Both_frg3 v0 v1 v2 v3 v4 t7) := by kernel_rfl
theorem f_s_l7Both_dRg3 (v0 : List Sc) (v1 : List Sc) (v2 : List Sc) (v3 : Int) (v4 : Int) (t7 : Int) : edgeR E0 f_s_l7Both_M H0 f_s_l7Both_F (opsAt (bodyOf Try.f55 100003)) f_s_l7Both_Dg3 (f_s_l7Both_frg3 v0 v1 v2 v3 v4 t7) = f_s_l7Both_Eg3 v0 v1 v2 v3 v4 t7 (f_s_l7Both_frg3 v0 v1 v2 v3 v4 t7) := by kernel_rfl
theorem f_s_l7Both_dg3 (v0 : List Sc) (v1 : List Sc) (v2 : List Sc) (v3 : Int) (v4 : Int) (t7 : Int) : edgeL E0 f_s_l7Both_M H0 f_s_l7Both_F (opsAt (bodyOf Try.f55 100003)) f_s_l7Both_Dg3 (f_s_l7Both_frg3 v0 v1 v2 v3 v4 t7) = edgeR E0 f_s_l7Both_M H0 f_s_l7Both_F (opsAt (bodyOf Try.f55 100003)) f_s_l7Both_Dg3 (f_s_l7Both_frg3 v0 v1 v2 v3 v4 t7) := (f_s_l7Both_dLg3 v0 v1 v2 v3 v4 t7).trans (f_s_l7Both_dRg3 v0 v1 v2 v3 v4 t7).symm
theorem f_s_l7Both_eg3 (v0 : List Sc) (v1 : List Sc) (v2 : List Sc) (v3 : Int) (v4 : Int) (t7 : Int) : goL E0 f_s_l7Both_M H0 f_s_l7Both_F (opsAt (bodyOf Try.f55 100003)) (Array.replicate (opsAt (bodyOf Try.f55 100003)).size true) (opsAt (bodyOf Try.f55 100003)).toList 0 (f_s_l7Both_frg3 v0 v1 v2 v3 v4 t7) (fun s => some (X.norm, clear (klOf f_s_l7Both_F 100003).2.1 s)) = f_s_l7Both_g3_k v0 v1 v2 v3 v4 t7 (fun e => some (f_s_l7Both_xg3 v0 v1 v2 v3 v4 t7 e)) := by kernel_rfl
theorem f_s_l7Both_lg3 (v0 : List Sc) (v1 : List Sc) (v2 : List Sc) (v3 : Int) (v4 : Int) (t7 : Int) (r : Int) (h : f_s_l7Both_g3 v0 v1 v2 v3 v4 t7 = some r) : LS Try.prog f_s_l7Both_F (bodyOf Try.f55 100003) (f_s_l7Both_frg3 v0 v1 v2 v3 v4 t7) (f_s_l7Both_xg3 v0 v1 v2 v3 v4 t7 r) :=
  region_true (S := Unit) (id := 3) (G := fun _ => f_s_l7Both_g3 v0 v1 v2 v3 v4 t7) (Gk := fun _ k => f_s_l7Both_g3_k v0 v1 v2 v3 v4 t7 k) (fr := fun _ => f_s_l7Both_frg3 v0 v1 v2 v3 v4 t7) (f1 := fun e => f_s_l7Both_xg3 v0 v1 v2 v3 v4 t7 e) E0ok f_s_l7Both_Mt f_s_l7Both_bg3 f_s_l7Both_cg3 (fun _ => f_s_l7Both_dg3 v0 v1 v2 v3 v4 t7) (fun _ => rfl) (fun _ => f_s_l7Both_eg3 v0 v1 v2 v3 v4 t7) (fun _ k => f_s_l7Both_pg3 v0 v1 v2 v3 v4 t7 k) () r h
def f_s_l7Both_tg3 (σ : List AV) : Option (Bool × Bool × (X × List AV) × (X × List AV)) := match dec f_s_l7Both_hg3 σ with
  | some [.l v0, .l v1, .l v2, .i v3, .i v4, .i t7] => some ((f_s_l7Both_g3 v0 v1 v2 v3 v4 t7).isSome, true, f_s_l7Both_xg3 v0 v1 v2 v3 v4 t7 ((f_s_l7Both_g3 v0 v1 v2 v3 v4 t7).getD 0), (.ret, []))
  | _ => none
theorem f_s_l7Both_ttg3 : TTrue Try.prog f_s_l7Both_F Try.f55 100003 f_s_l7Both_tg3 := by
  intro σ p r r' h
  unfold f_s_l7Both_tg3 at h
  split at h
  · rename_i hd
    rw [← dec_enc hd]
    exact rowR (f_s_l7Both_lg3 _ _ _ _ _ _) h
  · cases h
theorem f_s_l7Both_p {R : Type} (code0 : List Sc) (kR : List Sc × Int × Int → Option R) : f_s_l7Both_k code0 kR = (f_s_l7Both_k code0 some).bind kR := by
  simp only [f_s_l7Both_k, boB, someB]
theorem f_s_l7Both_e (code0 : List Sc) : runFn E0 f_s_l7Both_M H0 f_s_l7Both_F (asL (addL 100003 f_s_l7Both_tg3 (noL))) Try.f55 (f_s_l7Both_a code0) (f_s_l7Both_i code0) = f_s_l7Both_k code0 (fun r => some (f_s_l7Both_en r)) := by kernel_rfl
theorem f_s_l7Both_ok (code0 : List Sc) (r : List Sc × Int × Int) (h : f_s_l7Both code0 = some r) : CS Try.prog 55 (f_s_l7Both_a code0) (f_s_l7Both_i code0) (f_s_l7Both_en r).1 (f_s_l7Both_en r).2 :=
  fn_true (Gk := fun k => f_s_l7Both_k code0 k) (en := f_s_l7Both_en) Try.func55 E0ok f_s_l7Both_Mt (addL_true f_s_l7Both_ttg3 (noL_true)) f_s_l7Both_o (f_s_l7Both_e code0) (f_s_l7Both_p code0) h
def f_s_l7Both_c : CRow := fun args inh => match dec2 [.p .sl] [] args inh with
  | some ([.l code0], []) => some ((f_s_l7Both code0).isSome, (f_s_l7Both_en ((f_s_l7Both code0).getD ([], 0, 0))).1, (f_s_l7Both_en ((f_s_l7Both code0).getD ([], 0, 0))).2)
  | _ => none
theorem f_s_l7Both_cc : CTrue Try.prog 55 f_s_l7Both_c := by
  intro args inh rs out h
  unfold f_s_l7Both_c at h
  split at h
  · rename_i hd
    obtain ⟨h1, h2⟩ := dec2_enc hd
    rw [← h1, ← h2]
    exact rowC (f_s_l7Both_ok _) h
  · cases h

def f_s_DrawCoefficientCounts_F : Fi := { nv := 2, nc := 2, m := 0, vt := [(2, 0), (5, 1)], kl := [], sk := [], mvs := [], fz := [] }
def f_s_DrawCoefficientCounts_a (code0 : List Sc) : List AV := enc [.p .sl] [.l code0]
def f_s_DrawCoefficientCounts_i (code0 : List Sc) : List AV := enc [] []
def f_s_DrawCoefficientCounts_en (r : List Sc × Int × Int) : List AV × List AV := (enc [.p .gr, .p (.int .i64), .p (.int .i64)] [.l r.1, .i r.2.1, .i r.2.2], enc [] [])
def f_s_DrawCoefficientCounts_M : Calling := addC 55 f_s_l7Both_c (noC)
theorem f_s_DrawCoefficientCounts_Mt : CallOk Try.prog (f_s_DrawCoefficientCounts_M) := addC_true f_s_l7Both_cc (noC_true)
theorem f_s_DrawCoefficientCounts_o : loopsOnce Try.f21 = true := by kernel_rfl
theorem f_s_DrawCoefficientCounts_p {R : Type} (code0 : List Sc) (kR : List Sc × Int × Int → Option R) : f_s_DrawCoefficientCounts_k code0 kR = (f_s_DrawCoefficientCounts_k code0 some).bind kR := by
  simp only [f_s_DrawCoefficientCounts_k, boB, someB]
theorem f_s_DrawCoefficientCounts_e (code0 : List Sc) : runFn E0 f_s_DrawCoefficientCounts_M H0 f_s_DrawCoefficientCounts_F (asL (noL)) Try.f21 (f_s_DrawCoefficientCounts_a code0) (f_s_DrawCoefficientCounts_i code0) = f_s_DrawCoefficientCounts_k code0 (fun r => some (f_s_DrawCoefficientCounts_en r)) := by kernel_rfl
theorem f_s_DrawCoefficientCounts_ok (code0 : List Sc) (r : List Sc × Int × Int) (h : f_s_DrawCoefficientCounts code0 = some r) : CS Try.prog 21 (f_s_DrawCoefficientCounts_a code0) (f_s_DrawCoefficientCounts_i code0) (f_s_DrawCoefficientCounts_en r).1 (f_s_DrawCoefficientCounts_en r).2 :=
  fn_true (Gk := fun k => f_s_DrawCoefficientCounts_k code0 k) (en := f_s_DrawCoefficientCounts_en) Try.func21 E0ok f_s_DrawCoefficientCounts_Mt (noL_true) f_s_DrawCoefficientCounts_o (f_s_DrawCoefficientCounts_e code0) (f_s_DrawCoefficientCounts_p code0) h
def f_s_DrawCoefficientCounts_c : CRow := fun args inh => match dec2 [.p .sl] [] args inh with
  | some ([.l code0], []) => some ((f_s_DrawCoefficientCounts code0).isSome, (f_s_DrawCoefficientCounts_en ((f_s_DrawCoefficientCounts code0).getD ([], 0, 0))).1, (f_s_DrawCoefficientCounts_en ((f_s_DrawCoefficientCounts code0).getD ([], 0, 0))).2)
  | _ => none
theorem f_s_DrawCoefficientCounts_cc : CTrue Try.prog 21 f_s_DrawCoefficientCounts_c := by
  intro args inh rs out h
  unfold f_s_DrawCoefficientCounts_c at h
  split at h
  · rename_i hd
    obtain ⟨h1, h2⟩ := dec2_enc hd
    rw [← h1, ← h2]
    exact rowC (f_s_DrawCoefficientCounts_ok _) h
  · cases h

def f_s_l2One_F : Fi := { nv := 6, nc := 5, m := 0, vt := [(2, 0), (5, 1), (7, 2), (9, 5)], kl := [(100003, ([5, 6, 7, 9, 12, 13, 14, 15, 16, 17, 18, 19], [1, 2, 3, 4, 5, 6, 7, 10, 11, 12, 13, 14, 15, 16, 17, 18, 19], []))], sk := [], mvs := [5], fz := [], tb := [3] }
def f_s_l2One_a (code0 : List Sc) : List AV := enc [.p .sl] [.l code0]
def f_s_l2One_i (code0 : List Sc) : List AV := enc [] []
def f_s_l2One_en (r : List Sc × Int) : List AV × List AV := (enc [.p .gr, .p (.int .i64)] [.l r.1, .i r.2], enc [] [])
def f_s_l2One_M : Calling := addC 63 f_s_l1New_c (addC 64 f_s_l2Any_io_c (addC 65 f_s_l2Element_io_c (noC)))
theorem f_s_l2One_Mt : CallOk Try.prog (f_s_l2One_M) := addC_true f_s_l1New_cc (addC_true f_s_l2Any_io_cc (addC_true f_s_l2Element_io_cc (noC_true)))
theorem f_s_l2One_o : loopsOnce Try.f57 = true := by kernel_rfl
def f_s_l2One_hg3 : List Sh := [.p .sl, .own 3, .p .sl, .p (.int .i64), .p (.int .i64), .u, .u, .u, .p (.pt 0 1), .u, .p (.pt 2 3), .p (.pt 1 1), .u, .u, .u, .u, .u, .u, .u, .u]
def f_s_l2One_frg3 (v0 : List Sc) (v1 : List Sc) (v2 : List Sc) (v3 : Int) (v4 : Int) : List AV := enc f_s_l2One_hg3 [.l v0, .l v1, .l v2, .i v3, .i v4]
def f_s_l2One_xg3 (v0 : List Sc) (v1 : List Sc) (v2 : List Sc) (v3 : Int) (v4 : Int) (e : Int) : X × List AV := (.norm, enc [.p .sl, .u, .u, .u, .u, .u, .u, .u, .p (.pt 0 1), .p (.int .i64), .u, .u, .u, .u, .u, .u, .u, .u, .u, .u] [.l v1, .i e])
theorem f_s_l2One_pg3 {R : Type} (v0 : List Sc) (v1 : List Sc) (v2 : List Sc) (v3 : Int) (v4 : Int) (kA : Int → Option R) : f_s_l2One_g3_k v0 v1 v2 v3 v4 kA = (f_s_l2One_g3 v0 v1 v2 v3 v4).bind kA := by
  simp only [f_s_l2One_g3_k, f_s_l2One_g3, boB, someB]
theorem f_s_l2One_bg3 : bodyOf Try.f57 100003 = .region 3 (opsAt (bodyOf Try.f57 100003)) true := by kernel_rfl
def f_s_l2One_Dg3 : List (Array Bool) := [#[false, false, false, false, false, false], #[true, false, false, false, false, false], #[false, true, false, false, false, false], #[false, false, true, false, false, false], #[true, true, false, false, false, false], #[true, false, true, false, false, false], #[false, true, true, false, false, false], #[true, true, true, false, false, false], #[false, true, true, true, false, false], #[true, true, true, true, false, false], #[true, true, true, true, true, false], #[true, true, true, true, true, true]]
theorem f_s_l2One_cg3 : closedB (opsAt (bodyOf Try.f57 100003)) f_s_l2One_Dg3 = true := by kernel_rfl
def f_s_l2One_sg3_0 (v0 : List Sc) (v1 : List Sc) (v2 : List Sc) (v3 : Int) (v4 : Int) (fr : List AV) : Option (List AV) :=
  some (setAll [] fr)
def f_s_l2One_sg3_1 (v0 : List Sc) (v1 : List Sc) (v2 : List Sc) (v3 : Int) (v4 : Int) (fr : List AV) : Option (List AV) :=
  some (setAll [(16, .p (.go 1))] fr)
def f_s_l2One_sg3_2 (v0 : List Sc) (v1 : List Sc) (v2 : List Sc) (v3 : Int) (v4 : Int) (fr : List AV) : Option (List AV) :=
  some (setAll [(17, .p (.pt 2 3))] fr)
def f_s_l2One_sg3_4 (v0 : List Sc) (v1 : List Sc) (v2 : List Sc) (v3 : Int) (v4 : Int) (fr : List AV) : Option (List AV) :=
  some (setAll [(18, .p (.go 1))] fr)
def f_s_l2One_sg3_3 (v0 : List Sc) (v1 : List Sc) (v2 : List Sc) (v3 : Int) (v4 : Int) (fr : List AV) : Option (List AV) :=
  some (setAll [(16, .p (.go 1)), (17, .p (.pt 2 3))] fr)
def f_s_l2One_sg3_5 (v0 : List Sc) (v1 : List Sc) (v2 : List Sc) (v3 : Int) (v4 : Int) (fr : List AV) : Option (List AV) :=
  some (setAll [(16, .p (.go 1)), (18, .p (.go 1))] fr)
def f_s_l2One_sg3_6 (v0 : List Sc) (v1 : List Sc) (v2 : List Sc) (v3 : Int) (v4 : Int) (fr : List AV) : Option (List AV) :=
  some (setAll [(17, .p (.pt 2 3)), (18, .p (.go 1))] fr)
def f_s_l2One_sg3_7 (v0 : List Sc) (v1 : List Sc) (v2 : List Sc) (v3 : Int) (v4 : Int) (fr : List AV) : Option (List AV) :=
  some (setAll [(16, .p (.go 1)), (17, .p (.pt 2 3)), (18, .p (.go 1))] fr)
def f_s_l2One_sg3_14 (v0 : List Sc) (v1 : List Sc) (v2 : List Sc) (v3 : Int) (v4 : Int) (fr : List AV) : Option (List AV) :=
  bo (f_s_l2Element_io v1 v2 v3 v4) (0, [], 0, 0) fun r4 =>
  some (setAll [(1, .fr 3 v1), (2, .p (.sl r4.2.1)), (3, .p (.sc (Sc.n .i64 r4.2.2.1))), (4, .p (.sc (Sc.n .i64 r4.2.2.2))), (17, .p (.pt 2 3)), (18, .p (.gr v1)), (19, .p (.sc (Sc.n .i64 r4.1)))] fr)
def f_s_l2One_sg3_15 (v0 : List Sc) (v1 : List Sc) (v2 : List Sc) (v3 : Int) (v4 : Int) (fr : List AV) : Option (List AV) :=
  bo (f_s_l2Element_io v1 v2 v3 v4) (0, [], 0, 0) fun r5 =>
  some (setAll [(1, .fr 3 v1), (2, .p (.sl r5.2.1)), (3, .p (.sc (Sc.n .i64 r5.2.2.1))), (4, .p (.sc (Sc.n .i64 r5.2.2.2))), (16, .p (.gr v1)), (17, .p (.pt 2 3)), (18, .p (.gr v1)), (19, .p (.sc (Sc.n .i64 r5.1)))] fr)
def f_s_l2One_sg3_31 (v0 : List Sc) (v1 : List Sc) (v2 : List Sc) (v3 : Int) (v4 : Int) (fr : List AV) : Option (List AV) :=
  bo (f_s_l2Element_io v1 v2 v3 v4) (0, [], 0, 0) fun r6 =>
  some (setAll [(0, .p (.sl v1)), (1, .fr 3 v1), (2, .p (.sl r6.2.1)), (3, .p (.sc (Sc.n .i64 r6.2.2.1))), (4, .p (.sc (Sc.n .i64 r6.2.2.2))), (16, .p (.gr v1)), (17, .p (.pt 2 3)), (18, .p (.gr v1)), (19, .p (.sc (Sc.n .i64 r6.1)))] fr)
def f_s_l2One_sg3_63 (v0 : List Sc) (v1 : List Sc) (v2 : List Sc) (v3 : Int) (v4 : Int) (fr : List AV) : Option (List AV) :=
  bo (f_s_l2Element_io v1 v2 v3 v4) (0, [], 0, 0) fun r7 =>
  some (setAll [(0, .p (.sl v1)), (1, .fr 3 v1), (2, .p (.sl r7.2.1)), (3, .p (.sc (Sc.n .i64 r7.2.2.1))), (4, .p (.sc (Sc.n .i64 r7.2.2.2))), (9, .p (.sc (Sc.n .i64 r7.1))), (16, .p (.gr v1)), (17, .p (.pt 2 3)), (18, .p (.gr v1)), (19, .p (.sc (Sc.n .i64 r7.1)))] fr)
def f_s_l2One_Eg3 (v0 : List Sc) (v1 : List Sc) (v2 : List Sc) (v3 : Int) (v4 : Int) (fr : List AV) : List (Option (List AV)) := [f_s_l2One_sg3_1 v0 v1 v2 v3 v4 fr, f_s_l2One_sg3_2 v0 v1 v2 v3 v4 fr, f_s_l2One_sg3_4 v0 v1 v2 v3 v4 fr, f_s_l2One_sg3_3 v0 v1 v2 v3 v4 fr, f_s_l2One_sg3_5 v0 v1 v2 v3 v4 fr, f_s_l2One_sg3_3 v0 v1 v2 v3 v4 fr, f_s_l2One_sg3_6 v0 v1 v2 v3 v4 fr, f_s_l2One_sg3_5 v0 v1 v2 v3 v4 fr, f_s_l2One_sg3_6 v0 v1 v2 v3 v4 fr, f_s_l2One_sg3_7 v0 v1 v2 v3 v4 fr, f_s_l2One_sg3_7 v0 v1 v2 v3 v4 fr, f_s_l2One_sg3_7 v0 v1 v2 v3 v4 fr, f_s_l2One_sg3_14 v0 v1 v2 v3 v4 fr, f_s_l2One_sg3_15 v0 v1 v2 v3 v4 fr, f_s_l2One_sg3_15 v0 v1 v2 v3 v4 fr, f_s_l2One_sg3_31 v0 v1 v2 v3 v4 fr, f_s_l2One_sg3_63 v0 v1 v2 v3 v4 fr]
theorem f_s_l2One_dLg3 (v0 : List Sc) (v1 : List Sc) (v2 : List Sc) (v3 : Int) (v4 : Int) : edgeL E0 f_s_l2One_M H0 f_s_l2One_F (opsAt (bodyOf Try.f57 100003)) f_s_l2One_Dg3 (f_s_l2One_frg3 v0 v1 v2 v3 v4) = f_s_l2One_Eg3 v0 v1 v2 v3 v4 (f_s_l2One_frg3 v0 v1 v2 v3 v4) := by kernel_rfl
theorem f_s_l2One_dRg3 (v0 : List Sc) (v1 : List Sc) (v2 : List Sc) (v3 : Int) (v4 : Int) : edgeR E0 f_s_l2One_M H0 f_s_l2One_F (opsAt (bodyOf Try.f57 100003)) f_s_l2One_Dg3 (f_s_l2One_frg3 v0 v1 v2 v3 v4) = f_s_l2One_Eg3 v0 v1 v2 v3 v4 (f_s_l2One_frg3 v0 v1 v2 v3 v4) := by kernel_rfl
theorem f_s_l2One_dg3 (v0 : List Sc) (v1 : List Sc) (v2 : List Sc) (v3 : Int) (v4 : Int) : edgeL E0 f_s_l2One_M H0 f_s_l2One_F (opsAt (bodyOf Try.f57 100003)) f_s_l2One_Dg3 (f_s_l2One_frg3 v0 v1 v2 v3 v4) = edgeR E0 f_s_l2One_M H0 f_s_l2One_F (opsAt (bodyOf Try.f57 100003)) f_s_l2One_Dg3 (f_s_l2One_frg3 v0 v1 v2 v3 v4) := (f_s_l2One_dLg3 v0 v1 v2 v3 v4).trans (f_s_l2One_dRg3 v0 v1 v2 v3 v4).symm
theorem f_s_l2One_eg3 (v0 : List Sc) (v1 : List Sc) (v2 : List Sc) (v3 : Int) (v4 : Int) : goL E0 f_s_l2One_M H0 f_s_l2One_F (opsAt (bodyOf Try.f57 100003)) (Array.replicate (opsAt (bodyOf Try.f57 100003)).size true) (opsAt (bodyOf Try.f57 100003)).toList 0 (f_s_l2One_frg3 v0 v1 v2 v3 v4) (fun s => some (X.norm, clear (klOf f_s_l2One_F 100003).2.1 s)) = f_s_l2One_g3_k v0 v1 v2 v3 v4 (fun e => some (f_s_l2One_xg3 v0 v1 v2 v3 v4 e)) := by kernel_rfl
theorem f_s_l2One_lg3 (v0 : List Sc) (v1 : List Sc) (v2 : List Sc) (v3 : Int) (v4 : Int) (r : Int) (h : f_s_l2One_g3 v0 v1 v2 v3 v4 = some r) : LS Try.prog f_s_l2One_F (bodyOf Try.f57 100003) (f_s_l2One_frg3 v0 v1 v2 v3 v4) (f_s_l2One_xg3 v0 v1 v2 v3 v4 r) :=
  region_true (S := Unit) (id := 3) (G := fun _ => f_s_l2One_g3 v0 v1 v2 v3 v4) (Gk := fun _ k => f_s_l2One_g3_k v0 v1 v2 v3 v4 k) (fr := fun _ => f_s_l2One_frg3 v0 v1 v2 v3 v4) (f1 := fun e => f_s_l2One_xg3 v0 v1 v2 v3 v4 e) E0ok f_s_l2One_Mt f_s_l2One_bg3 f_s_l2One_cg3 (fun _ => f_s_l2One_dg3 v0 v1 v2 v3 v4) (fun _ => rfl) (fun _ => f_s_l2One_eg3 v0 v1 v2 v3 v4) (fun _ k => f_s_l2One_pg3 v0 v1 v2 v3 v4 k) () r h
def f_s_l2One_tg3 (σ : List AV) : Option (Bool × Bool × (X × List AV) × (X × List AV)) := match dec f_s_l2One_hg3 σ with
  | some [.l v0, .l v1, .l v2, .i v3, .i v4] => some ((f_s_l2One_g3 v0 v1 v2 v3 v4).isSome, true, f_s_l2One_xg3 v0 v1 v2 v3 v4 ((f_s_l2One_g3 v0 v1 v2 v3 v4).getD 0), (.ret, []))
  | _ => none
theorem f_s_l2One_ttg3 : TTrue Try.prog f_s_l2One_F Try.f57 100003 f_s_l2One_tg3 := by
  intro σ p r r' h
  unfold f_s_l2One_tg3 at h
  split at h
  · rename_i hd
    rw [← dec_enc hd]
    exact rowR (f_s_l2One_lg3 _ _ _ _ _) h
  · cases h
theorem f_s_l2One_p {R : Type} (code0 : List Sc) (kR : List Sc × Int → Option R) : f_s_l2One_k code0 kR = (f_s_l2One_k code0 some).bind kR := by
  simp only [f_s_l2One_k, boB, someB]
theorem f_s_l2One_e (code0 : List Sc) : runFn E0 f_s_l2One_M H0 f_s_l2One_F (asL (addL 100003 f_s_l2One_tg3 (noL))) Try.f57 (f_s_l2One_a code0) (f_s_l2One_i code0) = f_s_l2One_k code0 (fun r => some (f_s_l2One_en r)) := by kernel_rfl
theorem f_s_l2One_ok (code0 : List Sc) (r : List Sc × Int) (h : f_s_l2One code0 = some r) : CS Try.prog 57 (f_s_l2One_a code0) (f_s_l2One_i code0) (f_s_l2One_en r).1 (f_s_l2One_en r).2 :=
  fn_true (Gk := fun k => f_s_l2One_k code0 k) (en := f_s_l2One_en) Try.func57 E0ok f_s_l2One_Mt (addL_true f_s_l2One_ttg3 (noL_true)) f_s_l2One_o (f_s_l2One_e code0) (f_s_l2One_p code0) h
def f_s_l2One_c : CRow := fun args inh => match dec2 [.p .sl] [] args inh with
  | some ([.l code0], []) => some ((f_s_l2One code0).isSome, (f_s_l2One_en ((f_s_l2One code0).getD ([], 0))).1, (f_s_l2One_en ((f_s_l2One code0).getD ([], 0))).2)
  | _ => none
theorem f_s_l2One_cc : CTrue Try.prog 57 f_s_l2One_c := by
  intro args inh rs out h
  unfold f_s_l2One_c at h
  split at h
  · rename_i hd
    obtain ⟨h1, h2⟩ := dec2_enc hd
    rw [← h1, ← h2]
    exact rowC (f_s_l2One_ok _) h
  · cases h

def f_s_DrawKernelOf_F : Fi := { nv := 2, nc := 2, m := 0, vt := [(2, 0), (4, 1)], kl := [], sk := [], mvs := [], fz := [] }
def f_s_DrawKernelOf_a (code0 : List Sc) : List AV := enc [.p .sl] [.l code0]
def f_s_DrawKernelOf_i (code0 : List Sc) : List AV := enc [] []
def f_s_DrawKernelOf_en (r : List Sc × Int) : List AV × List AV := (enc [.p .gr, .p (.int .i64)] [.l r.1, .i r.2], enc [] [])
def f_s_DrawKernelOf_M : Calling := addC 57 f_s_l2One_c (noC)
theorem f_s_DrawKernelOf_Mt : CallOk Try.prog (f_s_DrawKernelOf_M) := addC_true f_s_l2One_cc (noC_true)
theorem f_s_DrawKernelOf_o : loopsOnce Try.f23 = true := by kernel_rfl
theorem f_s_DrawKernelOf_p {R : Type} (code0 : List Sc) (kR : List Sc × Int → Option R) : f_s_DrawKernelOf_k code0 kR = (f_s_DrawKernelOf_k code0 some).bind kR := by
  simp only [f_s_DrawKernelOf_k, boB, someB]
theorem f_s_DrawKernelOf_e (code0 : List Sc) : runFn E0 f_s_DrawKernelOf_M H0 f_s_DrawKernelOf_F (asL (noL)) Try.f23 (f_s_DrawKernelOf_a code0) (f_s_DrawKernelOf_i code0) = f_s_DrawKernelOf_k code0 (fun r => some (f_s_DrawKernelOf_en r)) := by kernel_rfl
theorem f_s_DrawKernelOf_ok (code0 : List Sc) (r : List Sc × Int) (h : f_s_DrawKernelOf code0 = some r) : CS Try.prog 23 (f_s_DrawKernelOf_a code0) (f_s_DrawKernelOf_i code0) (f_s_DrawKernelOf_en r).1 (f_s_DrawKernelOf_en r).2 :=
  fn_true (Gk := fun k => f_s_DrawKernelOf_k code0 k) (en := f_s_DrawKernelOf_en) Try.func23 E0ok f_s_DrawKernelOf_Mt (noL_true) f_s_DrawKernelOf_o (f_s_DrawKernelOf_e code0) (f_s_DrawKernelOf_p code0) h
def f_s_DrawKernelOf_c : CRow := fun args inh => match dec2 [.p .sl] [] args inh with
  | some ([.l code0], []) => some ((f_s_DrawKernelOf code0).isSome, (f_s_DrawKernelOf_en ((f_s_DrawKernelOf code0).getD ([], 0))).1, (f_s_DrawKernelOf_en ((f_s_DrawKernelOf code0).getD ([], 0))).2)
  | _ => none
theorem f_s_DrawKernelOf_cc : CTrue Try.prog 23 f_s_DrawKernelOf_c := by
  intro args inh rs out h
  unfold f_s_DrawKernelOf_c at h
  split at h
  · rename_i hd
    obtain ⟨h1, h2⟩ := dec2_enc hd
    rw [← h1, ← h2]
    exact rowC (f_s_DrawKernelOf_ok _) h
  · cases h

def f_s_CoefficientCounts_F : Fi := { nv := 0, nc := 0, m := 0, vt := [], kl := [(0, ([0, 1, 4, 5, 6, 10, 11, 12, 13, 14, 15, 16, 17, 18, 19, 20, 21, 22, 23, 24, 25, 26, 27, 28, 29, 30, 31, 32, 33, 34, 35, 36, 37, 38, 39, 40, 41, 42, 43, 44, 45, 46, 47, 48], [0, 1, 2, 3, 4, 5, 6, 8, 9, 10, 11, 12, 13, 14, 15, 16, 17, 18, 19, 20, 21, 22, 23, 24, 25, 26, 27, 28, 29, 30, 31, 32, 33, 34, 35, 36, 37, 38, 39, 40, 41, 42, 43, 44, 45, 46, 47, 48], [0, 1, 2, 3, 4, 5, 7, 8, 9, 10, 11, 12, 13, 14, 15, 16, 17, 18, 19, 20, 21, 22, 23, 24, 25, 26, 27, 28, 29, 30, 31, 32, 33, 34, 35, 36, 37, 38, 39, 40, 41, 42, 43, 44, 45, 46, 47, 48]))], sk := [], mvs := [], fz := [] }
def f_s_CoefficientCounts_a (g0 : List Sc) (a1 : Int) (k2 : Int) : List AV := enc [.p .gr, .p (.int .i64), .p (.int .i64)] [.l g0, .i a1, .i k2]
def f_s_CoefficientCounts_i (g0 : List Sc) (a1 : Int) (k2 : Int) : List AV := enc [] []
def f_s_CoefficientCounts_en (r : List Sc) : List AV × List AV := (enc [.p (.al 0)] [], enc [.own 3] [.l r])
def f_s_CoefficientCounts_M : Calling := addC 49 f_s_IsSet_c (addC 41 f_s_l2Is_c (addC 10 f_s_ExponentOf_c (addC 54 f_s_l3List_c (addC 42 f_s_l7Value_c (noC)))))
theorem f_s_CoefficientCounts_Mt : CallOk Try.prog (f_s_CoefficientCounts_M) := addC_true f_s_IsSet_cc (addC_true f_s_l2Is_cc (addC_true f_s_ExponentOf_cc (addC_true f_s_l3List_cc (addC_true f_s_l7Value_cc (noC_true)))))
theorem f_s_CoefficientCounts_o : loopsOnce Try.f28 = true := by kernel_rfl
def f_s_CoefficientCounts_h0 : List Sh := [.u, .u, .p (.int .i64), .p .el, .u, .u, .u, .own 3, .own 3, .p (.int .i64), .u, .u, .u, .u, .u, .u, .u, .u, .u, .u, .u, .u, .u, .u, .u, .u, .u, .u, .u, .u, .u, .u, .u, .u, .u, .u, .u, .u, .u, .u, .u, .u, .u, .u, .u, .u, .u, .u, .u]
def f_s_CoefficientCounts_fr0 (k2 : Int) (g3 : List Sc) (s : List Sc × List Sc × Int) : List AV := enc f_s_CoefficientCounts_h0 [.i k2, .l g3, .l s.1, .l s.2.1, .i s.2.2]
def f_s_CoefficientCounts_g0_1 : List Sh := [.u, .u, .u, .u, .u, .u, .u, .own 3, .u, .u, .u, .u, .u, .u, .u, .u, .u, .u, .u, .u, .u, .u, .u, .u, .u, .u, .u, .u, .u, .u, .u, .u, .u, .u, .u, .u, .u, .u, .u, .u, .u, .u, .u, .u, .u, .u, .u, .u, .u]
def f_s_CoefficientCounts_x0_1 (k2 : Int) (g3 : List Sc) (e : List Sc) : X × List AV := (.out 0, enc f_s_CoefficientCounts_g0_1 [.l e])
def f_s_CoefficientCounts_x0_2 (k2 : Int) (g3 : List Sc) (_e : Unit) : X × List AV := (.ret, [])
theorem f_s_CoefficientCounts_p0 {R : Type} (k2 : Int) (g3 : List Sc) (s : List Sc × List Sc × Int) (kN : List Sc × List Sc × Int → Option R) (kA : List Sc → Option R) (kB : Unit → Option R) : f_s_CoefficientCounts_k0 k2 g3 s.1 s.2.1 s.2.2 kN kA = (f_s_CoefficientCounts_r0 k2 g3 s).bind (Ro.el kN kA kB) := by
  simp only [f_s_CoefficientCounts_k0, f_s_CoefficientCounts_r0, brB, boB, someB, noneB, Ro.el]
theorem f_s_CoefficientCounts_e0 (k2 : Int) (g3 : List Sc) (s : List Sc × List Sc × Int) : EC E0 f_s_CoefficientCounts_M H0 f_s_CoefficientCounts_F (asL (noL)) 0 (bodyOf Try.f28 0) (f_s_CoefficientCounts_fr0 k2 g3 s) (done (klOf f_s_CoefficientCounts_F 0)) = f_s_CoefficientCounts_k0 k2 g3 s.1 s.2.1 s.2.2 (fun s => some (.norm, f_s_CoefficientCounts_fr0 k2 g3 s)) (fun e => some (f_s_CoefficientCounts_x0_1 k2 g3 e)) := by kernel_rfl
theorem f_s_CoefficientCounts_l0 (k2 : Int) (g3 : List Sc) : ∀ s r, loopL (f_s_CoefficientCounts_r0 k2 g3) s = some r → LS Try.prog f_s_CoefficientCounts_F (bodyOf Try.f28 0) (f_s_CoefficientCounts_fr0 k2 g3 s) (enX (f_s_CoefficientCounts_x0_1 k2 g3) (f_s_CoefficientCounts_x0_2 k2 g3) r) :=
  loop_true E0ok f_s_CoefficientCounts_Mt (noL_true) f_s_CoefficientCounts_o (fun _ h => by cases h) (fun _ h => by cases h) (fun s => (f_s_CoefficientCounts_e0 k2 g3 s).trans (f_s_CoefficientCounts_p0 k2 g3 s _ _ (fun e => some (f_s_CoefficientCounts_x0_2 k2 g3 e))))
def f_s_CoefficientCounts_t0 (σ : List AV) : Option (Bool × Bool × (X × List AV) × (X × List AV)) := match dec f_s_CoefficientCounts_h0 σ with
  | some [.i k2, .l g3, .l out7, .l l8, .i i9] => some (isOne (loopL (f_s_CoefficientCounts_r0 k2 g3) (out7, l8, i9)), true, f_s_CoefficientCounts_x0_1 k2 g3 (getOne [] (loopL (f_s_CoefficientCounts_r0 k2 g3) (out7, l8, i9))), (.ret, []))
  | _ => none
theorem f_s_CoefficientCounts_tt0 : TTrue Try.prog f_s_CoefficientCounts_F Try.f28 0 (f_s_CoefficientCounts_t0) := by
  intro σ p r r' h
  unfold f_s_CoefficientCounts_t0 at h
  split at h
  · rename_i hd
    rw [← dec_enc hd]
    exact row1 (f_s_CoefficientCounts_l0 _ _ _) h
  · cases h
theorem f_s_CoefficientCounts_p {R : Type} (g0 : List Sc) (a1 : Int) (k2 : Int) (kR : List Sc → Option R) : f_s_CoefficientCounts_k g0 a1 k2 kR = (f_s_CoefficientCounts_k g0 a1 k2 some).bind kR := by
  simp only [f_s_CoefficientCounts_k, brB, boB, bl1B, someB, noneB]
theorem f_s_CoefficientCounts_e (g0 : List Sc) (a1 : Int) (k2 : Int) : runFn E0 f_s_CoefficientCounts_M H0 f_s_CoefficientCounts_F (asL (addL 0 (f_s_CoefficientCounts_t0) (noL))) Try.f28 (f_s_CoefficientCounts_a g0 a1 k2) (f_s_CoefficientCounts_i g0 a1 k2) = f_s_CoefficientCounts_k g0 a1 k2 (fun r => some (f_s_CoefficientCounts_en r)) := by kernel_rfl
theorem f_s_CoefficientCounts_ok (g0 : List Sc) (a1 : Int) (k2 : Int) (r : List Sc) (h : f_s_CoefficientCounts g0 a1 k2 = some r) : CS Try.prog 28 (f_s_CoefficientCounts_a g0 a1 k2) (f_s_CoefficientCounts_i g0 a1 k2) (f_s_CoefficientCounts_en r).1 (f_s_CoefficientCounts_en r).2 :=
  fn_true (Gk := fun k => f_s_CoefficientCounts_k g0 a1 k2 k) (en := f_s_CoefficientCounts_en) Try.func28 E0ok f_s_CoefficientCounts_Mt (addL_true (f_s_CoefficientCounts_tt0) (noL_true)) f_s_CoefficientCounts_o (f_s_CoefficientCounts_e g0 a1 k2) (f_s_CoefficientCounts_p g0 a1 k2) h
def f_s_CoefficientCounts_c : CRow := fun args inh => match dec2 [.p .gr, .p (.int .i64), .p (.int .i64)] [] args inh with
  | some ([.l g0, .i a1, .i k2], []) => some ((f_s_CoefficientCounts g0 a1 k2).isSome, (f_s_CoefficientCounts_en ((f_s_CoefficientCounts g0 a1 k2).getD [])).1, (f_s_CoefficientCounts_en ((f_s_CoefficientCounts g0 a1 k2).getD [])).2)
  | _ => none
theorem f_s_CoefficientCounts_cc : CTrue Try.prog 28 f_s_CoefficientCounts_c := by
  intro args inh rs out h
  unfold f_s_CoefficientCounts_c at h
  split at h
  · rename_i hd
    obtain ⟨h1, h2⟩ := dec2_enc hd
    rw [← h1, ← h2]
    exact rowC (f_s_CoefficientCounts_ok _ _ _) h
  · cases h

def f_s_l7Pair_F : Fi := { nv := 5, nc := 4, m := 0, vt := [(5, 0), (10, 1), (12, 4)], kl := [(100004, ([4, 5, 6, 7, 8, 12, 13, 14, 15, 16, 17, 18, 19, 20, 21, 22, 23, 24, 25, 26, 27, 28, 29, 30, 31, 32, 33, 34, 35, 36, 37, 38, 39, 40, 41, 42, 43, 44, 45, 46, 47, 48], [4, 5, 6, 7, 8, 11, 13, 14, 15, 16, 17, 18, 19, 20, 21, 22, 23, 24, 25, 26, 27, 28, 29, 30, 31, 32, 33, 34, 35, 36, 37, 38, 39, 40, 41, 42, 43, 44, 45, 46, 47, 48], [])), (100005, ([4, 5, 6, 7, 8, 11, 13, 14, 15, 16, 17, 18, 19, 20, 21, 22, 23, 24, 25, 26, 27, 28, 29, 30, 31, 32, 33, 34, 35, 36, 37, 38, 39, 40, 41, 42, 43, 44, 45, 46, 47, 48], [0, 4, 5, 6, 7, 8, 10, 11, 14, 15, 16, 17, 18, 19, 20, 21, 22, 23, 24, 25, 26, 27, 28, 29, 30, 31, 32, 33, 34, 35, 36, 37, 38, 39, 40, 41, 42, 43, 44, 45, 46, 47, 48], []))], sk := [], mvs := [4], fz := [], tb := [4, 5] }
def f_s_l7Pair_a (code0 : List Sc) : List AV := enc [.p .sl] [.l code0]
def f_s_l7Pair_i (code0 : List Sc) : List AV := enc [] []
def f_s_l7Pair_en (r : List Sc × List Sc) : List AV × List AV := (enc [.p (.al 0), .p (.al 1)] [], enc [.own 3, .own 3] [.l r.1, .l r.2])
def f_s_l7Pair_M : Calling := addC 63 f_s_l1New_c (addC 77 f_s_l2Draw_io_c (addC 78 f_s_l3Set_io_c (addC 65 f_s_l2Element_io_c (addC 28 f_s_CoefficientCounts_c (addC 79 f_s_l1Once_io_c (addC 80 f_s_l1PickInt_io_c (noC)))))))
theorem f_s_l7Pair_Mt : CallOk Try.prog (f_s_l7Pair_M) := addC_true f_s_l1New_cc (addC_true f_s_l2Draw_io_cc (addC_true f_s_l3Set_io_cc (addC_true f_s_l2Element_io_cc (addC_true f_s_CoefficientCounts_cc (addC_true f_s_l1Once_io_cc (addC_true f_s_l1PickInt_io_cc (noC_true)))))))
theorem f_s_l7Pair_o : loopsOnce Try.f58 = true := by kernel_rfl
def f_s_l7Pair_hg4 : List Sh := [.fr 3, .p .sl, .p (.int .i64), .p (.int .i64), .u, .u, .u, .u, .u, .p (.pt 1 3), .p (.pt 0 1), .p (.int .i64), .u, .u, .u, .u, .u, .u, .u, .u, .u, .u, .u, .u, .u, .u, .u, .u, .u, .u, .u, .u, .u, .u, .u, .u, .u, .u, .u, .u, .u, .u, .u, .u, .u, .u, .u, .u, .u]
def f_s_l7Pair_frg4 (v0 : List Sc) (v1 : List Sc) (v2 : Int) (v3 : Int) (t6 : Int) : List AV := enc f_s_l7Pair_hg4 [.l v0, .l v1, .i v2, .i v3, .i t6]
def f_s_l7Pair_xg4 (v0 : List Sc) (v1 : List Sc) (v2 : Int) (v3 : Int) (t6 : Int) (e : List Sc × Int × Int × List Sc) : X × List AV := (.norm, enc [.fr 3, .p .sl, .p (.int .i64), .p (.int .i64), .u, .u, .u, .u, .u, .p (.pt 1 3), .p (.pt 0 1), .u, .own 3, .u, .u, .u, .u, .u, .u, .u, .u, .u, .u, .u, .u, .u, .u, .u, .u, .u, .u, .u, .u, .u, .u, .u, .u, .u, .u, .u, .u, .u, .u, .u, .u, .u, .u, .u, .u] [.l v0, .l e.1, .i e.2.1, .i e.2.2.1, .l e.2.2.2])
theorem f_s_l7Pair_pg4 {R : Type} (v0 : List Sc) (v1 : List Sc) (v2 : Int) (v3 : Int) (t6 : Int) (kA : List Sc × Int × Int × List Sc → Option R) : f_s_l7Pair_g4_k v0 v1 v2 v3 t6 kA = (f_s_l7Pair_g4 v0 v1 v2 v3 t6).bind kA := by
  simp only [f_s_l7Pair_g4_k, f_s_l7Pair_g4, boB, someB]
theorem f_s_l7Pair_bg4 : bodyOf Try.f58 100004 = .region 4 (opsAt (bodyOf Try.f58 100004)) true := by kernel_rfl
def f_s_l7Pair_Dg4 : List (Array Bool) := [#[false, false, false, false, false, false, false], #[true, false, false, false, false, false, false], #[false, true, false, false, false, false, false], #[false, false, true, false, false, false, false], #[false, false, false, true, false, false, false], #[true, true, false, false, false, false, false], #[true, false, true, false, false, false, false], #[true, false, false, true, false, false, false], #[false, true, true, false, false, false, false], #[false, true, false, true, false, false, false], #[false, false, true, true, false, false, false], #[true, true, true, false, false, false, false], #[true, true, false, true, false, false, false], #[true, false, true, true, false, false, false], #[false, true, true, true, false, false, false], #[false, false, true, true, true, false, false], #[true, true, true, true, false, false, false], #[true, false, true, true, true, false, false], #[false, true, true, true, true, false, false], #[true, true, true, true, true, false, false], #[true, true, true, true, true, true, false], #[true, true, true, true, true, true, true]]
theorem f_s_l7Pair_cg4 : closedB (opsAt (bodyOf Try.f58 100004)) f_s_l7Pair_Dg4 = true := by kernel_rfl
def f_s_l7Pair_sg4_0 (v0 : List Sc) (v1 : List Sc) (v2 : Int) (v3 : Int) (t6 : Int) (fr : List AV) : Option (List AV) :=
  some (setAll [] fr)
def f_s_l7Pair_sg4_1 (v0 : List Sc) (v1 : List Sc) (v2 : Int) (v3 : Int) (t6 : Int) (fr : List AV) : Option (List AV) :=
  some (setAll [(21, .p (.gr v0))] fr)
def f_s_l7Pair_sg4_2 (v0 : List Sc) (v1 : List Sc) (v2 : Int) (v3 : Int) (t6 : Int) (fr : List AV) : Option (List AV) :=
  some (setAll [(22, .p (.sc (Sc.n .i64 t6)))] fr)
def f_s_l7Pair_sg4_4 (v0 : List Sc) (v1 : List Sc) (v2 : Int) (v3 : Int) (t6 : Int) (fr : List AV) : Option (List AV) :=
  some (setAll [(23, .p (.pt 1 3))] fr)
def f_s_l7Pair_sg4_8 (v0 : List Sc) (v1 : List Sc) (v2 : Int) (v3 : Int) (t6 : Int) (fr : List AV) : Option (List AV) :=
  some (setAll [(24, .p (.gr v0))] fr)
def f_s_l7Pair_sg4_3 (v0 : List Sc) (v1 : List Sc) (v2 : Int) (v3 : Int) (t6 : Int) (fr : List AV) : Option (List AV) :=
  some (setAll [(21, .p (.gr v0)), (22, .p (.sc (Sc.n .i64 t6)))] fr)
def f_s_l7Pair_sg4_5 (v0 : List Sc) (v1 : List Sc) (v2 : Int) (v3 : Int) (t6 : Int) (fr : List AV) : Option (List AV) :=
  some (setAll [(21, .p (.gr v0)), (23, .p (.pt 1 3))] fr)
def f_s_l7Pair_sg4_9 (v0 : List Sc) (v1 : List Sc) (v2 : Int) (v3 : Int) (t6 : Int) (fr : List AV) : Option (List AV) :=
  some (setAll [(21, .p (.gr v0)), (24, .p (.gr v0))] fr)
def f_s_l7Pair_sg4_6 (v0 : List Sc) (v1 : List Sc) (v2 : Int) (v3 : Int) (t6 : Int) (fr : List AV) : Option (List AV) :=
  some (setAll [(22, .p (.sc (Sc.n .i64 t6))), (23, .p (.pt 1 3))] fr)
def f_s_l7Pair_sg4_10 (v0 : List Sc) (v1 : List Sc) (v2 : Int) (v3 : Int) (t6 : Int) (fr : List AV) : Option (List AV) :=
  some (setAll [(22, .p (.sc (Sc.n .i64 t6))), (24, .p (.gr v0))] fr)
def f_s_l7Pair_sg4_12 (v0 : List Sc) (v1 : List Sc) (v2 : Int) (v3 : Int) (t6 : Int) (fr : List AV) : Option (List AV) :=
  some (setAll [(23, .p (.pt 1 3)), (24, .p (.gr v0))] fr)
def f_s_l7Pair_sg4_7 (v0 : List Sc) (v1 : List Sc) (v2 : Int) (v3 : Int) (t6 : Int) (fr : List AV) : Option (List AV) :=
  some (setAll [(21, .p (.gr v0)), (22, .p (.sc (Sc.n .i64 t6))), (23, .p (.pt 1 3))] fr)
def f_s_l7Pair_sg4_11 (v0 : List Sc) (v1 : List Sc) (v2 : Int) (v3 : Int) (t6 : Int) (fr : List AV) : Option (List AV) :=
  some (setAll [(21, .p (.gr v0)), (22, .p (.sc (Sc.n .i64 t6))), (24, .p (.gr v0))] fr)
def f_s_l7Pair_sg4_13 (v0 : List Sc) (v1 : List Sc) (v2 : Int) (v3 : Int) (t6 : Int) (fr : List AV) : Option (List AV) :=
  some (setAll [(21, .p (.gr v0)), (23, .p (.pt 1 3)), (24, .p (.gr v0))] fr)
def f_s_l7Pair_sg4_14 (v0 : List Sc) (v1 : List Sc) (v2 : Int) (v3 : Int) (t6 : Int) (fr : List AV) : Option (List AV) :=
  some (setAll [(22, .p (.sc (Sc.n .i64 t6))), (23, .p (.pt 1 3)), (24, .p (.gr v0))] fr)
def f_s_l7Pair_sg4_28 (v0 : List Sc) (v1 : List Sc) (v2 : Int) (v3 : Int) (t6 : Int) (fr : List AV) : Option (List AV) :=
  bo (f_s_l2Element_io v0 v1 v2 v3) (0, [], 0, 0) fun r6 =>
  some (setAll [(1, .p (.sl r6.2.1)), (2, .p (.sc (Sc.n .i64 r6.2.2.1))), (3, .p (.sc (Sc.n .i64 r6.2.2.2))), (23, .p (.pt 1 3)), (24, .p (.gr v0)), (25, .p (.sc (Sc.n .i64 r6.1)))] fr)
def f_s_l7Pair_sg4_15 (v0 : List Sc) (v1 : List Sc) (v2 : Int) (v3 : Int) (t6 : Int) (fr : List AV) : Option (List AV) :=
  some (setAll [(21, .p (.gr v0)), (22, .p (.sc (Sc.n .i64 t6))), (23, .p (.pt 1 3)), (24, .p (.gr v0))] fr)
def f_s_l7Pair_sg4_29 (v0 : List Sc) (v1 : List Sc) (v2 : Int) (v3 : Int) (t6 : Int) (fr : List AV) : Option (List AV) :=
  bo (f_s_l2Element_io v0 v1 v2 v3) (0, [], 0, 0) fun r7 =>
  some (setAll [(1, .p (.sl r7.2.1)), (2, .p (.sc (Sc.n .i64 r7.2.2.1))), (3, .p (.sc (Sc.n .i64 r7.2.2.2))), (21, .p (.gr v0)), (23, .p (.pt 1 3)), (24, .p (.gr v0)), (25, .p (.sc (Sc.n .i64 r7.1)))] fr)
def f_s_l7Pair_sg4_30 (v0 : List Sc) (v1 : List Sc) (v2 : Int) (v3 : Int) (t6 : Int) (fr : List AV) : Option (List AV) :=
  bo (f_s_l2Element_io v0 v1 v2 v3) (0, [], 0, 0) fun r8 =>
  some (setAll [(1, .p (.sl r8.2.1)), (2, .p (.sc (Sc.n .i64 r8.2.2.1))), (3, .p (.sc (Sc.n .i64 r8.2.2.2))), (22, .p (.sc (Sc.n .i64 t6))), (23, .p (.pt 1 3)), (24, .p (.gr v0)), (25, .p (.sc (Sc.n .i64 r8.1)))] fr)
def f_s_l7Pair_sg4_31 (v0 : List Sc) (v1 : List Sc) (v2 : Int) (v3 : Int) (t6 : Int) (fr : List AV) : Option (List AV) :=
  bo (f_s_l2Element_io v0 v1 v2 v3) (0, [], 0, 0) fun r9 =>
  some (setAll [(1, .p (.sl r9.2.1)), (2, .p (.sc (Sc.n .i64 r9.2.2.1))), (3, .p (.sc (Sc.n .i64 r9.2.2.2))), (21, .p (.gr v0)), (22, .p (.sc (Sc.n .i64 t6))), (23, .p (.pt 1 3)), (24, .p (.gr v0)), (25, .p (.sc (Sc.n .i64 r9.1)))] fr)
def f_s_l7Pair_sg4_63 (v0 : List Sc) (v1 : List Sc) (v2 : Int) (v3 : Int) (t6 : Int) (fr : List AV) : Option (List AV) :=
  bo (f_s_l2Element_io v0 v1 v2 v3) (0, [], 0, 0) fun r10 =>
  bo (f_s_CoefficientCounts v0 t6 r10.1) [] fun r11 =>
  some (setAll [(1, .p (.sl r10.2.1)), (2, .p (.sc (Sc.n .i64 r10.2.2.1))), (3, .p (.sc (Sc.n .i64 r10.2.2.2))), (21, .p (.gr v0)), (22, .p (.sc (Sc.n .i64 t6))), (23, .p (.pt 1 3)), (24, .p (.gr v0)), (25, .p (.sc (Sc.n .i64 r10.1))), (26, .own 3 r11)] fr)
def f_s_l7Pair_sg4_127 (v0 : List Sc) (v1 : List Sc) (v2 : Int) (v3 : Int) (t6 : Int) (fr : List AV) : Option (List AV) :=
  bo (f_s_l2Element_io v0 v1 v2 v3) (0, [], 0, 0) fun r12 =>
  bo (f_s_CoefficientCounts v0 t6 r12.1) [] fun r13 =>
  some (setAll [(1, .p (.sl r12.2.1)), (2, .p (.sc (Sc.n .i64 r12.2.2.1))), (3, .p (.sc (Sc.n .i64 r12.2.2.2))), (12, .own 3 r13), (21, .p (.gr v0)), (22, .p (.sc (Sc.n .i64 t6))), (23, .p (.pt 1 3)), (24, .p (.gr v0)), (25, .p (.sc (Sc.n .i64 r12.1))), (26, .p (.al 12))] fr)
def f_s_l7Pair_Eg4 (v0 : List Sc) (v1 : List Sc) (v2 : Int) (v3 : Int) (t6 : Int) (fr : List AV) : List (Option (List AV)) := [f_s_l7Pair_sg4_1 v0 v1 v2 v3 t6 fr, f_s_l7Pair_sg4_2 v0 v1 v2 v3 t6 fr, f_s_l7Pair_sg4_4 v0 v1 v2 v3 t6 fr, f_s_l7Pair_sg4_8 v0 v1 v2 v3 t6 fr, f_s_l7Pair_sg4_3 v0 v1 v2 v3 t6 fr, f_s_l7Pair_sg4_5 v0 v1 v2 v3 t6 fr, f_s_l7Pair_sg4_9 v0 v1 v2 v3 t6 fr, f_s_l7Pair_sg4_3 v0 v1 v2 v3 t6 fr, f_s_l7Pair_sg4_6 v0 v1 v2 v3 t6 fr, f_s_l7Pair_sg4_10 v0 v1 v2 v3 t6 fr, f_s_l7Pair_sg4_5 v0 v1 v2 v3 t6 fr, f_s_l7Pair_sg4_6 v0 v1 v2 v3 t6 fr, f_s_l7Pair_sg4_12 v0 v1 v2 v3 t6 fr, f_s_l7Pair_sg4_9 v0 v1 v2 v3 t6 fr, f_s_l7Pair_sg4_10 v0 v1 v2 v3 t6 fr, f_s_l7Pair_sg4_12 v0 v1 v2 v3 t6 fr, f_s_l7Pair_sg4_7 v0 v1 v2 v3 t6 fr, f_s_l7Pair_sg4_11 v0 v1 v2 v3 t6 fr, f_s_l7Pair_sg4_7 v0 v1 v2 v3 t6 fr, f_s_l7Pair_sg4_13 v0 v1 v2 v3 t6 fr, f_s_l7Pair_sg4_11 v0 v1 v2 v3 t6 fr, f_s_l7Pair_sg4_13 v0 v1 v2 v3 t6 fr, f_s_l7Pair_sg4_7 v0 v1 v2 v3 t6 fr, f_s_l7Pair_sg4_14 v0 v1 v2 v3 t6 fr, f_s_l7Pair_sg4_11 v0 v1 v2 v3 t6 fr, f_s_l7Pair_sg4_14 v0 v1 v2 v3 t6 fr, f_s_l7Pair_sg4_13 v0 v1 v2 v3 t6 fr, f_s_l7Pair_sg4_14 v0 v1 v2 v3 t6 fr, f_s_l7Pair_sg4_28 v0 v1 v2 v3 t6 fr, f_s_l7Pair_sg4_15 v0 v1 v2 v3 t6 fr, f_s_l7Pair_sg4_15 v0 v1 v2 v3 t6 fr, f_s_l7Pair_sg4_15 v0 v1 v2 v3 t6 fr, f_s_l7Pair_sg4_29 v0 v1 v2 v3 t6 fr, f_s_l7Pair_sg4_15 v0 v1 v2 v3 t6 fr, f_s_l7Pair_sg4_30 v0 v1 v2 v3 t6 fr, f_s_l7Pair_sg4_29 v0 v1 v2 v3 t6 fr, f_s_l7Pair_sg4_30 v0 v1 v2 v3 t6 fr, f_s_l7Pair_sg4_31 v0 v1 v2 v3 t6 fr, f_s_l7Pair_sg4_31 v0 v1 v2 v3 t6 fr, f_s_l7Pair_sg4_31 v0 v1 v2 v3 t6 fr, f_s_l7Pair_sg4_63 v0 v1 v2 v3 t6 fr, f_s_l7Pair_sg4_127 v0 v1 v2 v3 t6 fr]
theorem f_s_l7Pair_dLg4 (v0 : List Sc) (v1 : List Sc) (v2 : Int) (v3 : Int) (t6 : Int) : edgeL E0 f_s_l7Pair_M H0 f_s_l7Pair_F (opsAt (bodyOf Try.f58 100004)) f_s_l7Pair_Dg4 (f_s_l7Pair_frg4 v0 v1 v2 v3 t6) = f_s_l7Pair_Eg4 v0 v1 v2 v3 t6 (f_s_l7Pair_frg4 v0 v1 v2 v3 t6) := by kernel_rfl
theorem f_s_l7Pair_dRg4 (v0 : List Sc) (v1 : List Sc) (v2 : Int) (v3 : Int) (t6 : Int) : edgeR E0 f_s_l7Pair_M H0 f_s_l7Pair_F (opsAt (bodyOf Try.f58 100004)) f_s_l7Pair_Dg4 (f_s_l7Pair_frg4 v0 v1 v2 v3 t6) = f_s_l7Pair_Eg4 v0 v1 v2 v3 t6 (f_s_l7Pair_frg4 v0 v1 v2 v3 t6) := by kernel_rfl
theorem f_s_l7Pair_dg4 (v0 : List Sc) (v1 : List Sc) (v2 : Int) (v3 : Int) (t6 : Int) : edgeL E0 f_s_l7Pair_M H0 f_s_l7Pair_F (opsAt (bodyOf Try.f58 100004)) f_s_l7Pair_Dg4 (f_s_l7Pair_frg4 v0 v1 v2 v3 t6) = edgeR E0 f_s_l7Pair_M H0 f_s_l7Pair_F (opsAt (bodyOf Try.f58 100004)) f_s_l7Pair_Dg4 (f_s_l7Pair_frg4 v0 v1 v2 v3 t6) := (f_s_l7Pair_dLg4 v0 v1 v2 v3 t6).trans (f_s_l7Pair_dRg4 v0 v1 v2 v3 t6).symm
theorem f_s_l7Pair_eg4 (v0 : List Sc) (v1 : List Sc) (v2 : Int) (v3 : Int) (t6 : Int) : goL E0 f_s_l7Pair_M H0 f_s_l7Pair_F (opsAt (bodyOf Try.f58 100004)) (Array.replicate (opsAt (bodyOf Try.f58 100004)).size true) (opsAt (bodyOf Try.f58 100004)).toList 0 (f_s_l7Pair_frg4 v0 v1 v2 v3 t6) (fun s => some (X.norm, clear (klOf f_s_l7Pair_F 100004).2.1 s)) = f_s_l7Pair_g4_k v0 v1 v2 v3 t6 (fun e => some (f_s_l7Pair_xg4 v0 v1 v2 v3 t6 e)) := by kernel_rfl
theorem f_s_l7Pair_lg4 (v0 : List Sc) (v1 : List Sc) (v2 : Int) (v3 : Int) (t6 : Int) (r : List Sc × Int × Int × List Sc) (h : f_s_l7Pair_g4 v0 v1 v2 v3 t6 = some r) : LS Try.prog f_s_l7Pair_F (bodyOf Try.f58 100004) (f_s_l7Pair_frg4 v0 v1 v2 v3 t6) (f_s_l7Pair_xg4 v0 v1 v2 v3 t6 r) :=
  region_true (S := Unit) (id := 4) (G := fun _ => f_s_l7Pair_g4 v0 v1 v2 v3 t6) (Gk := fun _ k => f_s_l7Pair_g4_k v0 v1 v2 v3 t6 k) (fr := fun _ => f_s_l7Pair_frg4 v0 v1 v2 v3 t6) (f1 := fun e => f_s_l7Pair_xg4 v0 v1 v2 v3 t6 e) E0ok f_s_l7Pair_Mt f_s_l7Pair_bg4 f_s_l7Pair_cg4 (fun _ => f_s_l7Pair_dg4 v0 v1 v2 v3 t6) (fun _ => rfl) (fun _ => f_s_l7Pair_eg4 v0 v1 v2 v3 t6) (fun _ k => f_s_l7Pair_pg4 v0 v1 v2 v3 t6 k) () r h
def f_s_l7Pair_tg4 (σ : List AV) : Option (Bool × Bool × (X × List AV) × (X × List AV)) := match dec f_s_l7Pair_hg4 σ with
  | some [.l v0, .l v1, .i v2, .i v3, .i t6] => some ((f_s_l7Pair_g4 v0 v1 v2 v3 t6).isSome, true, f_s_l7Pair_xg4 v0 v1 v2 v3 t6 ((f_s_l7Pair_g4 v0 v1 v2 v3 t6).getD ([], 0, 0, [])), (.ret, []))
  | _ => none
theorem f_s_l7Pair_ttg4 : TTrue Try.prog f_s_l7Pair_F Try.f58 100004 f_s_l7Pair_tg4 := by
  intro σ p r r' h
  unfold f_s_l7Pair_tg4 at h
  split at h
  · rename_i hd
    rw [← dec_enc hd]
    exact rowR (f_s_l7Pair_lg4 _ _ _ _ _) h
  · cases h
def f_s_l7Pair_hg5 : List Sh := [.fr 3, .p .sl, .p (.int .i64), .p (.int .i64), .u, .u, .u, .u, .u, .p (.pt 1 3), .p (.pt 0 1), .u, .own 3, .u, .u, .u, .u, .u, .u, .u, .u, .u, .u, .u, .u, .u, .u, .u, .u, .u, .u, .u, .u, .u, .u, .u, .u, .u, .u, .u, .u, .u, .u, .u, .u, .u, .u, .u, .u]
def f_s_l7Pair_frg5 (v0 : List Sc) (v1 : List Sc) (v2 : Int) (v3 : Int) (t7 : List Sc) : List AV := enc f_s_l7Pair_hg5 [.l v0, .l v1, .i v2, .i v3, .l t7]
def f_s_l7Pair_xg5 (v0 : List Sc) (v1 : List Sc) (v2 : Int) (v3 : Int) (t7 : List Sc) (e : List Sc × Int × Int × List Sc) : X × List AV := (.norm, enc [.u, .p .sl, .p (.int .i64), .p (.int .i64), .u, .u, .u, .u, .u, .p (.pt 1 3), .u, .u, .own 3, .own 3, .u, .u, .u, .u, .u, .u, .u, .u, .u, .u, .u, .u, .u, .u, .u, .u, .u, .u, .u, .u, .u, .u, .u, .u, .u, .u, .u, .u, .u, .u, .u, .u, .u, .u, .u] [.l e.1, .i e.2.1, .i e.2.2.1, .l t7, .l e.2.2.2])
theorem f_s_l7Pair_pg5 {R : Type} (v0 : List Sc) (v1 : List Sc) (v2 : Int) (v3 : Int) (t7 : List Sc) (kA : List Sc × Int × Int × List Sc → Option R) : f_s_l7Pair_g5_k v0 v1 v2 v3 t7 kA = (f_s_l7Pair_g5 v0 v1 v2 v3 t7).bind kA := by
  simp only [f_s_l7Pair_g5_k, f_s_l7Pair_g5, boB, someB]
theorem f_s_l7Pair_bg5 : bodyOf Try.f58 100005 = .region 5 (opsAt (bodyOf Try.f58 100005)) true := by kernel_rfl
def f_s_l7Pair_Dg5 : List (Array Bool) := [#[false, false, false, false, false, false, false, false, false], #[true, false, false, false, false, false, false, false, false], #[false, true, false, false, false, false, false, false, false], #[false, false, true, false, false, false, false, false, false], #[false, false, false, false, true, false, false, false, false], #[false, false, false, false, false, true, false, false, false], #[true, true, false, false, false, false, false, false, false], #[true, false, true, false, false, false, false, false, false], #[true, false, false, false, true, false, false, false, false], #[true, false, false, false, false, true, false, false, false], #[false, true, true, false, false, false, false, false, false], #[false, true, false, false, true, false, false, false, false], #[false, true, false, false, false, true, false, false, false], #[false, false, true, false, true, false, false, false, false], #[false, false, true, false, false, true, false, false, false], #[false, false, false, false, true, true, false, false, false], #[true, true, true, false, false, false, false, false, false], #[true, true, false, false, true, false, false, false, false], #[true, true, false, false, false, true, false, false, false], #[true, false, true, false, true, false, false, false, false], #[true, false, true, false, false, true, false, false, false], #[true, false, false, false, true, true, false, false, false], #[false, true, true, true, false, false, false, false, false], #[false, true, true, false, true, false, false, false, false], #[false, true, true, false, false, true, false, false, false], #[false, true, false, false, true, true, false, false, false], #[false, false, true, false, true, true, false, false, false], #[true, true, true, true, false, false, false, false, false], #[true, true, true, false, true, false, false, false, false], #[true, true, true, false, false, true, false, false, false], #[true, true, false, false, true, true, false, false, false], #[true, false, true, false, true, true, false, false, false], #[false, true, true, true, true, false, false, false, false], #[false, true, true, true, false, true, false, false, false], #[false, true, true, false, true, true, false, false, false], #[true, true, true, true, true, false, false, false, false], #[true, true, true, true, false, true, false, false, false], #[true, true, true, false, true, true, false, false, false], #[false, true, true, true, true, true, false, false, false], #[true, true, true, true, true, true, false, false, false], #[false, true, true, true, true, true, true, false, false], #[true, true, true, true, true, true, true, false, false], #[true, true, true, true, true, true, true, true, false], #[true, true, true, true, true, true, true, true, true]]
theorem f_s_l7Pair_cg5 : closedB (opsAt (bodyOf Try.f58 100005)) f_s_l7Pair_Dg5 = true := by kernel_rfl
def f_s_l7Pair_sg5_0 (v0 : List Sc) (v1 : List Sc) (v2 : Int) (v3 : Int) (t7 : List Sc) (fr : List AV) : Option (List AV) :=
  some (setAll [] fr)
def f_s_l7Pair_sg5_1 (v0 : List Sc) (v1 : List Sc) (v2 : Int) (v3 : Int) (t7 : List Sc) (fr : List AV) : Option (List AV) :=
  some (setAll [(27, .p (.gr v0))] fr)
def f_s_l7Pair_sg5_2 (v0 : List Sc) (v1 : List Sc) (v2 : Int) (v3 : Int) (t7 : List Sc) (fr : List AV) : Option (List AV) :=
  some (setAll [(28, .p (.pt 1 3))] fr)
def f_s_l7Pair_sg5_4 (v0 : List Sc) (v1 : List Sc) (v2 : Int) (v3 : Int) (t7 : List Sc) (fr : List AV) : Option (List AV) :=
  some (setAll [(29, .p (.gr v0))] fr)
def f_s_l7Pair_sg5_16 (v0 : List Sc) (v1 : List Sc) (v2 : Int) (v3 : Int) (t7 : List Sc) (fr : List AV) : Option (List AV) :=
  some (setAll [(31, .p (.pt 1 3))] fr)
def f_s_l7Pair_sg5_32 (v0 : List Sc) (v1 : List Sc) (v2 : Int) (v3 : Int) (t7 : List Sc) (fr : List AV) : Option (List AV) :=
  some (setAll [(32, .p (.gr v0))] fr)
def f_s_l7Pair_sg5_3 (v0 : List Sc) (v1 : List Sc) (v2 : Int) (v3 : Int) (t7 : List Sc) (fr : List AV) : Option (List AV) :=
  some (setAll [(27, .p (.gr v0)), (28, .p (.pt 1 3))] fr)
def f_s_l7Pair_sg5_5 (v0 : List Sc) (v1 : List Sc) (v2 : Int) (v3 : Int) (t7 : List Sc) (fr : List AV) : Option (List AV) :=
  some (setAll [(27, .p (.gr v0)), (29, .p (.gr v0))] fr)
def f_s_l7Pair_sg5_17 (v0 : List Sc) (v1 : List Sc) (v2 : Int) (v3 : Int) (t7 : List Sc) (fr : List AV) : Option (List AV) :=
  some (setAll [(27, .p (.gr v0)), (31, .p (.pt 1 3))] fr)
def f_s_l7Pair_sg5_33 (v0 : List Sc) (v1 : List Sc) (v2 : Int) (v3 : Int) (t7 : List Sc) (fr : List AV) : Option (List AV) :=
  some (setAll [(27, .p (.gr v0)), (32, .p (.gr v0))] fr)
def f_s_l7Pair_sg5_6 (v0 : List Sc) (v1 : List Sc) (v2 : Int) (v3 : Int) (t7 : List Sc) (fr : List AV) : Option (List AV) :=
  some (setAll [(28, .p (.pt 1 3)), (29, .p (.gr v0))] fr)
def f_s_l7Pair_sg5_18 (v0 : List Sc) (v1 : List Sc) (v2 : Int) (v3 : Int) (t7 : List Sc) (fr : List AV) : Option (List AV) :=
  some (setAll [(28, .p (.pt 1 3)), (31, .p (.pt 1 3))] fr)
def f_s_l7Pair_sg5_34 (v0 : List Sc) (v1 : List Sc) (v2 : Int) (v3 : Int) (t7 : List Sc) (fr : List AV) : Option (List AV) :=
  some (setAll [(28, .p (.pt 1 3)), (32, .p (.gr v0))] fr)
def f_s_l7Pair_sg5_20 (v0 : List Sc) (v1 : List Sc) (v2 : Int) (v3 : Int) (t7 : List Sc) (fr : List AV) : Option (List AV) :=
  some (setAll [(29, .p (.gr v0)), (31, .p (.pt 1 3))] fr)
def f_s_l7Pair_sg5_36 (v0 : List Sc) (v1 : List Sc) (v2 : Int) (v3 : Int) (t7 : List Sc) (fr : List AV) : Option (List AV) :=
  some (setAll [(29, .p (.gr v0)), (32, .p (.gr v0))] fr)
def f_s_l7Pair_sg5_48 (v0 : List Sc) (v1 : List Sc) (v2 : Int) (v3 : Int) (t7 : List Sc) (fr : List AV) : Option (List AV) :=
  some (setAll [(31, .p (.pt 1 3)), (32, .p (.gr v0))] fr)
def f_s_l7Pair_sg5_7 (v0 : List Sc) (v1 : List Sc) (v2 : Int) (v3 : Int) (t7 : List Sc) (fr : List AV) : Option (List AV) :=
  some (setAll [(27, .p (.gr v0)), (28, .p (.pt 1 3)), (29, .p (.gr v0))] fr)
def f_s_l7Pair_sg5_19 (v0 : List Sc) (v1 : List Sc) (v2 : Int) (v3 : Int) (t7 : List Sc) (fr : List AV) : Option (List AV) :=
  some (setAll [(27, .p (.gr v0)), (28, .p (.pt 1 3)), (31, .p (.pt 1 3))] fr)
def f_s_l7Pair_sg5_35 (v0 : List Sc) (v1 : List Sc) (v2 : Int) (v3 : Int) (t7 : List Sc) (fr : List AV) : Option (List AV) :=
  some (setAll [(27, .p (.gr v0)), (28, .p (.pt 1 3)), (32, .p (.gr v0))] fr)
def f_s_l7Pair_sg5_21 (v0 : List Sc) (v1 : List Sc) (v2 : Int) (v3 : Int) (t7 : List Sc) (fr : List AV) : Option (List AV) :=
  some (setAll [(27, .p (.gr v0)), (29, .p (.gr v0)), (31, .p (.pt 1 3))] fr)
def f_s_l7Pair_sg5_37 (v0 : List Sc) (v1 : List Sc) (v2 : Int) (v3 : Int) (t7 : List Sc) (fr : List AV) : Option (List AV) :=
  some (setAll [(27, .p (.gr v0)), (29, .p (.gr v0)), (32, .p (.gr v0))] fr)
def f_s_l7Pair_sg5_49 (v0 : List Sc) (v1 : List Sc) (v2 : Int) (v3 : Int) (t7 : List Sc) (fr : List AV) : Option (List AV) :=
  some (setAll [(27, .p (.gr v0)), (31, .p (.pt 1 3)), (32, .p (.gr v0))] fr)
def f_s_l7Pair_sg5_14 (v0 : List Sc) (v1 : List Sc) (v2 : Int) (v3 : Int) (t7 : List Sc) (fr : List AV) : Option (List AV) :=
  bo (f_s_l3Set_io v0 v1 v2 v3) (0, [], 0, 0) fun r18 =>
  some (setAll [(1, .p (.sl r18.2.1)), (2, .p (.sc (Sc.n .i64 r18.2.2.1))), (3, .p (.sc (Sc.n .i64 r18.2.2.2))), (28, .p (.pt 1 3)), (29, .p (.gr v0)), (30, .p (.sc (Sc.n .i64 r18.1)))] fr)
def f_s_l7Pair_sg5_22 (v0 : List Sc) (v1 : List Sc) (v2 : Int) (v3 : Int) (t7 : List Sc) (fr : List AV) : Option (List AV) :=
  some (setAll [(28, .p (.pt 1 3)), (29, .p (.gr v0)), (31, .p (.pt 1 3))] fr)
def f_s_l7Pair_sg5_38 (v0 : List Sc) (v1 : List Sc) (v2 : Int) (v3 : Int) (t7 : List Sc) (fr : List AV) : Option (List AV) :=
  some (setAll [(28, .p (.pt 1 3)), (29, .p (.gr v0)), (32, .p (.gr v0))] fr)
def f_s_l7Pair_sg5_50 (v0 : List Sc) (v1 : List Sc) (v2 : Int) (v3 : Int) (t7 : List Sc) (fr : List AV) : Option (List AV) :=
  some (setAll [(28, .p (.pt 1 3)), (31, .p (.pt 1 3)), (32, .p (.gr v0))] fr)
def f_s_l7Pair_sg5_52 (v0 : List Sc) (v1 : List Sc) (v2 : Int) (v3 : Int) (t7 : List Sc) (fr : List AV) : Option (List AV) :=
  some (setAll [(29, .p (.gr v0)), (31, .p (.pt 1 3)), (32, .p (.gr v0))] fr)
def f_s_l7Pair_sg5_15 (v0 : List Sc) (v1 : List Sc) (v2 : Int) (v3 : Int) (t7 : List Sc) (fr : List AV) : Option (List AV) :=
  bo (f_s_l3Set_io v0 v1 v2 v3) (0, [], 0, 0) fun r19 =>
  some (setAll [(1, .p (.sl r19.2.1)), (2, .p (.sc (Sc.n .i64 r19.2.2.1))), (3, .p (.sc (Sc.n .i64 r19.2.2.2))), (27, .p (.gr v0)), (28, .p (.pt 1 3)), (29, .p (.gr v0)), (30, .p (.sc (Sc.n .i64 r19.1)))] fr)
def f_s_l7Pair_sg5_23 (v0 : List Sc) (v1 : List Sc) (v2 : Int) (v3 : Int) (t7 : List Sc) (fr : List AV) : Option (List AV) :=
  some (setAll [(27, .p (.gr v0)), (28, .p (.pt 1 3)), (29, .p (.gr v0)), (31, .p (.pt 1 3))] fr)
def f_s_l7Pair_sg5_39 (v0 : List Sc) (v1 : List Sc) (v2 : Int) (v3 : Int) (t7 : List Sc) (fr : List AV) : Option (List AV) :=
  some (setAll [(27, .p (.gr v0)), (28, .p (.pt 1 3)), (29, .p (.gr v0)), (32, .p (.gr v0))] fr)
def f_s_l7Pair_sg5_51 (v0 : List Sc) (v1 : List Sc) (v2 : Int) (v3 : Int) (t7 : List Sc) (fr : List AV) : Option (List AV) :=
  some (setAll [(27, .p (.gr v0)), (28, .p (.pt 1 3)), (31, .p (.pt 1 3)), (32, .p (.gr v0))] fr)
def f_s_l7Pair_sg5_53 (v0 : List Sc) (v1 : List Sc) (v2 : Int) (v3 : Int) (t7 : List Sc) (fr : List AV) : Option (List AV) :=
  some (setAll [(27, .p (.gr v0)), (29, .p (.gr v0)), (31, .p (.pt 1 3)), (32, .p (.gr v0))] fr)
def f_s_l7Pair_sg5_30 (v0 : List Sc) (v1 : List Sc) (v2 : Int) (v3 : Int) (t7 : List Sc) (fr : List AV) : Option (List AV) :=
  bo (f_s_l3Set_io v0 v1 v2 v3) (0, [], 0, 0) fun r20 =>
  some (setAll [(1, .p (.sl r20.2.1)), (2, .p (.sc (Sc.n .i64 r20.2.2.1))), (3, .p (.sc (Sc.n .i64 r20.2.2.2))), (28, .p (.pt 1 3)), (29, .p (.gr v0)), (30, .p (.sc (Sc.n .i64 r20.1))), (31, .p (.pt 1 3))] fr)
def f_s_l7Pair_sg5_46 (v0 : List Sc) (v1 : List Sc) (v2 : Int) (v3 : Int) (t7 : List Sc) (fr : List AV) : Option (List AV) :=
  bo (f_s_l3Set_io v0 v1 v2 v3) (0, [], 0, 0) fun r21 =>
  some (setAll [(1, .p (.sl r21.2.1)), (2, .p (.sc (Sc.n .i64 r21.2.2.1))), (3, .p (.sc (Sc.n .i64 r21.2.2.2))), (28, .p (.pt 1 3)), (29, .p (.gr v0)), (30, .p (.sc (Sc.n .i64 r21.1))), (32, .p (.gr v0))] fr)
def f_s_l7Pair_sg5_54 (v0 : List Sc) (v1 : List Sc) (v2 : Int) (v3 : Int) (t7 : List Sc) (fr : List AV) : Option (List AV) :=
  some (setAll [(28, .p (.pt 1 3)), (29, .p (.gr v0)), (31, .p (.pt 1 3)), (32, .p (.gr v0))] fr)
def f_s_l7Pair_sg5_31 (v0 : List Sc) (v1 : List Sc) (v2 : Int) (v3 : Int) (t7 : List Sc) (fr : List AV) : Option (List AV) :=
  bo (f_s_l3Set_io v0 v1 v2 v3) (0, [], 0, 0) fun r22 =>
  some (setAll [(1, .p (.sl r22.2.1)), (2, .p (.sc (Sc.n .i64 r22.2.2.1))), (3, .p (.sc (Sc.n .i64 r22.2.2.2))), (27, .p (.gr v0)), (28, .p (.pt 1 3)), (29, .p (.gr v0)), (30, .p (.sc (Sc.n .i64 r22.1))), (31, .p (.pt 1 3))] fr)
def f_s_l7Pair_sg5_47 (v0 : List Sc) (v1 : List Sc) (v2 : Int) (v3 : Int) (t7 : List Sc) (fr : List AV) : Option (List AV) :=
  bo (f_s_l3Set_io v0 v1 v2 v3) (0, [], 0, 0) fun r23 =>
  some (setAll [(1, .p (.sl r23.2.1)), (2, .p (.sc (Sc.n .i64 r23.2.2.1))), (3, .p (.sc (Sc.n .i64 r23.2.2.2))), (27, .p (.gr v0)), (28, .p (.pt 1 3)), (29, .p (.gr v0)), (30, .p (.sc (Sc.n .i64 r23.1))), (32, .p (.gr v0))] fr)
def f_s_l7Pair_sg5_55 (v0 : List Sc) (v1 : List Sc) (v2 : Int) (v3 : Int) (t7 : List Sc) (fr : List AV) : Option (List AV) :=
  some (setAll [(27, .p (.gr v0)), (28, .p (.pt 1 3)), (29, .p (.gr v0)), (31, .p (.pt 1 3)), (32, .p (.gr v0))] fr)
def f_s_l7Pair_sg5_62 (v0 : List Sc) (v1 : List Sc) (v2 : Int) (v3 : Int) (t7 : List Sc) (fr : List AV) : Option (List AV) :=
  bo (f_s_l3Set_io v0 v1 v2 v3) (0, [], 0, 0) fun r24 =>
  some (setAll [(1, .p (.sl r24.2.1)), (2, .p (.sc (Sc.n .i64 r24.2.2.1))), (3, .p (.sc (Sc.n .i64 r24.2.2.2))), (28, .p (.pt 1 3)), (29, .p (.gr v0)), (30, .p (.sc (Sc.n .i64 r24.1))), (31, .p (.pt 1 3)), (32, .p (.gr v0))] fr)
def f_s_l7Pair_sg5_63 (v0 : List Sc) (v1 : List Sc) (v2 : Int) (v3 : Int) (t7 : List Sc) (fr : List AV) : Option (List AV) :=
  bo (f_s_l3Set_io v0 v1 v2 v3) (0, [], 0, 0) fun r25 =>
  some (setAll [(1, .p (.sl r25.2.1)), (2, .p (.sc (Sc.n .i64 r25.2.2.1))), (3, .p (.sc (Sc.n .i64 r25.2.2.2))), (27, .p (.gr v0)), (28, .p (.pt 1 3)), (29, .p (.gr v0)), (30, .p (.sc (Sc.n .i64 r25.1))), (31, .p (.pt 1 3)), (32, .p (.gr v0))] fr)
def f_s_l7Pair_sg5_126 (v0 : List Sc) (v1 : List Sc) (v2 : Int) (v3 : Int) (t7 : List Sc) (fr : List AV) : Option (List AV) :=
  bo (f_s_l3Set_io v0 v1 v2 v3) (0, [], 0, 0) fun r26 =>
  bo (f_s_l2Element_io v0 r26.2.1 r26.2.2.1 r26.2.2.2) (0, [], 0, 0) fun r27 =>
  some (setAll [(1, .p (.sl r27.2.1)), (2, .p (.sc (Sc.n .i64 r27.2.2.1))), (3, .p (.sc (Sc.n .i64 r27.2.2.2))), (28, .p (.pt 1 3)), (29, .p (.gr v0)), (30, .p (.sc (Sc.n .i64 r26.1))), (31, .p (.pt 1 3)), (32, .p (.gr v0)), (33, .p (.sc (Sc.n .i64 r27.1)))] fr)
def f_s_l7Pair_sg5_127 (v0 : List Sc) (v1 : List Sc) (v2 : Int) (v3 : Int) (t7 : List Sc) (fr : List AV) : Option (List AV) :=
  bo (f_s_l3Set_io v0 v1 v2 v3) (0, [], 0, 0) fun r28 =>
  bo (f_s_l2Element_io v0 r28.2.1 r28.2.2.1 r28.2.2.2) (0, [], 0, 0) fun r29 =>
  some (setAll [(1, .p (.sl r29.2.1)), (2, .p (.sc (Sc.n .i64 r29.2.2.1))), (3, .p (.sc (Sc.n .i64 r29.2.2.2))), (27, .p (.gr v0)), (28, .p (.pt 1 3)), (29, .p (.gr v0)), (30, .p (.sc (Sc.n .i64 r28.1))), (31, .p (.pt 1 3)), (32, .p (.gr v0)), (33, .p (.sc (Sc.n .i64 r29.1)))] fr)
def f_s_l7Pair_sg5_255 (v0 : List Sc) (v1 : List Sc) (v2 : Int) (v3 : Int) (t7 : List Sc) (fr : List AV) : Option (List AV) :=
  bo (f_s_l3Set_io v0 v1 v2 v3) (0, [], 0, 0) fun r30 =>
  bo (f_s_l2Element_io v0 r30.2.1 r30.2.2.1 r30.2.2.2) (0, [], 0, 0) fun r31 =>
  bo (f_s_CoefficientCounts v0 r30.1 r31.1) [] fun r32 =>
  some (setAll [(1, .p (.sl r31.2.1)), (2, .p (.sc (Sc.n .i64 r31.2.2.1))), (3, .p (.sc (Sc.n .i64 r31.2.2.2))), (27, .p (.gr v0)), (28, .p (.pt 1 3)), (29, .p (.gr v0)), (30, .p (.sc (Sc.n .i64 r30.1))), (31, .p (.pt 1 3)), (32, .p (.gr v0)), (33, .p (.sc (Sc.n .i64 r31.1))), (34, .own 3 r32)] fr)
def f_s_l7Pair_sg5_511 (v0 : List Sc) (v1 : List Sc) (v2 : Int) (v3 : Int) (t7 : List Sc) (fr : List AV) : Option (List AV) :=
  bo (f_s_l3Set_io v0 v1 v2 v3) (0, [], 0, 0) fun r33 =>
  bo (f_s_l2Element_io v0 r33.2.1 r33.2.2.1 r33.2.2.2) (0, [], 0, 0) fun r34 =>
  bo (f_s_CoefficientCounts v0 r33.1 r34.1) [] fun r35 =>
  some (setAll [(1, .p (.sl r34.2.1)), (2, .p (.sc (Sc.n .i64 r34.2.2.1))), (3, .p (.sc (Sc.n .i64 r34.2.2.2))), (13, .own 3 r35), (27, .p (.gr v0)), (28, .p (.pt 1 3)), (29, .p (.gr v0)), (30, .p (.sc (Sc.n .i64 r33.1))), (31, .p (.pt 1 3)), (32, .p (.gr v0)), (33, .p (.sc (Sc.n .i64 r34.1))), (34, .p (.al 13))] fr)
def f_s_l7Pair_Eg5 (v0 : List Sc) (v1 : List Sc) (v2 : Int) (v3 : Int) (t7 : List Sc) (fr : List AV) : List (Option (List AV)) := [f_s_l7Pair_sg5_1 v0 v1 v2 v3 t7 fr, f_s_l7Pair_sg5_2 v0 v1 v2 v3 t7 fr, f_s_l7Pair_sg5_4 v0 v1 v2 v3 t7 fr, f_s_l7Pair_sg5_16 v0 v1 v2 v3 t7 fr, f_s_l7Pair_sg5_32 v0 v1 v2 v3 t7 fr, f_s_l7Pair_sg5_3 v0 v1 v2 v3 t7 fr, f_s_l7Pair_sg5_5 v0 v1 v2 v3 t7 fr, f_s_l7Pair_sg5_17 v0 v1 v2 v3 t7 fr, f_s_l7Pair_sg5_33 v0 v1 v2 v3 t7 fr, f_s_l7Pair_sg5_3 v0 v1 v2 v3 t7 fr, f_s_l7Pair_sg5_6 v0 v1 v2 v3 t7 fr, f_s_l7Pair_sg5_18 v0 v1 v2 v3 t7 fr, f_s_l7Pair_sg5_34 v0 v1 v2 v3 t7 fr, f_s_l7Pair_sg5_5 v0 v1 v2 v3 t7 fr, f_s_l7Pair_sg5_6 v0 v1 v2 v3 t7 fr, f_s_l7Pair_sg5_20 v0 v1 v2 v3 t7 fr, f_s_l7Pair_sg5_36 v0 v1 v2 v3 t7 fr, f_s_l7Pair_sg5_17 v0 v1 v2 v3 t7 fr, f_s_l7Pair_sg5_18 v0 v1 v2 v3 t7 fr, f_s_l7Pair_sg5_20 v0 v1 v2 v3 t7 fr, f_s_l7Pair_sg5_48 v0 v1 v2 v3 t7 fr, f_s_l7Pair_sg5_33 v0 v1 v2 v3 t7 fr, f_s_l7Pair_sg5_34 v0 v1 v2 v3 t7 fr, f_s_l7Pair_sg5_36 v0 v1 v2 v3 t7 fr, f_s_l7Pair_sg5_48 v0 v1 v2 v3 t7 fr, f_s_l7Pair_sg5_7 v0 v1 v2 v3 t7 fr, f_s_l7Pair_sg5_19 v0 v1 v2 v3 t7 fr, f_s_l7Pair_sg5_35 v0 v1 v2 v3 t7 fr, f_s_l7Pair_sg5_7 v0 v1 v2 v3 t7 fr, f_s_l7Pair_sg5_21 v0 v1 v2 v3 t7 fr, f_s_l7Pair_sg5_37 v0 v1 v2 v3 t7 fr, f_s_l7Pair_sg5_19 v0 v1 v2 v3 t7 fr, f_s_l7Pair_sg5_21 v0 v1 v2 v3 t7 fr, f_s_l7Pair_sg5_49 v0 v1 v2 v3 t7 fr, f_s_l7Pair_sg5_35 v0 v1 v2 v3 t7 fr, f_s_l7Pair_sg5_37 v0 v1 v2 v3 t7 fr, f_s_l7Pair_sg5_49 v0 v1 v2 v3 t7 fr, f_s_l7Pair_sg5_7 v0 v1 v2 v3 t7 fr, f_s_l7Pair_sg5_14 v0 v1 v2 v3 t7 fr, f_s_l7Pair_sg5_22 v0 v1 v2 v3 t7 fr, f_s_l7Pair_sg5_38 v0 v1 v2 v3 t7 fr, f_s_l7Pair_sg5_19 v0 v1 v2 v3 t7 fr, f_s_l7Pair_sg5_22 v0 v1 v2 v3 t7 fr, f_s_l7Pair_sg5_50 v0 v1 v2 v3 t7 fr, f_s_l7Pair_sg5_35 v0 v1 v2 v3 t7 fr, f_s_l7Pair_sg5_38 v0 v1 v2 v3 t7 fr, f_s_l7Pair_sg5_50 v0 v1 v2 v3 t7 fr, f_s_l7Pair_sg5_21 v0 v1 v2 v3 t7 fr, f_s_l7Pair_sg5_22 v0 v1 v2 v3 t7 fr, f_s_l7Pair_sg5_52 v0 v1 v2 v3 t7 fr, f_s_l7Pair_sg5_37 v0 v1 v2 v3 t7 fr, f_s_l7Pair_sg5_38 v0 v1 v2 v3 t7 fr, f_s_l7Pair_sg5_52 v0 v1 v2 v3 t7 fr, f_s_l7Pair_sg5_49 v0 v1 v2 v3 t7 fr, f_s_l7Pair_sg5_50 v0 v1 v2 v3 t7 fr, f_s_l7Pair_sg5_52 v0 v1 v2 v3 t7 fr, f_s_l7Pair_sg5_15 v0 v1 v2 v3 t7 fr, f_s_l7Pair_sg5_23 v0 v1 v2 v3 t7 fr, f_s_l7Pair_sg5_39 v0 v1 v2 v3 t7 fr, f_s_l7Pair_sg5_23 v0 v1 v2 v3 t7 fr, f_s_l7Pair_sg5_51 v0 v1 v2 v3 t7 fr, f_s_l7Pair_sg5_39 v0 v1 v2 v3 t7 fr, f_s_l7Pair_sg5_51 v0 v1 v2 v3 t7 fr, f_s_l7Pair_sg5_23 v0 v1 v2 v3 t7 fr, f_s_l7Pair_sg5_53 v0 v1 v2 v3 t7 fr, f_s_l7Pair_sg5_39 v0 v1 v2 v3 t7 fr, f_s_l7Pair_sg5_53 v0 v1 v2 v3 t7 fr, f_s_l7Pair_sg5_51 v0 v1 v2 v3 t7 fr, f_s_l7Pair_sg5_53 v0 v1 v2 v3 t7 fr, f_s_l7Pair_sg5_15 v0 v1 v2 v3 t7 fr, f_s_l7Pair_sg5_30 v0 v1 v2 v3 t7 fr, f_s_l7Pair_sg5_46 v0 v1 v2 v3 t7 fr, f_s_l7Pair_sg5_23 v0 v1 v2 v3 t7 fr, f_s_l7Pair_sg5_30 v0 v1 v2 v3 t7 fr, f_s_l7Pair_sg5_54 v0 v1 v2 v3 t7 fr, f_s_l7Pair_sg5_39 v0 v1 v2 v3 t7 fr, f_s_l7Pair_sg5_46 v0 v1 v2 v3 t7 fr, f_s_l7Pair_sg5_54 v0 v1 v2 v3 t7 fr, f_s_l7Pair_sg5_51 v0 v1 v2 v3 t7 fr, f_s_l7Pair_sg5_54 v0 v1 v2 v3 t7 fr, f_s_l7Pair_sg5_53 v0 v1 v2 v3 t7 fr, f_s_l7Pair_sg5_54 v0 v1 v2 v3 t7 fr, f_s_l7Pair_sg5_31 v0 v1 v2 v3 t7 fr, f_s_l7Pair_sg5_47 v0 v1 v2 v3 t7 fr, f_s_l7Pair_sg5_31 v0 v1 v2 v3 t7 fr, f_s_l7Pair_sg5_55 v0 v1 v2 v3 t7 fr, f_s_l7Pair_sg5_47 v0 v1 v2 v3 t7 fr, f_s_l7Pair_sg5_55 v0 v1 v2 v3 t7 fr, f_s_l7Pair_sg5_55 v0 v1 v2 v3 t7 fr, f_s_l7Pair_sg5_55 v0 v1 v2 v3 t7 fr, f_s_l7Pair_sg5_31 v0 v1 v2 v3 t7 fr, f_s_l7Pair_sg5_62 v0 v1 v2 v3 t7 fr, f_s_l7Pair_sg5_47 v0 v1 v2 v3 t7 fr, f_s_l7Pair_sg5_62 v0 v1 v2 v3 t7 fr, f_s_l7Pair_sg5_55 v0 v1 v2 v3 t7 fr, f_s_l7Pair_sg5_62 v0 v1 v2 v3 t7 fr, f_s_l7Pair_sg5_63 v0 v1 v2 v3 t7 fr, f_s_l7Pair_sg5_63 v0 v1 v2 v3 t7 fr, f_s_l7Pair_sg5_63 v0 v1 v2 v3 t7 fr, f_s_l7Pair_sg5_63 v0 v1 v2 v3 t7 fr, f_s_l7Pair_sg5_126 v0 v1 v2 v3 t7 fr, f_s_l7Pair_sg5_127 v0 v1 v2 v3 t7 fr, f_s_l7Pair_sg5_127 v0 v1 v2 v3 t7 fr, f_s_l7Pair_sg5_255 v0 v1 v2 v3 t7 fr, f_s_l7Pair_sg5_511 v0 v1 v2 v3 t7 fr]
theorem f_s_l7Pair_dLg5 (v0 : List Sc) (v1 : List Sc) (v2 : Int) (v3 : Int) (t7 : List Sc) : edgeL E0 f_s_l7Pair_M H0 f_s_l7Pair_F (opsAt (bodyOf Try.f58 100005)) f_s_l7Pair_Dg5 (f_s_l7Pair_frg5 v0 v1 v2 v3 t7) = f_s_l7Pair_Eg5 v0 v1 v2 v3 t7 (f_s_l7Pair_frg5 v0 v1 v2 v3 t7) := by kernel_rfl
theorem f_s_l7Pair_dRg5 (v0 : List Sc) (v1 : List Sc) (v2 : Int) (v3 : Int) (t7 : List Sc) : edgeR E0 f_s_l7Pair_M H0 f_s_l7Pair_F (opsAt (bodyOf Try.f58 100005)) f_s_l7Pair_Dg5 (f_s_l7Pair_frg5 v0 v1 v2 v3 t7) = f_s_l7Pair_Eg5 v0 v1 v2 v3 t7 (f_s_l7Pair_frg5 v0 v1 v2 v3 t7) := by kernel_rfl
theorem f_s_l7Pair_dg5 (v0 : List Sc) (v1 : List Sc) (v2 : Int) (v3 : Int) (t7 : List Sc) : edgeL E0 f_s_l7Pair_M H0 f_s_l7Pair_F (opsAt (bodyOf Try.f58 100005)) f_s_l7Pair_Dg5 (f_s_l7Pair_frg5 v0 v1 v2 v3 t7) = edgeR E0 f_s_l7Pair_M H0 f_s_l7Pair_F (opsAt (bodyOf Try.f58 100005)) f_s_l7Pair_Dg5 (f_s_l7Pair_frg5 v0 v1 v2 v3 t7) := (f_s_l7Pair_dLg5 v0 v1 v2 v3 t7).trans (f_s_l7Pair_dRg5 v0 v1 v2 v3 t7).symm
theorem f_s_l7Pair_eg5 (v0 : List Sc) (v1 : List Sc) (v2 : Int) (v3 : Int) (t7 : List Sc) : goL E0 f_s_l7Pair_M H0 f_s_l7Pair_F (opsAt (bodyOf Try.f58 100005)) (Array.replicate (opsAt (bodyOf Try.f58 100005)).size true) (opsAt (bodyOf Try.f58 100005)).toList 0 (f_s_l7Pair_frg5 v0 v1 v2 v3 t7) (fun s => some (X.norm, clear (klOf f_s_l7Pair_F 100005).2.1 s)) = f_s_l7Pair_g5_k v0 v1 v2 v3 t7 (fun e => some (f_s_l7Pair_xg5 v0 v1 v2 v3 t7 e)) := by kernel_rfl
theorem f_s_l7Pair_lg5 (v0 : List Sc) (v1 : List Sc) (v2 : Int) (v3 : Int) (t7 : List Sc) (r : List Sc × Int × Int × List Sc) (h : f_s_l7Pair_g5 v0 v1 v2 v3 t7 = some r) : LS Try.prog f_s_l7Pair_F (bodyOf Try.f58 100005) (f_s_l7Pair_frg5 v0 v1 v2 v3 t7) (f_s_l7Pair_xg5 v0 v1 v2 v3 t7 r) :=
  region_true (S := Unit) (id := 5) (G := fun _ => f_s_l7Pair_g5 v0 v1 v2 v3 t7) (Gk := fun _ k => f_s_l7Pair_g5_k v0 v1 v2 v3 t7 k) (fr := fun _ => f_s_l7Pair_frg5 v0 v1 v2 v3 t7) (f1 := fun e => f_s_l7Pair_xg5 v0 v1 v2 v3 t7 e) E0ok f_s_l7Pair_Mt f_s_l7Pair_bg5 f_s_l7Pair_cg5 (fun _ => f_s_l7Pair_dg5 v0 v1 v2 v3 t7) (fun _ => rfl) (fun _ => f_s_l7Pair_eg5 v0 v1 v2 v3 t7) (fun _ k => f_s_l7Pair_pg5 v0 v1 v2 v3 t7 k) () r h
def f_s_l7Pair_tg5 (σ : List AV) : Option (Bool × Bool × (X × List AV) × (X × List AV)) := match dec f_s_l7Pair_hg5 σ with
  | some [.l v0, .l v1, .i v2, .i v3, .l t7] => some ((f_s_l7Pair_g5 v0 v1 v2 v3 t7).isSome, true, f_s_l7Pair_xg5 v0 v1 v2 v3 t7 ((f_s_l7Pair_g5 v0 v1 v2 v3 t7).getD ([], 0, 0, [])), (.ret, []))
  | _ => none
theorem f_s_l7Pair_ttg5 : TTrue Try.prog f_s_l7Pair_F Try.f58 100005 f_s_l7Pair_tg5 := by
  intro σ p r r' h
  unfold f_s_l7Pair_tg5 at h
  split at h
  · rename_i hd
    rw [← dec_enc hd]
    exact rowR (f_s_l7Pair_lg5 _ _ _ _ _) h
  · cases h
theorem f_s_l7Pair_p {R : Type} (code0 : List Sc) (kR : List Sc × List Sc → Option R) : f_s_l7Pair_k code0 kR = (f_s_l7Pair_k code0 some).bind kR := by
  simp only [f_s_l7Pair_k, brB, boB, someB, noneB]
theorem f_s_l7Pair_e (code0 : List Sc) : runFn E0 f_s_l7Pair_M H0 f_s_l7Pair_F (asL (addL 100005 f_s_l7Pair_tg5 (addL 100004 f_s_l7Pair_tg4 (noL)))) Try.f58 (f_s_l7Pair_a code0) (f_s_l7Pair_i code0) = f_s_l7Pair_k code0 (fun r => some (f_s_l7Pair_en r)) := by kernel_rfl
theorem f_s_l7Pair_ok (code0 : List Sc) (r : List Sc × List Sc) (h : f_s_l7Pair code0 = some r) : CS Try.prog 58 (f_s_l7Pair_a code0) (f_s_l7Pair_i code0) (f_s_l7Pair_en r).1 (f_s_l7Pair_en r).2 :=
  fn_true (Gk := fun k => f_s_l7Pair_k code0 k) (en := f_s_l7Pair_en) Try.func58 E0ok f_s_l7Pair_Mt (addL_true f_s_l7Pair_ttg5 (addL_true f_s_l7Pair_ttg4 (noL_true))) f_s_l7Pair_o (f_s_l7Pair_e code0) (f_s_l7Pair_p code0) h
def f_s_l7Pair_c : CRow := fun args inh => match dec2 [.p .sl] [] args inh with
  | some ([.l code0], []) => some ((f_s_l7Pair code0).isSome, (f_s_l7Pair_en ((f_s_l7Pair code0).getD ([], []))).1, (f_s_l7Pair_en ((f_s_l7Pair code0).getD ([], []))).2)
  | _ => none
theorem f_s_l7Pair_cc : CTrue Try.prog 58 f_s_l7Pair_c := by
  intro args inh rs out h
  unfold f_s_l7Pair_c at h
  split at h
  · rename_i hd
    obtain ⟨h1, h2⟩ := dec2_enc hd
    rw [← h1, ← h2]
    exact rowC (f_s_l7Pair_ok _) h
  · cases h

def f_s_DrawAddCounts_F : Fi := { nv := 2, nc := 0, m := 0, vt := [(8, 0)], kl := [], sk := [], mvs := [0, 1], fz := [] }
def f_s_DrawAddCounts_a (code0 : List Sc) : List AV := enc [.p .sl] [.l code0]
def f_s_DrawAddCounts_i (code0 : List Sc) : List AV := enc [] []
def f_s_DrawAddCounts_en (r : List Sc × List Sc) : List AV × List AV := (enc [.p (.al 0), .p (.al 1)] [], enc [.own 3, .own 3] [.l r.1, .l r.2])
def f_s_DrawAddCounts_M : Calling := addC 58 f_s_l7Pair_c (noC)
theorem f_s_DrawAddCounts_Mt : CallOk Try.prog (f_s_DrawAddCounts_M) := addC_true f_s_l7Pair_cc (noC_true)
theorem f_s_DrawAddCounts_o : loopsOnce Try.f24 = true := by kernel_rfl
theorem f_s_DrawAddCounts_p {R : Type} (code0 : List Sc) (kR : List Sc × List Sc → Option R) : f_s_DrawAddCounts_k code0 kR = (f_s_DrawAddCounts_k code0 some).bind kR := by
  simp only [f_s_DrawAddCounts_k, boB, someB]
theorem f_s_DrawAddCounts_e (code0 : List Sc) : runFn E0 f_s_DrawAddCounts_M H0 f_s_DrawAddCounts_F (asL (noL)) Try.f24 (f_s_DrawAddCounts_a code0) (f_s_DrawAddCounts_i code0) = f_s_DrawAddCounts_k code0 (fun r => some (f_s_DrawAddCounts_en r)) := by kernel_rfl
theorem f_s_DrawAddCounts_ok (code0 : List Sc) (r : List Sc × List Sc) (h : f_s_DrawAddCounts code0 = some r) : CS Try.prog 24 (f_s_DrawAddCounts_a code0) (f_s_DrawAddCounts_i code0) (f_s_DrawAddCounts_en r).1 (f_s_DrawAddCounts_en r).2 :=
  fn_true (Gk := fun k => f_s_DrawAddCounts_k code0 k) (en := f_s_DrawAddCounts_en) Try.func24 E0ok f_s_DrawAddCounts_Mt (noL_true) f_s_DrawAddCounts_o (f_s_DrawAddCounts_e code0) (f_s_DrawAddCounts_p code0) h
def f_s_DrawAddCounts_c : CRow := fun args inh => match dec2 [.p .sl] [] args inh with
  | some ([.l code0], []) => some ((f_s_DrawAddCounts code0).isSome, (f_s_DrawAddCounts_en ((f_s_DrawAddCounts code0).getD ([], []))).1, (f_s_DrawAddCounts_en ((f_s_DrawAddCounts code0).getD ([], []))).2)
  | _ => none
theorem f_s_DrawAddCounts_cc : CTrue Try.prog 24 f_s_DrawAddCounts_c := by
  intro args inh rs out h
  unfold f_s_DrawAddCounts_c at h
  split at h
  · rename_i hd
    obtain ⟨h1, h2⟩ := dec2_enc hd
    rw [← h1, ← h2]
    exact rowC (f_s_DrawAddCounts_ok _) h
  · cases h

def f_s_DrawMultiplyCounts_F : Fi := { nv := 2, nc := 0, m := 0, vt := [(8, 0)], kl := [], sk := [], mvs := [0, 1], fz := [] }
def f_s_DrawMultiplyCounts_a (code0 : List Sc) : List AV := enc [.p .sl] [.l code0]
def f_s_DrawMultiplyCounts_i (code0 : List Sc) : List AV := enc [] []
def f_s_DrawMultiplyCounts_en (r : List Sc × List Sc) : List AV × List AV := (enc [.p (.al 0), .p (.al 1)] [], enc [.own 3, .own 3] [.l r.1, .l r.2])
def f_s_DrawMultiplyCounts_M : Calling := addC 58 f_s_l7Pair_c (noC)
theorem f_s_DrawMultiplyCounts_Mt : CallOk Try.prog (f_s_DrawMultiplyCounts_M) := addC_true f_s_l7Pair_cc (noC_true)
theorem f_s_DrawMultiplyCounts_o : loopsOnce Try.f25 = true := by kernel_rfl
theorem f_s_DrawMultiplyCounts_p {R : Type} (code0 : List Sc) (kR : List Sc × List Sc → Option R) : f_s_DrawMultiplyCounts_k code0 kR = (f_s_DrawMultiplyCounts_k code0 some).bind kR := by
  simp only [f_s_DrawMultiplyCounts_k, boB, someB]
theorem f_s_DrawMultiplyCounts_e (code0 : List Sc) : runFn E0 f_s_DrawMultiplyCounts_M H0 f_s_DrawMultiplyCounts_F (asL (noL)) Try.f25 (f_s_DrawMultiplyCounts_a code0) (f_s_DrawMultiplyCounts_i code0) = f_s_DrawMultiplyCounts_k code0 (fun r => some (f_s_DrawMultiplyCounts_en r)) := by kernel_rfl
theorem f_s_DrawMultiplyCounts_ok (code0 : List Sc) (r : List Sc × List Sc) (h : f_s_DrawMultiplyCounts code0 = some r) : CS Try.prog 25 (f_s_DrawMultiplyCounts_a code0) (f_s_DrawMultiplyCounts_i code0) (f_s_DrawMultiplyCounts_en r).1 (f_s_DrawMultiplyCounts_en r).2 :=
  fn_true (Gk := fun k => f_s_DrawMultiplyCounts_k code0 k) (en := f_s_DrawMultiplyCounts_en) Try.func25 E0ok f_s_DrawMultiplyCounts_Mt (noL_true) f_s_DrawMultiplyCounts_o (f_s_DrawMultiplyCounts_e code0) (f_s_DrawMultiplyCounts_p code0) h
def f_s_DrawMultiplyCounts_c : CRow := fun args inh => match dec2 [.p .sl] [] args inh with
  | some ([.l code0], []) => some ((f_s_DrawMultiplyCounts code0).isSome, (f_s_DrawMultiplyCounts_en ((f_s_DrawMultiplyCounts code0).getD ([], []))).1, (f_s_DrawMultiplyCounts_en ((f_s_DrawMultiplyCounts code0).getD ([], []))).2)
  | _ => none
theorem f_s_DrawMultiplyCounts_cc : CTrue Try.prog 25 f_s_DrawMultiplyCounts_c := by
  intro args inh rs out h
  unfold f_s_DrawMultiplyCounts_c at h
  split at h
  · rename_i hd
    obtain ⟨h1, h2⟩ := dec2_enc hd
    rw [← h1, ← h2]
    exact rowC (f_s_DrawMultiplyCounts_ok _) h
  · cases h

def f_s_DrawIsZeroCoefficient_F : Fi := { nv := 2, nc := 2, m := 0, vt := [(2, 0), (5, 1)], kl := [], sk := [], mvs := [], fz := [] }
def f_s_DrawIsZeroCoefficient_a (code0 : List Sc) : List AV := enc [.p .sl] [.l code0]
def f_s_DrawIsZeroCoefficient_i (code0 : List Sc) : List AV := enc [] []
def f_s_DrawIsZeroCoefficient_en (r : List Sc × Int × Int) : List AV × List AV := (enc [.p .gr, .p (.int .i64), .p (.int .i64)] [.l r.1, .i r.2.1, .i r.2.2], enc [] [])
def f_s_DrawIsZeroCoefficient_M : Calling := addC 55 f_s_l7Both_c (noC)
theorem f_s_DrawIsZeroCoefficient_Mt : CallOk Try.prog (f_s_DrawIsZeroCoefficient_M) := addC_true f_s_l7Both_cc (noC_true)
theorem f_s_DrawIsZeroCoefficient_o : loopsOnce Try.f26 = true := by kernel_rfl
theorem f_s_DrawIsZeroCoefficient_p {R : Type} (code0 : List Sc) (kR : List Sc × Int × Int → Option R) : f_s_DrawIsZeroCoefficient_k code0 kR = (f_s_DrawIsZeroCoefficient_k code0 some).bind kR := by
  simp only [f_s_DrawIsZeroCoefficient_k, boB, someB]
theorem f_s_DrawIsZeroCoefficient_e (code0 : List Sc) : runFn E0 f_s_DrawIsZeroCoefficient_M H0 f_s_DrawIsZeroCoefficient_F (asL (noL)) Try.f26 (f_s_DrawIsZeroCoefficient_a code0) (f_s_DrawIsZeroCoefficient_i code0) = f_s_DrawIsZeroCoefficient_k code0 (fun r => some (f_s_DrawIsZeroCoefficient_en r)) := by kernel_rfl
theorem f_s_DrawIsZeroCoefficient_ok (code0 : List Sc) (r : List Sc × Int × Int) (h : f_s_DrawIsZeroCoefficient code0 = some r) : CS Try.prog 26 (f_s_DrawIsZeroCoefficient_a code0) (f_s_DrawIsZeroCoefficient_i code0) (f_s_DrawIsZeroCoefficient_en r).1 (f_s_DrawIsZeroCoefficient_en r).2 :=
  fn_true (Gk := fun k => f_s_DrawIsZeroCoefficient_k code0 k) (en := f_s_DrawIsZeroCoefficient_en) Try.func26 E0ok f_s_DrawIsZeroCoefficient_Mt (noL_true) f_s_DrawIsZeroCoefficient_o (f_s_DrawIsZeroCoefficient_e code0) (f_s_DrawIsZeroCoefficient_p code0) h
def f_s_DrawIsZeroCoefficient_c : CRow := fun args inh => match dec2 [.p .sl] [] args inh with
  | some ([.l code0], []) => some ((f_s_DrawIsZeroCoefficient code0).isSome, (f_s_DrawIsZeroCoefficient_en ((f_s_DrawIsZeroCoefficient code0).getD ([], 0, 0))).1, (f_s_DrawIsZeroCoefficient_en ((f_s_DrawIsZeroCoefficient code0).getD ([], 0, 0))).2)
  | _ => none
theorem f_s_DrawIsZeroCoefficient_cc : CTrue Try.prog 26 f_s_DrawIsZeroCoefficient_c := by
  intro args inh rs out h
  unfold f_s_DrawIsZeroCoefficient_c at h
  split at h
  · rename_i hd
    obtain ⟨h1, h2⟩ := dec2_enc hd
    rw [← h1, ← h2]
    exact rowC (f_s_DrawIsZeroCoefficient_ok _) h
  · cases h

def f_l_sameInts_F : Fi := { nv := 0, nc := 0, m := 0, vt := [], kl := [(0, ([2, 3, 4, 6, 7, 8, 9, 10, 11, 12, 13, 14, 15, 16, 17, 18, 19, 20, 21, 22, 23, 24, 25], [0, 1, 2, 3, 4, 5, 6, 7, 8, 9, 10, 11, 12, 13, 14, 15, 16, 17, 18, 19, 20, 21, 22, 23, 24, 25], [0, 1, 2, 3, 5, 6, 7, 8, 9, 10, 11, 12, 13, 14, 15, 16, 17, 18, 19, 20, 21, 22, 23, 24, 25]))], sk := [], mvs := [], fz := [] }
def f_l_sameInts_a (a0 : List Sc) (b1 : List Sc) : List AV := enc [.p .sl, .p .sl] [.l a0, .l b1]
def f_l_sameInts_i (a0 : List Sc) (b1 : List Sc) : List AV := enc [] []
def f_l_sameInts_en (r : Bool) : List AV × List AV := (enc [.p .boo] [.b r], enc [] [])
def f_l_sameInts_M : Calling := noC
theorem f_l_sameInts_Mt : CallOk Try.prog (f_l_sameInts_M) := noC_true
theorem f_l_sameInts_o : loopsOnce Try.f27 = true := by kernel_rfl
def f_l_sameInts_h0 : List Sh := [.p .sl, .p .sl, .u, .u, .u, .p (.int .i64), .u, .u, .u, .u, .u, .u, .u, .u, .u, .u, .u, .u, .u, .u, .u, .u, .u, .u, .u, .u]
def f_l_sameInts_fr0 (a0 : List Sc) (b1 : List Sc) (s : Int) : List AV := enc f_l_sameInts_h0 [.l a0, .l b1, .i s]
def f_l_sameInts_g0_1 : List Sh := [.u, .u, .u, .u, .u, .u, .u, .u, .u, .u, .u, .u, .u, .u, .u, .u, .u, .u, .u, .u, .u, .u, .u, .u, .u, .u]
def f_l_sameInts_x0_1 (a0 : List Sc) (b1 : List Sc) (e : Unit) : X × List AV := (.out 0, enc f_l_sameInts_g0_1 [])
def f_l_sameInts_g0_2 : List Sh := [.u, .u, .u, .u, .p .boo, .u, .u, .u, .u, .u, .u, .u, .u, .u, .u, .u, .u, .u, .u, .u, .u, .u, .u, .u, .u, .u]
def f_l_sameInts_x0_2 (a0 : List Sc) (b1 : List Sc) (e : Unit) : X × List AV := (.ret, enc f_l_sameInts_g0_2 [.b false])
theorem f_l_sameInts_p0 {R : Type} (a0 : List Sc) (b1 : List Sc) (s : Int) (kN : Int → Option R) (kA : Unit → Option R) (kB : Unit → Option R) : f_l_sameInts_k0 a0 b1 s kN kA kB = (f_l_sameInts_r0 a0 b1 s).bind (Ro.el kN kA kB) := by
  simp only [f_l_sameInts_k0, f_l_sameInts_r0, brB, someB, noneB, Ro.el]
theorem f_l_sameInts_e0 (a0 : List Sc) (b1 : List Sc) (s : Int) : EC E0 f_l_sameInts_M H0 f_l_sameInts_F (asL (noL)) 0 (bodyOf Try.f27 0) (f_l_sameInts_fr0 a0 b1 s) (done (klOf f_l_sameInts_F 0)) = f_l_sameInts_k0 a0 b1 s (fun s => some (.norm, f_l_sameInts_fr0 a0 b1 s)) (fun e => some (f_l_sameInts_x0_1 a0 b1 e)) (fun e => some (f_l_sameInts_x0_2 a0 b1 e)) := by kernel_rfl
theorem f_l_sameInts_l0 (a0 : List Sc) (b1 : List Sc) : ∀ s r, loopL (f_l_sameInts_r0 a0 b1) s = some r → LS Try.prog f_l_sameInts_F (bodyOf Try.f27 0) (f_l_sameInts_fr0 a0 b1 s) (enX (f_l_sameInts_x0_1 a0 b1) (f_l_sameInts_x0_2 a0 b1) r) :=
  loop_true E0ok f_l_sameInts_Mt (noL_true) f_l_sameInts_o (fun _ h => by cases h) (fun _ h => by cases h) (fun s => (f_l_sameInts_e0 a0 b1 s).trans (f_l_sameInts_p0 a0 b1 s _ _ (fun e => some (f_l_sameInts_x0_2 a0 b1 e))))
def f_l_sameInts_t0 (σ : List AV) : Option (Bool × Bool × (X × List AV) × (X × List AV)) := match dec f_l_sameInts_h0 σ with
  | some [.l a0, .l b1, .i i5] => some ((loopL (f_l_sameInts_r0 a0 b1) i5).isSome, isOne (loopL (f_l_sameInts_r0 a0 b1) i5), f_l_sameInts_x0_1 a0 b1 (getOne () (loopL (f_l_sameInts_r0 a0 b1) i5)), f_l_sameInts_x0_2 a0 b1 (getTwo () (loopL (f_l_sameInts_r0 a0 b1) i5)))
  | _ => none
theorem f_l_sameInts_tt0 : TTrue Try.prog f_l_sameInts_F Try.f27 0 (f_l_sameInts_t0) := by
  intro σ p r r' h
  unfold f_l_sameInts_t0 at h
  split at h
  · rename_i hd
    rw [← dec_enc hd]
    exact row2 (f_l_sameInts_l0 _ _ _) h
  · cases h
theorem f_l_sameInts_p {R : Type} (a0 : List Sc) (b1 : List Sc) (kR : Bool → Option R) : f_l_sameInts_k a0 b1 kR = (f_l_sameInts_k a0 b1 some).bind kR := by
  simp only [f_l_sameInts_k, brB, blB, someB]
theorem f_l_sameInts_e (a0 : List Sc) (b1 : List Sc) : runFn E0 f_l_sameInts_M H0 f_l_sameInts_F (asL (addL 0 (f_l_sameInts_t0) (noL))) Try.f27 (f_l_sameInts_a a0 b1) (f_l_sameInts_i a0 b1) = f_l_sameInts_k a0 b1 (fun r => some (f_l_sameInts_en r)) := by kernel_rfl
theorem f_l_sameInts_ok (a0 : List Sc) (b1 : List Sc) (r : Bool) (h : f_l_sameInts a0 b1 = some r) : CS Try.prog 27 (f_l_sameInts_a a0 b1) (f_l_sameInts_i a0 b1) (f_l_sameInts_en r).1 (f_l_sameInts_en r).2 :=
  fn_true (Gk := fun k => f_l_sameInts_k a0 b1 k) (en := f_l_sameInts_en) Try.func27 E0ok f_l_sameInts_Mt (addL_true (f_l_sameInts_tt0) (noL_true)) f_l_sameInts_o (f_l_sameInts_e a0 b1) (f_l_sameInts_p a0 b1) h
def f_l_sameInts_c : CRow := fun args inh => match dec2 [.p .sl, .p .sl] [] args inh with
  | some ([.l a0, .l b1], []) => some ((f_l_sameInts a0 b1).isSome, (f_l_sameInts_en ((f_l_sameInts a0 b1).getD false)).1, (f_l_sameInts_en ((f_l_sameInts a0 b1).getD false)).2)
  | _ => none
theorem f_l_sameInts_cc : CTrue Try.prog 27 f_l_sameInts_c := by
  intro args inh rs out h
  unfold f_l_sameInts_c at h
  split at h
  · rename_i hd
    obtain ⟨h1, h2⟩ := dec2_enc hd
    rw [← h1, ← h2]
    exact rowC (f_l_sameInts_ok _ _) h
  · cases h

def f_l_total_F : Fi := { nv := 0, nc := 0, m := 0, vt := [], kl := [(0, ([1, 2, 5, 6, 7, 8, 9, 10, 11, 12, 13, 14, 15, 16, 17], [0, 1, 2, 4, 5, 6, 7, 8, 9, 10, 11, 12, 13, 14, 15, 16, 17], [0, 1, 3, 4, 5, 6, 7, 8, 9, 10, 11, 12, 13, 14, 15, 16, 17]))], sk := [], mvs := [], fz := [] }
def f_l_total_a (l0 : List Sc) : List AV := enc [.p .sl] [.l l0]
def f_l_total_i (l0 : List Sc) : List AV := enc [] []
def f_l_total_en (r : Int) : List AV × List AV := (enc [.p (.int .i64)] [.i r], enc [] [])
def f_l_total_M : Calling := noC
theorem f_l_total_Mt : CallOk Try.prog (f_l_total_M) := noC_true
theorem f_l_total_o : loopsOnce Try.f29 = true := by kernel_rfl
def f_l_total_h0 : List Sh := [.p .sl, .u, .u, .p (.int .i64), .p (.int .i64), .u, .u, .u, .u, .u, .u, .u, .u, .u, .u, .u, .u, .u]
def f_l_total_fr0 (l0 : List Sc) (s : Int × Int) : List AV := enc f_l_total_h0 [.l l0, .i s.1, .i s.2]
def f_l_total_g0_1 : List Sh := [.u, .u, .u, .p (.int .i64), .u, .u, .u, .u, .u, .u, .u, .u, .u, .u, .u, .u, .u, .u]
def f_l_total_x0_1 (l0 : List Sc) (e : Int) : X × List AV := (.out 0, enc f_l_total_g0_1 [.i e])
def f_l_total_x0_2 (l0 : List Sc) (_e : Unit) : X × List AV := (.ret, [])
theorem f_l_total_p0 {R : Type} (l0 : List Sc) (s : Int × Int) (kN : Int × Int → Option R) (kA : Int → Option R) (kB : Unit → Option R) : f_l_total_k0 l0 s.1 s.2 kN kA = (f_l_total_r0 l0 s).bind (Ro.el kN kA kB) := by
  simp only [f_l_total_k0, f_l_total_r0, brB, someB, noneB, Ro.el]
theorem f_l_total_e0 (l0 : List Sc) (s : Int × Int) : EC E0 f_l_total_M H0 f_l_total_F (asL (noL)) 0 (bodyOf Try.f29 0) (f_l_total_fr0 l0 s) (done (klOf f_l_total_F 0)) = f_l_total_k0 l0 s.1 s.2 (fun s => some (.norm, f_l_total_fr0 l0 s)) (fun e => some (f_l_total_x0_1 l0 e)) := by kernel_rfl
theorem f_l_total_l0 (l0 : List Sc) : ∀ s r, loopL (f_l_total_r0 l0) s = some r → LS Try.prog f_l_total_F (bodyOf Try.f29 0) (f_l_total_fr0 l0 s) (enX (f_l_total_x0_1 l0) (f_l_total_x0_2 l0) r) :=
  loop_true E0ok f_l_total_Mt (noL_true) f_l_total_o (fun _ h => by cases h) (fun _ h => by cases h) (fun s => (f_l_total_e0 l0 s).trans (f_l_total_p0 l0 s _ _ (fun e => some (f_l_total_x0_2 l0 e))))
def f_l_total_t0 (σ : List AV) : Option (Bool × Bool × (X × List AV) × (X × List AV)) := match dec f_l_total_h0 σ with
  | some [.l l0, .i n3, .i i4] => some (isOne (loopL (f_l_total_r0 l0) (n3, i4)), true, f_l_total_x0_1 l0 (getOne 0 (loopL (f_l_total_r0 l0) (n3, i4))), (.ret, []))
  | _ => none
theorem f_l_total_tt0 : TTrue Try.prog f_l_total_F Try.f29 0 (f_l_total_t0) := by
  intro σ p r r' h
  unfold f_l_total_t0 at h
  split at h
  · rename_i hd
    rw [← dec_enc hd]
    exact row1 (f_l_total_l0 _ _) h
  · cases h
theorem f_l_total_p {R : Type} (l0 : List Sc) (kR : Int → Option R) : f_l_total_k l0 kR = (f_l_total_k l0 some).bind kR := by
  simp only [f_l_total_k, bl1B, someB]
theorem f_l_total_e (l0 : List Sc) : runFn E0 f_l_total_M H0 f_l_total_F (asL (addL 0 (f_l_total_t0) (noL))) Try.f29 (f_l_total_a l0) (f_l_total_i l0) = f_l_total_k l0 (fun r => some (f_l_total_en r)) := by kernel_rfl
theorem f_l_total_ok (l0 : List Sc) (r : Int) (h : f_l_total l0 = some r) : CS Try.prog 29 (f_l_total_a l0) (f_l_total_i l0) (f_l_total_en r).1 (f_l_total_en r).2 :=
  fn_true (Gk := fun k => f_l_total_k l0 k) (en := f_l_total_en) Try.func29 E0ok f_l_total_Mt (addL_true (f_l_total_tt0) (noL_true)) f_l_total_o (f_l_total_e l0) (f_l_total_p l0) h
def f_l_total_c : CRow := fun args inh => match dec2 [.p .sl] [] args inh with
  | some ([.l l0], []) => some ((f_l_total l0).isSome, (f_l_total_en ((f_l_total l0).getD 0)).1, (f_l_total_en ((f_l_total l0).getD 0)).2)
  | _ => none
theorem f_l_total_cc : CTrue Try.prog 29 f_l_total_c := by
  intro args inh rs out h
  unfold f_l_total_c at h
  split at h
  · rename_i hd
    obtain ⟨h1, h2⟩ := dec2_enc hd
    rw [← h1, ← h2]
    exact rowC (f_l_total_ok _) h
  · cases h

def f_i_areCounts_F : Fi := { nv := 0, nc := 0, m := 0, vt := [], kl := [(0, ([2, 3, 4, 5, 6, 7, 8, 9, 13, 14, 15, 16, 17, 18, 19, 20, 21, 22, 23, 24, 25, 26, 27, 28, 29], [2, 3, 4, 5, 6, 7, 8, 9, 10, 11, 12, 13, 14, 15, 16, 17, 18, 19, 20, 21, 22, 23, 24, 25, 26, 27, 28, 29], [0, 1, 2, 3, 5, 6, 7, 8, 9, 10, 11, 12, 13, 14, 15, 16, 17, 18, 19, 20, 21, 22, 23, 24, 25, 26, 27, 28, 29]))], sk := [], mvs := [], fz := [] }
def f_i_areCounts_a (p0 : List Sc) (q1 : List Sc) : List AV := enc [.p .sl, .p .sl] [.l p0, .l q1]
def f_i_areCounts_i (p0 : List Sc) (q1 : List Sc) : List AV := enc [] []
def f_i_areCounts_en (r : Bool) : List AV × List AV := (enc [.p .boo] [.b r], enc [] [])
def f_i_areCounts_M : Calling := addC 81 f_i_copyInts_c (addC 66 f_i_within_c (noC))
theorem f_i_areCounts_Mt : CallOk Try.prog (f_i_areCounts_M) := addC_true f_i_copyInts_cc (addC_true f_i_within_cc (noC_true))
theorem f_i_areCounts_o : loopsOnce Try.f59 = true := by kernel_rfl
def f_i_areCounts_h0 : List Sh := [.p .sl, .p .sl, .u, .u, .u, .u, .u, .u, .u, .u, .own 3, .p (.int .i64), .p (.int .i64), .u, .u, .u, .u, .u, .u, .u, .u, .u, .u, .u, .u, .u, .u, .u, .u, .u]
def f_i_areCounts_fr0 (p0 : List Sc) (q1 : List Sc) (t11 : Int) (s : List Sc × Int) : List AV := enc f_i_areCounts_h0 [.l p0, .l q1, .l s.1, .i t11, .i s.2]
def f_i_areCounts_g0_1 : List Sh := [.p .sl, .p .sl, .u, .u, .u, .u, .u, .u, .u, .u, .u, .u, .u, .u, .u, .u, .u, .u, .u, .u, .u, .u, .u, .u, .u, .u, .u, .u, .u, .u]
def f_i_areCounts_x0_1 (p0 : List Sc) (q1 : List Sc) (t11 : Int) (e : Unit) : X × List AV := (.out 0, enc f_i_areCounts_g0_1 [.l p0, .l q1])
def f_i_areCounts_g0_2 : List Sh := [.u, .u, .u, .u, .p .boo, .u, .u, .u, .u, .u, .u, .u, .u, .u, .u, .u, .u, .u, .u, .u, .u, .u, .u, .u, .u, .u, .u, .u, .u, .u]
def f_i_areCounts_x0_2 (p0 : List Sc) (q1 : List Sc) (t11 : Int) (e : Unit) : X × List AV := (.ret, enc f_i_areCounts_g0_2 [.b false])
theorem f_i_areCounts_p0 {R : Type} (p0 : List Sc) (q1 : List Sc) (t11 : Int) (s : List Sc × Int) (kN : List Sc × Int → Option R) (kA : Unit → Option R) (kB : Unit → Option R) : f_i_areCounts_k0 p0 q1 t11 s.1 s.2 kN kA kB = (f_i_areCounts_r0 p0 q1 t11 s).bind (Ro.el kN kA kB) := by
  simp only [f_i_areCounts_k0, f_i_areCounts_r0, brB, boB, someB, noneB, Ro.el]
theorem f_i_areCounts_e0 (p0 : List Sc) (q1 : List Sc) (t11 : Int) (s : List Sc × Int) : EC E0 f_i_areCounts_M H0 f_i_areCounts_F (asL (noL)) 0 (bodyOf Try.f59 0) (f_i_areCounts_fr0 p0 q1 t11 s) (done (klOf f_i_areCounts_F 0)) = f_i_areCounts_k0 p0 q1 t11 s.1 s.2 (fun s => some (.norm, f_i_areCounts_fr0 p0 q1 t11 s)) (fun e => some (f_i_areCounts_x0_1 p0 q1 t11 e)) (fun e => some (f_i_areCounts_x0_2 p0 q1 t11 e)) := by kernel_rfl
theorem f_i_areCounts_l0 (p0 : List Sc) (q1 : List Sc) (t11 : Int) : ∀ s r, loopL (f_i_areCounts_r0 p0 q1 t11) s = some r → LS Try.prog f_i_areCounts_F (bodyOf Try.f59 0) (f_i_areCounts_fr0 p0 q1 t11 s) (enX (f_i_areCounts_x0_1 p0 q1 t11) (f_i_areCounts_x0_2 p0 q1 t11) r) :=
  loop_true E0ok f_i_areCounts_Mt (noL_true) f_i_areCounts_o (fun _ h => by cases h) (fun _ h => by cases h) (fun s => (f_i_areCounts_e0 p0 q1 t11 s).trans (f_i_areCounts_p0 p0 q1 t11 s _ _ (fun e => some (f_i_areCounts_x0_2 p0 q1 t11 e))))
def f_i_areCounts_t0 (σ : List AV) : Option (Bool × Bool × (X × List AV) × (X × List AV)) := match dec f_i_areCounts_h0 σ with
  | some [.l p0, .l q1, .l t10, .i t11, .i t12] => some ((loopL (f_i_areCounts_r0 p0 q1 t11) (t10, t12)).isSome, isOne (loopL (f_i_areCounts_r0 p0 q1 t11) (t10, t12)), f_i_areCounts_x0_1 p0 q1 t11 (getOne () (loopL (f_i_areCounts_r0 p0 q1 t11) (t10, t12))), f_i_areCounts_x0_2 p0 q1 t11 (getTwo () (loopL (f_i_areCounts_r0 p0 q1 t11) (t10, t12))))
  | _ => none
theorem f_i_areCounts_tt0 : TTrue Try.prog f_i_areCounts_F Try.f59 0 (f_i_areCounts_t0) := by
  intro σ p r r' h
  unfold f_i_areCounts_t0 at h
  split at h
  · rename_i hd
    rw [← dec_enc hd]
    exact row2 (f_i_areCounts_l0 _ _ _ _) h
  · cases h
theorem f_i_areCounts_p {R : Type} (p0 : List Sc) (q1 : List Sc) (kR : Bool → Option R) : f_i_areCounts_k p0 q1 kR = (f_i_areCounts_k p0 q1 some).bind kR := by
  simp only [f_i_areCounts_k, brB, boB, blB, someB, noneB]
theorem f_i_areCounts_e (p0 : List Sc) (q1 : List Sc) : runFn E0 f_i_areCounts_M H0 f_i_areCounts_F (asL (addL 0 (f_i_areCounts_t0) (noL))) Try.f59 (f_i_areCounts_a p0 q1) (f_i_areCounts_i p0 q1) = f_i_areCounts_k p0 q1 (fun r => some (f_i_areCounts_en r)) := by kernel_rfl
theorem f_i_areCounts_ok (p0 : List Sc) (q1 : List Sc) (r : Bool) (h : f_i_areCounts p0 q1 = some r) : CS Try.prog 59 (f_i_areCounts_a p0 q1) (f_i_areCounts_i p0 q1) (f_i_areCounts_en r).1 (f_i_areCounts_en r).2 :=
  fn_true (Gk := fun k => f_i_areCounts_k p0 q1 k) (en := f_i_areCounts_en) Try.func59 E0ok f_i_areCounts_Mt (addL_true (f_i_areCounts_tt0) (noL_true)) f_i_areCounts_o (f_i_areCounts_e p0 q1) (f_i_areCounts_p p0 q1) h
def f_i_areCounts_c : CRow := fun args inh => match dec2 [.p .sl, .p .sl] [] args inh with
  | some ([.l p0, .l q1], []) => some ((f_i_areCounts p0 q1).isSome, (f_i_areCounts_en ((f_i_areCounts p0 q1).getD false)).1, (f_i_areCounts_en ((f_i_areCounts p0 q1).getD false)).2)
  | _ => none
theorem f_i_areCounts_cc : CTrue Try.prog 59 f_i_areCounts_c := by
  intro args inh rs out h
  unfold f_i_areCounts_c at h
  split at h
  · rename_i hd
    obtain ⟨h1, h2⟩ := dec2_enc hd
    rw [← h1, ← h2]
    exact rowC (f_i_areCounts_ok _ _) h
  · cases h

def f_i_AddCounts_F : Fi := { nv := 0, nc := 0, m := 0, vt := [], kl := [(0, ([2, 3, 4, 6, 7, 8, 9, 10, 11, 12, 13, 16, 17, 18, 19, 20, 21, 22, 23, 24, 25, 26, 27, 28, 29, 30, 31], [0, 1, 2, 3, 4, 6, 7, 8, 9, 10, 11, 12, 13, 14, 15, 16, 17, 18, 19, 20, 21, 22, 23, 24, 25, 26, 27, 28, 29, 30, 31], [0, 1, 2, 3, 5, 6, 7, 8, 9, 10, 11, 12, 13, 14, 15, 16, 17, 18, 19, 20, 21, 22, 23, 24, 25, 26, 27, 28, 29, 30, 31]))], sk := [], mvs := [], fz := [] }
def f_i_AddCounts_a (p0 : List Sc) (q1 : List Sc) : List AV := enc [.p .sl, .p .sl] [.l p0, .l q1]
def f_i_AddCounts_i (p0 : List Sc) (q1 : List Sc) : List AV := enc [] []
def f_i_AddCounts_en (r : List Sc) : List AV × List AV := (enc [.p (.al 0)] [], enc [.own 3] [.l r])
def f_i_AddCounts_M : Calling := addC 59 f_i_areCounts_c (noC)
theorem f_i_AddCounts_Mt : CallOk Try.prog (f_i_AddCounts_M) := addC_true f_i_areCounts_cc (noC_true)
theorem f_i_AddCounts_o : loopsOnce Try.f32 = true := by kernel_rfl
def f_i_AddCounts_h0 : List Sh := [.p .sl, .p .sl, .u, .u, .u, .own 3, .u, .u, .u, .u, .u, .u, .u, .u, .p (.int .i64), .p (.int .i64), .u, .u, .u, .u, .u, .u, .u, .u, .u, .u, .u, .u, .u, .u, .u, .u]
def f_i_AddCounts_fr0 (p0 : List Sc) (q1 : List Sc) (t14 : Int) (s : List Sc × Int) : List AV := enc f_i_AddCounts_h0 [.l p0, .l q1, .l s.1, .i t14, .i s.2]
def f_i_AddCounts_g0_1 : List Sh := [.u, .u, .u, .u, .u, .own 3, .u, .u, .u, .u, .u, .u, .u, .u, .u, .u, .u, .u, .u, .u, .u, .u, .u, .u, .u, .u, .u, .u, .u, .u, .u, .u]
def f_i_AddCounts_x0_1 (p0 : List Sc) (q1 : List Sc) (t14 : Int) (e : List Sc) : X × List AV := (.out 0, enc f_i_AddCounts_g0_1 [.l e])
def f_i_AddCounts_x0_2 (p0 : List Sc) (q1 : List Sc) (t14 : Int) (_e : Unit) : X × List AV := (.ret, [])
theorem f_i_AddCounts_p0 {R : Type} (p0 : List Sc) (q1 : List Sc) (t14 : Int) (s : List Sc × Int) (kN : List Sc × Int → Option R) (kA : List Sc → Option R) (kB : Unit → Option R) : f_i_AddCounts_k0 p0 q1 t14 s.1 s.2 kN kA = (f_i_AddCounts_r0 p0 q1 t14 s).bind (Ro.el kN kA kB) := by
  simp only [f_i_AddCounts_k0, f_i_AddCounts_r0, brB, someB, noneB, Ro.el]
theorem f_i_AddCounts_e0 (p0 : List Sc) (q1 : List Sc) (t14 : Int) (s : List Sc × Int) : EC E0 f_i_AddCounts_M H0 f_i_AddCounts_F (asL (noL)) 0 (bodyOf Try.f32 0) (f_i_AddCounts_fr0 p0 q1 t14 s) (done (klOf f_i_AddCounts_F 0)) = f_i_AddCounts_k0 p0 q1 t14 s.1 s.2 (fun s => some (.norm, f_i_AddCounts_fr0 p0 q1 t14 s)) (fun e => some (f_i_AddCounts_x0_1 p0 q1 t14 e)) := by kernel_rfl
theorem f_i_AddCounts_l0 (p0 : List Sc) (q1 : List Sc) (t14 : Int) : ∀ s r, loopL (f_i_AddCounts_r0 p0 q1 t14) s = some r → LS Try.prog f_i_AddCounts_F (bodyOf Try.f32 0) (f_i_AddCounts_fr0 p0 q1 t14 s) (enX (f_i_AddCounts_x0_1 p0 q1 t14) (f_i_AddCounts_x0_2 p0 q1 t14) r) :=
  loop_true E0ok f_i_AddCounts_Mt (noL_true) f_i_AddCounts_o (fun _ h => by cases h) (fun _ h => by cases h) (fun s => (f_i_AddCounts_e0 p0 q1 t14 s).trans (f_i_AddCounts_p0 p0 q1 t14 s _ _ (fun e => some (f_i_AddCounts_x0_2 p0 q1 t14 e))))
def f_i_AddCounts_t0 (σ : List AV) : Option (Bool × Bool × (X × List AV) × (X × List AV)) := match dec f_i_AddCounts_h0 σ with
  | some [.l p0, .l q1, .l out5, .i t14, .i t15] => some (isOne (loopL (f_i_AddCounts_r0 p0 q1 t14) (out5, t15)), true, f_i_AddCounts_x0_1 p0 q1 t14 (getOne [] (loopL (f_i_AddCounts_r0 p0 q1 t14) (out5, t15))), (.ret, []))
  | _ => none
theorem f_i_AddCounts_tt0 : TTrue Try.prog f_i_AddCounts_F Try.f32 0 (f_i_AddCounts_t0) := by
  intro σ p r r' h
  unfold f_i_AddCounts_t0 at h
  split at h
  · rename_i hd
    rw [← dec_enc hd]
    exact row1 (f_i_AddCounts_l0 _ _ _ _) h
  · cases h
theorem f_i_AddCounts_p {R : Type} (p0 : List Sc) (q1 : List Sc) (kR : List Sc → Option R) : f_i_AddCounts_k p0 q1 kR = (f_i_AddCounts_k p0 q1 some).bind kR := by
  simp only [f_i_AddCounts_k, brB, boB, bl1B, someB]
theorem f_i_AddCounts_e (p0 : List Sc) (q1 : List Sc) : runFn E0 f_i_AddCounts_M H0 f_i_AddCounts_F (asL (addL 0 (f_i_AddCounts_t0) (noL))) Try.f32 (f_i_AddCounts_a p0 q1) (f_i_AddCounts_i p0 q1) = f_i_AddCounts_k p0 q1 (fun r => some (f_i_AddCounts_en r)) := by kernel_rfl
theorem f_i_AddCounts_ok (p0 : List Sc) (q1 : List Sc) (r : List Sc) (h : f_i_AddCounts p0 q1 = some r) : CS Try.prog 32 (f_i_AddCounts_a p0 q1) (f_i_AddCounts_i p0 q1) (f_i_AddCounts_en r).1 (f_i_AddCounts_en r).2 :=
  fn_true (Gk := fun k => f_i_AddCounts_k p0 q1 k) (en := f_i_AddCounts_en) Try.func32 E0ok f_i_AddCounts_Mt (addL_true (f_i_AddCounts_tt0) (noL_true)) f_i_AddCounts_o (f_i_AddCounts_e p0 q1) (f_i_AddCounts_p p0 q1) h
def f_i_AddCounts_c : CRow := fun args inh => match dec2 [.p .sl, .p .sl] [] args inh with
  | some ([.l p0, .l q1], []) => some ((f_i_AddCounts p0 q1).isSome, (f_i_AddCounts_en ((f_i_AddCounts p0 q1).getD [])).1, (f_i_AddCounts_en ((f_i_AddCounts p0 q1).getD [])).2)
  | _ => none
theorem f_i_AddCounts_cc : CTrue Try.prog 32 f_i_AddCounts_c := by
  intro args inh rs out h
  unfold f_i_AddCounts_c at h
  split at h
  · rename_i hd
    obtain ⟨h1, h2⟩ := dec2_enc hd
    rw [← h1, ← h2]
    exact rowC (f_i_AddCounts_ok _ _) h
  · cases h

def f_s_l7Counts_F : Fi := { nv := 0, nc := 0, m := 0, vt := [], kl := [(0, ([1, 2, 4, 5, 6, 7, 8, 9, 10, 11, 12, 13, 14, 15, 16, 17, 18], [1, 2, 3, 4, 5, 6, 7, 8, 9, 10, 11, 12, 13, 14, 15, 16, 17, 18], [0, 1, 3, 4, 5, 6, 7, 8, 9, 10, 11, 12, 13, 14, 15, 16, 17, 18]))], sk := [], mvs := [], fz := [] }
def f_s_l7Counts_a (p0 : List Sc) : List AV := enc [.p .sl] [.l p0]
def f_s_l7Counts_i (p0 : List Sc) : List AV := enc [] []
def f_s_l7Counts_en (r : Bool) : List AV × List AV := (enc [.p .boo] [.b r], enc [] [])
def f_s_l7Counts_M : Calling := addC 69 f_s_l1In_c (noC)
theorem f_s_l7Counts_Mt : CallOk Try.prog (f_s_l7Counts_M) := addC_true f_s_l1In_cc (noC_true)
theorem f_s_l7Counts_o : loopsOnce Try.f60 = true := by kernel_rfl
def f_s_l7Counts_h0 : List Sh := [.p .sl, .u, .u, .p (.int .i64), .u, .u, .u, .u, .u, .u, .u, .u, .u, .u, .u, .u, .u, .u, .u]
def f_s_l7Counts_fr0 (p0 : List Sc) (s : Int) : List AV := enc f_s_l7Counts_h0 [.l p0, .i s]
def f_s_l7Counts_g0_1 : List Sh := [.p .sl, .u, .u, .u, .u, .u, .u, .u, .u, .u, .u, .u, .u, .u, .u, .u, .u, .u, .u]
def f_s_l7Counts_x0_1 (p0 : List Sc) (e : Unit) : X × List AV := (.out 0, enc f_s_l7Counts_g0_1 [.l p0])
def f_s_l7Counts_g0_2 : List Sh := [.u, .u, .p .boo, .u, .u, .u, .u, .u, .u, .u, .u, .u, .u, .u, .u, .u, .u, .u, .u]
def f_s_l7Counts_x0_2 (p0 : List Sc) (e : Unit) : X × List AV := (.ret, enc f_s_l7Counts_g0_2 [.b false])
theorem f_s_l7Counts_p0 {R : Type} (p0 : List Sc) (s : Int) (kN : Int → Option R) (kA : Unit → Option R) (kB : Unit → Option R) : f_s_l7Counts_k0 p0 s kN kA kB = (f_s_l7Counts_r0 p0 s).bind (Ro.el kN kA kB) := by
  simp only [f_s_l7Counts_k0, f_s_l7Counts_r0, brB, boB, someB, noneB, Ro.el]
theorem f_s_l7Counts_e0 (p0 : List Sc) (s : Int) : EC E0 f_s_l7Counts_M H0 f_s_l7Counts_F (asL (noL)) 0 (bodyOf Try.f60 0) (f_s_l7Counts_fr0 p0 s) (done (klOf f_s_l7Counts_F 0)) = f_s_l7Counts_k0 p0 s (fun s => some (.norm, f_s_l7Counts_fr0 p0 s)) (fun e => some (f_s_l7Counts_x0_1 p0 e)) (fun e => some (f_s_l7Counts_x0_2 p0 e)) := by kernel_rfl
theorem f_s_l7Counts_l0 (p0 : List Sc) : ∀ s r, loopL (f_s_l7Counts_r0 p0) s = some r → LS Try.prog f_s_l7Counts_F (bodyOf Try.f60 0) (f_s_l7Counts_fr0 p0 s) (enX (f_s_l7Counts_x0_1 p0) (f_s_l7Counts_x0_2 p0) r) :=
  loop_true E0ok f_s_l7Counts_Mt (noL_true) f_s_l7Counts_o (fun _ h => by cases h) (fun _ h => by cases h) (fun s => (f_s_l7Counts_e0 p0 s).trans (f_s_l7Counts_p0 p0 s _ _ (fun e => some (f_s_l7Counts_x0_2 p0 e))))
def f_s_l7Counts_t0 (σ : List AV) : Option (Bool × Bool × (X × List AV) × (X × List AV)) := match dec f_s_l7Counts_h0 σ with
  | some [.l p0, .i i3] => some ((loopL (f_s_l7Counts_r0 p0) i3).isSome, isOne (loopL (f_s_l7Counts_r0 p0) i3), f_s_l7Counts_x0_1 p0 (getOne () (loopL (f_s_l7Counts_r0 p0) i3)), f_s_l7Counts_x0_2 p0 (getTwo () (loopL (f_s_l7Counts_r0 p0) i3)))
  | _ => none
theorem f_s_l7Counts_tt0 : TTrue Try.prog f_s_l7Counts_F Try.f60 0 (f_s_l7Counts_t0) := by
  intro σ p r r' h
  unfold f_s_l7Counts_t0 at h
  split at h
  · rename_i hd
    rw [← dec_enc hd]
    exact row2 (f_s_l7Counts_l0 _ _) h
  · cases h
theorem f_s_l7Counts_p {R : Type} (p0 : List Sc) (kR : Bool → Option R) : f_s_l7Counts_k p0 kR = (f_s_l7Counts_k p0 some).bind kR := by
  simp only [f_s_l7Counts_k, boB, blB, someB]
theorem f_s_l7Counts_e (p0 : List Sc) : runFn E0 f_s_l7Counts_M H0 f_s_l7Counts_F (asL (addL 0 (f_s_l7Counts_t0) (noL))) Try.f60 (f_s_l7Counts_a p0) (f_s_l7Counts_i p0) = f_s_l7Counts_k p0 (fun r => some (f_s_l7Counts_en r)) := by kernel_rfl
theorem f_s_l7Counts_ok (p0 : List Sc) (r : Bool) (h : f_s_l7Counts p0 = some r) : CS Try.prog 60 (f_s_l7Counts_a p0) (f_s_l7Counts_i p0) (f_s_l7Counts_en r).1 (f_s_l7Counts_en r).2 :=
  fn_true (Gk := fun k => f_s_l7Counts_k p0 k) (en := f_s_l7Counts_en) Try.func60 E0ok f_s_l7Counts_Mt (addL_true (f_s_l7Counts_tt0) (noL_true)) f_s_l7Counts_o (f_s_l7Counts_e p0) (f_s_l7Counts_p p0) h
def f_s_l7Counts_c : CRow := fun args inh => match dec2 [.p .sl] [] args inh with
  | some ([.l p0], []) => some ((f_s_l7Counts p0).isSome, (f_s_l7Counts_en ((f_s_l7Counts p0).getD false)).1, (f_s_l7Counts_en ((f_s_l7Counts p0).getD false)).2)
  | _ => none
theorem f_s_l7Counts_cc : CTrue Try.prog 60 f_s_l7Counts_c := by
  intro args inh rs out h
  unfold f_s_l7Counts_c at h
  split at h
  · rename_i hd
    obtain ⟨h1, h2⟩ := dec2_enc hd
    rw [← h1, ← h2]
    exact rowC (f_s_l7Counts_ok _) h
  · cases h

def f_s_AddCounts_F : Fi := { nv := 0, nc := 0, m := 0, vt := [], kl := [(0, ([2, 3, 4, 7, 8, 9, 10, 11, 12, 13, 14, 15, 16, 17, 18, 19, 20, 21, 22, 23, 24, 25, 26, 27, 28, 29, 30, 31, 32, 33, 34, 35, 36, 37, 38, 39, 40, 41], [0, 1, 2, 3, 4, 6, 7, 8, 9, 10, 11, 12, 13, 14, 15, 16, 17, 18, 19, 20, 21, 22, 23, 24, 25, 26, 27, 28, 29, 30, 31, 32, 33, 34, 35, 36, 37, 38, 39, 40, 41], [0, 1, 2, 3, 5, 6, 7, 8, 9, 10, 11, 12, 13, 14, 15, 16, 17, 18, 19, 20, 21, 22, 23, 24, 25, 26, 27, 28, 29, 30, 31, 32, 33, 34, 35, 36, 37, 38, 39, 40, 41]))], sk := [], mvs := [], fz := [] }
def f_s_AddCounts_a (p0 : List Sc) (q1 : List Sc) : List AV := enc [.p .sl, .p .sl] [.l p0, .l q1]
def f_s_AddCounts_i (p0 : List Sc) (q1 : List Sc) : List AV := enc [] []
def f_s_AddCounts_en (r : List Sc) : List AV × List AV := (enc [.p (.al 0)] [], enc [.own 3] [.l r])
def f_s_AddCounts_M : Calling := addC 60 f_s_l7Counts_c (noC)
theorem f_s_AddCounts_Mt : CallOk Try.prog (f_s_AddCounts_M) := addC_true f_s_l7Counts_cc (noC_true)
theorem f_s_AddCounts_o : loopsOnce Try.f33 = true := by kernel_rfl
def f_s_AddCounts_h0 : List Sh := [.p .sl, .p .sl, .u, .u, .u, .own 3, .p (.int .i64), .u, .u, .u, .u, .u, .u, .u, .u, .u, .u, .u, .u, .u, .u, .u, .u, .u, .u, .u, .u, .u, .u, .u, .u, .u, .u, .u, .u, .u, .u, .u, .u, .u, .u, .u]
def f_s_AddCounts_fr0 (p0 : List Sc) (q1 : List Sc) (s : List Sc × Int) : List AV := enc f_s_AddCounts_h0 [.l p0, .l q1, .l s.1, .i s.2]
def f_s_AddCounts_g0_1 : List Sh := [.u, .u, .u, .u, .u, .own 3, .u, .u, .u, .u, .u, .u, .u, .u, .u, .u, .u, .u, .u, .u, .u, .u, .u, .u, .u, .u, .u, .u, .u, .u, .u, .u, .u, .u, .u, .u, .u, .u, .u, .u, .u, .u]
def f_s_AddCounts_x0_1 (p0 : List Sc) (q1 : List Sc) (e : List Sc) : X × List AV := (.out 0, enc f_s_AddCounts_g0_1 [.l e])
def f_s_AddCounts_x0_2 (p0 : List Sc) (q1 : List Sc) (_e : Unit) : X × List AV := (.ret, [])
theorem f_s_AddCounts_p0 {R : Type} (p0 : List Sc) (q1 : List Sc) (s : List Sc × Int) (kN : List Sc × Int → Option R) (kA : List Sc → Option R) (kB : Unit → Option R) : f_s_AddCounts_k0 p0 q1 s.1 s.2 kN kA = (f_s_AddCounts_r0 p0 q1 s).bind (Ro.el kN kA kB) := by
  simp only [f_s_AddCounts_k0, f_s_AddCounts_r0, brB, boB, someB, noneB, Ro.el]
theorem f_s_AddCounts_e0 (p0 : List Sc) (q1 : List Sc) (s : List Sc × Int) : EC E0 f_s_AddCounts_M H0 f_s_AddCounts_F (asL (noL)) 0 (bodyOf Try.f33 0) (f_s_AddCounts_fr0 p0 q1 s) (done (klOf f_s_AddCounts_F 0)) = f_s_AddCounts_k0 p0 q1 s.1 s.2 (fun s => some (.norm, f_s_AddCounts_fr0 p0 q1 s)) (fun e => some (f_s_AddCounts_x0_1 p0 q1 e)) := by kernel_rfl
theorem f_s_AddCounts_l0 (p0 : List Sc) (q1 : List Sc) : ∀ s r, loopL (f_s_AddCounts_r0 p0 q1) s = some r → LS Try.prog f_s_AddCounts_F (bodyOf Try.f33 0) (f_s_AddCounts_fr0 p0 q1 s) (enX (f_s_AddCounts_x0_1 p0 q1) (f_s_AddCounts_x0_2 p0 q1) r) :=
  loop_true E0ok f_s_AddCounts_Mt (noL_true) f_s_AddCounts_o (fun _ h => by cases h) (fun _ h => by cases h) (fun s => (f_s_AddCounts_e0 p0 q1 s).trans (f_s_AddCounts_p0 p0 q1 s _ _ (fun e => some (f_s_AddCounts_x0_2 p0 q1 e))))
def f_s_AddCounts_t0 (σ : List AV) : Option (Bool × Bool × (X × List AV) × (X × List AV)) := match dec f_s_AddCounts_h0 σ with
  | some [.l p0, .l q1, .l out5, .i i6] => some (isOne (loopL (f_s_AddCounts_r0 p0 q1) (out5, i6)), true, f_s_AddCounts_x0_1 p0 q1 (getOne [] (loopL (f_s_AddCounts_r0 p0 q1) (out5, i6))), (.ret, []))
  | _ => none
theorem f_s_AddCounts_tt0 : TTrue Try.prog f_s_AddCounts_F Try.f33 0 (f_s_AddCounts_t0) := by
  intro σ p r r' h
  unfold f_s_AddCounts_t0 at h
  split at h
  · rename_i hd
    rw [← dec_enc hd]
    exact row1 (f_s_AddCounts_l0 _ _ _) h
  · cases h
theorem f_s_AddCounts_p {R : Type} (p0 : List Sc) (q1 : List Sc) (kR : List Sc → Option R) : f_s_AddCounts_k p0 q1 kR = (f_s_AddCounts_k p0 q1 some).bind kR := by
  simp only [f_s_AddCounts_k, bl1B, someB]
theorem f_s_AddCounts_e (p0 : List Sc) (q1 : List Sc) : runFn E0 f_s_AddCounts_M H0 f_s_AddCounts_F (asL (addL 0 (f_s_AddCounts_t0) (noL))) Try.f33 (f_s_AddCounts_a p0 q1) (f_s_AddCounts_i p0 q1) = f_s_AddCounts_k p0 q1 (fun r => some (f_s_AddCounts_en r)) := by kernel_rfl
theorem f_s_AddCounts_ok (p0 : List Sc) (q1 : List Sc) (r : List Sc) (h : f_s_AddCounts p0 q1 = some r) : CS Try.prog 33 (f_s_AddCounts_a p0 q1) (f_s_AddCounts_i p0 q1) (f_s_AddCounts_en r).1 (f_s_AddCounts_en r).2 :=
  fn_true (Gk := fun k => f_s_AddCounts_k p0 q1 k) (en := f_s_AddCounts_en) Try.func33 E0ok f_s_AddCounts_Mt (addL_true (f_s_AddCounts_tt0) (noL_true)) f_s_AddCounts_o (f_s_AddCounts_e p0 q1) (f_s_AddCounts_p p0 q1) h
def f_s_AddCounts_c : CRow := fun args inh => match dec2 [.p .sl, .p .sl] [] args inh with
  | some ([.l p0, .l q1], []) => some ((f_s_AddCounts p0 q1).isSome, (f_s_AddCounts_en ((f_s_AddCounts p0 q1).getD [])).1, (f_s_AddCounts_en ((f_s_AddCounts p0 q1).getD [])).2)
  | _ => none
theorem f_s_AddCounts_cc : CTrue Try.prog 33 f_s_AddCounts_c := by
  intro args inh rs out h
  unfold f_s_AddCounts_c at h
  split at h
  · rename_i hd
    obtain ⟨h1, h2⟩ := dec2_enc hd
    rw [← h1, ← h2]
    exact rowC (f_s_AddCounts_ok _ _) h
  · cases h

def f_i_MultiplyCounts_F : Fi := { nv := 0, nc := 0, m := 0, vt := [], kl := [(2, ([2, 3, 4, 8, 9, 10, 11, 12, 13, 14, 15, 16, 17, 21, 22, 23, 24, 28, 29, 30, 31, 32, 33, 34, 35, 36, 37, 38, 39, 40, 41, 42, 43, 44, 45, 46, 47, 48, 49, 50, 51, 52, 53, 54, 55], [2, 3, 4, 6, 7, 8, 9, 10, 11, 12, 13, 14, 15, 16, 17, 21, 22, 23, 24, 25, 26, 27, 28, 29, 30, 31, 32, 33, 34, 35, 36, 37, 38, 39, 40, 41, 42, 43, 44, 45, 46, 47, 48, 49, 50, 51, 52, 53, 54, 55], [0, 1, 2, 3, 5, 6, 7, 8, 9, 10, 11, 12, 13, 14, 15, 16, 17, 18, 19, 20, 21, 22, 23, 24, 25, 26, 27, 28, 29, 30, 31, 32, 33, 34, 35, 36, 37, 38, 39, 40, 41, 42, 43, 44, 45, 46, 47, 48, 49, 50, 51, 52, 53, 54, 55])), (0, ([2, 3, 4, 6, 7, 8, 9, 10, 11, 12, 13, 14, 15, 16, 17, 21, 22, 23, 24, 25, 26, 27, 28, 29, 30, 31, 32, 33, 34, 35, 36, 37, 38, 39, 40, 41, 42, 43, 44, 45, 46, 47, 48, 49, 50, 51, 52, 53, 54, 55], [2, 3, 4, 6, 7, 8, 9, 10, 11, 12, 13, 14, 15, 16, 17, 21, 22, 23, 24, 25, 26, 27, 28, 29, 30, 31, 32, 33, 34, 35, 36, 37, 38, 39, 40, 41, 42, 43, 44, 45, 46, 47, 48, 49, 50, 51, 52, 53, 54, 55], [0, 1, 2, 3, 5, 6, 7, 8, 9, 10, 11, 12, 13, 14, 15, 16, 17, 18, 19, 20, 21, 22, 23, 24, 25, 26, 27, 28, 29, 30, 31, 32, 33, 34, 35, 36, 37, 38, 39, 40, 41, 42, 43, 44, 45, 46, 47, 48, 49, 50, 51, 52, 53, 54, 55]))], sk := [], mvs := [], fz := [] }
def f_i_MultiplyCounts_a (p0 : List Sc) (q1 : List Sc) : List AV := enc [.p .sl, .p .sl] [.l p0, .l q1]
def f_i_MultiplyCounts_i (p0 : List Sc) (q1 : List Sc) : List AV := enc [] []
def f_i_MultiplyCounts_en (r : List Sc) : List AV × List AV := (enc [.p (.al 0)] [], enc [.own 3] [.l r])
def f_i_MultiplyCounts_M : Calling := addC 59 f_i_areCounts_c (noC)
theorem f_i_MultiplyCounts_Mt : CallOk Try.prog (f_i_MultiplyCounts_M) := addC_true f_i_areCounts_cc (noC_true)
theorem f_i_MultiplyCounts_o : loopsOnce Try.f34 = true := by kernel_rfl
def f_i_MultiplyCounts_h2 : List Sh := [.p .sl, .p .sl, .u, .u, .u, .own 3, .p (.int .i64), .p (.int .i64), .u, .u, .u, .u, .u, .u, .u, .u, .u, .u, .p .sl, .p (.int .i64), .p (.int .i64), .u, .u, .u, .u, .p .sl, .p (.int .i64), .p (.int .i64), .u, .u, .u, .u, .u, .u, .u, .u, .u, .u, .u, .u, .u, .u, .u, .u, .u, .u, .u, .u, .u, .u, .u, .u, .u, .u, .u, .u]
def f_i_MultiplyCounts_fr2 (p0 : List Sc) (q1 : List Sc) (i6 : Int) (x7 : Int) (t18 : List Sc) (t19 : Int) (t20 : Int) (t25 : List Sc) (t26 : Int) (s : List Sc × Int) : List AV := enc f_i_MultiplyCounts_h2 [.l p0, .l q1, .l s.1, .i i6, .i x7, .l t18, .i t19, .i t20, .l t25, .i t26, .i s.2]
def f_i_MultiplyCounts_g2_1 : List Sh := [.p .sl, .p .sl, .u, .u, .u, .own 3, .u, .u, .u, .u, .u, .u, .u, .u, .u, .u, .u, .u, .p .sl, .p (.int .i64), .p (.int .i64), .u, .u, .u, .u, .u, .u, .u, .u, .u, .u, .u, .u, .u, .u, .u, .u, .u, .u, .u, .u, .u, .u, .u, .u, .u, .u, .u, .u, .u, .u, .u, .u, .u, .u, .u]
def f_i_MultiplyCounts_x2_1 (p0 : List Sc) (q1 : List Sc) (i6 : Int) (x7 : Int) (t18 : List Sc) (t19 : Int) (t20 : Int) (t25 : List Sc) (t26 : Int) (e : List Sc) : X × List AV := (.out 2, enc f_i_MultiplyCounts_g2_1 [.l p0, .l q1, .l e, .l t18, .i t19, .i t20])
def f_i_MultiplyCounts_x2_2 (p0 : List Sc) (q1 : List Sc) (i6 : Int) (x7 : Int) (t18 : List Sc) (t19 : Int) (t20 : Int) (t25 : List Sc) (t26 : Int) (_e : Unit) : X × List AV := (.ret, [])
theorem f_i_MultiplyCounts_p2 {R : Type} (p0 : List Sc) (q1 : List Sc) (i6 : Int) (x7 : Int) (t18 : List Sc) (t19 : Int) (t20 : Int) (t25 : List Sc) (t26 : Int) (s : List Sc × Int) (kN : List Sc × Int → Option R) (kA : List Sc → Option R) (kB : Unit → Option R) : f_i_MultiplyCounts_k2 p0 q1 i6 x7 t18 t19 t20 t25 t26 s.1 s.2 kN kA = (f_i_MultiplyCounts_r2 p0 q1 i6 x7 t18 t19 t20 t25 t26 s).bind (Ro.el kN kA kB) := by
  simp only [f_i_MultiplyCounts_k2, f_i_MultiplyCounts_r2, brB, someB, noneB, Ro.el]
theorem f_i_MultiplyCounts_e2 (p0 : List Sc) (q1 : List Sc) (i6 : Int) (x7 : Int) (t18 : List Sc) (t19 : Int) (t20 : Int) (t25 : List Sc) (t26 : Int) (s : List Sc × Int) : EC E0 f_i_MultiplyCounts_M H0 f_i_MultiplyCounts_F (asL (noL)) 2 (bodyOf Try.f34 2) (f_i_MultiplyCounts_fr2 p0 q1 i6 x7 t18 t19 t20 t25 t26 s) (done (klOf f_i_MultiplyCounts_F 2)) = f_i_MultiplyCounts_k2 p0 q1 i6 x7 t18 t19 t20 t25 t26 s.1 s.2 (fun s => some (.norm, f_i_MultiplyCounts_fr2 p0 q1 i6 x7 t18 t19 t20 t25 t26 s)) (fun e => some (f_i_MultiplyCounts_x2_1 p0 q1 i6 x7 t18 t19 t20 t25 t26 e)) := by kernel_rfl
theorem f_i_MultiplyCounts_l2 (p0 : List Sc) (q1 : List Sc) (i6 : Int) (x7 : Int) (t18 : List Sc) (t19 : Int) (t20 : Int) (t25 : List Sc) (t26 : Int) : ∀ s r, loopL (f_i_MultiplyCounts_r2 p0 q1 i6 x7 t18 t19 t20 t25 t26) s = some r → LS Try.prog f_i_MultiplyCounts_F (bodyOf Try.f34 2) (f_i_MultiplyCounts_fr2 p0 q1 i6 x7 t18 t19 t20 t25 t26 s) (enX (f_i_MultiplyCounts_x2_1 p0 q1 i6 x7 t18 t19 t20 t25 t26) (f_i_MultiplyCounts_x2_2 p0 q1 i6 x7 t18 t19 t20 t25 t26) r) :=
  loop_true E0ok f_i_MultiplyCounts_Mt (noL_true) f_i_MultiplyCounts_o (fun _ h => by cases h) (fun _ h => by cases h) (fun s => (f_i_MultiplyCounts_e2 p0 q1 i6 x7 t18 t19 t20 t25 t26 s).trans (f_i_MultiplyCounts_p2 p0 q1 i6 x7 t18 t19 t20 t25 t26 s _ _ (fun e => some (f_i_MultiplyCounts_x2_2 p0 q1 i6 x7 t18 t19 t20 t25 t26 e))))
def f_i_MultiplyCounts_t2 (σ : List AV) : Option (Bool × Bool × (X × List AV) × (X × List AV)) := match dec f_i_MultiplyCounts_h2 σ with
  | some [.l p0, .l q1, .l out5, .i i6, .i x7, .l t18, .i t19, .i t20, .l t25, .i t26, .i t27] => some (isOne (loopL (f_i_MultiplyCounts_r2 p0 q1 i6 x7 t18 t19 t20 t25 t26) (out5, t27)), true, f_i_MultiplyCounts_x2_1 p0 q1 i6 x7 t18 t19 t20 t25 t26 (getOne [] (loopL (f_i_MultiplyCounts_r2 p0 q1 i6 x7 t18 t19 t20 t25 t26) (out5, t27))), (.ret, []))
  | _ => none
theorem f_i_MultiplyCounts_tt2 : TTrue Try.prog f_i_MultiplyCounts_F Try.f34 2 (f_i_MultiplyCounts_t2) := by
  intro σ p r r' h
  unfold f_i_MultiplyCounts_t2 at h
  split at h
  · rename_i hd
    rw [← dec_enc hd]
    exact row1 (f_i_MultiplyCounts_l2 _ _ _ _ _ _ _ _ _ _) h
  · cases h
def f_i_MultiplyCounts_h0 : List Sh := [.p .sl, .p .sl, .u, .u, .u, .own 3, .u, .u, .u, .u, .u, .u, .u, .u, .u, .u, .u, .u, .p .sl, .p (.int .i64), .p (.int .i64), .u, .u, .u, .u, .u, .u, .u, .u, .u, .u, .u, .u, .u, .u, .u, .u, .u, .u, .u, .u, .u, .u, .u, .u, .u, .u, .u, .u, .u, .u, .u, .u, .u, .u, .u]
def f_i_MultiplyCounts_fr0 (p0 : List Sc) (q1 : List Sc) (t18 : List Sc) (t19 : Int) (s : List Sc × Int) : List AV := enc f_i_MultiplyCounts_h0 [.l p0, .l q1, .l s.1, .l t18, .i t19, .i s.2]
def f_i_MultiplyCounts_g0_1 : List Sh := [.p .sl, .p .sl, .u, .u, .u, .own 3, .u, .u, .u, .u, .u, .u, .u, .u, .u, .u, .u, .u, .p .sl, .p (.int .i64), .p (.int .i64), .u, .u, .u, .u, .u, .u, .u, .u, .u, .u, .u, .u, .u, .u, .u, .u, .u, .u, .u, .u, .u, .u, .u, .u, .u, .u, .u, .u, .u, .u, .u, .u, .u, .u, .u]
def f_i_MultiplyCounts_x0_1 (p0 : List Sc) (q1 : List Sc) (t18 : List Sc) (t19 : Int) (e : List Sc × Int) : X × List AV := (.out 0, enc f_i_MultiplyCounts_g0_1 [.l p0, .l q1, .l e.1, .l t18, .i t19, .i e.2])
def f_i_MultiplyCounts_x0_2 (p0 : List Sc) (q1 : List Sc) (t18 : List Sc) (t19 : Int) (_e : Unit) : X × List AV := (.ret, [])
theorem f_i_MultiplyCounts_p0 {R : Type} (p0 : List Sc) (q1 : List Sc) (t18 : List Sc) (t19 : Int) (s : List Sc × Int) (kN : List Sc × Int → Option R) (kA : List Sc × Int → Option R) (kB : Unit → Option R) : f_i_MultiplyCounts_k0 p0 q1 t18 t19 s.1 s.2 kN kA = (f_i_MultiplyCounts_r0 p0 q1 t18 t19 s).bind (Ro.el kN kA kB) := by
  simp only [f_i_MultiplyCounts_k0, f_i_MultiplyCounts_r0, brB, bl1B, someB, noneB, Ro.el]
theorem f_i_MultiplyCounts_e0 (p0 : List Sc) (q1 : List Sc) (t18 : List Sc) (t19 : Int) (s : List Sc × Int) : EC E0 f_i_MultiplyCounts_M H0 f_i_MultiplyCounts_F (asL (addL 2 (f_i_MultiplyCounts_t2) (noL))) 0 (bodyOf Try.f34 0) (f_i_MultiplyCounts_fr0 p0 q1 t18 t19 s) (done (klOf f_i_MultiplyCounts_F 0)) = f_i_MultiplyCounts_k0 p0 q1 t18 t19 s.1 s.2 (fun s => some (.norm, f_i_MultiplyCounts_fr0 p0 q1 t18 t19 s)) (fun e => some (f_i_MultiplyCounts_x0_1 p0 q1 t18 t19 e)) := by kernel_rfl
theorem f_i_MultiplyCounts_l0 (p0 : List Sc) (q1 : List Sc) (t18 : List Sc) (t19 : Int) : ∀ s r, loopL (f_i_MultiplyCounts_r0 p0 q1 t18 t19) s = some r → LS Try.prog f_i_MultiplyCounts_F (bodyOf Try.f34 0) (f_i_MultiplyCounts_fr0 p0 q1 t18 t19 s) (enX (f_i_MultiplyCounts_x0_1 p0 q1 t18 t19) (f_i_MultiplyCounts_x0_2 p0 q1 t18 t19) r) :=
  loop_true E0ok f_i_MultiplyCounts_Mt (addL_true (f_i_MultiplyCounts_tt2) (noL_true)) f_i_MultiplyCounts_o (fun _ h => by cases h) (fun _ h => by cases h) (fun s => (f_i_MultiplyCounts_e0 p0 q1 t18 t19 s).trans (f_i_MultiplyCounts_p0 p0 q1 t18 t19 s _ _ (fun e => some (f_i_MultiplyCounts_x0_2 p0 q1 t18 t19 e))))
def f_i_MultiplyCounts_t0 (σ : List AV) : Option (Bool × Bool × (X × List AV) × (X × List AV)) := match dec f_i_MultiplyCounts_h0 σ with
  | some [.l p0, .l q1, .l out5, .l t18, .i t19, .i t20] => some (isOne (loopL (f_i_MultiplyCounts_r0 p0 q1 t18 t19) (out5, t20)), true, f_i_MultiplyCounts_x0_1 p0 q1 t18 t19 (getOne ([], 0) (loopL (f_i_MultiplyCounts_r0 p0 q1 t18 t19) (out5, t20))), (.ret, []))
  | _ => none
theorem f_i_MultiplyCounts_tt0 : TTrue Try.prog f_i_MultiplyCounts_F Try.f34 0 (f_i_MultiplyCounts_t0) := by
  intro σ p r r' h
  unfold f_i_MultiplyCounts_t0 at h
  split at h
  · rename_i hd
    rw [← dec_enc hd]
    exact row1 (f_i_MultiplyCounts_l0 _ _ _ _ _) h
  · cases h
theorem f_i_MultiplyCounts_p {R : Type} (p0 : List Sc) (q1 : List Sc) (kR : List Sc → Option R) : f_i_MultiplyCounts_k p0 q1 kR = (f_i_MultiplyCounts_k p0 q1 some).bind kR := by
  simp only [f_i_MultiplyCounts_k, brB, boB, bl1B, someB, noneB]
theorem f_i_MultiplyCounts_e (p0 : List Sc) (q1 : List Sc) : runFn E0 f_i_MultiplyCounts_M H0 f_i_MultiplyCounts_F (asL (addL 0 (f_i_MultiplyCounts_t0) (addL 2 (f_i_MultiplyCounts_t2) (noL)))) Try.f34 (f_i_MultiplyCounts_a p0 q1) (f_i_MultiplyCounts_i p0 q1) = f_i_MultiplyCounts_k p0 q1 (fun r => some (f_i_MultiplyCounts_en r)) := by kernel_rfl
theorem f_i_MultiplyCounts_ok (p0 : List Sc) (q1 : List Sc) (r : List Sc) (h : f_i_MultiplyCounts p0 q1 = some r) : CS Try.prog 34 (f_i_MultiplyCounts_a p0 q1) (f_i_MultiplyCounts_i p0 q1) (f_i_MultiplyCounts_en r).1 (f_i_MultiplyCounts_en r).2 :=
  fn_true (Gk := fun k => f_i_MultiplyCounts_k p0 q1 k) (en := f_i_MultiplyCounts_en) Try.func34 E0ok f_i_MultiplyCounts_Mt (addL_true (f_i_MultiplyCounts_tt0) (addL_true (f_i_MultiplyCounts_tt2) (noL_true))) f_i_MultiplyCounts_o (f_i_MultiplyCounts_e p0 q1) (f_i_MultiplyCounts_p p0 q1) h
def f_i_MultiplyCounts_c : CRow := fun args inh => match dec2 [.p .sl, .p .sl] [] args inh with
  | some ([.l p0, .l q1], []) => some ((f_i_MultiplyCounts p0 q1).isSome, (f_i_MultiplyCounts_en ((f_i_MultiplyCounts p0 q1).getD [])).1, (f_i_MultiplyCounts_en ((f_i_MultiplyCounts p0 q1).getD [])).2)
  | _ => none
theorem f_i_MultiplyCounts_cc : CTrue Try.prog 34 f_i_MultiplyCounts_c := by
  intro args inh rs out h
  unfold f_i_MultiplyCounts_c at h
  split at h
  · rename_i hd
    obtain ⟨h1, h2⟩ := dec2_enc hd
    rw [← h1, ← h2]
    exact rowC (f_i_MultiplyCounts_ok _ _) h
  · cases h

def f_s_MultiplyCounts_F : Fi := { nv := 0, nc := 0, m := 0, vt := [], kl := [(2, ([2, 3, 4, 8, 9, 10, 11, 12, 13, 14, 15, 16, 17, 18, 19, 20, 21, 22, 23, 24, 25, 26, 27, 28, 29, 30, 31, 32, 33, 34, 35, 36, 37, 38, 39, 40, 41, 42, 43, 44, 45, 46, 47, 48, 49, 50, 51, 52, 53, 54, 55, 56, 57, 58, 59, 60, 61, 62, 63, 64, 65, 66], [2, 3, 4, 7, 8, 9, 10, 11, 12, 13, 14, 15, 16, 17, 18, 19, 20, 21, 22, 23, 24, 25, 26, 27, 28, 29, 30, 31, 32, 33, 34, 35, 36, 37, 38, 39, 40, 41, 42, 43, 44, 45, 46, 47, 48, 49, 50, 51, 52, 53, 54, 55, 56, 57, 58, 59, 60, 61, 62, 63, 64, 65, 66], [0, 1, 2, 3, 5, 6, 7, 8, 9, 10, 11, 12, 13, 14, 15, 16, 17, 18, 19, 20, 21, 22, 23, 24, 25, 26, 27, 28, 29, 30, 31, 32, 33, 34, 35, 36, 37, 38, 39, 40, 41, 42, 43, 44, 45, 46, 47, 48, 49, 50, 51, 52, 53, 54, 55, 56, 57, 58, 59, 60, 61, 62, 63, 64, 65, 66])), (0, ([2, 3, 4, 7, 8, 9, 10, 11, 12, 13, 14, 15, 16, 17, 18, 19, 20, 21, 22, 23, 24, 25, 26, 27, 28, 29, 30, 31, 32, 33, 34, 35, 36, 37, 38, 39, 40, 41, 42, 43, 44, 45, 46, 47, 48, 49, 50, 51, 52, 53, 54, 55, 56, 57, 58, 59, 60, 61, 62, 63, 64, 65, 66], [2, 3, 4, 7, 8, 9, 10, 11, 12, 13, 14, 15, 16, 17, 18, 19, 20, 21, 22, 23, 24, 25, 26, 27, 28, 29, 30, 31, 32, 33, 34, 35, 36, 37, 38, 39, 40, 41, 42, 43, 44, 45, 46, 47, 48, 49, 50, 51, 52, 53, 54, 55, 56, 57, 58, 59, 60, 61, 62, 63, 64, 65, 66], [0, 1, 2, 3, 5, 6, 7, 8, 9, 10, 11, 12, 13, 14, 15, 16, 17, 18, 19, 20, 21, 22, 23, 24, 25, 26, 27, 28, 29, 30, 31, 32, 33, 34, 35, 36, 37, 38, 39, 40, 41, 42, 43, 44, 45, 46, 47, 48, 49, 50, 51, 52, 53, 54, 55, 56, 57, 58, 59, 60, 61, 62, 63, 64, 65, 66]))], sk := [], mvs := [], fz := [] }
def f_s_MultiplyCounts_a (L0 : List Sc) (p1 : List Sc) : List AV := enc [.p .sl, .p .sl] [.l L0, .l p1]
def f_s_MultiplyCounts_i (L0 : List Sc) (p1 : List Sc) : List AV := enc [] []
def f_s_MultiplyCounts_en (r : List Sc) : List AV × List AV := (enc [.p (.al 0)] [], enc [.own 3] [.l r])
def f_s_MultiplyCounts_M : Calling := addC 60 f_s_l7Counts_c (noC)
theorem f_s_MultiplyCounts_Mt : CallOk Try.prog (f_s_MultiplyCounts_M) := addC_true f_s_l7Counts_cc (noC_true)
theorem f_s_MultiplyCounts_o : loopsOnce Try.f35 = true := by kernel_rfl
def f_s_MultiplyCounts_h2 : List Sh := [.p .sl, .p .sl, .u, .u, .u, .own 3, .p (.int .i64), .p (.int .i64), .u, .u, .u, .u, .u, .u, .u, .u, .u, .u, .u, .u, .u, .u, .u, .u, .u, .u, .u, .u, .u, .u, .u, .u, .u, .u, .u, .u, .u, .u, .u, .u, .u, .u, .u, .u, .u, .u, .u, .u, .u, .u, .u, .u, .u, .u, .u, .u, .u, .u, .u, .u, .u, .u, .u, .u, .u, .u, .u]
def f_s_MultiplyCounts_fr2 (L0 : List Sc) (t1 : List Sc) (t6 : Int) (s : List Sc × Int) : List AV := enc f_s_MultiplyCounts_h2 [.l L0, .l t1, .l s.1, .i t6, .i s.2]
def f_s_MultiplyCounts_g2_1 : List Sh := [.p .sl, .p .sl, .u, .u, .u, .own 3, .p (.int .i64), .u, .u, .u, .u, .u, .u, .u, .u, .u, .u, .u, .u, .u, .u, .u, .u, .u, .u, .u, .u, .u, .u, .u, .u, .u, .u, .u, .u, .u, .u, .u, .u, .u, .u, .u, .u, .u, .u, .u, .u, .u, .u, .u, .u, .u, .u, .u, .u, .u, .u, .u, .u, .u, .u, .u, .u, .u, .u, .u, .u]
def f_s_MultiplyCounts_x2_1 (L0 : List Sc) (t1 : List Sc) (t6 : Int) (e : List Sc) : X × List AV := (.out 2, enc f_s_MultiplyCounts_g2_1 [.l L0, .l t1, .l e, .i t6])
def f_s_MultiplyCounts_x2_2 (L0 : List Sc) (t1 : List Sc) (t6 : Int) (_e : Unit) : X × List AV := (.ret, [])
theorem f_s_MultiplyCounts_p2 {R : Type} (L0 : List Sc) (t1 : List Sc) (t6 : Int) (s : List Sc × Int) (kN : List Sc × Int → Option R) (kA : List Sc → Option R) (kB : Unit → Option R) : f_s_MultiplyCounts_k2 L0 t1 t6 s.1 s.2 kN kA = (f_s_MultiplyCounts_r2 L0 t1 t6 s).bind (Ro.el kN kA kB) := by
  simp only [f_s_MultiplyCounts_k2, f_s_MultiplyCounts_r2, brB, someB, noneB, Ro.el]
theorem f_s_MultiplyCounts_e2 (L0 : List Sc) (t1 : List Sc) (t6 : Int) (s : List Sc × Int) : EC E0 f_s_MultiplyCounts_M H0 f_s_MultiplyCounts_F (asL (noL)) 2 (bodyOf Try.f35 2) (f_s_MultiplyCounts_fr2 L0 t1 t6 s) (done (klOf f_s_MultiplyCounts_F 2)) = f_s_MultiplyCounts_k2 L0 t1 t6 s.1 s.2 (fun s => some (.norm, f_s_MultiplyCounts_fr2 L0 t1 t6 s)) (fun e => some (f_s_MultiplyCounts_x2_1 L0 t1 t6 e)) := by kernel_rfl
theorem f_s_MultiplyCounts_l2 (L0 : List Sc) (t1 : List Sc) (t6 : Int) : ∀ s r, loopL (f_s_MultiplyCounts_r2 L0 t1 t6) s = some r → LS Try.prog f_s_MultiplyCounts_F (bodyOf Try.f35 2) (f_s_MultiplyCounts_fr2 L0 t1 t6 s) (enX (f_s_MultiplyCounts_x2_1 L0 t1 t6) (f_s_MultiplyCounts_x2_2 L0 t1 t6) r) :=
  loop_true E0ok f_s_MultiplyCounts_Mt (noL_true) f_s_MultiplyCounts_o (fun _ h => by cases h) (fun _ h => by cases h) (fun s => (f_s_MultiplyCounts_e2 L0 t1 t6 s).trans (f_s_MultiplyCounts_p2 L0 t1 t6 s _ _ (fun e => some (f_s_MultiplyCounts_x2_2 L0 t1 t6 e))))
def f_s_MultiplyCounts_t2 (σ : List AV) : Option (Bool × Bool × (X × List AV) × (X × List AV)) := match dec f_s_MultiplyCounts_h2 σ with
  | some [.l L0, .l t1, .l t5, .i t6, .i t7] => some (isOne (loopL (f_s_MultiplyCounts_r2 L0 t1 t6) (t5, t7)), true, f_s_MultiplyCounts_x2_1 L0 t1 t6 (getOne [] (loopL (f_s_MultiplyCounts_r2 L0 t1 t6) (t5, t7))), (.ret, []))
  | _ => none
theorem f_s_MultiplyCounts_tt2 : TTrue Try.prog f_s_MultiplyCounts_F Try.f35 2 (f_s_MultiplyCounts_t2) := by
  intro σ p r r' h
  unfold f_s_MultiplyCounts_t2 at h
  split at h
  · rename_i hd
    rw [← dec_enc hd]
    exact row1 (f_s_MultiplyCounts_l2 _ _ _ _) h
  · cases h
def f_s_MultiplyCounts_h0 : List Sh := [.p .sl, .p .sl, .u, .u, .u, .own 3, .p (.int .i64), .u, .u, .u, .u, .u, .u, .u, .u, .u, .u, .u, .u, .u, .u, .u, .u, .u, .u, .u, .u, .u, .u, .u, .u, .u, .u, .u, .u, .u, .u, .u, .u, .u, .u, .u, .u, .u, .u, .u, .u, .u, .u, .u, .u, .u, .u, .u, .u, .u, .u, .u, .u, .u, .u, .u, .u, .u, .u, .u, .u]
def f_s_MultiplyCounts_fr0 (L0 : List Sc) (t1 : List Sc) (s : List Sc × Int) : List AV := enc f_s_MultiplyCounts_h0 [.l L0, .l t1, .l s.1, .i s.2]
def f_s_MultiplyCounts_g0_1 : List Sh := [.p .sl, .p .sl, .u, .u, .u, .own 3, .p (.int .i64), .u, .u, .u, .u, .u, .u, .u, .u, .u, .u, .u, .u, .u, .u, .u, .u, .u, .u, .u, .u, .u, .u, .u, .u, .u, .u, .u, .u, .u, .u, .u, .u, .u, .u, .u, .u, .u, .u, .u, .u, .u, .u, .u, .u, .u, .u, .u, .u, .u, .u, .u, .u, .u, .u, .u, .u, .u, .u, .u, .u]
def f_s_MultiplyCounts_x0_1 (L0 : List Sc) (t1 : List Sc) (e : List Sc × Int) : X × List AV := (.out 0, enc f_s_MultiplyCounts_g0_1 [.l L0, .l t1, .l e.1, .i e.2])
def f_s_MultiplyCounts_x0_2 (L0 : List Sc) (t1 : List Sc) (_e : Unit) : X × List AV := (.ret, [])
theorem f_s_MultiplyCounts_p0 {R : Type} (L0 : List Sc) (t1 : List Sc) (s : List Sc × Int) (kN : List Sc × Int → Option R) (kA : List Sc × Int → Option R) (kB : Unit → Option R) : f_s_MultiplyCounts_k0 L0 t1 s.1 s.2 kN kA = (f_s_MultiplyCounts_r0 L0 t1 s).bind (Ro.el kN kA kB) := by
  simp only [f_s_MultiplyCounts_k0, f_s_MultiplyCounts_r0, brB, bl1B, someB, Ro.el]
theorem f_s_MultiplyCounts_e0 (L0 : List Sc) (t1 : List Sc) (s : List Sc × Int) : EC E0 f_s_MultiplyCounts_M H0 f_s_MultiplyCounts_F (asL (addL 2 (f_s_MultiplyCounts_t2) (noL))) 0 (bodyOf Try.f35 0) (f_s_MultiplyCounts_fr0 L0 t1 s) (done (klOf f_s_MultiplyCounts_F 0)) = f_s_MultiplyCounts_k0 L0 t1 s.1 s.2 (fun s => some (.norm, f_s_MultiplyCounts_fr0 L0 t1 s)) (fun e => some (f_s_MultiplyCounts_x0_1 L0 t1 e)) := by kernel_rfl
theorem f_s_MultiplyCounts_l0 (L0 : List Sc) (t1 : List Sc) : ∀ s r, loopL (f_s_MultiplyCounts_r0 L0 t1) s = some r → LS Try.prog f_s_MultiplyCounts_F (bodyOf Try.f35 0) (f_s_MultiplyCounts_fr0 L0 t1 s) (enX (f_s_MultiplyCounts_x0_1 L0 t1) (f_s_MultiplyCounts_x0_2 L0 t1) r) :=
  loop_true E0ok f_s_MultiplyCounts_Mt (addL_true (f_s_MultiplyCounts_tt2) (noL_true)) f_s_MultiplyCounts_o (fun _ h => by cases h) (fun _ h => by cases h) (fun s => (f_s_MultiplyCounts_e0 L0 t1 s).trans (f_s_MultiplyCounts_p0 L0 t1 s _ _ (fun e => some (f_s_MultiplyCounts_x0_2 L0 t1 e))))
def f_s_MultiplyCounts_t0 (σ : List AV) : Option (Bool × Bool × (X × List AV) × (X × List AV)) := match dec f_s_MultiplyCounts_h0 σ with
  | some [.l L0, .l t1, .l t5, .i t6] => some (isOne (loopL (f_s_MultiplyCounts_r0 L0 t1) (t5, t6)), true, f_s_MultiplyCounts_x0_1 L0 t1 (getOne ([], 0) (loopL (f_s_MultiplyCounts_r0 L0 t1) (t5, t6))), (.ret, []))
  | _ => none
theorem f_s_MultiplyCounts_tt0 : TTrue Try.prog f_s_MultiplyCounts_F Try.f35 0 (f_s_MultiplyCounts_t0) := by
  intro σ p r r' h
  unfold f_s_MultiplyCounts_t0 at h
  split at h
  · rename_i hd
    rw [← dec_enc hd]
    exact row1 (f_s_MultiplyCounts_l0 _ _ _) h
  · cases h
theorem f_s_MultiplyCounts_p {R : Type} (L0 : List Sc) (p1 : List Sc) (kR : List Sc → Option R) : f_s_MultiplyCounts_k L0 p1 kR = (f_s_MultiplyCounts_k L0 p1 some).bind kR := by
  simp only [f_s_MultiplyCounts_k, brB, boB, bl1B, someB, noneB]
theorem f_s_MultiplyCounts_e (L0 : List Sc) (p1 : List Sc) : runFn E0 f_s_MultiplyCounts_M H0 f_s_MultiplyCounts_F (asL (addL 0 (f_s_MultiplyCounts_t0) (addL 2 (f_s_MultiplyCounts_t2) (noL)))) Try.f35 (f_s_MultiplyCounts_a L0 p1) (f_s_MultiplyCounts_i L0 p1) = f_s_MultiplyCounts_k L0 p1 (fun r => some (f_s_MultiplyCounts_en r)) := by kernel_rfl
theorem f_s_MultiplyCounts_ok (L0 : List Sc) (p1 : List Sc) (r : List Sc) (h : f_s_MultiplyCounts L0 p1 = some r) : CS Try.prog 35 (f_s_MultiplyCounts_a L0 p1) (f_s_MultiplyCounts_i L0 p1) (f_s_MultiplyCounts_en r).1 (f_s_MultiplyCounts_en r).2 :=
  fn_true (Gk := fun k => f_s_MultiplyCounts_k L0 p1 k) (en := f_s_MultiplyCounts_en) Try.func35 E0ok f_s_MultiplyCounts_Mt (addL_true (f_s_MultiplyCounts_tt0) (addL_true (f_s_MultiplyCounts_tt2) (noL_true))) f_s_MultiplyCounts_o (f_s_MultiplyCounts_e L0 p1) (f_s_MultiplyCounts_p L0 p1) h
def f_s_MultiplyCounts_c : CRow := fun args inh => match dec2 [.p .sl, .p .sl] [] args inh with
  | some ([.l L0, .l p1], []) => some ((f_s_MultiplyCounts L0 p1).isSome, (f_s_MultiplyCounts_en ((f_s_MultiplyCounts L0 p1).getD [])).1, (f_s_MultiplyCounts_en ((f_s_MultiplyCounts L0 p1).getD [])).2)
  | _ => none
theorem f_s_MultiplyCounts_cc : CTrue Try.prog 35 f_s_MultiplyCounts_c := by
  intro args inh rs out h
  unfold f_s_MultiplyCounts_c at h
  split at h
  · rename_i hd
    obtain ⟨h1, h2⟩ := dec2_enc hd
    rw [← h1, ← h2]
    exact rowC (f_s_MultiplyCounts_ok _ _) h
  · cases h

def f_s_l7Quotient_F : Fi := { nv := 0, nc := 0, m := 0, vt := [], kl := [(2, ([0, 2, 3, 4, 10, 11, 12, 13, 14, 15, 16, 17, 18, 19, 20, 21, 22, 23, 24, 25, 26, 27, 28, 29, 30, 31, 32, 33, 34, 35, 36, 37, 38, 39, 40, 41, 42, 43, 44, 45, 46, 47, 48, 49, 50, 51, 52, 53, 54, 55, 56, 57, 58, 59, 60, 61, 62, 63, 64], [0, 2, 3, 4, 8, 9, 10, 11, 12, 13, 14, 15, 16, 17, 18, 19, 20, 21, 22, 23, 24, 25, 26, 27, 28, 29, 30, 31, 32, 33, 34, 35, 36, 37, 38, 39, 40, 41, 42, 43, 44, 45, 46, 47, 48, 49, 50, 51, 52, 53, 54, 55, 56, 57, 58, 59, 60, 61, 62, 63, 64], [0, 1, 2, 3, 5, 6, 7, 8, 9, 10, 11, 12, 13, 14, 15, 16, 17, 18, 19, 20, 21, 22, 23, 24, 25, 26, 27, 28, 29, 30, 31, 32, 33, 34, 35, 36, 37, 38, 39, 40, 41, 42, 43, 44, 45, 46, 47, 48, 49, 50, 51, 52, 53, 54, 55, 56, 57, 58, 59, 60, 61, 62, 63, 64])), (0, ([0, 2, 3, 4, 8, 9, 10, 11, 12, 13, 14, 15, 16, 17, 18, 19, 20, 21, 22, 23, 24, 25, 26, 27, 28, 29, 30, 31, 32, 33, 34, 35, 36, 37, 38, 39, 40, 41, 42, 43, 44, 45, 46, 47, 48, 49, 50, 51, 52, 53, 54, 55, 56, 57, 58, 59, 60, 61, 62, 63, 64], [0, 2, 3, 4, 8, 9, 10, 11, 12, 13, 14, 15, 16, 17, 18, 19, 20, 21, 22, 23, 24, 25, 26, 27, 28, 29, 30, 31, 32, 33, 34, 35, 36, 37, 38, 39, 40, 41, 42, 43, 44, 45, 46, 47, 48, 49, 50, 51, 52, 53, 54, 55, 56, 57, 58, 59, 60, 61, 62, 63, 64], [0, 1, 2, 3, 5, 6, 7, 8, 9, 10, 11, 12, 13, 14, 15, 16, 17, 18, 19, 20, 21, 22, 23, 24, 25, 26, 27, 28, 29, 30, 31, 32, 33, 34, 35, 36, 37, 38, 39, 40, 41, 42, 43, 44, 45, 46, 47, 48, 49, 50, 51, 52, 53, 54, 55, 56, 57, 58, 59, 60, 61, 62, 63, 64]))], sk := [], mvs := [], fz := [] }
def f_s_l7Quotient_a (L0 : List Sc) (p1 : List Sc) : List AV := enc [.p .sl, .p .sl] [.l L0, .l p1]
def f_s_l7Quotient_i (L0 : List Sc) (p1 : List Sc) : List AV := enc [] []
def f_s_l7Quotient_en (r : List Sc) : List AV × List AV := (enc [.p (.al 0)] [], enc [.own 3] [.l r])
def f_s_l7Quotient_M : Calling := noC
theorem f_s_l7Quotient_Mt : CallOk Try.prog (f_s_l7Quotient_M) := noC_true
theorem f_s_l7Quotient_o : loopsOnce Try.f82 = true := by kernel_rfl
def f_s_l7Quotient_h2 : List Sh := [.u, .p .sl, .u, .u, .u, .own 3, .own 3, .p (.int .i64), .p (.int .i64), .p (.int .i64), .u, .u, .u, .u, .u, .u, .u, .u, .u, .u, .u, .u, .u, .u, .u, .u, .u, .u, .u, .u, .u, .u, .u, .u, .u, .u, .u, .u, .u, .u, .u, .u, .u, .u, .u, .u, .u, .u, .u, .u, .u, .u, .u, .u, .u, .u, .u, .u, .u, .u, .u, .u, .u, .u, .u]
def f_s_l7Quotient_fr2 (t1 : List Sc) (t7 : Int) (t8 : Int) (s : List Sc × List Sc × Int) : List AV := enc f_s_l7Quotient_h2 [.l t1, .l s.1, .l s.2.1, .i t7, .i t8, .i s.2.2]
def f_s_l7Quotient_g2_1 : List Sh := [.u, .p .sl, .u, .u, .u, .own 3, .own 3, .p (.int .i64), .u, .u, .u, .u, .u, .u, .u, .u, .u, .u, .u, .u, .u, .u, .u, .u, .u, .u, .u, .u, .u, .u, .u, .u, .u, .u, .u, .u, .u, .u, .u, .u, .u, .u, .u, .u, .u, .u, .u, .u, .u, .u, .u, .u, .u, .u, .u, .u, .u, .u, .u, .u, .u, .u, .u, .u, .u]
def f_s_l7Quotient_x2_1 (t1 : List Sc) (t7 : Int) (t8 : Int) (e : List Sc × List Sc) : X × List AV := (.out 2, enc f_s_l7Quotient_g2_1 [.l t1, .l e.1, .l e.2, .i t7])
def f_s_l7Quotient_x2_2 (t1 : List Sc) (t7 : Int) (t8 : Int) (_e : Unit) : X × List AV := (.ret, [])
theorem f_s_l7Quotient_p2 {R : Type} (t1 : List Sc) (t7 : Int) (t8 : Int) (s : List Sc × List Sc × Int) (kN : List Sc × List Sc × Int → Option R) (kA : List Sc × List Sc → Option R) (kB : Unit → Option R) : f_s_l7Quotient_k2 t1 t7 t8 s.1 s.2.1 s.2.2 kN kA = (f_s_l7Quotient_r2 t1 t7 t8 s).bind (Ro.el kN kA kB) := by
  simp only [f_s_l7Quotient_k2, f_s_l7Quotient_r2, brB, someB, noneB, Ro.el]
theorem f_s_l7Quotient_e2 (t1 : List Sc) (t7 : Int) (t8 : Int) (s : List Sc × List Sc × Int) : EC E0 f_s_l7Quotient_M H0 f_s_l7Quotient_F (asL (noL)) 2 (bodyOf Try.f82 2) (f_s_l7Quotient_fr2 t1 t7 t8 s) (done (klOf f_s_l7Quotient_F 2)) = f_s_l7Quotient_k2 t1 t7 t8 s.1 s.2.1 s.2.2 (fun s => some (.norm, f_s_l7Quotient_fr2 t1 t7 t8 s)) (fun e => some (f_s_l7Quotient_x2_1 t1 t7 t8 e)) := by kernel_rfl
theorem f_s_l7Quotient_l2 (t1 : List Sc) (t7 : Int) (t8 : Int) : ∀ s r, loopL (f_s_l7Quotient_r2 t1 t7 t8) s = some r → LS Try.prog f_s_l7Quotient_F (bodyOf Try.f82 2) (f_s_l7Quotient_fr2 t1 t7 t8 s) (enX (f_s_l7Quotient_x2_1 t1 t7 t8) (f_s_l7Quotient_x2_2 t1 t7 t8) r) :=
  loop_true E0ok f_s_l7Quotient_Mt (noL_true) f_s_l7Quotient_o (fun _ h => by cases h) (fun _ h => by cases h) (fun s => (f_s_l7Quotient_e2 t1 t7 t8 s).trans (f_s_l7Quotient_p2 t1 t7 t8 s _ _ (fun e => some (f_s_l7Quotient_x2_2 t1 t7 t8 e))))
def f_s_l7Quotient_t2 (σ : List AV) : Option (Bool × Bool × (X × List AV) × (X × List AV)) := match dec f_s_l7Quotient_h2 σ with
  | some [.l t1, .l t5, .l t6, .i t7, .i t8, .i t9] => some (isOne (loopL (f_s_l7Quotient_r2 t1 t7 t8) (t5, t6, t9)), true, f_s_l7Quotient_x2_1 t1 t7 t8 (getOne ([], []) (loopL (f_s_l7Quotient_r2 t1 t7 t8) (t5, t6, t9))), (.ret, []))
  | _ => none
theorem f_s_l7Quotient_tt2 : TTrue Try.prog f_s_l7Quotient_F Try.f82 2 (f_s_l7Quotient_t2) := by
  intro σ p r r' h
  unfold f_s_l7Quotient_t2 at h
  split at h
  · rename_i hd
    rw [← dec_enc hd]
    exact row1 (f_s_l7Quotient_l2 _ _ _ _) h
  · cases h
def f_s_l7Quotient_h0 : List Sh := [.u, .p .sl, .u, .u, .u, .own 3, .own 3, .p (.int .i64), .u, .u, .u, .u, .u, .u, .u, .u, .u, .u, .u, .u, .u, .u, .u, .u, .u, .u, .u, .u, .u, .u, .u, .u, .u, .u, .u, .u, .u, .u, .u, .u, .u, .u, .u, .u, .u, .u, .u, .u, .u, .u, .u, .u, .u, .u, .u, .u, .u, .u, .u, .u, .u, .u, .u, .u, .u]
def f_s_l7Quotient_fr0 (t1 : List Sc) (s : List Sc × List Sc × Int) : List AV := enc f_s_l7Quotient_h0 [.l t1, .l s.1, .l s.2.1, .i s.2.2]
def f_s_l7Quotient_g0_1 : List Sh := [.u, .p .sl, .u, .u, .u, .own 3, .own 3, .p (.int .i64), .u, .u, .u, .u, .u, .u, .u, .u, .u, .u, .u, .u, .u, .u, .u, .u, .u, .u, .u, .u, .u, .u, .u, .u, .u, .u, .u, .u, .u, .u, .u, .u, .u, .u, .u, .u, .u, .u, .u, .u, .u, .u, .u, .u, .u, .u, .u, .u, .u, .u, .u, .u, .u, .u, .u, .u, .u]
def f_s_l7Quotient_x0_1 (t1 : List Sc) (e : List Sc × List Sc × Int) : X × List AV := (.out 0, enc f_s_l7Quotient_g0_1 [.l t1, .l e.1, .l e.2.1, .i e.2.2])
def f_s_l7Quotient_x0_2 (t1 : List Sc) (_e : Unit) : X × List AV := (.ret, [])
theorem f_s_l7Quotient_p0 {R : Type} (t1 : List Sc) (s : List Sc × List Sc × Int) (kN : List Sc × List Sc × Int → Option R) (kA : List Sc × List Sc × Int → Option R) (kB : Unit → Option R) : f_s_l7Quotient_k0 t1 s.1 s.2.1 s.2.2 kN kA = (f_s_l7Quotient_r0 t1 s).bind (Ro.el kN kA kB) := by
  simp only [f_s_l7Quotient_k0, f_s_l7Quotient_r0, brB, bl1B, someB, noneB, Ro.el]
theorem f_s_l7Quotient_e0 (t1 : List Sc) (s : List Sc × List Sc × Int) : EC E0 f_s_l7Quotient_M H0 f_s_l7Quotient_F (asL (addL 2 (f_s_l7Quotient_t2) (noL))) 0 (bodyOf Try.f82 0) (f_s_l7Quotient_fr0 t1 s) (done (klOf f_s_l7Quotient_F 0)) = f_s_l7Quotient_k0 t1 s.1 s.2.1 s.2.2 (fun s => some (.norm, f_s_l7Quotient_fr0 t1 s)) (fun e => some (f_s_l7Quotient_x0_1 t1 e)) := by kernel_rfl
theorem f_s_l7Quotient_l0 (t1 : List Sc) : ∀ s r, loopL (f_s_l7Quotient_r0 t1) s = some r → LS Try.prog f_s_l7Quotient_F (bodyOf Try.f82 0) (f_s_l7Quotient_fr0 t1 s) (enX (f_s_l7Quotient_x0_1 t1) (f_s_l7Quotient_x0_2 t1) r) :=
  loop_true E0ok f_s_l7Quotient_Mt (addL_true (f_s_l7Quotient_tt2) (noL_true)) f_s_l7Quotient_o (fun _ h => by cases h) (fun _ h => by cases h) (fun s => (f_s_l7Quotient_e0 t1 s).trans (f_s_l7Quotient_p0 t1 s _ _ (fun e => some (f_s_l7Quotient_x0_2 t1 e))))
def f_s_l7Quotient_t0 (σ : List AV) : Option (Bool × Bool × (X × List AV) × (X × List AV)) := match dec f_s_l7Quotient_h0 σ with
  | some [.l t1, .l t5, .l t6, .i t7] => some (isOne (loopL (f_s_l7Quotient_r0 t1) (t5, t6, t7)), true, f_s_l7Quotient_x0_1 t1 (getOne ([], [], 0) (loopL (f_s_l7Quotient_r0 t1) (t5, t6, t7))), (.ret, []))
  | _ => none
theorem f_s_l7Quotient_tt0 : TTrue Try.prog f_s_l7Quotient_F Try.f82 0 (f_s_l7Quotient_t0) := by
  intro σ p r r' h
  unfold f_s_l7Quotient_t0 at h
  split at h
  · rename_i hd
    rw [← dec_enc hd]
    exact row1 (f_s_l7Quotient_l0 _ _) h
  · cases h
theorem f_s_l7Quotient_p {R : Type} (L0 : List Sc) (p1 : List Sc) (kR : List Sc → Option R) : f_s_l7Quotient_k L0 p1 kR = (f_s_l7Quotient_k L0 p1 some).bind kR := by
  simp only [f_s_l7Quotient_k, brB, bl1B, someB, noneB]
theorem f_s_l7Quotient_e (L0 : List Sc) (p1 : List Sc) : runFn E0 f_s_l7Quotient_M H0 f_s_l7Quotient_F (asL (addL 0 (f_s_l7Quotient_t0) (addL 2 (f_s_l7Quotient_t2) (noL)))) Try.f82 (f_s_l7Quotient_a L0 p1) (f_s_l7Quotient_i L0 p1) = f_s_l7Quotient_k L0 p1 (fun r => some (f_s_l7Quotient_en r)) := by kernel_rfl
theorem f_s_l7Quotient_ok (L0 : List Sc) (p1 : List Sc) (r : List Sc) (h : f_s_l7Quotient L0 p1 = some r) : CS Try.prog 82 (f_s_l7Quotient_a L0 p1) (f_s_l7Quotient_i L0 p1) (f_s_l7Quotient_en r).1 (f_s_l7Quotient_en r).2 :=
  fn_true (Gk := fun k => f_s_l7Quotient_k L0 p1 k) (en := f_s_l7Quotient_en) Try.func82 E0ok f_s_l7Quotient_Mt (addL_true (f_s_l7Quotient_tt0) (addL_true (f_s_l7Quotient_tt2) (noL_true))) f_s_l7Quotient_o (f_s_l7Quotient_e L0 p1) (f_s_l7Quotient_p L0 p1) h
def f_s_l7Quotient_c : CRow := fun args inh => match dec2 [.p .sl, .p .sl] [] args inh with
  | some ([.l L0, .l p1], []) => some ((f_s_l7Quotient L0 p1).isSome, (f_s_l7Quotient_en ((f_s_l7Quotient L0 p1).getD [])).1, (f_s_l7Quotient_en ((f_s_l7Quotient L0 p1).getD [])).2)
  | _ => none
theorem f_s_l7Quotient_cc : CTrue Try.prog 82 f_s_l7Quotient_c := by
  intro args inh rs out h
  unfold f_s_l7Quotient_c at h
  split at h
  · rename_i hd
    obtain ⟨h1, h2⟩ := dec2_enc hd
    rw [← h1, ← h2]
    exact rowC (f_s_l7Quotient_ok _ _) h
  · cases h

def f_s_l7Cyclotomic_F : Fi := { nv := 0, nc := 0, m := 0, vt := [], kl := [(0, ([1, 2, 5, 6, 7, 8, 9, 10, 11, 12, 13, 14, 15, 16, 17, 18, 19, 20, 21, 22, 23, 24, 25, 26], [0, 1, 2, 4, 5, 6, 7, 8, 9, 10, 11, 12, 13, 14, 15, 16, 17, 18, 19, 20, 21, 22, 23, 24, 25, 26], [0, 1, 3, 4, 5, 6, 7, 8, 9, 10, 11, 12, 13, 14, 15, 16, 17, 18, 19, 20, 21, 22, 23, 24, 25, 26]))], sk := [], mvs := [], fz := [] }
def f_s_l7Cyclotomic_a (n0 : Int) : List AV := enc [.p (.int .i64)] [.i n0]
def f_s_l7Cyclotomic_i (n0 : Int) : List AV := enc [] []
def f_s_l7Cyclotomic_en (r : List Sc) : List AV × List AV := (enc [.p (.al 0)] [], enc [.own 3] [.l r])
def f_s_l7Cyclotomic_cs (self : Int → Option (List Sc)) : CRow := fun args inh => match dec2 [.p (.int .i64)] [] args inh with
  | some ([.i n0], []) => some ((self n0).isSome, (f_s_l7Cyclotomic_en ((self n0).getD [])).1, (f_s_l7Cyclotomic_en ((self n0).getD [])).2)
  | _ => none
theorem f_s_l7Cyclotomic_cst (self : Int → Option (List Sc)) (hs : ∀ a r, self a = some r → CS Try.prog 62 (f_s_l7Cyclotomic_a a) (f_s_l7Cyclotomic_i a) (f_s_l7Cyclotomic_en r).1 (f_s_l7Cyclotomic_en r).2) : CTrue Try.prog 62 (f_s_l7Cyclotomic_cs self) := by
  intro args inh rs out h
  unfold f_s_l7Cyclotomic_cs at h
  split at h
  · rename_i hd
    obtain ⟨h1, h2⟩ := dec2_enc hd
    rw [← h1, ← h2]
    exact rowC (hs _) h
  · cases h
def f_s_l7Cyclotomic_M (self : Int → Option (List Sc)) : Calling := addC 62 (f_s_l7Cyclotomic_cs self) (addC 82 f_s_l7Quotient_c (noC))
theorem f_s_l7Cyclotomic_Mt (self : Int → Option (List Sc)) (hs : ∀ a r, self a = some r → CS Try.prog 62 (f_s_l7Cyclotomic_a a) (f_s_l7Cyclotomic_i a) (f_s_l7Cyclotomic_en r).1 (f_s_l7Cyclotomic_en r).2) : CallOk Try.prog (f_s_l7Cyclotomic_M self) := addC_true (f_s_l7Cyclotomic_cst self hs) (addC_true f_s_l7Quotient_cc (noC_true))
theorem f_s_l7Cyclotomic_o : loopsOnce Try.f62 = true := by kernel_rfl
def f_s_l7Cyclotomic_h0 : List Sh := [.p (.int .i64), .u, .u, .own 3, .p (.int .i64), .u, .u, .u, .u, .u, .u, .u, .u, .u, .u, .u, .u, .u, .u, .u, .u, .u, .u, .u, .u, .u, .u]
def f_s_l7Cyclotomic_fr0 (self : Int → Option (List Sc)) (n0 : Int) (s : List Sc × Int) : List AV := enc f_s_l7Cyclotomic_h0 [.i n0, .l s.1, .i s.2]
def f_s_l7Cyclotomic_g0_1 : List Sh := [.u, .u, .u, .own 3, .u, .u, .u, .u, .u, .u, .u, .u, .u, .u, .u, .u, .u, .u, .u, .u, .u, .u, .u, .u, .u, .u, .u]
def f_s_l7Cyclotomic_x0_1 (self : Int → Option (List Sc)) (n0 : Int) (e : List Sc) : X × List AV := (.out 0, enc f_s_l7Cyclotomic_g0_1 [.l e])
def f_s_l7Cyclotomic_x0_2 (self : Int → Option (List Sc)) (n0 : Int) (_e : Unit) : X × List AV := (.ret, [])
theorem f_s_l7Cyclotomic_p0 {R : Type} (self : Int → Option (List Sc)) (n0 : Int) (s : List Sc × Int) (kN : List Sc × Int → Option R) (kA : List Sc → Option R) (kB : Unit → Option R) : f_s_l7Cyclotomic_k0 self n0 s.1 s.2 kN kA = (f_s_l7Cyclotomic_r0 self n0 s).bind (Ro.el kN kA kB) := by
  simp only [f_s_l7Cyclotomic_k0, f_s_l7Cyclotomic_r0, brB, boB, someB, noneB, Ro.el]
theorem f_s_l7Cyclotomic_e0 (self : Int → Option (List Sc)) (n0 : Int) (s : List Sc × Int) : EC E0 (f_s_l7Cyclotomic_M self) H0 f_s_l7Cyclotomic_F (asL (noL)) 0 (bodyOf Try.f62 0) (f_s_l7Cyclotomic_fr0 self n0 s) (done (klOf f_s_l7Cyclotomic_F 0)) = f_s_l7Cyclotomic_k0 self n0 s.1 s.2 (fun s => some (.norm, f_s_l7Cyclotomic_fr0 self n0 s)) (fun e => some (f_s_l7Cyclotomic_x0_1 self n0 e)) := by kernel_rfl
theorem f_s_l7Cyclotomic_l0 (self : Int → Option (List Sc)) (hs : ∀ a r, self a = some r → CS Try.prog 62 (f_s_l7Cyclotomic_a a) (f_s_l7Cyclotomic_i a) (f_s_l7Cyclotomic_en r).1 (f_s_l7Cyclotomic_en r).2) (n0 : Int) : ∀ s r, loopL (f_s_l7Cyclotomic_r0 self n0) s = some r → LS Try.prog f_s_l7Cyclotomic_F (bodyOf Try.f62 0) (f_s_l7Cyclotomic_fr0 self n0 s) (enX (f_s_l7Cyclotomic_x0_1 self n0) (f_s_l7Cyclotomic_x0_2 self n0) r) :=
  loop_true E0ok (f_s_l7Cyclotomic_Mt self hs) (noL_true) f_s_l7Cyclotomic_o (fun _ h => by cases h) (fun _ h => by cases h) (fun s => (f_s_l7Cyclotomic_e0 self n0 s).trans (f_s_l7Cyclotomic_p0 self n0 s _ _ (fun e => some (f_s_l7Cyclotomic_x0_2 self n0 e))))
def f_s_l7Cyclotomic_t0 (self : Int → Option (List Sc)) (σ : List AV) : Option (Bool × Bool × (X × List AV) × (X × List AV)) := match dec f_s_l7Cyclotomic_h0 σ with
  | some [.i n0, .l p3, .i k4] => some (isOne (loopL (f_s_l7Cyclotomic_r0 self n0) (p3, k4)), true, f_s_l7Cyclotomic_x0_1 self n0 (getOne [] (loopL (f_s_l7Cyclotomic_r0 self n0) (p3, k4))), (.ret, []))
  | _ => none
theorem f_s_l7Cyclotomic_tt0 (self : Int → Option (List Sc)) (hs : ∀ a r, self a = some r → CS Try.prog 62 (f_s_l7Cyclotomic_a a) (f_s_l7Cyclotomic_i a) (f_s_l7Cyclotomic_en r).1 (f_s_l7Cyclotomic_en r).2) : TTrue Try.prog f_s_l7Cyclotomic_F Try.f62 0 (f_s_l7Cyclotomic_t0 self) := by
  intro σ p r r' h
  unfold f_s_l7Cyclotomic_t0 at h
  split at h
  · rename_i hd
    rw [← dec_enc hd]
    exact row1 (f_s_l7Cyclotomic_l0 self hs _ _) h
  · cases h
theorem f_s_l7Cyclotomic_p {R : Type} (self : Int → Option (List Sc)) (n0 : Int) (kR : List Sc → Option R) : f_s_l7Cyclotomic_k self n0 kR = (f_s_l7Cyclotomic_k self n0 some).bind kR := by
  simp only [f_s_l7Cyclotomic_k, brB, bl1B, someB, noneB]
theorem f_s_l7Cyclotomic_e (self : Int → Option (List Sc)) (n0 : Int) : runFn E0 (f_s_l7Cyclotomic_M self) H0 f_s_l7Cyclotomic_F (asL (addL 0 (f_s_l7Cyclotomic_t0 self) (noL))) Try.f62 (f_s_l7Cyclotomic_a n0) (f_s_l7Cyclotomic_i n0) = f_s_l7Cyclotomic_k self n0 (fun r => some (f_s_l7Cyclotomic_en r)) := by kernel_rfl
theorem f_s_l7Cyclotomic_ks (self : Int → Option (List Sc)) (hs : ∀ a r, self a = some r → CS Try.prog 62 (f_s_l7Cyclotomic_a a) (f_s_l7Cyclotomic_i a) (f_s_l7Cyclotomic_en r).1 (f_s_l7Cyclotomic_en r).2) (n0 : Int) (r : List Sc) (h : f_s_l7Cyclotomic_k self n0 some = some r) : CS Try.prog 62 (f_s_l7Cyclotomic_a n0) (f_s_l7Cyclotomic_i n0) (f_s_l7Cyclotomic_en r).1 (f_s_l7Cyclotomic_en r).2 :=
  fn_true (Gk := fun k => f_s_l7Cyclotomic_k self n0 k) (en := f_s_l7Cyclotomic_en) Try.func62 E0ok (f_s_l7Cyclotomic_Mt self hs) (addL_true (f_s_l7Cyclotomic_tt0 self hs) (noL_true)) f_s_l7Cyclotomic_o (f_s_l7Cyclotomic_e self n0) (f_s_l7Cyclotomic_p self n0) h
theorem f_s_l7Cyclotomic_ns : ∀ n a r, f_s_l7Cyclotomic_n n a = some r → CS Try.prog 62 (f_s_l7Cyclotomic_a a) (f_s_l7Cyclotomic_i a) (f_s_l7Cyclotomic_en r).1 (f_s_l7Cyclotomic_en r).2
  | 0, _, _, h => by cases h
  | n + 1, a, r, h => f_s_l7Cyclotomic_ks (f_s_l7Cyclotomic_n n) (f_s_l7Cyclotomic_ns n) a r h
theorem f_s_l7Cyclotomic_ok (n0 : Int) (r : List Sc) (h : f_s_l7Cyclotomic n0 = some r) : CS Try.prog 62 (f_s_l7Cyclotomic_a n0) (f_s_l7Cyclotomic_i n0) (f_s_l7Cyclotomic_en r).1 (f_s_l7Cyclotomic_en r).2 := by
  obtain ⟨n, hn⟩ := limF_some h
  exact f_s_l7Cyclotomic_ns n _ r hn
def f_s_l7Cyclotomic_c : CRow := fun args inh => match dec2 [.p (.int .i64)] [] args inh with
  | some ([.i n0], []) => some ((f_s_l7Cyclotomic n0).isSome, (f_s_l7Cyclotomic_en ((f_s_l7Cyclotomic n0).getD [])).1, (f_s_l7Cyclotomic_en ((f_s_l7Cyclotomic n0).getD [])).2)
  | _ => none
theorem f_s_l7Cyclotomic_cc : CTrue Try.prog 62 f_s_l7Cyclotomic_c := by
  intro args inh rs out h
  unfold f_s_l7Cyclotomic_c at h
  split at h
  · rename_i hd
    obtain ⟨h1, h2⟩ := dec2_enc hd
    rw [← h1, ← h2]
    exact rowC (f_s_l7Cyclotomic_ok _) h
  · cases h

def f_s_l7Rest_F : Fi := { nv := 0, nc := 0, m := 0, vt := [], kl := [(2, ([0, 2, 3, 4, 9, 10, 11, 12, 13, 14, 15, 16, 17, 18, 19, 20, 21, 22, 23, 24, 25, 26, 27, 28, 29, 30, 31, 32, 33, 34, 35, 36, 37, 38, 39, 40, 41, 42, 43, 44, 45, 46, 47, 48, 49, 50, 51, 52, 53], [0, 2, 3, 4, 7, 8, 9, 10, 11, 12, 13, 14, 15, 16, 17, 18, 19, 20, 21, 22, 23, 24, 25, 26, 27, 28, 29, 30, 31, 32, 33, 34, 35, 36, 37, 38, 39, 40, 41, 42, 43, 44, 45, 46, 47, 48, 49, 50, 51, 52, 53], [0, 1, 2, 3, 5, 6, 7, 8, 9, 10, 11, 12, 13, 14, 15, 16, 17, 18, 19, 20, 21, 22, 23, 24, 25, 26, 27, 28, 29, 30, 31, 32, 33, 34, 35, 36, 37, 38, 39, 40, 41, 42, 43, 44, 45, 46, 47, 48, 49, 50, 51, 52, 53])), (0, ([0, 2, 3, 4, 7, 8, 9, 10, 11, 12, 13, 14, 15, 16, 17, 18, 19, 20, 21, 22, 23, 24, 25, 26, 27, 28, 29, 30, 31, 32, 33, 34, 35, 36, 37, 38, 39, 40, 41, 42, 43, 44, 45, 46, 47, 48, 49, 50, 51, 52, 53], [0, 2, 3, 4, 7, 8, 9, 10, 11, 12, 13, 14, 15, 16, 17, 18, 19, 20, 21, 22, 23, 24, 25, 26, 27, 28, 29, 30, 31, 32, 33, 34, 35, 36, 37, 38, 39, 40, 41, 42, 43, 44, 45, 46, 47, 48, 49, 50, 51, 52, 53], [0, 1, 2, 3, 5, 6, 7, 8, 9, 10, 11, 12, 13, 14, 15, 16, 17, 18, 19, 20, 21, 22, 23, 24, 25, 26, 27, 28, 29, 30, 31, 32, 33, 34, 35, 36, 37, 38, 39, 40, 41, 42, 43, 44, 45, 46, 47, 48, 49, 50, 51, 52, 53]))], sk := [], mvs := [], fz := [] }
def f_s_l7Rest_a (p0 : List Sc) (d1 : List Sc) : List AV := enc [.p .sl, .p .sl] [.l p0, .l d1]
def f_s_l7Rest_i (p0 : List Sc) (d1 : List Sc) : List AV := enc [] []
def f_s_l7Rest_en (r : List Sc) : List AV × List AV := (enc [.p (.al 0)] [], enc [.own 3] [.l r])
def f_s_l7Rest_M : Calling := noC
theorem f_s_l7Rest_Mt : CallOk Try.prog (f_s_l7Rest_M) := noC_true
theorem f_s_l7Rest_o : loopsOnce Try.f61 = true := by kernel_rfl
def f_s_l7Rest_h2 : List Sh := [.u, .p .sl, .u, .u, .u, .own 3, .p (.int .i64), .p (.int .i64), .p (.int .i64), .u, .u, .u, .u, .u, .u, .u, .u, .u, .u, .u, .u, .u, .u, .u, .u, .u, .u, .u, .u, .u, .u, .u, .u, .u, .u, .u, .u, .u, .u, .u, .u, .u, .u, .u, .u, .u, .u, .u, .u, .u, .u, .u, .u, .u]
def f_s_l7Rest_fr2 (d1 : List Sc) (i6 : Int) (f7 : Int) (s : List Sc × Int) : List AV := enc f_s_l7Rest_h2 [.l d1, .l s.1, .i i6, .i f7, .i s.2]
def f_s_l7Rest_g2_1 : List Sh := [.u, .p .sl, .u, .u, .u, .own 3, .p (.int .i64), .u, .u, .u, .u, .u, .u, .u, .u, .u, .u, .u, .u, .u, .u, .u, .u, .u, .u, .u, .u, .u, .u, .u, .u, .u, .u, .u, .u, .u, .u, .u, .u, .u, .u, .u, .u, .u, .u, .u, .u, .u, .u, .u, .u, .u, .u, .u]
def f_s_l7Rest_x2_1 (d1 : List Sc) (i6 : Int) (f7 : Int) (e : List Sc) : X × List AV := (.out 2, enc f_s_l7Rest_g2_1 [.l d1, .l e, .i i6])
def f_s_l7Rest_x2_2 (d1 : List Sc) (i6 : Int) (f7 : Int) (_e : Unit) : X × List AV := (.ret, [])
theorem f_s_l7Rest_p2 {R : Type} (d1 : List Sc) (i6 : Int) (f7 : Int) (s : List Sc × Int) (kN : List Sc × Int → Option R) (kA : List Sc → Option R) (kB : Unit → Option R) : f_s_l7Rest_k2 d1 i6 f7 s.1 s.2 kN kA = (f_s_l7Rest_r2 d1 i6 f7 s).bind (Ro.el kN kA kB) := by
  simp only [f_s_l7Rest_k2, f_s_l7Rest_r2, brB, someB, noneB, Ro.el]
theorem f_s_l7Rest_e2 (d1 : List Sc) (i6 : Int) (f7 : Int) (s : List Sc × Int) : EC E0 f_s_l7Rest_M H0 f_s_l7Rest_F (asL (noL)) 2 (bodyOf Try.f61 2) (f_s_l7Rest_fr2 d1 i6 f7 s) (done (klOf f_s_l7Rest_F 2)) = f_s_l7Rest_k2 d1 i6 f7 s.1 s.2 (fun s => some (.norm, f_s_l7Rest_fr2 d1 i6 f7 s)) (fun e => some (f_s_l7Rest_x2_1 d1 i6 f7 e)) := by kernel_rfl
theorem f_s_l7Rest_l2 (d1 : List Sc) (i6 : Int) (f7 : Int) : ∀ s r, loopL (f_s_l7Rest_r2 d1 i6 f7) s = some r → LS Try.prog f_s_l7Rest_F (bodyOf Try.f61 2) (f_s_l7Rest_fr2 d1 i6 f7 s) (enX (f_s_l7Rest_x2_1 d1 i6 f7) (f_s_l7Rest_x2_2 d1 i6 f7) r) :=
  loop_true E0ok f_s_l7Rest_Mt (noL_true) f_s_l7Rest_o (fun _ h => by cases h) (fun _ h => by cases h) (fun s => (f_s_l7Rest_e2 d1 i6 f7 s).trans (f_s_l7Rest_p2 d1 i6 f7 s _ _ (fun e => some (f_s_l7Rest_x2_2 d1 i6 f7 e))))
def f_s_l7Rest_t2 (σ : List AV) : Option (Bool × Bool × (X × List AV) × (X × List AV)) := match dec f_s_l7Rest_h2 σ with
  | some [.l d1, .l r5, .i i6, .i f7, .i k8] => some (isOne (loopL (f_s_l7Rest_r2 d1 i6 f7) (r5, k8)), true, f_s_l7Rest_x2_1 d1 i6 f7 (getOne [] (loopL (f_s_l7Rest_r2 d1 i6 f7) (r5, k8))), (.ret, []))
  | _ => none
theorem f_s_l7Rest_tt2 : TTrue Try.prog f_s_l7Rest_F Try.f61 2 (f_s_l7Rest_t2) := by
  intro σ p r r' h
  unfold f_s_l7Rest_t2 at h
  split at h
  · rename_i hd
    rw [← dec_enc hd]
    exact row1 (f_s_l7Rest_l2 _ _ _ _) h
  · cases h
def f_s_l7Rest_h0 : List Sh := [.u, .p .sl, .u, .u, .u, .own 3, .p (.int .i64), .u, .u, .u, .u, .u, .u, .u, .u, .u, .u, .u, .u, .u, .u, .u, .u, .u, .u, .u, .u, .u, .u, .u, .u, .u, .u, .u, .u, .u, .u, .u, .u, .u, .u, .u, .u, .u, .u, .u, .u, .u, .u, .u, .u, .u, .u, .u]
def f_s_l7Rest_fr0 (d1 : List Sc) (s : List Sc × Int) : List AV := enc f_s_l7Rest_h0 [.l d1, .l s.1, .i s.2]
def f_s_l7Rest_g0_1 : List Sh := [.u, .p .sl, .u, .u, .u, .own 3, .p (.int .i64), .u, .u, .u, .u, .u, .u, .u, .u, .u, .u, .u, .u, .u, .u, .u, .u, .u, .u, .u, .u, .u, .u, .u, .u, .u, .u, .u, .u, .u, .u, .u, .u, .u, .u, .u, .u, .u, .u, .u, .u, .u, .u, .u, .u, .u, .u, .u]
def f_s_l7Rest_x0_1 (d1 : List Sc) (e : List Sc × Int) : X × List AV := (.out 0, enc f_s_l7Rest_g0_1 [.l d1, .l e.1, .i e.2])
def f_s_l7Rest_x0_2 (d1 : List Sc) (_e : Unit) : X × List AV := (.ret, [])
theorem f_s_l7Rest_p0 {R : Type} (d1 : List Sc) (s : List Sc × Int) (kN : List Sc × Int → Option R) (kA : List Sc × Int → Option R) (kB : Unit → Option R) : f_s_l7Rest_k0 d1 s.1 s.2 kN kA = (f_s_l7Rest_r0 d1 s).bind (Ro.el kN kA kB) := by
  simp only [f_s_l7Rest_k0, f_s_l7Rest_r0, brB, bl1B, someB, noneB, Ro.el]
theorem f_s_l7Rest_e0 (d1 : List Sc) (s : List Sc × Int) : EC E0 f_s_l7Rest_M H0 f_s_l7Rest_F (asL (addL 2 (f_s_l7Rest_t2) (noL))) 0 (bodyOf Try.f61 0) (f_s_l7Rest_fr0 d1 s) (done (klOf f_s_l7Rest_F 0)) = f_s_l7Rest_k0 d1 s.1 s.2 (fun s => some (.norm, f_s_l7Rest_fr0 d1 s)) (fun e => some (f_s_l7Rest_x0_1 d1 e)) := by kernel_rfl
theorem f_s_l7Rest_l0 (d1 : List Sc) : ∀ s r, loopL (f_s_l7Rest_r0 d1) s = some r → LS Try.prog f_s_l7Rest_F (bodyOf Try.f61 0) (f_s_l7Rest_fr0 d1 s) (enX (f_s_l7Rest_x0_1 d1) (f_s_l7Rest_x0_2 d1) r) :=
  loop_true E0ok f_s_l7Rest_Mt (addL_true (f_s_l7Rest_tt2) (noL_true)) f_s_l7Rest_o (fun _ h => by cases h) (fun _ h => by cases h) (fun s => (f_s_l7Rest_e0 d1 s).trans (f_s_l7Rest_p0 d1 s _ _ (fun e => some (f_s_l7Rest_x0_2 d1 e))))
def f_s_l7Rest_t0 (σ : List AV) : Option (Bool × Bool × (X × List AV) × (X × List AV)) := match dec f_s_l7Rest_h0 σ with
  | some [.l d1, .l r5, .i i6] => some (isOne (loopL (f_s_l7Rest_r0 d1) (r5, i6)), true, f_s_l7Rest_x0_1 d1 (getOne ([], 0) (loopL (f_s_l7Rest_r0 d1) (r5, i6))), (.ret, []))
  | _ => none
theorem f_s_l7Rest_tt0 : TTrue Try.prog f_s_l7Rest_F Try.f61 0 (f_s_l7Rest_t0) := by
  intro σ p r r' h
  unfold f_s_l7Rest_t0 at h
  split at h
  · rename_i hd
    rw [← dec_enc hd]
    exact row1 (f_s_l7Rest_l0 _ _) h
  · cases h
theorem f_s_l7Rest_p {R : Type} (p0 : List Sc) (d1 : List Sc) (kR : List Sc → Option R) : f_s_l7Rest_k p0 d1 kR = (f_s_l7Rest_k p0 d1 some).bind kR := by
  simp only [f_s_l7Rest_k, brB, bl1B, someB, noneB]
theorem f_s_l7Rest_e (p0 : List Sc) (d1 : List Sc) : runFn E0 f_s_l7Rest_M H0 f_s_l7Rest_F (asL (addL 0 (f_s_l7Rest_t0) (addL 2 (f_s_l7Rest_t2) (noL)))) Try.f61 (f_s_l7Rest_a p0 d1) (f_s_l7Rest_i p0 d1) = f_s_l7Rest_k p0 d1 (fun r => some (f_s_l7Rest_en r)) := by kernel_rfl
theorem f_s_l7Rest_ok (p0 : List Sc) (d1 : List Sc) (r : List Sc) (h : f_s_l7Rest p0 d1 = some r) : CS Try.prog 61 (f_s_l7Rest_a p0 d1) (f_s_l7Rest_i p0 d1) (f_s_l7Rest_en r).1 (f_s_l7Rest_en r).2 :=
  fn_true (Gk := fun k => f_s_l7Rest_k p0 d1 k) (en := f_s_l7Rest_en) Try.func61 E0ok f_s_l7Rest_Mt (addL_true (f_s_l7Rest_tt0) (addL_true (f_s_l7Rest_tt2) (noL_true))) f_s_l7Rest_o (f_s_l7Rest_e p0 d1) (f_s_l7Rest_p p0 d1) h
def f_s_l7Rest_c : CRow := fun args inh => match dec2 [.p .sl, .p .sl] [] args inh with
  | some ([.l p0, .l d1], []) => some ((f_s_l7Rest p0 d1).isSome, (f_s_l7Rest_en ((f_s_l7Rest p0 d1).getD [])).1, (f_s_l7Rest_en ((f_s_l7Rest p0 d1).getD [])).2)
  | _ => none
theorem f_s_l7Rest_cc : CTrue Try.prog 61 f_s_l7Rest_c := by
  intro args inh rs out h
  unfold f_s_l7Rest_c at h
  split at h
  · rename_i hd
    obtain ⟨h1, h2⟩ := dec2_enc hd
    rw [← h1, ← h2]
    exact rowC (f_s_l7Rest_ok _ _) h
  · cases h

def f_s_IsZeroCoefficient_F : Fi := { nv := 0, nc := 0, m := 0, vt := [], kl := [(0, ([0, 1, 2, 3, 4, 5, 6, 7, 10, 11, 12, 13, 14, 15, 16, 17, 18, 19, 20, 21, 22, 23, 24, 25, 26, 27, 28, 29, 30, 31, 32], [0, 1, 2, 3, 4, 5, 6, 7, 8, 9, 10, 11, 12, 13, 14, 15, 16, 17, 18, 19, 20, 21, 22, 23, 24, 25, 26, 27, 28, 29, 30, 31, 32], [0, 1, 2, 3, 4, 5, 7, 8, 9, 10, 11, 12, 13, 14, 15, 16, 17, 18, 19, 20, 21, 22, 23, 24, 25, 26, 27, 28, 29, 30, 31, 32]))], sk := [], mvs := [], fz := [] }
def f_s_IsZeroCoefficient_a (g0 : List Sc) (a1 : Int) (k2 : Int) : List AV := enc [.p .gr, .p (.int .i64), .p (.int .i64)] [.l g0, .i a1, .i k2]
def f_s_IsZeroCoefficient_i (g0 : List Sc) (a1 : Int) (k2 : Int) : List AV := enc [] []
def f_s_IsZeroCoefficient_en (r : Bool) : List AV × List AV := (enc [.p .boo] [.b r], enc [] [])
def f_s_IsZeroCoefficient_M : Calling := addC 28 f_s_CoefficientCounts_c (addC 62 f_s_l7Cyclotomic_c (addC 61 f_s_l7Rest_c (noC)))
theorem f_s_IsZeroCoefficient_Mt : CallOk Try.prog (f_s_IsZeroCoefficient_M) := addC_true f_s_CoefficientCounts_cc (addC_true f_s_l7Cyclotomic_cc (addC_true f_s_l7Rest_cc (noC_true)))
theorem f_s_IsZeroCoefficient_o : loopsOnce Try.f36 = true := by kernel_rfl
def f_s_IsZeroCoefficient_h0 : List Sh := [.u, .u, .u, .u, .u, .u, .u, .u, .own 3, .p (.int .i64), .u, .u, .u, .u, .u, .u, .u, .u, .u, .u, .u, .u, .u, .u, .u, .u, .u, .u, .u, .u, .u, .u, .u]
def f_s_IsZeroCoefficient_fr0 (s : List Sc × Int) : List AV := enc f_s_IsZeroCoefficient_h0 [.l s.1, .i s.2]
def f_s_IsZeroCoefficient_g0_1 : List Sh := [.u, .u, .u, .u, .u, .u, .u, .u, .u, .u, .u, .u, .u, .u, .u, .u, .u, .u, .u, .u, .u, .u, .u, .u, .u, .u, .u, .u, .u, .u, .u, .u, .u]
def f_s_IsZeroCoefficient_x0_1 (e : Unit) : X × List AV := (.out 0, enc f_s_IsZeroCoefficient_g0_1 [])
def f_s_IsZeroCoefficient_g0_2 : List Sh := [.u, .u, .u, .u, .u, .u, .p .boo, .u, .u, .u, .u, .u, .u, .u, .u, .u, .u, .u, .u, .u, .u, .u, .u, .u, .u, .u, .u, .u, .u, .u, .u, .u, .u]
def f_s_IsZeroCoefficient_x0_2 (e : Unit) : X × List AV := (.ret, enc f_s_IsZeroCoefficient_g0_2 [.b false])
theorem f_s_IsZeroCoefficient_p0 {R : Type} (s : List Sc × Int) (kN : List Sc × Int → Option R) (kA : Unit → Option R) (kB : Unit → Option R) : f_s_IsZeroCoefficient_k0 s.1 s.2 kN kA kB = (f_s_IsZeroCoefficient_r0 s).bind (Ro.el kN kA kB) := by
  simp only [f_s_IsZeroCoefficient_k0, f_s_IsZeroCoefficient_r0, brB, someB, noneB, Ro.el]
theorem f_s_IsZeroCoefficient_e0 (s : List Sc × Int) : EC E0 f_s_IsZeroCoefficient_M H0 f_s_IsZeroCoefficient_F (asL (noL)) 0 (bodyOf Try.f36 0) (f_s_IsZeroCoefficient_fr0 s) (done (klOf f_s_IsZeroCoefficient_F 0)) = f_s_IsZeroCoefficient_k0 s.1 s.2 (fun s => some (.norm, f_s_IsZeroCoefficient_fr0 s)) (fun e => some (f_s_IsZeroCoefficient_x0_1 e)) (fun e => some (f_s_IsZeroCoefficient_x0_2 e)) := by kernel_rfl
theorem f_s_IsZeroCoefficient_l0 : ∀ s r, loopL (f_s_IsZeroCoefficient_r0) s = some r → LS Try.prog f_s_IsZeroCoefficient_F (bodyOf Try.f36 0) (f_s_IsZeroCoefficient_fr0 s) (enX (f_s_IsZeroCoefficient_x0_1) (f_s_IsZeroCoefficient_x0_2) r) :=
  loop_true E0ok f_s_IsZeroCoefficient_Mt (noL_true) f_s_IsZeroCoefficient_o (fun _ h => by cases h) (fun _ h => by cases h) (fun s => (f_s_IsZeroCoefficient_e0 s).trans (f_s_IsZeroCoefficient_p0 s _ _ (fun e => some (f_s_IsZeroCoefficient_x0_2 e))))
def f_s_IsZeroCoefficient_t0 (σ : List AV) : Option (Bool × Bool × (X × List AV) × (X × List AV)) := match dec f_s_IsZeroCoefficient_h0 σ with
  | some [.l r8, .i i9] => some ((loopL (f_s_IsZeroCoefficient_r0) (r8, i9)).isSome, isOne (loopL (f_s_IsZeroCoefficient_r0) (r8, i9)), f_s_IsZeroCoefficient_x0_1 (getOne () (loopL (f_s_IsZeroCoefficient_r0) (r8, i9))), f_s_IsZeroCoefficient_x0_2 (getTwo () (loopL (f_s_IsZeroCoefficient_r0) (r8, i9))))
  | _ => none
theorem f_s_IsZeroCoefficient_tt0 : TTrue Try.prog f_s_IsZeroCoefficient_F Try.f36 0 (f_s_IsZeroCoefficient_t0) := by
  intro σ p r r' h
  unfold f_s_IsZeroCoefficient_t0 at h
  split at h
  · rename_i hd
    rw [← dec_enc hd]
    exact row2 (f_s_IsZeroCoefficient_l0 _) h
  · cases h
theorem f_s_IsZeroCoefficient_p {R : Type} (g0 : List Sc) (a1 : Int) (k2 : Int) (kR : Bool → Option R) : f_s_IsZeroCoefficient_k g0 a1 k2 kR = (f_s_IsZeroCoefficient_k g0 a1 k2 some).bind kR := by
  simp only [f_s_IsZeroCoefficient_k, brB, boB, blB, someB]
theorem f_s_IsZeroCoefficient_e (g0 : List Sc) (a1 : Int) (k2 : Int) : runFn E0 f_s_IsZeroCoefficient_M H0 f_s_IsZeroCoefficient_F (asL (addL 0 (f_s_IsZeroCoefficient_t0) (noL))) Try.f36 (f_s_IsZeroCoefficient_a g0 a1 k2) (f_s_IsZeroCoefficient_i g0 a1 k2) = f_s_IsZeroCoefficient_k g0 a1 k2 (fun r => some (f_s_IsZeroCoefficient_en r)) := by kernel_rfl
theorem f_s_IsZeroCoefficient_ok (g0 : List Sc) (a1 : Int) (k2 : Int) (r : Bool) (h : f_s_IsZeroCoefficient g0 a1 k2 = some r) : CS Try.prog 36 (f_s_IsZeroCoefficient_a g0 a1 k2) (f_s_IsZeroCoefficient_i g0 a1 k2) (f_s_IsZeroCoefficient_en r).1 (f_s_IsZeroCoefficient_en r).2 :=
  fn_true (Gk := fun k => f_s_IsZeroCoefficient_k g0 a1 k2 k) (en := f_s_IsZeroCoefficient_en) Try.func36 E0ok f_s_IsZeroCoefficient_Mt (addL_true (f_s_IsZeroCoefficient_tt0) (noL_true)) f_s_IsZeroCoefficient_o (f_s_IsZeroCoefficient_e g0 a1 k2) (f_s_IsZeroCoefficient_p g0 a1 k2) h
def f_s_IsZeroCoefficient_c : CRow := fun args inh => match dec2 [.p .gr, .p (.int .i64), .p (.int .i64)] [] args inh with
  | some ([.l g0, .i a1, .i k2], []) => some ((f_s_IsZeroCoefficient g0 a1 k2).isSome, (f_s_IsZeroCoefficient_en ((f_s_IsZeroCoefficient g0 a1 k2).getD false)).1, (f_s_IsZeroCoefficient_en ((f_s_IsZeroCoefficient g0 a1 k2).getD false)).2)
  | _ => none
theorem f_s_IsZeroCoefficient_cc : CTrue Try.prog 36 f_s_IsZeroCoefficient_c := by
  intro args inh rs out h
  unfold f_s_IsZeroCoefficient_c at h
  split at h
  · rename_i hd
    obtain ⟨h1, h2⟩ := dec2_enc hd
    rw [← h1, ← h2]
    exact rowC (f_s_IsZeroCoefficient_ok _ _ _) h
  · cases h
end
end Go.Proofs.Ytonjcafobhpfdaa
