/-
  That the program computes just that (printed by gen2.py).
-/
import Derived.Test.YtonjcafobhpfdaaRuna
set_option linter.unusedVariables false
set_option linter.unusedSimpArgs false
namespace Go.Proofs.Ytonjcafobhpfdaa
open Go Ev
noncomputable section
def f_s_l5Group_io_F : Fi := { nv := 6, nc := 5, m := 3, vt := [(2, 3), (4, 4), (8, 5)], kl := [(100004, ([5, 7, 9, 11, 12, 13, 14, 15, 16, 17, 18, 19, 20, 21, 22, 23, 24, 25, 26, 27, 28, 29, 30, 31, 32, 33, 34, 35, 36, 37], [4, 5, 6, 7, 10, 11, 12, 13, 14, 15, 16, 17, 18, 19, 20, 21, 22, 23, 24, 25, 26, 27, 28, 29, 30, 31, 32, 33, 34, 35, 36, 37], [])), (100005, ([5, 7, 9, 12, 13, 14, 15, 16, 17, 18, 19, 20, 21, 22, 23, 24, 25, 26, 27, 28, 29, 30, 31, 32, 33, 34, 35, 36, 37], [4, 5, 6, 7, 10, 11, 12, 13, 14, 15, 16, 17, 18, 19, 20, 21, 22, 23, 24, 25, 26, 27, 28, 29, 30, 31, 32, 33, 34, 35, 36, 37], []))], sk := [], mvs := [5], fz := [], tb := [4, 5] }
def f_s_l5Group_io_a (h0 : List Sc) (h1 : Int) (h2 : Int) : List AV := enc [.p (.pt 0 3)] []
def f_s_l5Group_io_i (h0 : List Sc) (h1 : Int) (h2 : Int) : List AV := enc [.p .sl, .p (.int .i64), .p (.int .i64)] [.l h0, .i h1, .i h2]
def f_s_l5Group_io_en (r : List Sc × Int × List Sc × Int × Int) : List AV × List AV := (enc [.p .gr, .p (.int .i64)] [.l r.1, .i r.2.1], enc [.p .sl, .p (.int .i64), .p (.int .i64)] [.l r.2.2.1, .i r.2.2.2.1, .i r.2.2.2.2])
def f_s_l5Group_io_M : Calling := addC 64 f_s_l2Any_io_c (addC 84 f_s_SubgroupsOf_c (addC 79 f_s_l1Once_io_c (addC 78 f_s_l3Set_io_c (addC 83 f_s_l1Below_io_c (noC)))))
theorem f_s_l5Group_io_Mt : CallOk Try.prog (f_s_l5Group_io_M) := addC_true f_s_l2Any_io_cc (addC_true f_s_SubgroupsOf_cc (addC_true f_s_l1Once_io_cc (addC_true f_s_l3Set_io_cc (addC_true f_s_l1Below_io_cc (noC_true)))))
theorem f_s_l5Group_io_o : loopsOnce Try.f70 = true := by kernel_rfl
def f_s_l5Group_io_hg4 : List Sh := [.p .sl, .p (.int .i64), .p (.int .i64), .p .sl, .fr 3, .u, .p (.pt 0 3), .u, .p (.pt 3 1), .u, .p (.pt 4 1), .u, .u, .u, .u, .u, .u, .u, .u, .u, .u, .u, .u, .u, .u, .u, .u, .u, .u, .u, .u, .u, .u, .u, .u, .u, .u, .u]
def f_s_l5Group_io_frg4 (v0 : List Sc) (v1 : Int) (v2 : Int) (v3 : List Sc) (v4 : List Sc) : List AV := enc f_s_l5Group_io_hg4 [.l v0, .i v1, .i v2, .l v3, .l v4]
def f_s_l5Group_io_xg4 (v0 : List Sc) (v1 : Int) (v2 : Int) (v3 : List Sc) (v4 : List Sc) (e : List Sc × Int × Int × Int) : X × List AV := (.norm, enc [.p .sl, .p (.int .i64), .p (.int .i64), .p .sl, .u, .u, .u, .u, .p (.pt 3 1), .p (.int .i64), .u, .u, .u, .u, .u, .u, .u, .u, .u, .u, .u, .u, .u, .u, .u, .u, .u, .u, .u, .u, .u, .u, .u, .u, .u, .u, .u, .u] [.l e.1, .i e.2.1, .i e.2.2.1, .l v4, .i e.2.2.2])
theorem f_s_l5Group_io_pg4 {R : Type} (v0 : List Sc) (v1 : Int) (v2 : Int) (v3 : List Sc) (v4 : List Sc) (kA : List Sc × Int × Int × Int → Option R) : f_s_l5Group_io_g4_k v0 v1 v2 v3 v4 kA = (f_s_l5Group_io_g4 v0 v1 v2 v3 v4).bind kA := by
  simp only [f_s_l5Group_io_g4_k, f_s_l5Group_io_g4, boB, someB]
theorem f_s_l5Group_io_bg4 : bodyOf Try.f70 100004 = .region 4 (opsAt (bodyOf Try.f70 100004)) true := by kernel_rfl
def f_s_l5Group_io_Dg4 : List (Array Bool) := [#[false, false, false, false, false, false], #[true, false, false, false, false, false], #[false, true, false, false, false, false], #[false, false, true, false, false, false], #[true, true, false, false, false, false], #[true, false, true, false, false, false], #[false, true, true, false, false, false], #[true, true, true, false, false, false], #[false, true, true, true, false, false], #[true, true, true, true, false, false], #[true, true, true, true, true, false], #[true, true, true, true, true, true]]
theorem f_s_l5Group_io_cg4 : closedB (opsAt (bodyOf Try.f70 100004)) f_s_l5Group_io_Dg4 = true := by kernel_rfl
def f_s_l5Group_io_sg4_0 (v0 : List Sc) (v1 : Int) (v2 : Int) (v3 : List Sc) (v4 : List Sc) (fr : List AV) : Option (List AV) :=
  some (setAll [] fr)
def f_s_l5Group_io_sg4_1 (v0 : List Sc) (v1 : Int) (v2 : Int) (v3 : List Sc) (v4 : List Sc) (fr : List AV) : Option (List AV) :=
  some (setAll [(26, .p (.gr v4))] fr)
def f_s_l5Group_io_sg4_2 (v0 : List Sc) (v1 : Int) (v2 : Int) (v3 : List Sc) (v4 : List Sc) (fr : List AV) : Option (List AV) :=
  some (setAll [(27, .p (.pt 0 3))] fr)
def f_s_l5Group_io_sg4_4 (v0 : List Sc) (v1 : Int) (v2 : Int) (v3 : List Sc) (v4 : List Sc) (fr : List AV) : Option (List AV) :=
  some (setAll [(28, .p (.gr v4))] fr)
def f_s_l5Group_io_sg4_3 (v0 : List Sc) (v1 : Int) (v2 : Int) (v3 : List Sc) (v4 : List Sc) (fr : List AV) : Option (List AV) :=
  some (setAll [(26, .p (.gr v4)), (27, .p (.pt 0 3))] fr)
def f_s_l5Group_io_sg4_5 (v0 : List Sc) (v1 : Int) (v2 : Int) (v3 : List Sc) (v4 : List Sc) (fr : List AV) : Option (List AV) :=
  some (setAll [(26, .p (.gr v4)), (28, .p (.gr v4))] fr)
def f_s_l5Group_io_sg4_6 (v0 : List Sc) (v1 : Int) (v2 : Int) (v3 : List Sc) (v4 : List Sc) (fr : List AV) : Option (List AV) :=
  some (setAll [(27, .p (.pt 0 3)), (28, .p (.gr v4))] fr)
def f_s_l5Group_io_sg4_7 (v0 : List Sc) (v1 : Int) (v2 : Int) (v3 : List Sc) (v4 : List Sc) (fr : List AV) : Option (List AV) :=
  some (setAll [(26, .p (.gr v4)), (27, .p (.pt 0 3)), (28, .p (.gr v4))] fr)
def f_s_l5Group_io_sg4_14 (v0 : List Sc) (v1 : Int) (v2 : Int) (v3 : List Sc) (v4 : List Sc) (fr : List AV) : Option (List AV) :=
  bo (f_s_l3Set_io v4 v0 v1 v2) (0, [], 0, 0) fun r5 =>
  some (setAll [(0, .p (.sl r5.2.1)), (1, .p (.sc (Sc.n .i64 r5.2.2.1))), (2, .p (.sc (Sc.n .i64 r5.2.2.2))), (27, .p (.pt 0 3)), (28, .p (.gr v4)), (29, .p (.sc (Sc.n .i64 r5.1)))] fr)
def f_s_l5Group_io_sg4_15 (v0 : List Sc) (v1 : Int) (v2 : Int) (v3 : List Sc) (v4 : List Sc) (fr : List AV) : Option (List AV) :=
  bo (f_s_l3Set_io v4 v0 v1 v2) (0, [], 0, 0) fun r6 =>
  some (setAll [(0, .p (.sl r6.2.1)), (1, .p (.sc (Sc.n .i64 r6.2.2.1))), (2, .p (.sc (Sc.n .i64 r6.2.2.2))), (26, .p (.gr v4)), (27, .p (.pt 0 3)), (28, .p (.gr v4)), (29, .p (.sc (Sc.n .i64 r6.1)))] fr)
def f_s_l5Group_io_sg4_31 (v0 : List Sc) (v1 : Int) (v2 : Int) (v3 : List Sc) (v4 : List Sc) (fr : List AV) : Option (List AV) :=
  bo (f_s_l3Set_io v4 v0 v1 v2) (0, [], 0, 0) fun r7 =>
  some (setAll [(0, .p (.sl r7.2.1)), (1, .p (.sc (Sc.n .i64 r7.2.2.1))), (2, .p (.sc (Sc.n .i64 r7.2.2.2))), (3, .p (.sl v4)), (26, .p (.gr v4)), (27, .p (.pt 0 3)), (28, .p (.gr v4)), (29, .p (.sc (Sc.n .i64 r7.1)))] fr)
def f_s_l5Group_io_sg4_63 (v0 : List Sc) (v1 : Int) (v2 : Int) (v3 : List Sc) (v4 : List Sc) (fr : List AV) : Option (List AV) :=
  bo (f_s_l3Set_io v4 v0 v1 v2) (0, [], 0, 0) fun r8 =>
  some (setAll [(0, .p (.sl r8.2.1)), (1, .p (.sc (Sc.n .i64 r8.2.2.1))), (2, .p (.sc (Sc.n .i64 r8.2.2.2))), (3, .p (.sl v4)), (9, .p (.sc (Sc.n .i64 r8.1))), (26, .p (.gr v4)), (27, .p (.pt 0 3)), (28, .p (.gr v4)), (29, .p (.sc (Sc.n .i64 r8.1)))] fr)
def f_s_l5Group_io_Eg4 (v0 : List Sc) (v1 : Int) (v2 : Int) (v3 : List Sc) (v4 : List Sc) (fr : List AV) : List (Option (List AV)) := [f_s_l5Group_io_sg4_1 v0 v1 v2 v3 v4 fr, f_s_l5Group_io_sg4_2 v0 v1 v2 v3 v4 fr, f_s_l5Group_io_sg4_4 v0 v1 v2 v3 v4 fr, f_s_l5Group_io_sg4_3 v0 v1 v2 v3 v4 fr, f_s_l5Group_io_sg4_5 v0 v1 v2 v3 v4 fr, f_s_l5Group_io_sg4_3 v0 v1 v2 v3 v4 fr, f_s_l5Group_io_sg4_6 v0 v1 v2 v3 v4 fr, f_s_l5Group_io_sg4_5 v0 v1 v2 v3 v4 fr, f_s_l5Group_io_sg4_6 v0 v1 v2 v3 v4 fr, f_s_l5Group_io_sg4_7 v0 v1 v2 v3 v4 fr, f_s_l5Group_io_sg4_7 v0 v1 v2 v3 v4 fr, f_s_l5Group_io_sg4_7 v0 v1 v2 v3 v4 fr, f_s_l5Group_io_sg4_14 v0 v1 v2 v3 v4 fr, f_s_l5Group_io_sg4_15 v0 v1 v2 v3 v4 fr, f_s_l5Group_io_sg4_15 v0 v1 v2 v3 v4 fr, f_s_l5Group_io_sg4_31 v0 v1 v2 v3 v4 fr, f_s_l5Group_io_sg4_63 v0 v1 v2 v3 v4 fr]
theorem f_s_l5Group_io_dLg4 (v0 : List Sc) (v1 : Int) (v2 : Int) (v3 : List Sc) (v4 : List Sc) : edgeL E0 f_s_l5Group_io_M H0 f_s_l5Group_io_F (opsAt (bodyOf Try.f70 100004)) f_s_l5Group_io_Dg4 (f_s_l5Group_io_frg4 v0 v1 v2 v3 v4) = f_s_l5Group_io_Eg4 v0 v1 v2 v3 v4 (f_s_l5Group_io_frg4 v0 v1 v2 v3 v4) := by kernel_rfl
theorem f_s_l5Group_io_dRg4 (v0 : List Sc) (v1 : Int) (v2 : Int) (v3 : List Sc) (v4 : List Sc) : edgeR E0 f_s_l5Group_io_M H0 f_s_l5Group_io_F (opsAt (bodyOf Try.f70 100004)) f_s_l5Group_io_Dg4 (f_s_l5Group_io_frg4 v0 v1 v2 v3 v4) = f_s_l5Group_io_Eg4 v0 v1 v2 v3 v4 (f_s_l5Group_io_frg4 v0 v1 v2 v3 v4) := by kernel_rfl
theorem f_s_l5Group_io_dg4 (v0 : List Sc) (v1 : Int) (v2 : Int) (v3 : List Sc) (v4 : List Sc) : edgeL E0 f_s_l5Group_io_M H0 f_s_l5Group_io_F (opsAt (bodyOf Try.f70 100004)) f_s_l5Group_io_Dg4 (f_s_l5Group_io_frg4 v0 v1 v2 v3 v4) = edgeR E0 f_s_l5Group_io_M H0 f_s_l5Group_io_F (opsAt (bodyOf Try.f70 100004)) f_s_l5Group_io_Dg4 (f_s_l5Group_io_frg4 v0 v1 v2 v3 v4) := (f_s_l5Group_io_dLg4 v0 v1 v2 v3 v4).trans (f_s_l5Group_io_dRg4 v0 v1 v2 v3 v4).symm
theorem f_s_l5Group_io_eg4 (v0 : List Sc) (v1 : Int) (v2 : Int) (v3 : List Sc) (v4 : List Sc) : goL E0 f_s_l5Group_io_M H0 f_s_l5Group_io_F (opsAt (bodyOf Try.f70 100004)) (Array.replicate (opsAt (bodyOf Try.f70 100004)).size true) (opsAt (bodyOf Try.f70 100004)).toList 0 (f_s_l5Group_io_frg4 v0 v1 v2 v3 v4) (fun s => some (X.norm, clear (klOf f_s_l5Group_io_F 100004).2.1 s)) = f_s_l5Group_io_g4_k v0 v1 v2 v3 v4 (fun e => some (f_s_l5Group_io_xg4 v0 v1 v2 v3 v4 e)) := by kernel_rfl
theorem f_s_l5Group_io_lg4 (v0 : List Sc) (v1 : Int) (v2 : Int) (v3 : List Sc) (v4 : List Sc) (r : List Sc × Int × Int × Int) (h : f_s_l5Group_io_g4 v0 v1 v2 v3 v4 = some r) : LS Try.prog f_s_l5Group_io_F (bodyOf Try.f70 100004) (f_s_l5Group_io_frg4 v0 v1 v2 v3 v4) (f_s_l5Group_io_xg4 v0 v1 v2 v3 v4 r) :=
  region_true (S := Unit) (id := 4) (G := fun _ => f_s_l5Group_io_g4 v0 v1 v2 v3 v4) (Gk := fun _ k => f_s_l5Group_io_g4_k v0 v1 v2 v3 v4 k) (fr := fun _ => f_s_l5Group_io_frg4 v0 v1 v2 v3 v4) (f1 := fun e => f_s_l5Group_io_xg4 v0 v1 v2 v3 v4 e) E0ok f_s_l5Group_io_Mt f_s_l5Group_io_bg4 f_s_l5Group_io_cg4 (fun _ => f_s_l5Group_io_dg4 v0 v1 v2 v3 v4) (fun _ => rfl) (fun _ => f_s_l5Group_io_eg4 v0 v1 v2 v3 v4) (fun _ k => f_s_l5Group_io_pg4 v0 v1 v2 v3 v4 k) () r h
def f_s_l5Group_io_tg4 (σ : List AV) : Option (Bool × Bool × (X × List AV) × (X × List AV)) := match dec f_s_l5Group_io_hg4 σ with
  | some [.l v0, .i v1, .i v2, .l v3, .l v4] => some ((f_s_l5Group_io_g4 v0 v1 v2 v3 v4).isSome, true, f_s_l5Group_io_xg4 v0 v1 v2 v3 v4 ((f_s_l5Group_io_g4 v0 v1 v2 v3 v4).getD ([], 0, 0, 0)), (.ret, []))
  | _ => none
theorem f_s_l5Group_io_ttg4 : TTrue Try.prog f_s_l5Group_io_F Try.f70 100004 f_s_l5Group_io_tg4 := by
  intro σ p r r' h
  unfold f_s_l5Group_io_tg4 at h
  split at h
  · rename_i hd
    rw [← dec_enc hd]
    exact rowR (f_s_l5Group_io_lg4 _ _ _ _ _) h
  · cases h
def f_s_l5Group_io_hg5 : List Sh := [.p .sl, .p (.int .i64), .p (.int .i64), .p .sl, .fr 3, .u, .p (.pt 0 3), .u, .p (.pt 3 1), .u, .p (.pt 4 1), .p .sl, .u, .u, .u, .u, .u, .u, .u, .u, .u, .u, .u, .u, .u, .u, .u, .u, .u, .u, .u, .u, .u, .u, .u, .u, .u, .u]
def f_s_l5Group_io_frg5 (v0 : List Sc) (v1 : Int) (v2 : Int) (v3 : List Sc) (v4 : List Sc) (t5 : List Sc) : List AV := enc f_s_l5Group_io_hg5 [.l v0, .i v1, .i v2, .l v3, .l v4, .l t5]
def f_s_l5Group_io_xg5 (v0 : List Sc) (v1 : Int) (v2 : Int) (v3 : List Sc) (v4 : List Sc) (t5 : List Sc) (e : List Sc × Int × Int × Int) : X × List AV := (.norm, enc [.p .sl, .p (.int .i64), .p (.int .i64), .p .sl, .u, .u, .u, .u, .p (.pt 3 1), .p (.int .i64), .u, .u, .u, .u, .u, .u, .u, .u, .u, .u, .u, .u, .u, .u, .u, .u, .u, .u, .u, .u, .u, .u, .u, .u, .u, .u, .u, .u] [.l e.1, .i e.2.1, .i e.2.2.1, .l v4, .i e.2.2.2])
theorem f_s_l5Group_io_pg5 {R : Type} (v0 : List Sc) (v1 : Int) (v2 : Int) (v3 : List Sc) (v4 : List Sc) (t5 : List Sc) (kA : List Sc × Int × Int × Int → Option R) : f_s_l5Group_io_g5_k v0 v1 v2 v3 v4 t5 kA = (f_s_l5Group_io_g5 v0 v1 v2 v3 v4 t5).bind kA := by
  simp only [f_s_l5Group_io_g5_k, f_s_l5Group_io_g5, brB, boB, someB, noneB]
theorem f_s_l5Group_io_bg5 : bodyOf Try.f70 100005 = .region 5 (opsAt (bodyOf Try.f70 100005)) true := by kernel_rfl
def f_s_l5Group_io_Dg5 : List (Array Bool) := [#[false, false, false, false, false, false, false, false, false, false], #[true, false, false, false, false, false, false, false, false, false], #[false, true, false, false, false, false, false, false, false, false], #[false, false, true, false, false, false, false, false, false, false], #[false, false, false, true, false, false, false, false, false, false], #[true, true, false, false, false, false, false, false, false, false], #[true, false, true, false, false, false, false, false, false, false], #[true, false, false, true, false, false, false, false, false, false], #[false, true, true, false, false, false, false, false, false, false], #[false, true, false, true, false, false, false, false, false, false], #[false, false, true, true, false, false, false, false, false, false], #[false, false, false, true, true, false, false, false, false, false], #[true, true, true, false, false, false, false, false, false, false], #[true, true, false, true, false, false, false, false, false, false], #[true, false, true, true, false, false, false, false, false, false], #[true, false, false, true, true, false, false, false, false, false], #[false, true, true, true, false, false, false, false, false, false], #[false, true, false, true, true, false, false, false, false, false], #[false, false, true, true, true, false, false, false, false, false], #[true, true, true, true, false, false, false, false, false, false], #[true, true, false, true, true, false, false, false, false, false], #[true, false, true, true, true, false, false, false, false, false], #[false, true, true, true, true, false, false, false, false, false], #[false, false, true, true, true, true, false, false, false, false], #[true, true, true, true, true, false, false, false, false, false], #[true, false, true, true, true, true, false, false, false, false], #[false, true, true, true, true, true, false, false, false, false], #[true, true, true, true, true, true, false, false, false, false], #[true, false, true, true, true, true, false, false, true, false], #[false, true, true, true, true, true, true, false, false, false], #[true, true, true, true, true, true, true, false, false, false], #[true, true, true, true, true, true, false, false, true, false], #[false, true, true, true, true, true, true, true, false, false], #[true, true, true, true, true, true, true, true, false, false], #[true, true, true, true, true, true, true, false, true, false], #[true, true, true, true, true, true, true, true, true, false], #[true, true, true, true, true, true, true, true, true, true]]
theorem f_s_l5Group_io_cg5 : closedB (opsAt (bodyOf Try.f70 100005)) f_s_l5Group_io_Dg5 = true := by kernel_rfl
def f_s_l5Group_io_sg5_0 (v0 : List Sc) (v1 : Int) (v2 : Int) (v3 : List Sc) (v4 : List Sc) (t5 : List Sc) (fr : List AV) : Option (List AV) :=
  some (setAll [] fr)
def f_s_l5Group_io_sg5_1 (v0 : List Sc) (v1 : Int) (v2 : Int) (v3 : List Sc) (v4 : List Sc) (t5 : List Sc) (fr : List AV) : Option (List AV) :=
  some (setAll [(30, .p (.gr v4))] fr)
def f_s_l5Group_io_sg5_2 (v0 : List Sc) (v1 : Int) (v2 : Int) (v3 : List Sc) (v4 : List Sc) (t5 : List Sc) (fr : List AV) : Option (List AV) :=
  some (setAll [(31, .p (.sl t5))] fr)
def f_s_l5Group_io_sg5_4 (v0 : List Sc) (v1 : Int) (v2 : Int) (v3 : List Sc) (v4 : List Sc) (t5 : List Sc) (fr : List AV) : Option (List AV) :=
  some (setAll [(32, .p (.pt 0 3))] fr)
def f_s_l5Group_io_sg5_8 (v0 : List Sc) (v1 : Int) (v2 : Int) (v3 : List Sc) (v4 : List Sc) (t5 : List Sc) (fr : List AV) : Option (List AV) :=
  some (setAll [(33, .p (.sl t5))] fr)
def f_s_l5Group_io_sg5_3 (v0 : List Sc) (v1 : Int) (v2 : Int) (v3 : List Sc) (v4 : List Sc) (t5 : List Sc) (fr : List AV) : Option (List AV) :=
  some (setAll [(30, .p (.gr v4)), (31, .p (.sl t5))] fr)
def f_s_l5Group_io_sg5_5 (v0 : List Sc) (v1 : Int) (v2 : Int) (v3 : List Sc) (v4 : List Sc) (t5 : List Sc) (fr : List AV) : Option (List AV) :=
  some (setAll [(30, .p (.gr v4)), (32, .p (.pt 0 3))] fr)
def f_s_l5Group_io_sg5_9 (v0 : List Sc) (v1 : Int) (v2 : Int) (v3 : List Sc) (v4 : List Sc) (t5 : List Sc) (fr : List AV) : Option (List AV) :=
  some (setAll [(30, .p (.gr v4)), (33, .p (.sl t5))] fr)
def f_s_l5Group_io_sg5_6 (v0 : List Sc) (v1 : Int) (v2 : Int) (v3 : List Sc) (v4 : List Sc) (t5 : List Sc) (fr : List AV) : Option (List AV) :=
  some (setAll [(31, .p (.sl t5)), (32, .p (.pt 0 3))] fr)
def f_s_l5Group_io_sg5_10 (v0 : List Sc) (v1 : Int) (v2 : Int) (v3 : List Sc) (v4 : List Sc) (t5 : List Sc) (fr : List AV) : Option (List AV) :=
  some (setAll [(31, .p (.sl t5)), (33, .p (.sl t5))] fr)
def f_s_l5Group_io_sg5_12 (v0 : List Sc) (v1 : Int) (v2 : Int) (v3 : List Sc) (v4 : List Sc) (t5 : List Sc) (fr : List AV) : Option (List AV) :=
  some (setAll [(32, .p (.pt 0 3)), (33, .p (.sl t5))] fr)
def f_s_l5Group_io_sg5_24 (v0 : List Sc) (v1 : Int) (v2 : Int) (v3 : List Sc) (v4 : List Sc) (t5 : List Sc) (fr : List AV) : Option (List AV) :=
  some (setAll [(33, .p (.sl t5)), (34, .p (.sc (Sc.n .i64 (t5.length : Int))))] fr)
def f_s_l5Group_io_sg5_7 (v0 : List Sc) (v1 : Int) (v2 : Int) (v3 : List Sc) (v4 : List Sc) (t5 : List Sc) (fr : List AV) : Option (List AV) :=
  some (setAll [(30, .p (.gr v4)), (31, .p (.sl t5)), (32, .p (.pt 0 3))] fr)
def f_s_l5Group_io_sg5_11 (v0 : List Sc) (v1 : Int) (v2 : Int) (v3 : List Sc) (v4 : List Sc) (t5 : List Sc) (fr : List AV) : Option (List AV) :=
  some (setAll [(30, .p (.gr v4)), (31, .p (.sl t5)), (33, .p (.sl t5))] fr)
def f_s_l5Group_io_sg5_13 (v0 : List Sc) (v1 : Int) (v2 : Int) (v3 : List Sc) (v4 : List Sc) (t5 : List Sc) (fr : List AV) : Option (List AV) :=
  some (setAll [(30, .p (.gr v4)), (32, .p (.pt 0 3)), (33, .p (.sl t5))] fr)
def f_s_l5Group_io_sg5_25 (v0 : List Sc) (v1 : Int) (v2 : Int) (v3 : List Sc) (v4 : List Sc) (t5 : List Sc) (fr : List AV) : Option (List AV) :=
  some (setAll [(30, .p (.gr v4)), (33, .p (.sl t5)), (34, .p (.sc (Sc.n .i64 (t5.length : Int))))] fr)
def f_s_l5Group_io_sg5_14 (v0 : List Sc) (v1 : Int) (v2 : Int) (v3 : List Sc) (v4 : List Sc) (t5 : List Sc) (fr : List AV) : Option (List AV) :=
  some (setAll [(31, .p (.sl t5)), (32, .p (.pt 0 3)), (33, .p (.sl t5))] fr)
def f_s_l5Group_io_sg5_26 (v0 : List Sc) (v1 : Int) (v2 : Int) (v3 : List Sc) (v4 : List Sc) (t5 : List Sc) (fr : List AV) : Option (List AV) :=
  some (setAll [(31, .p (.sl t5)), (33, .p (.sl t5)), (34, .p (.sc (Sc.n .i64 (t5.length : Int))))] fr)
def f_s_l5Group_io_sg5_28 (v0 : List Sc) (v1 : Int) (v2 : Int) (v3 : List Sc) (v4 : List Sc) (t5 : List Sc) (fr : List AV) : Option (List AV) :=
  some (setAll [(32, .p (.pt 0 3)), (33, .p (.sl t5)), (34, .p (.sc (Sc.n .i64 (t5.length : Int))))] fr)
def f_s_l5Group_io_sg5_15 (v0 : List Sc) (v1 : Int) (v2 : Int) (v3 : List Sc) (v4 : List Sc) (t5 : List Sc) (fr : List AV) : Option (List AV) :=
  some (setAll [(30, .p (.gr v4)), (31, .p (.sl t5)), (32, .p (.pt 0 3)), (33, .p (.sl t5))] fr)
def f_s_l5Group_io_sg5_27 (v0 : List Sc) (v1 : Int) (v2 : Int) (v3 : List Sc) (v4 : List Sc) (t5 : List Sc) (fr : List AV) : Option (List AV) :=
  some (setAll [(30, .p (.gr v4)), (31, .p (.sl t5)), (33, .p (.sl t5)), (34, .p (.sc (Sc.n .i64 (t5.length : Int))))] fr)
def f_s_l5Group_io_sg5_29 (v0 : List Sc) (v1 : Int) (v2 : Int) (v3 : List Sc) (v4 : List Sc) (t5 : List Sc) (fr : List AV) : Option (List AV) :=
  some (setAll [(30, .p (.gr v4)), (32, .p (.pt 0 3)), (33, .p (.sl t5)), (34, .p (.sc (Sc.n .i64 (t5.length : Int))))] fr)
def f_s_l5Group_io_sg5_30 (v0 : List Sc) (v1 : Int) (v2 : Int) (v3 : List Sc) (v4 : List Sc) (t5 : List Sc) (fr : List AV) : Option (List AV) :=
  some (setAll [(31, .p (.sl t5)), (32, .p (.pt 0 3)), (33, .p (.sl t5)), (34, .p (.sc (Sc.n .i64 (t5.length : Int))))] fr)
def f_s_l5Group_io_sg5_60 (v0 : List Sc) (v1 : Int) (v2 : Int) (v3 : List Sc) (v4 : List Sc) (t5 : List Sc) (fr : List AV) : Option (List AV) :=
  bo (f_s_l1Below_io (t5.length : Int) v0 v1 v2) (0, [], 0, 0) fun r11 =>
  some (setAll [(0, .p (.sl r11.2.1)), (1, .p (.sc (Sc.n .i64 r11.2.2.1))), (2, .p (.sc (Sc.n .i64 r11.2.2.2))), (32, .p (.pt 0 3)), (33, .p (.sl t5)), (34, .p (.sc (Sc.n .i64 (t5.length : Int)))), (35, .p (.sc (Sc.n .i64 r11.1)))] fr)
def f_s_l5Group_io_sg5_31 (v0 : List Sc) (v1 : Int) (v2 : Int) (v3 : List Sc) (v4 : List Sc) (t5 : List Sc) (fr : List AV) : Option (List AV) :=
  some (setAll [(30, .p (.gr v4)), (31, .p (.sl t5)), (32, .p (.pt 0 3)), (33, .p (.sl t5)), (34, .p (.sc (Sc.n .i64 (t5.length : Int))))] fr)
def f_s_l5Group_io_sg5_61 (v0 : List Sc) (v1 : Int) (v2 : Int) (v3 : List Sc) (v4 : List Sc) (t5 : List Sc) (fr : List AV) : Option (List AV) :=
  bo (f_s_l1Below_io (t5.length : Int) v0 v1 v2) (0, [], 0, 0) fun r12 =>
  some (setAll [(0, .p (.sl r12.2.1)), (1, .p (.sc (Sc.n .i64 r12.2.2.1))), (2, .p (.sc (Sc.n .i64 r12.2.2.2))), (30, .p (.gr v4)), (32, .p (.pt 0 3)), (33, .p (.sl t5)), (34, .p (.sc (Sc.n .i64 (t5.length : Int)))), (35, .p (.sc (Sc.n .i64 r12.1)))] fr)
def f_s_l5Group_io_sg5_62 (v0 : List Sc) (v1 : Int) (v2 : Int) (v3 : List Sc) (v4 : List Sc) (t5 : List Sc) (fr : List AV) : Option (List AV) :=
  bo (f_s_l1Below_io (t5.length : Int) v0 v1 v2) (0, [], 0, 0) fun r13 =>
  some (setAll [(0, .p (.sl r13.2.1)), (1, .p (.sc (Sc.n .i64 r13.2.2.1))), (2, .p (.sc (Sc.n .i64 r13.2.2.2))), (31, .p (.sl t5)), (32, .p (.pt 0 3)), (33, .p (.sl t5)), (34, .p (.sc (Sc.n .i64 (t5.length : Int)))), (35, .p (.sc (Sc.n .i64 r13.1)))] fr)
def f_s_l5Group_io_sg5_63 (v0 : List Sc) (v1 : Int) (v2 : Int) (v3 : List Sc) (v4 : List Sc) (t5 : List Sc) (fr : List AV) : Option (List AV) :=
  bo (f_s_l1Below_io (t5.length : Int) v0 v1 v2) (0, [], 0, 0) fun r14 =>
  some (setAll [(0, .p (.sl r14.2.1)), (1, .p (.sc (Sc.n .i64 r14.2.2.1))), (2, .p (.sc (Sc.n .i64 r14.2.2.2))), (30, .p (.gr v4)), (31, .p (.sl t5)), (32, .p (.pt 0 3)), (33, .p (.sl t5)), (34, .p (.sc (Sc.n .i64 (t5.length : Int)))), (35, .p (.sc (Sc.n .i64 r14.1)))] fr)
def f_s_l5Group_io_sg5_317 (v0 : List Sc) (v1 : Int) (v2 : Int) (v3 : List Sc) (v4 : List Sc) (t5 : List Sc) (fr : List AV) : Option (List AV) :=
  bo (f_s_l1Below_io (t5.length : Int) v0 v1 v2) (0, [], 0, 0) fun r15 =>
  some (setAll [(0, .p (.sl r15.2.1)), (1, .p (.sc (Sc.n .i64 r15.2.2.1))), (2, .p (.sc (Sc.n .i64 r15.2.2.2))), (3, .p (.sl v4)), (30, .p (.gr v4)), (32, .p (.pt 0 3)), (33, .p (.sl t5)), (34, .p (.sc (Sc.n .i64 (t5.length : Int)))), (35, .p (.sc (Sc.n .i64 r15.1)))] fr)
def f_s_l5Group_io_sg5_126 (v0 : List Sc) (v1 : Int) (v2 : Int) (v3 : List Sc) (v4 : List Sc) (t5 : List Sc) (fr : List AV) : Option (List AV) :=
  bo (f_s_l1Below_io (t5.length : Int) v0 v1 v2) (0, [], 0, 0) fun r16 =>
  br (okAt t5 r16.1)
    (some (setAll [(0, .p (.sl r16.2.1)), (1, .p (.sc (Sc.n .i64 r16.2.2.1))), (2, .p (.sc (Sc.n .i64 r16.2.2.2))), (31, .p (.sl t5)), (32, .p (.pt 0 3)), (33, .p (.sl t5)), (34, .p (.sc (Sc.n .i64 (t5.length : Int)))), (35, .p (.sc (Sc.n .i64 r16.1))), (36, .p (.ev (Sc.n .i64 (atI t5 r16.1))))] fr))
    none
def f_s_l5Group_io_sg5_127 (v0 : List Sc) (v1 : Int) (v2 : Int) (v3 : List Sc) (v4 : List Sc) (t5 : List Sc) (fr : List AV) : Option (List AV) :=
  bo (f_s_l1Below_io (t5.length : Int) v0 v1 v2) (0, [], 0, 0) fun r17 =>
  br (okAt t5 r17.1)
    (some (setAll [(0, .p (.sl r17.2.1)), (1, .p (.sc (Sc.n .i64 r17.2.2.1))), (2, .p (.sc (Sc.n .i64 r17.2.2.2))), (30, .p (.gr v4)), (31, .p (.sl t5)), (32, .p (.pt 0 3)), (33, .p (.sl t5)), (34, .p (.sc (Sc.n .i64 (t5.length : Int)))), (35, .p (.sc (Sc.n .i64 r17.1))), (36, .p (.ev (Sc.n .i64 (atI t5 r17.1))))] fr))
    none
def f_s_l5Group_io_sg5_319 (v0 : List Sc) (v1 : Int) (v2 : Int) (v3 : List Sc) (v4 : List Sc) (t5 : List Sc) (fr : List AV) : Option (List AV) :=
  bo (f_s_l1Below_io (t5.length : Int) v0 v1 v2) (0, [], 0, 0) fun r18 =>
  some (setAll [(0, .p (.sl r18.2.1)), (1, .p (.sc (Sc.n .i64 r18.2.2.1))), (2, .p (.sc (Sc.n .i64 r18.2.2.2))), (3, .p (.sl v4)), (30, .p (.gr v4)), (31, .p (.sl t5)), (32, .p (.pt 0 3)), (33, .p (.sl t5)), (34, .p (.sc (Sc.n .i64 (t5.length : Int)))), (35, .p (.sc (Sc.n .i64 r18.1)))] fr)
def f_s_l5Group_io_sg5_254 (v0 : List Sc) (v1 : Int) (v2 : Int) (v3 : List Sc) (v4 : List Sc) (t5 : List Sc) (fr : List AV) : Option (List AV) :=
  bo (f_s_l1Below_io (t5.length : Int) v0 v1 v2) (0, [], 0, 0) fun r19 =>
  br (okAt t5 r19.1)
    (some (setAll [(0, .p (.sl r19.2.1)), (1, .p (.sc (Sc.n .i64 r19.2.2.1))), (2, .p (.sc (Sc.n .i64 r19.2.2.2))), (31, .p (.sl t5)), (32, .p (.pt 0 3)), (33, .p (.sl t5)), (34, .p (.sc (Sc.n .i64 (t5.length : Int)))), (35, .p (.sc (Sc.n .i64 r19.1))), (36, .p (.ev (Sc.n .i64 (atI t5 r19.1)))), (37, .p (.sc (Sc.n .i64 (atI t5 r19.1))))] fr))
    none
def f_s_l5Group_io_sg5_255 (v0 : List Sc) (v1 : Int) (v2 : Int) (v3 : List Sc) (v4 : List Sc) (t5 : List Sc) (fr : List AV) : Option (List AV) :=
  bo (f_s_l1Below_io (t5.length : Int) v0 v1 v2) (0, [], 0, 0) fun r20 =>
  br (okAt t5 r20.1)
    (some (setAll [(0, .p (.sl r20.2.1)), (1, .p (.sc (Sc.n .i64 r20.2.2.1))), (2, .p (.sc (Sc.n .i64 r20.2.2.2))), (30, .p (.gr v4)), (31, .p (.sl t5)), (32, .p (.pt 0 3)), (33, .p (.sl t5)), (34, .p (.sc (Sc.n .i64 (t5.length : Int)))), (35, .p (.sc (Sc.n .i64 r20.1))), (36, .p (.ev (Sc.n .i64 (atI t5 r20.1)))), (37, .p (.sc (Sc.n .i64 (atI t5 r20.1))))] fr))
    none
def f_s_l5Group_io_sg5_383 (v0 : List Sc) (v1 : Int) (v2 : Int) (v3 : List Sc) (v4 : List Sc) (t5 : List Sc) (fr : List AV) : Option (List AV) :=
  bo (f_s_l1Below_io (t5.length : Int) v0 v1 v2) (0, [], 0, 0) fun r21 =>
  br (okAt t5 r21.1)
    (some (setAll [(0, .p (.sl r21.2.1)), (1, .p (.sc (Sc.n .i64 r21.2.2.1))), (2, .p (.sc (Sc.n .i64 r21.2.2.2))), (3, .p (.sl v4)), (30, .p (.gr v4)), (31, .p (.sl t5)), (32, .p (.pt 0 3)), (33, .p (.sl t5)), (34, .p (.sc (Sc.n .i64 (t5.length : Int)))), (35, .p (.sc (Sc.n .i64 r21.1))), (36, .p (.ev (Sc.n .i64 (atI t5 r21.1))))] fr))
    none
def f_s_l5Group_io_sg5_511 (v0 : List Sc) (v1 : Int) (v2 : Int) (v3 : List Sc) (v4 : List Sc) (t5 : List Sc) (fr : List AV) : Option (List AV) :=
  bo (f_s_l1Below_io (t5.length : Int) v0 v1 v2) (0, [], 0, 0) fun r22 =>
  br (okAt t5 r22.1)
    (some (setAll [(0, .p (.sl r22.2.1)), (1, .p (.sc (Sc.n .i64 r22.2.2.1))), (2, .p (.sc (Sc.n .i64 r22.2.2.2))), (3, .p (.sl v4)), (30, .p (.gr v4)), (31, .p (.sl t5)), (32, .p (.pt 0 3)), (33, .p (.sl t5)), (34, .p (.sc (Sc.n .i64 (t5.length : Int)))), (35, .p (.sc (Sc.n .i64 r22.1))), (36, .p (.ev (Sc.n .i64 (atI t5 r22.1)))), (37, .p (.sc (Sc.n .i64 (atI t5 r22.1))))] fr))
    none
def f_s_l5Group_io_sg5_1023 (v0 : List Sc) (v1 : Int) (v2 : Int) (v3 : List Sc) (v4 : List Sc) (t5 : List Sc) (fr : List AV) : Option (List AV) :=
  bo (f_s_l1Below_io (t5.length : Int) v0 v1 v2) (0, [], 0, 0) fun r23 =>
  br (okAt t5 r23.1)
    (some (setAll [(0, .p (.sl r23.2.1)), (1, .p (.sc (Sc.n .i64 r23.2.2.1))), (2, .p (.sc (Sc.n .i64 r23.2.2.2))), (3, .p (.sl v4)), (9, .p (.sc (Sc.n .i64 (atI t5 r23.1)))), (30, .p (.gr v4)), (31, .p (.sl t5)), (32, .p (.pt 0 3)), (33, .p (.sl t5)), (34, .p (.sc (Sc.n .i64 (t5.length : Int)))), (35, .p (.sc (Sc.n .i64 r23.1))), (36, .p (.ev (Sc.n .i64 (atI t5 r23.1)))), (37, .p (.sc (Sc.n .i64 (atI t5 r23.1))))] fr))
    none
def f_s_l5Group_io_Eg5 (v0 : List Sc) (v1 : Int) (v2 : Int) (v3 : List Sc) (v4 : List Sc) (t5 : List Sc) (fr : List AV) : List (Option (List AV)) := [f_s_l5Group_io_sg5_1 v0 v1 v2 v3 v4 t5 fr, f_s_l5Group_io_sg5_2 v0 v1 v2 v3 v4 t5 fr, f_s_l5Group_io_sg5_4 v0 v1 v2 v3 v4 t5 fr, f_s_l5Group_io_sg5_8 v0 v1 v2 v3 v4 t5 fr, f_s_l5Group_io_sg5_3 v0 v1 v2 v3 v4 t5 fr, f_s_l5Group_io_sg5_5 v0 v1 v2 v3 v4 t5 fr, f_s_l5Group_io_sg5_9 v0 v1 v2 v3 v4 t5 fr, f_s_l5Group_io_sg5_3 v0 v1 v2 v3 v4 t5 fr, f_s_l5Group_io_sg5_6 v0 v1 v2 v3 v4 t5 fr, f_s_l5Group_io_sg5_10 v0 v1 v2 v3 v4 t5 fr, f_s_l5Group_io_sg5_5 v0 v1 v2 v3 v4 t5 fr, f_s_l5Group_io_sg5_6 v0 v1 v2 v3 v4 t5 fr, f_s_l5Group_io_sg5_12 v0 v1 v2 v3 v4 t5 fr, f_s_l5Group_io_sg5_9 v0 v1 v2 v3 v4 t5 fr, f_s_l5Group_io_sg5_10 v0 v1 v2 v3 v4 t5 fr, f_s_l5Group_io_sg5_12 v0 v1 v2 v3 v4 t5 fr, f_s_l5Group_io_sg5_24 v0 v1 v2 v3 v4 t5 fr, f_s_l5Group_io_sg5_7 v0 v1 v2 v3 v4 t5 fr, f_s_l5Group_io_sg5_11 v0 v1 v2 v3 v4 t5 fr, f_s_l5Group_io_sg5_7 v0 v1 v2 v3 v4 t5 fr, f_s_l5Group_io_sg5_13 v0 v1 v2 v3 v4 t5 fr, f_s_l5Group_io_sg5_11 v0 v1 v2 v3 v4 t5 fr, f_s_l5Group_io_sg5_13 v0 v1 v2 v3 v4 t5 fr, f_s_l5Group_io_sg5_25 v0 v1 v2 v3 v4 t5 fr, f_s_l5Group_io_sg5_7 v0 v1 v2 v3 v4 t5 fr, f_s_l5Group_io_sg5_14 v0 v1 v2 v3 v4 t5 fr, f_s_l5Group_io_sg5_11 v0 v1 v2 v3 v4 t5 fr, f_s_l5Group_io_sg5_14 v0 v1 v2 v3 v4 t5 fr, f_s_l5Group_io_sg5_26 v0 v1 v2 v3 v4 t5 fr, f_s_l5Group_io_sg5_13 v0 v1 v2 v3 v4 t5 fr, f_s_l5Group_io_sg5_14 v0 v1 v2 v3 v4 t5 fr, f_s_l5Group_io_sg5_28 v0 v1 v2 v3 v4 t5 fr, f_s_l5Group_io_sg5_25 v0 v1 v2 v3 v4 t5 fr, f_s_l5Group_io_sg5_26 v0 v1 v2 v3 v4 t5 fr, f_s_l5Group_io_sg5_28 v0 v1 v2 v3 v4 t5 fr, f_s_l5Group_io_sg5_15 v0 v1 v2 v3 v4 t5 fr, f_s_l5Group_io_sg5_15 v0 v1 v2 v3 v4 t5 fr, f_s_l5Group_io_sg5_27 v0 v1 v2 v3 v4 t5 fr, f_s_l5Group_io_sg5_15 v0 v1 v2 v3 v4 t5 fr, f_s_l5Group_io_sg5_29 v0 v1 v2 v3 v4 t5 fr, f_s_l5Group_io_sg5_27 v0 v1 v2 v3 v4 t5 fr, f_s_l5Group_io_sg5_29 v0 v1 v2 v3 v4 t5 fr, f_s_l5Group_io_sg5_15 v0 v1 v2 v3 v4 t5 fr, f_s_l5Group_io_sg5_30 v0 v1 v2 v3 v4 t5 fr, f_s_l5Group_io_sg5_27 v0 v1 v2 v3 v4 t5 fr, f_s_l5Group_io_sg5_30 v0 v1 v2 v3 v4 t5 fr, f_s_l5Group_io_sg5_29 v0 v1 v2 v3 v4 t5 fr, f_s_l5Group_io_sg5_30 v0 v1 v2 v3 v4 t5 fr, f_s_l5Group_io_sg5_60 v0 v1 v2 v3 v4 t5 fr, f_s_l5Group_io_sg5_31 v0 v1 v2 v3 v4 t5 fr, f_s_l5Group_io_sg5_31 v0 v1 v2 v3 v4 t5 fr, f_s_l5Group_io_sg5_31 v0 v1 v2 v3 v4 t5 fr, f_s_l5Group_io_sg5_61 v0 v1 v2 v3 v4 t5 fr, f_s_l5Group_io_sg5_31 v0 v1 v2 v3 v4 t5 fr, f_s_l5Group_io_sg5_62 v0 v1 v2 v3 v4 t5 fr, f_s_l5Group_io_sg5_61 v0 v1 v2 v3 v4 t5 fr, f_s_l5Group_io_sg5_62 v0 v1 v2 v3 v4 t5 fr, f_s_l5Group_io_sg5_63 v0 v1 v2 v3 v4 t5 fr, f_s_l5Group_io_sg5_63 v0 v1 v2 v3 v4 t5 fr, f_s_l5Group_io_sg5_317 v0 v1 v2 v3 v4 t5 fr, f_s_l5Group_io_sg5_63 v0 v1 v2 v3 v4 t5 fr, f_s_l5Group_io_sg5_126 v0 v1 v2 v3 v4 t5 fr, f_s_l5Group_io_sg5_127 v0 v1 v2 v3 v4 t5 fr, f_s_l5Group_io_sg5_319 v0 v1 v2 v3 v4 t5 fr, f_s_l5Group_io_sg5_319 v0 v1 v2 v3 v4 t5 fr, f_s_l5Group_io_sg5_127 v0 v1 v2 v3 v4 t5 fr, f_s_l5Group_io_sg5_254 v0 v1 v2 v3 v4 t5 fr, f_s_l5Group_io_sg5_255 v0 v1 v2 v3 v4 t5 fr, f_s_l5Group_io_sg5_383 v0 v1 v2 v3 v4 t5 fr, f_s_l5Group_io_sg5_383 v0 v1 v2 v3 v4 t5 fr, f_s_l5Group_io_sg5_255 v0 v1 v2 v3 v4 t5 fr, f_s_l5Group_io_sg5_511 v0 v1 v2 v3 v4 t5 fr, f_s_l5Group_io_sg5_511 v0 v1 v2 v3 v4 t5 fr, f_s_l5Group_io_sg5_1023 v0 v1 v2 v3 v4 t5 fr]
theorem f_s_l5Group_io_dLg5 (v0 : List Sc) (v1 : Int) (v2 : Int) (v3 : List Sc) (v4 : List Sc) (t5 : List Sc) : edgeL E0 f_s_l5Group_io_M H0 f_s_l5Group_io_F (opsAt (bodyOf Try.f70 100005)) f_s_l5Group_io_Dg5 (f_s_l5Group_io_frg5 v0 v1 v2 v3 v4 t5) = f_s_l5Group_io_Eg5 v0 v1 v2 v3 v4 t5 (f_s_l5Group_io_frg5 v0 v1 v2 v3 v4 t5) := by kernel_rfl
theorem f_s_l5Group_io_dRg5 (v0 : List Sc) (v1 : Int) (v2 : Int) (v3 : List Sc) (v4 : List Sc) (t5 : List Sc) : edgeR E0 f_s_l5Group_io_M H0 f_s_l5Group_io_F (opsAt (bodyOf Try.f70 100005)) f_s_l5Group_io_Dg5 (f_s_l5Group_io_frg5 v0 v1 v2 v3 v4 t5) = f_s_l5Group_io_Eg5 v0 v1 v2 v3 v4 t5 (f_s_l5Group_io_frg5 v0 v1 v2 v3 v4 t5) := by kernel_rfl
theorem f_s_l5Group_io_dg5 (v0 : List Sc) (v1 : Int) (v2 : Int) (v3 : List Sc) (v4 : List Sc) (t5 : List Sc) : edgeL E0 f_s_l5Group_io_M H0 f_s_l5Group_io_F (opsAt (bodyOf Try.f70 100005)) f_s_l5Group_io_Dg5 (f_s_l5Group_io_frg5 v0 v1 v2 v3 v4 t5) = edgeR E0 f_s_l5Group_io_M H0 f_s_l5Group_io_F (opsAt (bodyOf Try.f70 100005)) f_s_l5Group_io_Dg5 (f_s_l5Group_io_frg5 v0 v1 v2 v3 v4 t5) := (f_s_l5Group_io_dLg5 v0 v1 v2 v3 v4 t5).trans (f_s_l5Group_io_dRg5 v0 v1 v2 v3 v4 t5).symm
theorem f_s_l5Group_io_eg5 (v0 : List Sc) (v1 : Int) (v2 : Int) (v3 : List Sc) (v4 : List Sc) (t5 : List Sc) : goL E0 f_s_l5Group_io_M H0 f_s_l5Group_io_F (opsAt (bodyOf Try.f70 100005)) (Array.replicate (opsAt (bodyOf Try.f70 100005)).size true) (opsAt (bodyOf Try.f70 100005)).toList 0 (f_s_l5Group_io_frg5 v0 v1 v2 v3 v4 t5) (fun s => some (X.norm, clear (klOf f_s_l5Group_io_F 100005).2.1 s)) = f_s_l5Group_io_g5_k v0 v1 v2 v3 v4 t5 (fun e => some (f_s_l5Group_io_xg5 v0 v1 v2 v3 v4 t5 e)) := by kernel_rfl
theorem f_s_l5Group_io_lg5 (v0 : List Sc) (v1 : Int) (v2 : Int) (v3 : List Sc) (v4 : List Sc) (t5 : List Sc) (r : List Sc × Int × Int × Int) (h : f_s_l5Group_io_g5 v0 v1 v2 v3 v4 t5 = some r) : LS Try.prog f_s_l5Group_io_F (bodyOf Try.f70 100005) (f_s_l5Group_io_frg5 v0 v1 v2 v3 v4 t5) (f_s_l5Group_io_xg5 v0 v1 v2 v3 v4 t5 r) :=
  region_true (S := Unit) (id := 5) (G := fun _ => f_s_l5Group_io_g5 v0 v1 v2 v3 v4 t5) (Gk := fun _ k => f_s_l5Group_io_g5_k v0 v1 v2 v3 v4 t5 k) (fr := fun _ => f_s_l5Group_io_frg5 v0 v1 v2 v3 v4 t5) (f1 := fun e => f_s_l5Group_io_xg5 v0 v1 v2 v3 v4 t5 e) E0ok f_s_l5Group_io_Mt f_s_l5Group_io_bg5 f_s_l5Group_io_cg5 (fun _ => f_s_l5Group_io_dg5 v0 v1 v2 v3 v4 t5) (fun _ => rfl) (fun _ => f_s_l5Group_io_eg5 v0 v1 v2 v3 v4 t5) (fun _ k => f_s_l5Group_io_pg5 v0 v1 v2 v3 v4 t5 k) () r h
def f_s_l5Group_io_tg5 (σ : List AV) : Option (Bool × Bool × (X × List AV) × (X × List AV)) := match dec f_s_l5Group_io_hg5 σ with
  | some [.l v0, .i v1, .i v2, .l v3, .l v4, .l t5] => some ((f_s_l5Group_io_g5 v0 v1 v2 v3 v4 t5).isSome, true, f_s_l5Group_io_xg5 v0 v1 v2 v3 v4 t5 ((f_s_l5Group_io_g5 v0 v1 v2 v3 v4 t5).getD ([], 0, 0, 0)), (.ret, []))
  | _ => none
theorem f_s_l5Group_io_ttg5 : TTrue Try.prog f_s_l5Group_io_F Try.f70 100005 f_s_l5Group_io_tg5 := by
  intro σ p r r' h
  unfold f_s_l5Group_io_tg5 at h
  split at h
  · rename_i hd
    rw [← dec_enc hd]
    exact rowR (f_s_l5Group_io_lg5 _ _ _ _ _ _) h
  · cases h
theorem f_s_l5Group_io_p {R : Type} (h0 : List Sc) (h1 : Int) (h2 : Int) (kR : List Sc × Int × List Sc × Int × Int → Option R) : f_s_l5Group_io_k h0 h1 h2 kR = (f_s_l5Group_io_k h0 h1 h2 some).bind kR := by
  simp only [f_s_l5Group_io_k, brB, boB, someB]
theorem f_s_l5Group_io_e (h0 : List Sc) (h1 : Int) (h2 : Int) : runFn E0 f_s_l5Group_io_M H0 f_s_l5Group_io_F (asL (addL 100005 f_s_l5Group_io_tg5 (addL 100004 f_s_l5Group_io_tg4 (noL)))) Try.f70 (f_s_l5Group_io_a h0 h1 h2) (f_s_l5Group_io_i h0 h1 h2) = f_s_l5Group_io_k h0 h1 h2 (fun r => some (f_s_l5Group_io_en r)) := by kernel_rfl
theorem f_s_l5Group_io_ok (h0 : List Sc) (h1 : Int) (h2 : Int) (r : List Sc × Int × List Sc × Int × Int) (h : f_s_l5Group_io h0 h1 h2 = some r) : CS Try.prog 70 (f_s_l5Group_io_a h0 h1 h2) (f_s_l5Group_io_i h0 h1 h2) (f_s_l5Group_io_en r).1 (f_s_l5Group_io_en r).2 :=
  fn_true (Gk := fun k => f_s_l5Group_io_k h0 h1 h2 k) (en := f_s_l5Group_io_en) Try.func70 E0ok f_s_l5Group_io_Mt (addL_true f_s_l5Group_io_ttg5 (addL_true f_s_l5Group_io_ttg4 (noL_true))) f_s_l5Group_io_o (f_s_l5Group_io_e h0 h1 h2) (f_s_l5Group_io_p h0 h1 h2) h
def f_s_l5Group_io_c : CRow := fun args inh => match dec2 [.p (.pt 0 3)] [.p .sl, .p (.int .i64), .p (.int .i64)] args inh with
  | some ([], [.l h0, .i h1, .i h2]) => some ((f_s_l5Group_io h0 h1 h2).isSome, (f_s_l5Group_io_en ((f_s_l5Group_io h0 h1 h2).getD ([], 0, [], 0, 0))).1, (f_s_l5Group_io_en ((f_s_l5Group_io h0 h1 h2).getD ([], 0, [], 0, 0))).2)
  | _ => none
theorem f_s_l5Group_io_cc : CTrue Try.prog 70 f_s_l5Group_io_c := by
  intro args inh rs out h
  unfold f_s_l5Group_io_c at h
  split at h
  · rename_i hd
    obtain ⟨h1, h2⟩ := dec2_enc hd
    rw [← h1, ← h2]
    exact rowC (f_s_l5Group_io_ok _ _ _) h
  · cases h

def f_s_l5Both_F : Fi := { nv := 5, nc := 5, m := 0, vt := [(2, 0), (4, 1), (8, 2)], kl := [], sk := [], mvs := [], fz := [] }
def f_s_l5Both_a (code0 : List Sc) : List AV := enc [.p .sl] [.l code0]
def f_s_l5Both_i (code0 : List Sc) : List AV := enc [] []
def f_s_l5Both_en (r : List Sc × Int) : List AV × List AV := (enc [.p .gr, .p (.int .i64)] [.l r.1, .i r.2], enc [] [])
def f_s_l5Both_M : Calling := addC 63 f_s_l1New_c (addC 70 f_s_l5Group_io_c (noC))
theorem f_s_l5Both_Mt : CallOk Try.prog (f_s_l5Both_M) := addC_true f_s_l1New_cc (addC_true f_s_l5Group_io_cc (noC_true))
theorem f_s_l5Both_o : loopsOnce Try.f46 = true := by kernel_rfl
theorem f_s_l5Both_p {R : Type} (code0 : List Sc) (kR : List Sc × Int → Option R) : f_s_l5Both_k code0 kR = (f_s_l5Both_k code0 some).bind kR := by
  simp only [f_s_l5Both_k, boB, someB]
theorem f_s_l5Both_e (code0 : List Sc) : runFn E0 f_s_l5Both_M H0 f_s_l5Both_F (asL (noL)) Try.f46 (f_s_l5Both_a code0) (f_s_l5Both_i code0) = f_s_l5Both_k code0 (fun r => some (f_s_l5Both_en r)) := by kernel_rfl
theorem f_s_l5Both_ok (code0 : List Sc) (r : List Sc × Int) (h : f_s_l5Both code0 = some r) : CS Try.prog 46 (f_s_l5Both_a code0) (f_s_l5Both_i code0) (f_s_l5Both_en r).1 (f_s_l5Both_en r).2 :=
  fn_true (Gk := fun k => f_s_l5Both_k code0 k) (en := f_s_l5Both_en) Try.func46 E0ok f_s_l5Both_Mt (noL_true) f_s_l5Both_o (f_s_l5Both_e code0) (f_s_l5Both_p code0) h
def f_s_l5Both_c : CRow := fun args inh => match dec2 [.p .sl] [] args inh with
  | some ([.l code0], []) => some ((f_s_l5Both code0).isSome, (f_s_l5Both_en ((f_s_l5Both code0).getD ([], 0))).1, (f_s_l5Both_en ((f_s_l5Both code0).getD ([], 0))).2)
  | _ => none
theorem f_s_l5Both_cc : CTrue Try.prog 46 f_s_l5Both_c := by
  intro args inh rs out h
  unfold f_s_l5Both_c at h
  split at h
  · rename_i hd
    obtain ⟨h1, h2⟩ := dec2_enc hd
    rw [← h1, ← h2]
    exact rowC (f_s_l5Both_ok _) h
  · cases h

def f_s_DrawAnnihilatorOf_F : Fi := { nv := 2, nc := 2, m := 0, vt := [(2, 0), (4, 1)], kl := [], sk := [], mvs := [], fz := [] }
def f_s_DrawAnnihilatorOf_a (code0 : List Sc) : List AV := enc [.p .sl] [.l code0]
def f_s_DrawAnnihilatorOf_i (code0 : List Sc) : List AV := enc [] []
def f_s_DrawAnnihilatorOf_en (r : List Sc × Int) : List AV × List AV := (enc [.p .gr, .p (.int .i64)] [.l r.1, .i r.2], enc [] [])
def f_s_DrawAnnihilatorOf_M : Calling := addC 46 f_s_l5Both_c (noC)
theorem f_s_DrawAnnihilatorOf_Mt : CallOk Try.prog (f_s_DrawAnnihilatorOf_M) := addC_true f_s_l5Both_cc (noC_true)
theorem f_s_DrawAnnihilatorOf_o : loopsOnce Try.f12 = true := by kernel_rfl
theorem f_s_DrawAnnihilatorOf_p {R : Type} (code0 : List Sc) (kR : List Sc × Int → Option R) : f_s_DrawAnnihilatorOf_k code0 kR = (f_s_DrawAnnihilatorOf_k code0 some).bind kR := by
  simp only [f_s_DrawAnnihilatorOf_k, boB, someB]
theorem f_s_DrawAnnihilatorOf_e (code0 : List Sc) : runFn E0 f_s_DrawAnnihilatorOf_M H0 f_s_DrawAnnihilatorOf_F (asL (noL)) Try.f12 (f_s_DrawAnnihilatorOf_a code0) (f_s_DrawAnnihilatorOf_i code0) = f_s_DrawAnnihilatorOf_k code0 (fun r => some (f_s_DrawAnnihilatorOf_en r)) := by kernel_rfl
theorem f_s_DrawAnnihilatorOf_ok (code0 : List Sc) (r : List Sc × Int) (h : f_s_DrawAnnihilatorOf code0 = some r) : CS Try.prog 12 (f_s_DrawAnnihilatorOf_a code0) (f_s_DrawAnnihilatorOf_i code0) (f_s_DrawAnnihilatorOf_en r).1 (f_s_DrawAnnihilatorOf_en r).2 :=
  fn_true (Gk := fun k => f_s_DrawAnnihilatorOf_k code0 k) (en := f_s_DrawAnnihilatorOf_en) Try.func12 E0ok f_s_DrawAnnihilatorOf_Mt (noL_true) f_s_DrawAnnihilatorOf_o (f_s_DrawAnnihilatorOf_e code0) (f_s_DrawAnnihilatorOf_p code0) h
def f_s_DrawAnnihilatorOf_c : CRow := fun args inh => match dec2 [.p .sl] [] args inh with
  | some ([.l code0], []) => some ((f_s_DrawAnnihilatorOf code0).isSome, (f_s_DrawAnnihilatorOf_en ((f_s_DrawAnnihilatorOf code0).getD ([], 0))).1, (f_s_DrawAnnihilatorOf_en ((f_s_DrawAnnihilatorOf code0).getD ([], 0))).2)
  | _ => none
theorem f_s_DrawAnnihilatorOf_cc : CTrue Try.prog 12 f_s_DrawAnnihilatorOf_c := by
  intro args inh rs out h
  unfold f_s_DrawAnnihilatorOf_c at h
  split at h
  · rename_i hd
    obtain ⟨h1, h2⟩ := dec2_enc hd
    rw [← h1, ← h2]
    exact rowC (f_s_DrawAnnihilatorOf_ok _) h
  · cases h

def f_i_IsSet_F : Fi := { nv := 0, nc := 0, m := 0, vt := [], kl := [], sk := [], mvs := [], fz := [] }
def f_i_IsSet_a (g0 : List Sc) (a1 : Int) : List AV := enc [.p .gr, .p (.int .i64)] [.l g0, .i a1]
def f_i_IsSet_i (g0 : List Sc) (a1 : Int) : List AV := enc [] []
def f_i_IsSet_en (r : Bool) : List AV × List AV := (enc [.p .boo] [.b r], enc [] [])
def f_i_IsSet_M : Calling := addC 67 f_i_IsGroup_c (addC 48 f_i_OrderOf_c (noC))
theorem f_i_IsSet_Mt : CallOk Try.prog (f_i_IsSet_M) := addC_true f_i_IsGroup_cc (addC_true f_i_OrderOf_cc (noC_true))
theorem f_i_IsSet_o : loopsOnce Try.f47 = true := by kernel_rfl
theorem f_i_IsSet_p {R : Type} (g0 : List Sc) (a1 : Int) (kR : Bool → Option R) : f_i_IsSet_k g0 a1 kR = (f_i_IsSet_k g0 a1 some).bind kR := by
  simp only [f_i_IsSet_k, brB, boB, someB, noneB]
theorem f_i_IsSet_e (g0 : List Sc) (a1 : Int) : runFn E0 f_i_IsSet_M H0 f_i_IsSet_F (asL (noL)) Try.f47 (f_i_IsSet_a g0 a1) (f_i_IsSet_i g0 a1) = f_i_IsSet_k g0 a1 (fun r => some (f_i_IsSet_en r)) := by kernel_rfl
theorem f_i_IsSet_ok (g0 : List Sc) (a1 : Int) (r : Bool) (h : f_i_IsSet g0 a1 = some r) : CS Try.prog 47 (f_i_IsSet_a g0 a1) (f_i_IsSet_i g0 a1) (f_i_IsSet_en r).1 (f_i_IsSet_en r).2 :=
  fn_true (Gk := fun k => f_i_IsSet_k g0 a1 k) (en := f_i_IsSet_en) Try.func47 E0ok f_i_IsSet_Mt (noL_true) f_i_IsSet_o (f_i_IsSet_e g0 a1) (f_i_IsSet_p g0 a1) h
def f_i_IsSet_c : CRow := fun args inh => match dec2 [.p .gr, .p (.int .i64)] [] args inh with
  | some ([.l g0, .i a1], []) => some ((f_i_IsSet g0 a1).isSome, (f_i_IsSet_en ((f_i_IsSet g0 a1).getD false)).1, (f_i_IsSet_en ((f_i_IsSet g0 a1).getD false)).2)
  | _ => none
theorem f_i_IsSet_cc : CTrue Try.prog 47 f_i_IsSet_c := by
  intro args inh rs out h
  unfold f_i_IsSet_c at h
  split at h
  · rename_i hd
    obtain ⟨h1, h2⟩ := dec2_enc hd
    rw [← h1, ← h2]
    exact rowC (f_i_IsSet_ok _ _) h
  · cases h

def f_i_KernelOf_F : Fi := { nv := 0, nc := 0, m := 0, vt := [], kl := [(0, ([0, 3, 4, 6, 7, 8, 9, 10, 11, 14, 15, 16, 17, 18, 19, 20, 21, 22, 23, 24, 25, 26], [0, 1, 2, 3, 4, 6, 7, 8, 9, 10, 11, 12, 13, 14, 15, 16, 17, 18, 19, 20, 21, 22, 23, 24, 25, 26], [0, 1, 2, 3, 5, 6, 7, 8, 9, 10, 11, 12, 13, 14, 15, 16, 17, 18, 19, 20, 21, 22, 23, 24, 25, 26]))], sk := [], mvs := [], fz := [] }
def f_i_KernelOf_a (g0 : List Sc) (k1 : Int) : List AV := enc [.p .gr, .p (.int .i64)] [.l g0, .i k1]
def f_i_KernelOf_i (g0 : List Sc) (k1 : Int) : List AV := enc [] []
def f_i_KernelOf_en (r : Int) : List AV × List AV := (enc [.p (.int .i64)] [.i r], enc [] [])
def f_i_KernelOf_M : Calling := addC 38 f_i_Group_has_c (addC 48 f_i_OrderOf_c (addC 6 f_i_CharacterValue_c (noC)))
theorem f_i_KernelOf_Mt : CallOk Try.prog (f_i_KernelOf_M) := addC_true f_i_Group_has_cc (addC_true f_i_OrderOf_cc (addC_true f_i_CharacterValue_cc (noC_true)))
theorem f_i_KernelOf_o : loopsOnce Try.f30 = true := by kernel_rfl
def f_i_KernelOf_h0 : List Sh := [.u, .p (.int .i64), .p .el, .u, .u, .p (.int .i64), .u, .u, .u, .u, .u, .u, .p (.int .i64), .p (.int .i64), .u, .u, .u, .u, .u, .u, .u, .u, .u, .u, .u, .u, .u]
def f_i_KernelOf_fr0 (k1 : Int) (g2 : List Sc) (t12 : Int) (s : Int × Int) : List AV := enc f_i_KernelOf_h0 [.i k1, .l g2, .i s.1, .i t12, .i s.2]
def f_i_KernelOf_g0_1 : List Sh := [.u, .u, .u, .u, .u, .p (.int .i64), .u, .u, .u, .u, .u, .u, .u, .u, .u, .u, .u, .u, .u, .u, .u, .u, .u, .u, .u, .u, .u]
def f_i_KernelOf_x0_1 (k1 : Int) (g2 : List Sc) (t12 : Int) (e : Int) : X × List AV := (.out 0, enc f_i_KernelOf_g0_1 [.i e])
def f_i_KernelOf_x0_2 (k1 : Int) (g2 : List Sc) (t12 : Int) (_e : Unit) : X × List AV := (.ret, [])
theorem f_i_KernelOf_p0 {R : Type} (k1 : Int) (g2 : List Sc) (t12 : Int) (s : Int × Int) (kN : Int × Int → Option R) (kA : Int → Option R) (kB : Unit → Option R) : f_i_KernelOf_k0 k1 g2 t12 s.1 s.2 kN kA = (f_i_KernelOf_r0 k1 g2 t12 s).bind (Ro.el kN kA kB) := by
  simp only [f_i_KernelOf_k0, f_i_KernelOf_r0, brB, boB, someB, noneB, Ro.el]
theorem f_i_KernelOf_e0 (k1 : Int) (g2 : List Sc) (t12 : Int) (s : Int × Int) : EC E0 f_i_KernelOf_M H0 f_i_KernelOf_F (asL (noL)) 0 (bodyOf Try.f30 0) (f_i_KernelOf_fr0 k1 g2 t12 s) (done (klOf f_i_KernelOf_F 0)) = f_i_KernelOf_k0 k1 g2 t12 s.1 s.2 (fun s => some (.norm, f_i_KernelOf_fr0 k1 g2 t12 s)) (fun e => some (f_i_KernelOf_x0_1 k1 g2 t12 e)) := by kernel_rfl
theorem f_i_KernelOf_l0 (k1 : Int) (g2 : List Sc) (t12 : Int) : ∀ s r, loopL (f_i_KernelOf_r0 k1 g2 t12) s = some r → LS Try.prog f_i_KernelOf_F (bodyOf Try.f30 0) (f_i_KernelOf_fr0 k1 g2 t12 s) (enX (f_i_KernelOf_x0_1 k1 g2 t12) (f_i_KernelOf_x0_2 k1 g2 t12) r) :=
  loop_true E0ok f_i_KernelOf_Mt (noL_true) f_i_KernelOf_o (fun _ h => by cases h) (fun _ h => by cases h) (fun s => (f_i_KernelOf_e0 k1 g2 t12 s).trans (f_i_KernelOf_p0 k1 g2 t12 s _ _ (fun e => some (f_i_KernelOf_x0_2 k1 g2 t12 e))))
def f_i_KernelOf_t0 (σ : List AV) : Option (Bool × Bool × (X × List AV) × (X × List AV)) := match dec f_i_KernelOf_h0 σ with
  | some [.i k1, .l g2, .i out5, .i t12, .i t13] => some (isOne (loopL (f_i_KernelOf_r0 k1 g2 t12) (out5, t13)), true, f_i_KernelOf_x0_1 k1 g2 t12 (getOne 0 (loopL (f_i_KernelOf_r0 k1 g2 t12) (out5, t13))), (.ret, []))
  | _ => none
theorem f_i_KernelOf_tt0 : TTrue Try.prog f_i_KernelOf_F Try.f30 0 (f_i_KernelOf_t0) := by
  intro σ p r r' h
  unfold f_i_KernelOf_t0 at h
  split at h
  · rename_i hd
    rw [← dec_enc hd]
    exact row1 (f_i_KernelOf_l0 _ _ _ _) h
  · cases h
theorem f_i_KernelOf_p {R : Type} (g0 : List Sc) (k1 : Int) (kR : Int → Option R) : f_i_KernelOf_k g0 k1 kR = (f_i_KernelOf_k g0 k1 some).bind kR := by
  simp only [f_i_KernelOf_k, brB, boB, bl1B, someB]
theorem f_i_KernelOf_e (g0 : List Sc) (k1 : Int) : runFn E0 f_i_KernelOf_M H0 f_i_KernelOf_F (asL (addL 0 (f_i_KernelOf_t0) (noL))) Try.f30 (f_i_KernelOf_a g0 k1) (f_i_KernelOf_i g0 k1) = f_i_KernelOf_k g0 k1 (fun r => some (f_i_KernelOf_en r)) := by kernel_rfl
theorem f_i_KernelOf_ok (g0 : List Sc) (k1 : Int) (r : Int) (h : f_i_KernelOf g0 k1 = some r) : CS Try.prog 30 (f_i_KernelOf_a g0 k1) (f_i_KernelOf_i g0 k1) (f_i_KernelOf_en r).1 (f_i_KernelOf_en r).2 :=
  fn_true (Gk := fun k => f_i_KernelOf_k g0 k1 k) (en := f_i_KernelOf_en) Try.func30 E0ok f_i_KernelOf_Mt (addL_true (f_i_KernelOf_tt0) (noL_true)) f_i_KernelOf_o (f_i_KernelOf_e g0 k1) (f_i_KernelOf_p g0 k1) h
def f_i_KernelOf_c : CRow := fun args inh => match dec2 [.p .gr, .p (.int .i64)] [] args inh with
  | some ([.l g0, .i k1], []) => some ((f_i_KernelOf g0 k1).isSome, (f_i_KernelOf_en ((f_i_KernelOf g0 k1).getD 0)).1, (f_i_KernelOf_en ((f_i_KernelOf g0 k1).getD 0)).2)
  | _ => none
theorem f_i_KernelOf_cc : CTrue Try.prog 30 f_i_KernelOf_c := by
  intro args inh rs out h
  unfold f_i_KernelOf_c at h
  split at h
  · rename_i hd
    obtain ⟨h1, h2⟩ := dec2_enc hd
    rw [← h1, ← h2]
    exact rowC (f_i_KernelOf_ok _ _) h
  · cases h

def f_i_AnnihilatorOf_F : Fi := { nv := 0, nc := 0, m := 0, vt := [], kl := [(0, ([0, 3, 4, 6, 7, 8, 9, 10, 11, 14, 15, 16, 17, 18, 19, 20, 21, 22, 23, 24, 25, 26, 27], [0, 1, 2, 3, 4, 6, 7, 8, 9, 10, 11, 12, 13, 14, 15, 16, 17, 18, 19, 20, 21, 22, 23, 24, 25, 26, 27], [0, 1, 2, 3, 5, 6, 7, 8, 9, 10, 11, 12, 13, 14, 15, 16, 17, 18, 19, 20, 21, 22, 23, 24, 25, 26, 27]))], sk := [], mvs := [], fz := [] }
def f_i_AnnihilatorOf_a (g0 : List Sc) (h1 : Int) : List AV := enc [.p .gr, .p (.int .i64)] [.l g0, .i h1]
def f_i_AnnihilatorOf_i (g0 : List Sc) (h1 : Int) : List AV := enc [] []
def f_i_AnnihilatorOf_en (r : Int) : List AV × List AV := (enc [.p (.int .i64)] [.i r], enc [] [])
def f_i_AnnihilatorOf_M : Calling := addC 47 f_i_IsSet_c (addC 48 f_i_OrderOf_c (addC 30 f_i_KernelOf_c (noC)))
theorem f_i_AnnihilatorOf_Mt : CallOk Try.prog (f_i_AnnihilatorOf_M) := addC_true f_i_IsSet_cc (addC_true f_i_OrderOf_cc (addC_true f_i_KernelOf_cc (noC_true)))
theorem f_i_AnnihilatorOf_o : loopsOnce Try.f13 = true := by kernel_rfl
def f_i_AnnihilatorOf_h0 : List Sh := [.u, .p (.int .i64), .p .el, .u, .u, .p (.int .i64), .u, .u, .u, .u, .u, .u, .p (.int .i64), .p (.int .i64), .u, .u, .u, .u, .u, .u, .u, .u, .u, .u, .u, .u, .u, .u]
def f_i_AnnihilatorOf_fr0 (h1 : Int) (g2 : List Sc) (t12 : Int) (s : Int × Int) : List AV := enc f_i_AnnihilatorOf_h0 [.i h1, .l g2, .i s.1, .i t12, .i s.2]
def f_i_AnnihilatorOf_g0_1 : List Sh := [.u, .u, .u, .u, .u, .p (.int .i64), .u, .u, .u, .u, .u, .u, .u, .u, .u, .u, .u, .u, .u, .u, .u, .u, .u, .u, .u, .u, .u, .u]
def f_i_AnnihilatorOf_x0_1 (h1 : Int) (g2 : List Sc) (t12 : Int) (e : Int) : X × List AV := (.out 0, enc f_i_AnnihilatorOf_g0_1 [.i e])
def f_i_AnnihilatorOf_x0_2 (h1 : Int) (g2 : List Sc) (t12 : Int) (_e : Unit) : X × List AV := (.ret, [])
theorem f_i_AnnihilatorOf_p0 {R : Type} (h1 : Int) (g2 : List Sc) (t12 : Int) (s : Int × Int) (kN : Int × Int → Option R) (kA : Int → Option R) (kB : Unit → Option R) : f_i_AnnihilatorOf_k0 h1 g2 t12 s.1 s.2 kN kA = (f_i_AnnihilatorOf_r0 h1 g2 t12 s).bind (Ro.el kN kA kB) := by
  simp only [f_i_AnnihilatorOf_k0, f_i_AnnihilatorOf_r0, brB, boB, someB, noneB, Ro.el]
theorem f_i_AnnihilatorOf_e0 (h1 : Int) (g2 : List Sc) (t12 : Int) (s : Int × Int) : EC E0 f_i_AnnihilatorOf_M H0 f_i_AnnihilatorOf_F (asL (noL)) 0 (bodyOf Try.f13 0) (f_i_AnnihilatorOf_fr0 h1 g2 t12 s) (done (klOf f_i_AnnihilatorOf_F 0)) = f_i_AnnihilatorOf_k0 h1 g2 t12 s.1 s.2 (fun s => some (.norm, f_i_AnnihilatorOf_fr0 h1 g2 t12 s)) (fun e => some (f_i_AnnihilatorOf_x0_1 h1 g2 t12 e)) := by kernel_rfl
theorem f_i_AnnihilatorOf_l0 (h1 : Int) (g2 : List Sc) (t12 : Int) : ∀ s r, loopL (f_i_AnnihilatorOf_r0 h1 g2 t12) s = some r → LS Try.prog f_i_AnnihilatorOf_F (bodyOf Try.f13 0) (f_i_AnnihilatorOf_fr0 h1 g2 t12 s) (enX (f_i_AnnihilatorOf_x0_1 h1 g2 t12) (f_i_AnnihilatorOf_x0_2 h1 g2 t12) r) :=
  loop_true E0ok f_i_AnnihilatorOf_Mt (noL_true) f_i_AnnihilatorOf_o (fun _ h => by cases h) (fun _ h => by cases h) (fun s => (f_i_AnnihilatorOf_e0 h1 g2 t12 s).trans (f_i_AnnihilatorOf_p0 h1 g2 t12 s _ _ (fun e => some (f_i_AnnihilatorOf_x0_2 h1 g2 t12 e))))
def f_i_AnnihilatorOf_t0 (σ : List AV) : Option (Bool × Bool × (X × List AV) × (X × List AV)) := match dec f_i_AnnihilatorOf_h0 σ with
  | some [.i h1, .l g2, .i out5, .i t12, .i t13] => some (isOne (loopL (f_i_AnnihilatorOf_r0 h1 g2 t12) (out5, t13)), true, f_i_AnnihilatorOf_x0_1 h1 g2 t12 (getOne 0 (loopL (f_i_AnnihilatorOf_r0 h1 g2 t12) (out5, t13))), (.ret, []))
  | _ => none
theorem f_i_AnnihilatorOf_tt0 : TTrue Try.prog f_i_AnnihilatorOf_F Try.f13 0 (f_i_AnnihilatorOf_t0) := by
  intro σ p r r' h
  unfold f_i_AnnihilatorOf_t0 at h
  split at h
  · rename_i hd
    rw [← dec_enc hd]
    exact row1 (f_i_AnnihilatorOf_l0 _ _ _ _) h
  · cases h
theorem f_i_AnnihilatorOf_p {R : Type} (g0 : List Sc) (h1 : Int) (kR : Int → Option R) : f_i_AnnihilatorOf_k g0 h1 kR = (f_i_AnnihilatorOf_k g0 h1 some).bind kR := by
  simp only [f_i_AnnihilatorOf_k, brB, boB, bl1B, someB]
theorem f_i_AnnihilatorOf_e (g0 : List Sc) (h1 : Int) : runFn E0 f_i_AnnihilatorOf_M H0 f_i_AnnihilatorOf_F (asL (addL 0 (f_i_AnnihilatorOf_t0) (noL))) Try.f13 (f_i_AnnihilatorOf_a g0 h1) (f_i_AnnihilatorOf_i g0 h1) = f_i_AnnihilatorOf_k g0 h1 (fun r => some (f_i_AnnihilatorOf_en r)) := by kernel_rfl
theorem f_i_AnnihilatorOf_ok (g0 : List Sc) (h1 : Int) (r : Int) (h : f_i_AnnihilatorOf g0 h1 = some r) : CS Try.prog 13 (f_i_AnnihilatorOf_a g0 h1) (f_i_AnnihilatorOf_i g0 h1) (f_i_AnnihilatorOf_en r).1 (f_i_AnnihilatorOf_en r).2 :=
  fn_true (Gk := fun k => f_i_AnnihilatorOf_k g0 h1 k) (en := f_i_AnnihilatorOf_en) Try.func13 E0ok f_i_AnnihilatorOf_Mt (addL_true (f_i_AnnihilatorOf_tt0) (noL_true)) f_i_AnnihilatorOf_o (f_i_AnnihilatorOf_e g0 h1) (f_i_AnnihilatorOf_p g0 h1) h
def f_i_AnnihilatorOf_c : CRow := fun args inh => match dec2 [.p .gr, .p (.int .i64)] [] args inh with
  | some ([.l g0, .i h1], []) => some ((f_i_AnnihilatorOf g0 h1).isSome, (f_i_AnnihilatorOf_en ((f_i_AnnihilatorOf g0 h1).getD 0)).1, (f_i_AnnihilatorOf_en ((f_i_AnnihilatorOf g0 h1).getD 0)).2)
  | _ => none
theorem f_i_AnnihilatorOf_cc : CTrue Try.prog 13 f_i_AnnihilatorOf_c := by
  intro args inh rs out h
  unfold f_i_AnnihilatorOf_c at h
  split at h
  · rename_i hd
    obtain ⟨h1, h2⟩ := dec2_enc hd
    rw [← h1, ← h2]
    exact rowC (f_i_AnnihilatorOf_ok _ _) h
  · cases h

def f_s_IsSet_F : Fi := { nv := 0, nc := 0, m := 0, vt := [], kl := [], sk := [], mvs := [], fz := [] }
def f_s_IsSet_a (g0 : List Sc) (a1 : Int) : List AV := enc [.p .gr, .p (.int .i64)] [.l g0, .i a1]
def f_s_IsSet_i (g0 : List Sc) (a1 : Int) : List AV := enc [] []
def f_s_IsSet_en (r : Bool) : List AV × List AV := (enc [.p .boo] [.b r], enc [] [])
def f_s_IsSet_M : Calling := addC 43 f_s_IsGroup_c (addC 44 f_s_l2Order_c (addC 69 f_s_l1In_c (noC)))
theorem f_s_IsSet_Mt : CallOk Try.prog (f_s_IsSet_M) := addC_true f_s_IsGroup_cc (addC_true f_s_l2Order_cc (addC_true f_s_l1In_cc (noC_true)))
theorem f_s_IsSet_o : loopsOnce Try.f49 = true := by kernel_rfl
theorem f_s_IsSet_p {R : Type} (g0 : List Sc) (a1 : Int) (kR : Bool → Option R) : f_s_IsSet_k g0 a1 kR = (f_s_IsSet_k g0 a1 some).bind kR := by
  simp only [f_s_IsSet_k, brB, boB, someB, noneB]
theorem f_s_IsSet_e (g0 : List Sc) (a1 : Int) : runFn E0 f_s_IsSet_M H0 f_s_IsSet_F (asL (noL)) Try.f49 (f_s_IsSet_a g0 a1) (f_s_IsSet_i g0 a1) = f_s_IsSet_k g0 a1 (fun r => some (f_s_IsSet_en r)) := by kernel_rfl
theorem f_s_IsSet_ok (g0 : List Sc) (a1 : Int) (r : Bool) (h : f_s_IsSet g0 a1 = some r) : CS Try.prog 49 (f_s_IsSet_a g0 a1) (f_s_IsSet_i g0 a1) (f_s_IsSet_en r).1 (f_s_IsSet_en r).2 :=
  fn_true (Gk := fun k => f_s_IsSet_k g0 a1 k) (en := f_s_IsSet_en) Try.func49 E0ok f_s_IsSet_Mt (noL_true) f_s_IsSet_o (f_s_IsSet_e g0 a1) (f_s_IsSet_p g0 a1) h
def f_s_IsSet_c : CRow := fun args inh => match dec2 [.p .gr, .p (.int .i64)] [] args inh with
  | some ([.l g0, .i a1], []) => some ((f_s_IsSet g0 a1).isSome, (f_s_IsSet_en ((f_s_IsSet g0 a1).getD false)).1, (f_s_IsSet_en ((f_s_IsSet g0 a1).getD false)).2)
  | _ => none
theorem f_s_IsSet_cc : CTrue Try.prog 49 f_s_IsSet_c := by
  intro args inh rs out h
  unfold f_s_IsSet_c at h
  split at h
  · rename_i hd
    obtain ⟨h1, h2⟩ := dec2_enc hd
    rw [← h1, ← h2]
    exact rowC (f_s_IsSet_ok _ _) h
  · cases h

def f_s_KernelOf_F : Fi := { nv := 0, nc := 0, m := 0, vt := [], kl := [(0, ([0, 3, 4, 7, 8, 9, 10, 11, 12, 13, 14, 15, 16, 17, 18, 19, 20, 21, 22, 23, 24, 25, 26], [0, 1, 2, 3, 4, 6, 7, 8, 9, 10, 11, 12, 13, 14, 15, 16, 17, 18, 19, 20, 21, 22, 23, 24, 25, 26], [0, 1, 2, 3, 5, 6, 7, 8, 9, 10, 11, 12, 13, 14, 15, 16, 17, 18, 19, 20, 21, 22, 23, 24, 25, 26]))], sk := [], mvs := [], fz := [] }
def f_s_KernelOf_a (g0 : List Sc) (k1 : Int) : List AV := enc [.p .gr, .p (.int .i64)] [.l g0, .i k1]
def f_s_KernelOf_i (g0 : List Sc) (k1 : Int) : List AV := enc [] []
def f_s_KernelOf_en (r : Int) : List AV × List AV := (enc [.p (.int .i64)] [.i r], enc [] [])
def f_s_KernelOf_M : Calling := addC 41 f_s_l2Is_c (addC 44 f_s_l2Order_c (addC 42 f_s_l7Value_c (noC)))
theorem f_s_KernelOf_Mt : CallOk Try.prog (f_s_KernelOf_M) := addC_true f_s_l2Is_cc (addC_true f_s_l2Order_cc (addC_true f_s_l7Value_cc (noC_true)))
theorem f_s_KernelOf_o : loopsOnce Try.f31 = true := by kernel_rfl
def f_s_KernelOf_h0 : List Sh := [.u, .p (.int .i64), .p .el, .u, .u, .p (.int .i64), .p (.int .i64), .u, .u, .u, .u, .u, .u, .u, .u, .u, .u, .u, .u, .u, .u, .u, .u, .u, .u, .u, .u]
def f_s_KernelOf_fr0 (k1 : Int) (g2 : List Sc) (s : Int × Int) : List AV := enc f_s_KernelOf_h0 [.i k1, .l g2, .i s.1, .i s.2]
def f_s_KernelOf_g0_1 : List Sh := [.u, .u, .u, .u, .u, .p (.int .i64), .u, .u, .u, .u, .u, .u, .u, .u, .u, .u, .u, .u, .u, .u, .u, .u, .u, .u, .u, .u, .u]
def f_s_KernelOf_x0_1 (k1 : Int) (g2 : List Sc) (e : Int) : X × List AV := (.out 0, enc f_s_KernelOf_g0_1 [.i e])
def f_s_KernelOf_x0_2 (k1 : Int) (g2 : List Sc) (_e : Unit) : X × List AV := (.ret, [])
theorem f_s_KernelOf_p0 {R : Type} (k1 : Int) (g2 : List Sc) (s : Int × Int) (kN : Int × Int → Option R) (kA : Int → Option R) (kB : Unit → Option R) : f_s_KernelOf_k0 k1 g2 s.1 s.2 kN kA = (f_s_KernelOf_r0 k1 g2 s).bind (Ro.el kN kA kB) := by
  simp only [f_s_KernelOf_k0, f_s_KernelOf_r0, brB, boB, someB, noneB, Ro.el]
theorem f_s_KernelOf_e0 (k1 : Int) (g2 : List Sc) (s : Int × Int) : EC E0 f_s_KernelOf_M H0 f_s_KernelOf_F (asL (noL)) 0 (bodyOf Try.f31 0) (f_s_KernelOf_fr0 k1 g2 s) (done (klOf f_s_KernelOf_F 0)) = f_s_KernelOf_k0 k1 g2 s.1 s.2 (fun s => some (.norm, f_s_KernelOf_fr0 k1 g2 s)) (fun e => some (f_s_KernelOf_x0_1 k1 g2 e)) := by kernel_rfl
theorem f_s_KernelOf_l0 (k1 : Int) (g2 : List Sc) : ∀ s r, loopL (f_s_KernelOf_r0 k1 g2) s = some r → LS Try.prog f_s_KernelOf_F (bodyOf Try.f31 0) (f_s_KernelOf_fr0 k1 g2 s) (enX (f_s_KernelOf_x0_1 k1 g2) (f_s_KernelOf_x0_2 k1 g2) r) :=
  loop_true E0ok f_s_KernelOf_Mt (noL_true) f_s_KernelOf_o (fun _ h => by cases h) (fun _ h => by cases h) (fun s => (f_s_KernelOf_e0 k1 g2 s).trans (f_s_KernelOf_p0 k1 g2 s _ _ (fun e => some (f_s_KernelOf_x0_2 k1 g2 e))))
def f_s_KernelOf_t0 (σ : List AV) : Option (Bool × Bool × (X × List AV) × (X × List AV)) := match dec f_s_KernelOf_h0 σ with
  | some [.i k1, .l g2, .i out5, .i x6] => some (isOne (loopL (f_s_KernelOf_r0 k1 g2) (out5, x6)), true, f_s_KernelOf_x0_1 k1 g2 (getOne 0 (loopL (f_s_KernelOf_r0 k1 g2) (out5, x6))), (.ret, []))
  | _ => none
theorem f_s_KernelOf_tt0 : TTrue Try.prog f_s_KernelOf_F Try.f31 0 (f_s_KernelOf_t0) := by
  intro σ p r r' h
  unfold f_s_KernelOf_t0 at h
  split at h
  · rename_i hd
    rw [← dec_enc hd]
    exact row1 (f_s_KernelOf_l0 _ _ _) h
  · cases h
theorem f_s_KernelOf_p {R : Type} (g0 : List Sc) (k1 : Int) (kR : Int → Option R) : f_s_KernelOf_k g0 k1 kR = (f_s_KernelOf_k g0 k1 some).bind kR := by
  simp only [f_s_KernelOf_k, brB, boB, bl1B, someB]
theorem f_s_KernelOf_e (g0 : List Sc) (k1 : Int) : runFn E0 f_s_KernelOf_M H0 f_s_KernelOf_F (asL (addL 0 (f_s_KernelOf_t0) (noL))) Try.f31 (f_s_KernelOf_a g0 k1) (f_s_KernelOf_i g0 k1) = f_s_KernelOf_k g0 k1 (fun r => some (f_s_KernelOf_en r)) := by kernel_rfl
theorem f_s_KernelOf_ok (g0 : List Sc) (k1 : Int) (r : Int) (h : f_s_KernelOf g0 k1 = some r) : CS Try.prog 31 (f_s_KernelOf_a g0 k1) (f_s_KernelOf_i g0 k1) (f_s_KernelOf_en r).1 (f_s_KernelOf_en r).2 :=
  fn_true (Gk := fun k => f_s_KernelOf_k g0 k1 k) (en := f_s_KernelOf_en) Try.func31 E0ok f_s_KernelOf_Mt (addL_true (f_s_KernelOf_tt0) (noL_true)) f_s_KernelOf_o (f_s_KernelOf_e g0 k1) (f_s_KernelOf_p g0 k1) h
def f_s_KernelOf_c : CRow := fun args inh => match dec2 [.p .gr, .p (.int .i64)] [] args inh with
  | some ([.l g0, .i k1], []) => some ((f_s_KernelOf g0 k1).isSome, (f_s_KernelOf_en ((f_s_KernelOf g0 k1).getD 0)).1, (f_s_KernelOf_en ((f_s_KernelOf g0 k1).getD 0)).2)
  | _ => none
theorem f_s_KernelOf_cc : CTrue Try.prog 31 f_s_KernelOf_c := by
  intro args inh rs out h
  unfold f_s_KernelOf_c at h
  split at h
  · rename_i hd
    obtain ⟨h1, h2⟩ := dec2_enc hd
    rw [← h1, ← h2]
    exact rowC (f_s_KernelOf_ok _ _) h
  · cases h

def f_s_AnnihilatorOf_F : Fi := { nv := 0, nc := 0, m := 0, vt := [], kl := [(0, ([0, 3, 4, 7, 8, 9, 10, 11, 12, 13, 14, 15, 16, 17, 18, 19, 20, 21, 22, 23, 24, 25, 26, 27, 28], [0, 1, 2, 3, 4, 6, 7, 8, 9, 10, 11, 12, 13, 14, 15, 16, 17, 18, 19, 20, 21, 22, 23, 24, 25, 26, 27, 28], [0, 1, 2, 3, 5, 6, 7, 8, 9, 10, 11, 12, 13, 14, 15, 16, 17, 18, 19, 20, 21, 22, 23, 24, 25, 26, 27, 28]))], sk := [], mvs := [], fz := [] }
def f_s_AnnihilatorOf_a (g0 : List Sc) (h1 : Int) : List AV := enc [.p .gr, .p (.int .i64)] [.l g0, .i h1]
def f_s_AnnihilatorOf_i (g0 : List Sc) (h1 : Int) : List AV := enc [] []
def f_s_AnnihilatorOf_en (r : Int) : List AV × List AV := (enc [.p (.int .i64)] [.i r], enc [] [])
def f_s_AnnihilatorOf_M : Calling := addC 49 f_s_IsSet_c (addC 44 f_s_l2Order_c (addC 31 f_s_KernelOf_c (noC)))
theorem f_s_AnnihilatorOf_Mt : CallOk Try.prog (f_s_AnnihilatorOf_M) := addC_true f_s_IsSet_cc (addC_true f_s_l2Order_cc (addC_true f_s_KernelOf_cc (noC_true)))
theorem f_s_AnnihilatorOf_o : loopsOnce Try.f14 = true := by kernel_rfl
def f_s_AnnihilatorOf_h0 : List Sh := [.u, .p (.int .i64), .p .el, .u, .u, .p (.int .i64), .p (.int .i64), .u, .u, .u, .u, .u, .u, .u, .u, .u, .u, .u, .u, .u, .u, .u, .u, .u, .u, .u, .u, .u, .u]
def f_s_AnnihilatorOf_fr0 (h1 : Int) (g2 : List Sc) (s : Int × Int) : List AV := enc f_s_AnnihilatorOf_h0 [.i h1, .l g2, .i s.1, .i s.2]
def f_s_AnnihilatorOf_g0_1 : List Sh := [.u, .u, .u, .u, .u, .p (.int .i64), .u, .u, .u, .u, .u, .u, .u, .u, .u, .u, .u, .u, .u, .u, .u, .u, .u, .u, .u, .u, .u, .u, .u]
def f_s_AnnihilatorOf_x0_1 (h1 : Int) (g2 : List Sc) (e : Int) : X × List AV := (.out 0, enc f_s_AnnihilatorOf_g0_1 [.i e])
def f_s_AnnihilatorOf_x0_2 (h1 : Int) (g2 : List Sc) (_e : Unit) : X × List AV := (.ret, [])
theorem f_s_AnnihilatorOf_p0 {R : Type} (h1 : Int) (g2 : List Sc) (s : Int × Int) (kN : Int × Int → Option R) (kA : Int → Option R) (kB : Unit → Option R) : f_s_AnnihilatorOf_k0 h1 g2 s.1 s.2 kN kA = (f_s_AnnihilatorOf_r0 h1 g2 s).bind (Ro.el kN kA kB) := by
  simp only [f_s_AnnihilatorOf_k0, f_s_AnnihilatorOf_r0, brB, boB, someB, noneB, Ro.el]
theorem f_s_AnnihilatorOf_e0 (h1 : Int) (g2 : List Sc) (s : Int × Int) : EC E0 f_s_AnnihilatorOf_M H0 f_s_AnnihilatorOf_F (asL (noL)) 0 (bodyOf Try.f14 0) (f_s_AnnihilatorOf_fr0 h1 g2 s) (done (klOf f_s_AnnihilatorOf_F 0)) = f_s_AnnihilatorOf_k0 h1 g2 s.1 s.2 (fun s => some (.norm, f_s_AnnihilatorOf_fr0 h1 g2 s)) (fun e => some (f_s_AnnihilatorOf_x0_1 h1 g2 e)) := by kernel_rfl
theorem f_s_AnnihilatorOf_l0 (h1 : Int) (g2 : List Sc) : ∀ s r, loopL (f_s_AnnihilatorOf_r0 h1 g2) s = some r → LS Try.prog f_s_AnnihilatorOf_F (bodyOf Try.f14 0) (f_s_AnnihilatorOf_fr0 h1 g2 s) (enX (f_s_AnnihilatorOf_x0_1 h1 g2) (f_s_AnnihilatorOf_x0_2 h1 g2) r) :=
  loop_true E0ok f_s_AnnihilatorOf_Mt (noL_true) f_s_AnnihilatorOf_o (fun _ h => by cases h) (fun _ h => by cases h) (fun s => (f_s_AnnihilatorOf_e0 h1 g2 s).trans (f_s_AnnihilatorOf_p0 h1 g2 s _ _ (fun e => some (f_s_AnnihilatorOf_x0_2 h1 g2 e))))
def f_s_AnnihilatorOf_t0 (σ : List AV) : Option (Bool × Bool × (X × List AV) × (X × List AV)) := match dec f_s_AnnihilatorOf_h0 σ with
  | some [.i h1, .l g2, .i out5, .i k6] => some (isOne (loopL (f_s_AnnihilatorOf_r0 h1 g2) (out5, k6)), true, f_s_AnnihilatorOf_x0_1 h1 g2 (getOne 0 (loopL (f_s_AnnihilatorOf_r0 h1 g2) (out5, k6))), (.ret, []))
  | _ => none
theorem f_s_AnnihilatorOf_tt0 : TTrue Try.prog f_s_AnnihilatorOf_F Try.f14 0 (f_s_AnnihilatorOf_t0) := by
  intro σ p r r' h
  unfold f_s_AnnihilatorOf_t0 at h
  split at h
  · rename_i hd
    rw [← dec_enc hd]
    exact row1 (f_s_AnnihilatorOf_l0 _ _ _) h
  · cases h
theorem f_s_AnnihilatorOf_p {R : Type} (g0 : List Sc) (h1 : Int) (kR : Int → Option R) : f_s_AnnihilatorOf_k g0 h1 kR = (f_s_AnnihilatorOf_k g0 h1 some).bind kR := by
  simp only [f_s_AnnihilatorOf_k, brB, boB, bl1B, someB]
theorem f_s_AnnihilatorOf_e (g0 : List Sc) (h1 : Int) : runFn E0 f_s_AnnihilatorOf_M H0 f_s_AnnihilatorOf_F (asL (addL 0 (f_s_AnnihilatorOf_t0) (noL))) Try.f14 (f_s_AnnihilatorOf_a g0 h1) (f_s_AnnihilatorOf_i g0 h1) = f_s_AnnihilatorOf_k g0 h1 (fun r => some (f_s_AnnihilatorOf_en r)) := by kernel_rfl
theorem f_s_AnnihilatorOf_ok (g0 : List Sc) (h1 : Int) (r : Int) (h : f_s_AnnihilatorOf g0 h1 = some r) : CS Try.prog 14 (f_s_AnnihilatorOf_a g0 h1) (f_s_AnnihilatorOf_i g0 h1) (f_s_AnnihilatorOf_en r).1 (f_s_AnnihilatorOf_en r).2 :=
  fn_true (Gk := fun k => f_s_AnnihilatorOf_k g0 h1 k) (en := f_s_AnnihilatorOf_en) Try.func14 E0ok f_s_AnnihilatorOf_Mt (addL_true (f_s_AnnihilatorOf_tt0) (noL_true)) f_s_AnnihilatorOf_o (f_s_AnnihilatorOf_e g0 h1) (f_s_AnnihilatorOf_p g0 h1) h
def f_s_AnnihilatorOf_c : CRow := fun args inh => match dec2 [.p .gr, .p (.int .i64)] [] args inh with
  | some ([.l g0, .i h1], []) => some ((f_s_AnnihilatorOf g0 h1).isSome, (f_s_AnnihilatorOf_en ((f_s_AnnihilatorOf g0 h1).getD 0)).1, (f_s_AnnihilatorOf_en ((f_s_AnnihilatorOf g0 h1).getD 0)).2)
  | _ => none
theorem f_s_AnnihilatorOf_cc : CTrue Try.prog 14 f_s_AnnihilatorOf_c := by
  intro args inh rs out h
  unfold f_s_AnnihilatorOf_c at h
  split at h
  · rename_i hd
    obtain ⟨h1, h2⟩ := dec2_enc hd
    rw [← h1, ← h2]
    exact rowC (f_s_AnnihilatorOf_ok _ _) h
  · cases h

def f_i_members_F : Fi := { nv := 0, nc := 0, m := 0, vt := [], kl := [(0, ([1, 2, 5, 6, 7, 8, 9, 10, 11, 12, 13, 14, 15, 16, 17, 18, 19, 20, 21], [0, 1, 2, 4, 5, 6, 7, 8, 9, 10, 11, 12, 13, 14, 15, 16, 17, 18, 19, 20, 21], [0, 1, 3, 4, 5, 6, 7, 8, 9, 10, 11, 12, 13, 14, 15, 16, 17, 18, 19, 20, 21]))], sk := [], mvs := [], fz := [] }
def f_i_members_a (a0 : Int) : List AV := enc [.p (.int .i64)] [.i a0]
def f_i_members_i (a0 : Int) : List AV := enc [] []
def f_i_members_en (r : List Sc) : List AV × List AV := (enc [.p (.al 0)] [], enc [.own 3] [.l r])
def f_i_members_M : Calling := noC
theorem f_i_members_Mt : CallOk Try.prog (f_i_members_M) := noC_true
theorem f_i_members_o : loopsOnce Try.f56 = true := by kernel_rfl
def f_i_members_h0 : List Sh := [.p (.int .i64), .u, .u, .own 3, .p (.int .i64), .u, .u, .u, .u, .u, .u, .u, .u, .u, .u, .u, .u, .u, .u, .u, .u, .u]
def f_i_members_fr0 (a0 : Int) (s : List Sc × Int) : List AV := enc f_i_members_h0 [.i a0, .l s.1, .i s.2]
def f_i_members_g0_1 : List Sh := [.u, .u, .u, .own 3, .u, .u, .u, .u, .u, .u, .u, .u, .u, .u, .u, .u, .u, .u, .u, .u, .u, .u]
def f_i_members_x0_1 (a0 : Int) (e : List Sc) : X × List AV := (.out 0, enc f_i_members_g0_1 [.l e])
def f_i_members_x0_2 (a0 : Int) (_e : Unit) : X × List AV := (.ret, [])
theorem f_i_members_p0 {R : Type} (a0 : Int) (s : List Sc × Int) (kN : List Sc × Int → Option R) (kA : List Sc → Option R) (kB : Unit → Option R) : f_i_members_k0 a0 s.1 s.2 kN kA = (f_i_members_r0 a0 s).bind (Ro.el kN kA kB) := by
  simp only [f_i_members_k0, f_i_members_r0, brB, someB, noneB, Ro.el]
theorem f_i_members_e0 (a0 : Int) (s : List Sc × Int) : EC E0 f_i_members_M H0 f_i_members_F (asL (noL)) 0 (bodyOf Try.f56 0) (f_i_members_fr0 a0 s) (done (klOf f_i_members_F 0)) = f_i_members_k0 a0 s.1 s.2 (fun s => some (.norm, f_i_members_fr0 a0 s)) (fun e => some (f_i_members_x0_1 a0 e)) := by kernel_rfl
theorem f_i_members_l0 (a0 : Int) : ∀ s r, loopL (f_i_members_r0 a0) s = some r → LS Try.prog f_i_members_F (bodyOf Try.f56 0) (f_i_members_fr0 a0 s) (enX (f_i_members_x0_1 a0) (f_i_members_x0_2 a0) r) :=
  loop_true E0ok f_i_members_Mt (noL_true) f_i_members_o (fun _ h => by cases h) (fun _ h => by cases h) (fun s => (f_i_members_e0 a0 s).trans (f_i_members_p0 a0 s _ _ (fun e => some (f_i_members_x0_2 a0 e))))
def f_i_members_t0 (σ : List AV) : Option (Bool × Bool × (X × List AV) × (X × List AV)) := match dec f_i_members_h0 σ with
  | some [.i a0, .l out3, .i x4] => some (isOne (loopL (f_i_members_r0 a0) (out3, x4)), true, f_i_members_x0_1 a0 (getOne [] (loopL (f_i_members_r0 a0) (out3, x4))), (.ret, []))
  | _ => none
theorem f_i_members_tt0 : TTrue Try.prog f_i_members_F Try.f56 0 (f_i_members_t0) := by
  intro σ p r r' h
  unfold f_i_members_t0 at h
  split at h
  · rename_i hd
    rw [← dec_enc hd]
    exact row1 (f_i_members_l0 _ _) h
  · cases h
theorem f_i_members_p {R : Type} (a0 : Int) (kR : List Sc → Option R) : f_i_members_k a0 kR = (f_i_members_k a0 some).bind kR := by
  simp only [f_i_members_k, bl1B, someB]
theorem f_i_members_e (a0 : Int) : runFn E0 f_i_members_M H0 f_i_members_F (asL (addL 0 (f_i_members_t0) (noL))) Try.f56 (f_i_members_a a0) (f_i_members_i a0) = f_i_members_k a0 (fun r => some (f_i_members_en r)) := by kernel_rfl
theorem f_i_members_ok (a0 : Int) (r : List Sc) (h : f_i_members a0 = some r) : CS Try.prog 56 (f_i_members_a a0) (f_i_members_i a0) (f_i_members_en r).1 (f_i_members_en r).2 :=
  fn_true (Gk := fun k => f_i_members_k a0 k) (en := f_i_members_en) Try.func56 E0ok f_i_members_Mt (addL_true (f_i_members_tt0) (noL_true)) f_i_members_o (f_i_members_e a0) (f_i_members_p a0) h
def f_i_members_c : CRow := fun args inh => match dec2 [.p (.int .i64)] [] args inh with
  | some ([.i a0], []) => some ((f_i_members a0).isSome, (f_i_members_en ((f_i_members a0).getD [])).1, (f_i_members_en ((f_i_members a0).getD [])).2)
  | _ => none
theorem f_i_members_cc : CTrue Try.prog 56 f_i_members_c := by
  intro args inh rs out h
  unfold f_i_members_c at h
  split at h
  · rename_i hd
    obtain ⟨h1, h2⟩ := dec2_enc hd
    rw [← h1, ← h2]
    exact rowC (f_i_members_ok _) h
  · cases h

def f_i_Group_add_F : Fi := { nv := 0, nc := 0, m := 0, vt := [], kl := [(0, ([0, 3, 4, 5, 6, 9, 10, 11, 15, 16, 17, 18, 19, 20, 21, 22, 23, 24, 25, 26, 27, 28, 29, 30, 31, 32, 33, 34, 35, 36, 37, 38, 39, 40, 41], [0, 1, 2, 3, 4, 5, 6, 8, 9, 10, 11, 12, 13, 14, 15, 16, 17, 18, 19, 20, 21, 22, 23, 24, 25, 26, 27, 28, 29, 30, 31, 32, 33, 34, 35, 36, 37, 38, 39, 40, 41], [0, 1, 2, 3, 4, 5, 7, 8, 9, 10, 11, 12, 13, 14, 15, 16, 17, 18, 19, 20, 21, 22, 23, 24, 25, 26, 27, 28, 29, 30, 31, 32, 33, 34, 35, 36, 37, 38, 39, 40, 41]))], sk := [], mvs := [], fz := [] }
def f_i_Group_add_a (g0 : List Sc) (x1 : Int) (y2 : Int) : List AV := enc [.p .gr, .p (.int .i64), .p (.int .i64)] [.l g0, .i x1, .i y2]
def f_i_Group_add_i (g0 : List Sc) (x1 : Int) (y2 : Int) : List AV := enc [] []
def f_i_Group_add_en (r : Int) : List AV × List AV := (enc [.p (.int .i64)] [.i r], enc [] [])
def f_i_Group_add_M : Calling := noC
theorem f_i_Group_add_Mt : CallOk Try.prog (f_i_Group_add_M) := noC_true
theorem f_i_Group_add_o : loopsOnce Try.f90 = true := by kernel_rfl
def f_i_Group_add_h0 : List Sh := [.u, .p (.int .i64), .p (.int .i64), .u, .u, .u, .u, .p (.int .i64), .p (.int .i64), .u, .u, .u, .p .sl, .p (.int .i64), .p (.int .i64), .u, .u, .u, .u, .u, .u, .u, .u, .u, .u, .u, .u, .u, .u, .u, .u, .u, .u, .u, .u, .u, .u, .u, .u, .u, .u, .u]
def f_i_Group_add_fr0 (t12 : List Sc) (t13 : Int) (s : Int × Int × Int × Int × Int) : List AV := enc f_i_Group_add_h0 [.i s.1, .i s.2.1, .i s.2.2.1, .i s.2.2.2.1, .l t12, .i t13, .i s.2.2.2.2]
def f_i_Group_add_g0_1 : List Sh := [.u, .u, .u, .u, .u, .u, .u, .p (.int .i64), .u, .u, .u, .u, .u, .u, .u, .u, .u, .u, .u, .u, .u, .u, .u, .u, .u, .u, .u, .u, .u, .u, .u, .u, .u, .u, .u, .u, .u, .u, .u, .u, .u, .u]
def f_i_Group_add_x0_1 (t12 : List Sc) (t13 : Int) (e : Int) : X × List AV := (.out 0, enc f_i_Group_add_g0_1 [.i e])
def f_i_Group_add_x0_2 (t12 : List Sc) (t13 : Int) (_e : Unit) : X × List AV := (.ret, [])
theorem f_i_Group_add_p0 {R : Type} (t12 : List Sc) (t13 : Int) (s : Int × Int × Int × Int × Int) (kN : Int × Int × Int × Int × Int → Option R) (kA : Int → Option R) (kB : Unit → Option R) : f_i_Group_add_k0 t12 t13 s.1 s.2.1 s.2.2.1 s.2.2.2.1 s.2.2.2.2 kN kA = (f_i_Group_add_r0 t12 t13 s).bind (Ro.el kN kA kB) := by
  simp only [f_i_Group_add_k0, f_i_Group_add_r0, brB, someB, noneB, Ro.el]
theorem f_i_Group_add_e0 (t12 : List Sc) (t13 : Int) (s : Int × Int × Int × Int × Int) : EC E0 f_i_Group_add_M H0 f_i_Group_add_F (asL (noL)) 0 (bodyOf Try.f90 0) (f_i_Group_add_fr0 t12 t13 s) (done (klOf f_i_Group_add_F 0)) = f_i_Group_add_k0 t12 t13 s.1 s.2.1 s.2.2.1 s.2.2.2.1 s.2.2.2.2 (fun s => some (.norm, f_i_Group_add_fr0 t12 t13 s)) (fun e => some (f_i_Group_add_x0_1 t12 t13 e)) := by kernel_rfl
theorem f_i_Group_add_l0 (t12 : List Sc) (t13 : Int) : ∀ s r, loopL (f_i_Group_add_r0 t12 t13) s = some r → LS Try.prog f_i_Group_add_F (bodyOf Try.f90 0) (f_i_Group_add_fr0 t12 t13 s) (enX (f_i_Group_add_x0_1 t12 t13) (f_i_Group_add_x0_2 t12 t13) r) :=
  loop_true E0ok f_i_Group_add_Mt (noL_true) f_i_Group_add_o (fun _ h => by cases h) (fun _ h => by cases h) (fun s => (f_i_Group_add_e0 t12 t13 s).trans (f_i_Group_add_p0 t12 t13 s _ _ (fun e => some (f_i_Group_add_x0_2 t12 t13 e))))
def f_i_Group_add_t0 (σ : List AV) : Option (Bool × Bool × (X × List AV) × (X × List AV)) := match dec f_i_Group_add_h0 σ with
  | some [.i x1, .i y2, .i sum7, .i unit8, .l t12, .i t13, .i t14] => some (isOne (loopL (f_i_Group_add_r0 t12 t13) (x1, y2, sum7, unit8, t14)), true, f_i_Group_add_x0_1 t12 t13 (getOne 0 (loopL (f_i_Group_add_r0 t12 t13) (x1, y2, sum7, unit8, t14))), (.ret, []))
  | _ => none
theorem f_i_Group_add_tt0 : TTrue Try.prog f_i_Group_add_F Try.f90 0 (f_i_Group_add_t0) := by
  intro σ p r r' h
  unfold f_i_Group_add_t0 at h
  split at h
  · rename_i hd
    rw [← dec_enc hd]
    exact row1 (f_i_Group_add_l0 _ _ _) h
  · cases h
theorem f_i_Group_add_p {R : Type} (g0 : List Sc) (x1 : Int) (y2 : Int) (kR : Int → Option R) : f_i_Group_add_k g0 x1 y2 kR = (f_i_Group_add_k g0 x1 y2 some).bind kR := by
  simp only [f_i_Group_add_k, bl1B, someB]
theorem f_i_Group_add_e (g0 : List Sc) (x1 : Int) (y2 : Int) : runFn E0 f_i_Group_add_M H0 f_i_Group_add_F (asL (addL 0 (f_i_Group_add_t0) (noL))) Try.f90 (f_i_Group_add_a g0 x1 y2) (f_i_Group_add_i g0 x1 y2) = f_i_Group_add_k g0 x1 y2 (fun r => some (f_i_Group_add_en r)) := by kernel_rfl
theorem f_i_Group_add_ok (g0 : List Sc) (x1 : Int) (y2 : Int) (r : Int) (h : f_i_Group_add g0 x1 y2 = some r) : CS Try.prog 90 (f_i_Group_add_a g0 x1 y2) (f_i_Group_add_i g0 x1 y2) (f_i_Group_add_en r).1 (f_i_Group_add_en r).2 :=
  fn_true (Gk := fun k => f_i_Group_add_k g0 x1 y2 k) (en := f_i_Group_add_en) Try.func90 E0ok f_i_Group_add_Mt (addL_true (f_i_Group_add_tt0) (noL_true)) f_i_Group_add_o (f_i_Group_add_e g0 x1 y2) (f_i_Group_add_p g0 x1 y2) h
def f_i_Group_add_c : CRow := fun args inh => match dec2 [.p .gr, .p (.int .i64), .p (.int .i64)] [] args inh with
  | some ([.l g0, .i x1, .i y2], []) => some ((f_i_Group_add g0 x1 y2).isSome, (f_i_Group_add_en ((f_i_Group_add g0 x1 y2).getD 0)).1, (f_i_Group_add_en ((f_i_Group_add g0 x1 y2).getD 0)).2)
  | _ => none
theorem f_i_Group_add_cc : CTrue Try.prog 90 f_i_Group_add_c := by
  intro args inh rs out h
  unfold f_i_Group_add_c at h
  split at h
  · rename_i hd
    obtain ⟨h1, h2⟩ := dec2_enc hd
    rw [← h1, ← h2]
    exact rowC (f_i_Group_add_ok _ _ _) h
  · cases h

def f_i_Group_shift_F : Fi := { nv := 0, nc := 0, m := 0, vt := [], kl := [(0, ([0, 4, 5, 6, 9, 10, 11, 12, 13, 14, 15, 16, 17, 18, 19, 20, 21, 22, 23, 24, 25, 26, 27], [0, 1, 2, 3, 4, 5, 6, 8, 9, 10, 11, 12, 13, 14, 15, 16, 17, 18, 19, 20, 21, 22, 23, 24, 25, 26, 27], [0, 1, 2, 3, 4, 5, 7, 8, 9, 10, 11, 12, 13, 14, 15, 16, 17, 18, 19, 20, 21, 22, 23, 24, 25, 26, 27]))], sk := [], mvs := [], fz := [] }
def f_i_Group_shift_a (g0 : List Sc) (a1 : Int) (x2 : Int) : List AV := enc [.p .gr, .p (.int .i64), .p (.int .i64)] [.l g0, .i a1, .i x2]
def f_i_Group_shift_i (g0 : List Sc) (a1 : Int) (x2 : Int) : List AV := enc [] []
def f_i_Group_shift_en (r : Int) : List AV × List AV := (enc [.p (.int .i64)] [.i r], enc [] [])
def f_i_Group_shift_M : Calling := addC 90 f_i_Group_add_c (noC)
theorem f_i_Group_shift_Mt : CallOk Try.prog (f_i_Group_shift_M) := addC_true f_i_Group_add_cc (noC_true)
theorem f_i_Group_shift_o : loopsOnce Try.f85 = true := by kernel_rfl
def f_i_Group_shift_h0 : List Sh := [.u, .p (.int .i64), .p (.int .i64), .p .el, .u, .u, .u, .p (.int .i64), .p (.int .i64), .u, .u, .u, .u, .u, .u, .u, .u, .u, .u, .u, .u, .u, .u, .u, .u, .u, .u, .u]
def f_i_Group_shift_fr0 (a1 : Int) (x2 : Int) (g3 : List Sc) (s : Int × Int) : List AV := enc f_i_Group_shift_h0 [.i a1, .i x2, .l g3, .i s.1, .i s.2]
def f_i_Group_shift_g0_1 : List Sh := [.u, .u, .u, .u, .u, .u, .u, .p (.int .i64), .u, .u, .u, .u, .u, .u, .u, .u, .u, .u, .u, .u, .u, .u, .u, .u, .u, .u, .u, .u]
def f_i_Group_shift_x0_1 (a1 : Int) (x2 : Int) (g3 : List Sc) (e : Int) : X × List AV := (.out 0, enc f_i_Group_shift_g0_1 [.i e])
def f_i_Group_shift_x0_2 (a1 : Int) (x2 : Int) (g3 : List Sc) (_e : Unit) : X × List AV := (.ret, [])
theorem f_i_Group_shift_p0 {R : Type} (a1 : Int) (x2 : Int) (g3 : List Sc) (s : Int × Int) (kN : Int × Int → Option R) (kA : Int → Option R) (kB : Unit → Option R) : f_i_Group_shift_k0 a1 x2 g3 s.1 s.2 kN kA = (f_i_Group_shift_r0 a1 x2 g3 s).bind (Ro.el kN kA kB) := by
  simp only [f_i_Group_shift_k0, f_i_Group_shift_r0, brB, boB, someB, noneB, Ro.el]
theorem f_i_Group_shift_e0 (a1 : Int) (x2 : Int) (g3 : List Sc) (s : Int × Int) : EC E0 f_i_Group_shift_M H0 f_i_Group_shift_F (asL (noL)) 0 (bodyOf Try.f85 0) (f_i_Group_shift_fr0 a1 x2 g3 s) (done (klOf f_i_Group_shift_F 0)) = f_i_Group_shift_k0 a1 x2 g3 s.1 s.2 (fun s => some (.norm, f_i_Group_shift_fr0 a1 x2 g3 s)) (fun e => some (f_i_Group_shift_x0_1 a1 x2 g3 e)) := by kernel_rfl
theorem f_i_Group_shift_l0 (a1 : Int) (x2 : Int) (g3 : List Sc) : ∀ s r, loopL (f_i_Group_shift_r0 a1 x2 g3) s = some r → LS Try.prog f_i_Group_shift_F (bodyOf Try.f85 0) (f_i_Group_shift_fr0 a1 x2 g3 s) (enX (f_i_Group_shift_x0_1 a1 x2 g3) (f_i_Group_shift_x0_2 a1 x2 g3) r) :=
  loop_true E0ok f_i_Group_shift_Mt (noL_true) f_i_Group_shift_o (fun _ h => by cases h) (fun _ h => by cases h) (fun s => (f_i_Group_shift_e0 a1 x2 g3 s).trans (f_i_Group_shift_p0 a1 x2 g3 s _ _ (fun e => some (f_i_Group_shift_x0_2 a1 x2 g3 e))))
def f_i_Group_shift_t0 (σ : List AV) : Option (Bool × Bool × (X × List AV) × (X × List AV)) := match dec f_i_Group_shift_h0 σ with
  | some [.i a1, .i x2, .l g3, .i out7, .i y8] => some (isOne (loopL (f_i_Group_shift_r0 a1 x2 g3) (out7, y8)), true, f_i_Group_shift_x0_1 a1 x2 g3 (getOne 0 (loopL (f_i_Group_shift_r0 a1 x2 g3) (out7, y8))), (.ret, []))
  | _ => none
theorem f_i_Group_shift_tt0 : TTrue Try.prog f_i_Group_shift_F Try.f85 0 (f_i_Group_shift_t0) := by
  intro σ p r r' h
  unfold f_i_Group_shift_t0 at h
  split at h
  · rename_i hd
    rw [← dec_enc hd]
    exact row1 (f_i_Group_shift_l0 _ _ _ _) h
  · cases h
theorem f_i_Group_shift_p {R : Type} (g0 : List Sc) (a1 : Int) (x2 : Int) (kR : Int → Option R) : f_i_Group_shift_k g0 a1 x2 kR = (f_i_Group_shift_k g0 a1 x2 some).bind kR := by
  simp only [f_i_Group_shift_k, bl1B, someB]
theorem f_i_Group_shift_e (g0 : List Sc) (a1 : Int) (x2 : Int) : runFn E0 f_i_Group_shift_M H0 f_i_Group_shift_F (asL (addL 0 (f_i_Group_shift_t0) (noL))) Try.f85 (f_i_Group_shift_a g0 a1 x2) (f_i_Group_shift_i g0 a1 x2) = f_i_Group_shift_k g0 a1 x2 (fun r => some (f_i_Group_shift_en r)) := by kernel_rfl
theorem f_i_Group_shift_ok (g0 : List Sc) (a1 : Int) (x2 : Int) (r : Int) (h : f_i_Group_shift g0 a1 x2 = some r) : CS Try.prog 85 (f_i_Group_shift_a g0 a1 x2) (f_i_Group_shift_i g0 a1 x2) (f_i_Group_shift_en r).1 (f_i_Group_shift_en r).2 :=
  fn_true (Gk := fun k => f_i_Group_shift_k g0 a1 x2 k) (en := f_i_Group_shift_en) Try.func85 E0ok f_i_Group_shift_Mt (addL_true (f_i_Group_shift_tt0) (noL_true)) f_i_Group_shift_o (f_i_Group_shift_e g0 a1 x2) (f_i_Group_shift_p g0 a1 x2) h
def f_i_Group_shift_c : CRow := fun args inh => match dec2 [.p .gr, .p (.int .i64), .p (.int .i64)] [] args inh with
  | some ([.l g0, .i a1, .i x2], []) => some ((f_i_Group_shift g0 a1 x2).isSome, (f_i_Group_shift_en ((f_i_Group_shift g0 a1 x2).getD 0)).1, (f_i_Group_shift_en ((f_i_Group_shift g0 a1 x2).getD 0)).2)
  | _ => none
theorem f_i_Group_shift_cc : CTrue Try.prog 85 f_i_Group_shift_c := by
  intro args inh rs out h
  unfold f_i_Group_shift_c at h
  split at h
  · rename_i hd
    obtain ⟨h1, h2⟩ := dec2_enc hd
    rw [← h1, ← h2]
    exact rowC (f_i_Group_shift_ok _ _ _) h
  · cases h

def f_i_Group_sum_F : Fi := { nv := 0, nc := 0, m := 0, vt := [], kl := [(0, ([0, 1, 4, 5, 6, 8, 9, 10, 14, 15, 16, 17, 18, 19, 20, 21, 22, 23, 24], [0, 1, 2, 3, 4, 5, 6, 8, 9, 10, 11, 12, 13, 14, 15, 16, 17, 18, 19, 20, 21, 22, 23, 24], [0, 1, 2, 3, 4, 5, 7, 8, 9, 10, 11, 12, 13, 14, 15, 16, 17, 18, 19, 20, 21, 22, 23, 24]))], sk := [], mvs := [], fz := [] }
def f_i_Group_sum_a (g0 : List Sc) (a1 : Int) (b2 : Int) : List AV := enc [.p .gr, .p (.int .i64), .p (.int .i64)] [.l g0, .i a1, .i b2]
def f_i_Group_sum_i (g0 : List Sc) (a1 : Int) (b2 : Int) : List AV := enc [] []
def f_i_Group_sum_en (r : Int) : List AV × List AV := (enc [.p (.int .i64)] [.i r], enc [] [])
def f_i_Group_sum_M : Calling := addC 56 f_i_members_c (addC 85 f_i_Group_shift_c (noC))
theorem f_i_Group_sum_Mt : CallOk Try.prog (f_i_Group_sum_M) := addC_true f_i_members_cc (addC_true f_i_Group_shift_cc (noC_true))
theorem f_i_Group_sum_o : loopsOnce Try.f71 = true := by kernel_rfl
def f_i_Group_sum_h0 : List Sh := [.u, .u, .p (.int .i64), .p .el, .u, .u, .u, .p (.int .i64), .u, .u, .u, .own 3, .p (.int .i64), .p (.int .i64), .u, .u, .u, .u, .u, .u, .u, .u, .u, .u, .u]
def f_i_Group_sum_fr0 (b2 : Int) (g3 : List Sc) (t12 : Int) (s : Int × List Sc × Int) : List AV := enc f_i_Group_sum_h0 [.i b2, .l g3, .i s.1, .l s.2.1, .i t12, .i s.2.2]
def f_i_Group_sum_g0_1 : List Sh := [.u, .u, .u, .u, .u, .u, .u, .p (.int .i64), .u, .u, .u, .u, .u, .u, .u, .u, .u, .u, .u, .u, .u, .u, .u, .u, .u]
def f_i_Group_sum_x0_1 (b2 : Int) (g3 : List Sc) (t12 : Int) (e : Int) : X × List AV := (.out 0, enc f_i_Group_sum_g0_1 [.i e])
def f_i_Group_sum_x0_2 (b2 : Int) (g3 : List Sc) (t12 : Int) (_e : Unit) : X × List AV := (.ret, [])
theorem f_i_Group_sum_p0 {R : Type} (b2 : Int) (g3 : List Sc) (t12 : Int) (s : Int × List Sc × Int) (kN : Int × List Sc × Int → Option R) (kA : Int → Option R) (kB : Unit → Option R) : f_i_Group_sum_k0 b2 g3 t12 s.1 s.2.1 s.2.2 kN kA = (f_i_Group_sum_r0 b2 g3 t12 s).bind (Ro.el kN kA kB) := by
  simp only [f_i_Group_sum_k0, f_i_Group_sum_r0, brB, boB, someB, noneB, Ro.el]
theorem f_i_Group_sum_e0 (b2 : Int) (g3 : List Sc) (t12 : Int) (s : Int × List Sc × Int) : EC E0 f_i_Group_sum_M H0 f_i_Group_sum_F (asL (noL)) 0 (bodyOf Try.f71 0) (f_i_Group_sum_fr0 b2 g3 t12 s) (done (klOf f_i_Group_sum_F 0)) = f_i_Group_sum_k0 b2 g3 t12 s.1 s.2.1 s.2.2 (fun s => some (.norm, f_i_Group_sum_fr0 b2 g3 t12 s)) (fun e => some (f_i_Group_sum_x0_1 b2 g3 t12 e)) := by kernel_rfl
theorem f_i_Group_sum_l0 (b2 : Int) (g3 : List Sc) (t12 : Int) : ∀ s r, loopL (f_i_Group_sum_r0 b2 g3 t12) s = some r → LS Try.prog f_i_Group_sum_F (bodyOf Try.f71 0) (f_i_Group_sum_fr0 b2 g3 t12 s) (enX (f_i_Group_sum_x0_1 b2 g3 t12) (f_i_Group_sum_x0_2 b2 g3 t12) r) :=
  loop_true E0ok f_i_Group_sum_Mt (noL_true) f_i_Group_sum_o (fun _ h => by cases h) (fun _ h => by cases h) (fun s => (f_i_Group_sum_e0 b2 g3 t12 s).trans (f_i_Group_sum_p0 b2 g3 t12 s _ _ (fun e => some (f_i_Group_sum_x0_2 b2 g3 t12 e))))
def f_i_Group_sum_t0 (σ : List AV) : Option (Bool × Bool × (X × List AV) × (X × List AV)) := match dec f_i_Group_sum_h0 σ with
  | some [.i b2, .l g3, .i out7, .l t11, .i t12, .i t13] => some (isOne (loopL (f_i_Group_sum_r0 b2 g3 t12) (out7, t11, t13)), true, f_i_Group_sum_x0_1 b2 g3 t12 (getOne 0 (loopL (f_i_Group_sum_r0 b2 g3 t12) (out7, t11, t13))), (.ret, []))
  | _ => none
theorem f_i_Group_sum_tt0 : TTrue Try.prog f_i_Group_sum_F Try.f71 0 (f_i_Group_sum_t0) := by
  intro σ p r r' h
  unfold f_i_Group_sum_t0 at h
  split at h
  · rename_i hd
    rw [← dec_enc hd]
    exact row1 (f_i_Group_sum_l0 _ _ _ _) h
  · cases h
theorem f_i_Group_sum_p {R : Type} (g0 : List Sc) (a1 : Int) (b2 : Int) (kR : Int → Option R) : f_i_Group_sum_k g0 a1 b2 kR = (f_i_Group_sum_k g0 a1 b2 some).bind kR := by
  simp only [f_i_Group_sum_k, boB, bl1B, someB]
theorem f_i_Group_sum_e (g0 : List Sc) (a1 : Int) (b2 : Int) : runFn E0 f_i_Group_sum_M H0 f_i_Group_sum_F (asL (addL 0 (f_i_Group_sum_t0) (noL))) Try.f71 (f_i_Group_sum_a g0 a1 b2) (f_i_Group_sum_i g0 a1 b2) = f_i_Group_sum_k g0 a1 b2 (fun r => some (f_i_Group_sum_en r)) := by kernel_rfl
theorem f_i_Group_sum_ok (g0 : List Sc) (a1 : Int) (b2 : Int) (r : Int) (h : f_i_Group_sum g0 a1 b2 = some r) : CS Try.prog 71 (f_i_Group_sum_a g0 a1 b2) (f_i_Group_sum_i g0 a1 b2) (f_i_Group_sum_en r).1 (f_i_Group_sum_en r).2 :=
  fn_true (Gk := fun k => f_i_Group_sum_k g0 a1 b2 k) (en := f_i_Group_sum_en) Try.func71 E0ok f_i_Group_sum_Mt (addL_true (f_i_Group_sum_tt0) (noL_true)) f_i_Group_sum_o (f_i_Group_sum_e g0 a1 b2) (f_i_Group_sum_p g0 a1 b2) h
def f_i_Group_sum_c : CRow := fun args inh => match dec2 [.p .gr, .p (.int .i64), .p (.int .i64)] [] args inh with
  | some ([.l g0, .i a1, .i b2], []) => some ((f_i_Group_sum g0 a1 b2).isSome, (f_i_Group_sum_en ((f_i_Group_sum g0 a1 b2).getD 0)).1, (f_i_Group_sum_en ((f_i_Group_sum g0 a1 b2).getD 0)).2)
  | _ => none
theorem f_i_Group_sum_cc : CTrue Try.prog 71 f_i_Group_sum_c := by
  intro args inh rs out h
  unfold f_i_Group_sum_c at h
  split at h
  · rename_i hd
    obtain ⟨h1, h2⟩ := dec2_enc hd
    rw [← h1, ← h2]
    exact rowC (f_i_Group_sum_ok _ _ _) h
  · cases h

def f_i_Group_negate_F : Fi := { nv := 0, nc := 0, m := 0, vt := [], kl := [(0, ([0, 2, 3, 4, 7, 8, 9, 13, 14, 15, 16, 17, 18, 19, 20, 21, 22, 23, 24, 25, 26, 27, 28, 29, 30, 31, 32, 33, 34], [0, 1, 2, 3, 4, 6, 7, 8, 9, 10, 11, 12, 13, 14, 15, 16, 17, 18, 19, 20, 21, 22, 23, 24, 25, 26, 27, 28, 29, 30, 31, 32, 33, 34], [0, 1, 2, 3, 5, 6, 7, 8, 9, 10, 11, 12, 13, 14, 15, 16, 17, 18, 19, 20, 21, 22, 23, 24, 25, 26, 27, 28, 29, 30, 31, 32, 33, 34]))], sk := [], mvs := [], fz := [] }
def f_i_Group_negate_a (g0 : List Sc) (x1 : Int) : List AV := enc [.p .gr, .p (.int .i64)] [.l g0, .i x1]
def f_i_Group_negate_i (g0 : List Sc) (x1 : Int) : List AV := enc [] []
def f_i_Group_negate_en (r : Int) : List AV × List AV := (enc [.p (.int .i64)] [.i r], enc [] [])
def f_i_Group_negate_M : Calling := noC
theorem f_i_Group_negate_Mt : CallOk Try.prog (f_i_Group_negate_M) := noC_true
theorem f_i_Group_negate_o : loopsOnce Try.f86 = true := by kernel_rfl
def f_i_Group_negate_h0 : List Sh := [.u, .p (.int .i64), .u, .u, .u, .p (.int .i64), .p (.int .i64), .u, .u, .u, .p .sl, .p (.int .i64), .p (.int .i64), .u, .u, .u, .u, .u, .u, .u, .u, .u, .u, .u, .u, .u, .u, .u, .u, .u, .u, .u, .u, .u, .u]
def f_i_Group_negate_fr0 (t10 : List Sc) (t11 : Int) (s : Int × Int × Int × Int) : List AV := enc f_i_Group_negate_h0 [.i s.1, .i s.2.1, .i s.2.2.1, .l t10, .i t11, .i s.2.2.2]
def f_i_Group_negate_g0_1 : List Sh := [.u, .u, .u, .u, .u, .p (.int .i64), .u, .u, .u, .u, .u, .u, .u, .u, .u, .u, .u, .u, .u, .u, .u, .u, .u, .u, .u, .u, .u, .u, .u, .u, .u, .u, .u, .u, .u]
def f_i_Group_negate_x0_1 (t10 : List Sc) (t11 : Int) (e : Int) : X × List AV := (.out 0, enc f_i_Group_negate_g0_1 [.i e])
def f_i_Group_negate_x0_2 (t10 : List Sc) (t11 : Int) (_e : Unit) : X × List AV := (.ret, [])
theorem f_i_Group_negate_p0 {R : Type} (t10 : List Sc) (t11 : Int) (s : Int × Int × Int × Int) (kN : Int × Int × Int × Int → Option R) (kA : Int → Option R) (kB : Unit → Option R) : f_i_Group_negate_k0 t10 t11 s.1 s.2.1 s.2.2.1 s.2.2.2 kN kA = (f_i_Group_negate_r0 t10 t11 s).bind (Ro.el kN kA kB) := by
  simp only [f_i_Group_negate_k0, f_i_Group_negate_r0, brB, someB, noneB, Ro.el]
theorem f_i_Group_negate_e0 (t10 : List Sc) (t11 : Int) (s : Int × Int × Int × Int) : EC E0 f_i_Group_negate_M H0 f_i_Group_negate_F (asL (noL)) 0 (bodyOf Try.f86 0) (f_i_Group_negate_fr0 t10 t11 s) (done (klOf f_i_Group_negate_F 0)) = f_i_Group_negate_k0 t10 t11 s.1 s.2.1 s.2.2.1 s.2.2.2 (fun s => some (.norm, f_i_Group_negate_fr0 t10 t11 s)) (fun e => some (f_i_Group_negate_x0_1 t10 t11 e)) := by kernel_rfl
theorem f_i_Group_negate_l0 (t10 : List Sc) (t11 : Int) : ∀ s r, loopL (f_i_Group_negate_r0 t10 t11) s = some r → LS Try.prog f_i_Group_negate_F (bodyOf Try.f86 0) (f_i_Group_negate_fr0 t10 t11 s) (enX (f_i_Group_negate_x0_1 t10 t11) (f_i_Group_negate_x0_2 t10 t11) r) :=
  loop_true E0ok f_i_Group_negate_Mt (noL_true) f_i_Group_negate_o (fun _ h => by cases h) (fun _ h => by cases h) (fun s => (f_i_Group_negate_e0 t10 t11 s).trans (f_i_Group_negate_p0 t10 t11 s _ _ (fun e => some (f_i_Group_negate_x0_2 t10 t11 e))))
def f_i_Group_negate_t0 (σ : List AV) : Option (Bool × Bool × (X × List AV) × (X × List AV)) := match dec f_i_Group_negate_h0 σ with
  | some [.i x1, .i sum5, .i unit6, .l t10, .i t11, .i t12] => some (isOne (loopL (f_i_Group_negate_r0 t10 t11) (x1, sum5, unit6, t12)), true, f_i_Group_negate_x0_1 t10 t11 (getOne 0 (loopL (f_i_Group_negate_r0 t10 t11) (x1, sum5, unit6, t12))), (.ret, []))
  | _ => none
theorem f_i_Group_negate_tt0 : TTrue Try.prog f_i_Group_negate_F Try.f86 0 (f_i_Group_negate_t0) := by
  intro σ p r r' h
  unfold f_i_Group_negate_t0 at h
  split at h
  · rename_i hd
    rw [← dec_enc hd]
    exact row1 (f_i_Group_negate_l0 _ _ _) h
  · cases h
theorem f_i_Group_negate_p {R : Type} (g0 : List Sc) (x1 : Int) (kR : Int → Option R) : f_i_Group_negate_k g0 x1 kR = (f_i_Group_negate_k g0 x1 some).bind kR := by
  simp only [f_i_Group_negate_k, bl1B, someB]
theorem f_i_Group_negate_e (g0 : List Sc) (x1 : Int) : runFn E0 f_i_Group_negate_M H0 f_i_Group_negate_F (asL (addL 0 (f_i_Group_negate_t0) (noL))) Try.f86 (f_i_Group_negate_a g0 x1) (f_i_Group_negate_i g0 x1) = f_i_Group_negate_k g0 x1 (fun r => some (f_i_Group_negate_en r)) := by kernel_rfl
theorem f_i_Group_negate_ok (g0 : List Sc) (x1 : Int) (r : Int) (h : f_i_Group_negate g0 x1 = some r) : CS Try.prog 86 (f_i_Group_negate_a g0 x1) (f_i_Group_negate_i g0 x1) (f_i_Group_negate_en r).1 (f_i_Group_negate_en r).2 :=
  fn_true (Gk := fun k => f_i_Group_negate_k g0 x1 k) (en := f_i_Group_negate_en) Try.func86 E0ok f_i_Group_negate_Mt (addL_true (f_i_Group_negate_tt0) (noL_true)) f_i_Group_negate_o (f_i_Group_negate_e g0 x1) (f_i_Group_negate_p g0 x1) h
def f_i_Group_negate_c : CRow := fun args inh => match dec2 [.p .gr, .p (.int .i64)] [] args inh with
  | some ([.l g0, .i x1], []) => some ((f_i_Group_negate g0 x1).isSome, (f_i_Group_negate_en ((f_i_Group_negate g0 x1).getD 0)).1, (f_i_Group_negate_en ((f_i_Group_negate g0 x1).getD 0)).2)
  | _ => none
theorem f_i_Group_negate_cc : CTrue Try.prog 86 f_i_Group_negate_c := by
  intro args inh rs out h
  unfold f_i_Group_negate_c at h
  split at h
  · rename_i hd
    obtain ⟨h1, h2⟩ := dec2_enc hd
    rw [← h1, ← h2]
    exact rowC (f_i_Group_negate_ok _ _) h
  · cases h

def f_i_Group_opposite_F : Fi := { nv := 0, nc := 0, m := 0, vt := [], kl := [(0, ([0, 1, 3, 4, 6, 7, 8, 12, 13, 14, 15, 16, 17, 18, 19, 20, 21, 22], [0, 1, 2, 3, 4, 6, 7, 8, 9, 10, 11, 12, 13, 14, 15, 16, 17, 18, 19, 20, 21, 22], [0, 1, 2, 3, 5, 6, 7, 8, 9, 10, 11, 12, 13, 14, 15, 16, 17, 18, 19, 20, 21, 22]))], sk := [], mvs := [], fz := [] }
def f_i_Group_opposite_a (g0 : List Sc) (a1 : Int) : List AV := enc [.p .gr, .p (.int .i64)] [.l g0, .i a1]
def f_i_Group_opposite_i (g0 : List Sc) (a1 : Int) : List AV := enc [] []
def f_i_Group_opposite_en (r : Int) : List AV × List AV := (enc [.p (.int .i64)] [.i r], enc [] [])
def f_i_Group_opposite_M : Calling := addC 56 f_i_members_c (addC 86 f_i_Group_negate_c (noC))
theorem f_i_Group_opposite_Mt : CallOk Try.prog (f_i_Group_opposite_M) := addC_true f_i_members_cc (addC_true f_i_Group_negate_cc (noC_true))
theorem f_i_Group_opposite_o : loopsOnce Try.f72 = true := by kernel_rfl
def f_i_Group_opposite_h0 : List Sh := [.u, .u, .p .el, .u, .u, .p (.int .i64), .u, .u, .u, .own 3, .p (.int .i64), .p (.int .i64), .u, .u, .u, .u, .u, .u, .u, .u, .u, .u, .u]
def f_i_Group_opposite_fr0 (g2 : List Sc) (t10 : Int) (s : Int × List Sc × Int) : List AV := enc f_i_Group_opposite_h0 [.l g2, .i s.1, .l s.2.1, .i t10, .i s.2.2]
def f_i_Group_opposite_g0_1 : List Sh := [.u, .u, .u, .u, .u, .p (.int .i64), .u, .u, .u, .u, .u, .u, .u, .u, .u, .u, .u, .u, .u, .u, .u, .u, .u]
def f_i_Group_opposite_x0_1 (g2 : List Sc) (t10 : Int) (e : Int) : X × List AV := (.out 0, enc f_i_Group_opposite_g0_1 [.i e])
def f_i_Group_opposite_x0_2 (g2 : List Sc) (t10 : Int) (_e : Unit) : X × List AV := (.ret, [])
theorem f_i_Group_opposite_p0 {R : Type} (g2 : List Sc) (t10 : Int) (s : Int × List Sc × Int) (kN : Int × List Sc × Int → Option R) (kA : Int → Option R) (kB : Unit → Option R) : f_i_Group_opposite_k0 g2 t10 s.1 s.2.1 s.2.2 kN kA = (f_i_Group_opposite_r0 g2 t10 s).bind (Ro.el kN kA kB) := by
  simp only [f_i_Group_opposite_k0, f_i_Group_opposite_r0, brB, boB, someB, noneB, Ro.el]
theorem f_i_Group_opposite_e0 (g2 : List Sc) (t10 : Int) (s : Int × List Sc × Int) : EC E0 f_i_Group_opposite_M H0 f_i_Group_opposite_F (asL (noL)) 0 (bodyOf Try.f72 0) (f_i_Group_opposite_fr0 g2 t10 s) (done (klOf f_i_Group_opposite_F 0)) = f_i_Group_opposite_k0 g2 t10 s.1 s.2.1 s.2.2 (fun s => some (.norm, f_i_Group_opposite_fr0 g2 t10 s)) (fun e => some (f_i_Group_opposite_x0_1 g2 t10 e)) := by kernel_rfl
theorem f_i_Group_opposite_l0 (g2 : List Sc) (t10 : Int) : ∀ s r, loopL (f_i_Group_opposite_r0 g2 t10) s = some r → LS Try.prog f_i_Group_opposite_F (bodyOf Try.f72 0) (f_i_Group_opposite_fr0 g2 t10 s) (enX (f_i_Group_opposite_x0_1 g2 t10) (f_i_Group_opposite_x0_2 g2 t10) r) :=
  loop_true E0ok f_i_Group_opposite_Mt (noL_true) f_i_Group_opposite_o (fun _ h => by cases h) (fun _ h => by cases h) (fun s => (f_i_Group_opposite_e0 g2 t10 s).trans (f_i_Group_opposite_p0 g2 t10 s _ _ (fun e => some (f_i_Group_opposite_x0_2 g2 t10 e))))
def f_i_Group_opposite_t0 (σ : List AV) : Option (Bool × Bool × (X × List AV) × (X × List AV)) := match dec f_i_Group_opposite_h0 σ with
  | some [.l g2, .i out5, .l t9, .i t10, .i t11] => some (isOne (loopL (f_i_Group_opposite_r0 g2 t10) (out5, t9, t11)), true, f_i_Group_opposite_x0_1 g2 t10 (getOne 0 (loopL (f_i_Group_opposite_r0 g2 t10) (out5, t9, t11))), (.ret, []))
  | _ => none
theorem f_i_Group_opposite_tt0 : TTrue Try.prog f_i_Group_opposite_F Try.f72 0 (f_i_Group_opposite_t0) := by
  intro σ p r r' h
  unfold f_i_Group_opposite_t0 at h
  split at h
  · rename_i hd
    rw [← dec_enc hd]
    exact row1 (f_i_Group_opposite_l0 _ _ _) h
  · cases h
theorem f_i_Group_opposite_p {R : Type} (g0 : List Sc) (a1 : Int) (kR : Int → Option R) : f_i_Group_opposite_k g0 a1 kR = (f_i_Group_opposite_k g0 a1 some).bind kR := by
  simp only [f_i_Group_opposite_k, boB, bl1B, someB]
theorem f_i_Group_opposite_e (g0 : List Sc) (a1 : Int) : runFn E0 f_i_Group_opposite_M H0 f_i_Group_opposite_F (asL (addL 0 (f_i_Group_opposite_t0) (noL))) Try.f72 (f_i_Group_opposite_a g0 a1) (f_i_Group_opposite_i g0 a1) = f_i_Group_opposite_k g0 a1 (fun r => some (f_i_Group_opposite_en r)) := by kernel_rfl
theorem f_i_Group_opposite_ok (g0 : List Sc) (a1 : Int) (r : Int) (h : f_i_Group_opposite g0 a1 = some r) : CS Try.prog 72 (f_i_Group_opposite_a g0 a1) (f_i_Group_opposite_i g0 a1) (f_i_Group_opposite_en r).1 (f_i_Group_opposite_en r).2 :=
  fn_true (Gk := fun k => f_i_Group_opposite_k g0 a1 k) (en := f_i_Group_opposite_en) Try.func72 E0ok f_i_Group_opposite_Mt (addL_true (f_i_Group_opposite_tt0) (noL_true)) f_i_Group_opposite_o (f_i_Group_opposite_e g0 a1) (f_i_Group_opposite_p g0 a1) h
def f_i_Group_opposite_c : CRow := fun args inh => match dec2 [.p .gr, .p (.int .i64)] [] args inh with
  | some ([.l g0, .i a1], []) => some ((f_i_Group_opposite g0 a1).isSome, (f_i_Group_opposite_en ((f_i_Group_opposite g0 a1).getD 0)).1, (f_i_Group_opposite_en ((f_i_Group_opposite g0 a1).getD 0)).2)
  | _ => none
theorem f_i_Group_opposite_cc : CTrue Try.prog 72 f_i_Group_opposite_c := by
  intro args inh rs out h
  unfold f_i_Group_opposite_c at h
  split at h
  · rename_i hd
    obtain ⟨h1, h2⟩ := dec2_enc hd
    rw [← h1, ← h2]
    exact rowC (f_i_Group_opposite_ok _ _) h
  · cases h

def f_i_Group_generated_F : Fi := { nv := 0, nc := 0, m := 0, vt := [], kl := [(0, ([0, 3, 4, 6, 7, 8, 9, 10, 11, 12, 13, 14, 15, 16, 17, 18, 19, 20, 21, 22, 23, 24], [0, 1, 2, 3, 4, 5, 6, 7, 8, 9, 10, 11, 12, 13, 14, 15, 16, 17, 18, 19, 20, 21, 22, 23, 24], [0, 1, 2, 3, 5, 6, 7, 8, 9, 10, 11, 12, 13, 14, 15, 16, 17, 18, 19, 20, 21, 22, 23, 24]))], sk := [], mvs := [], fz := [] }
def f_i_Group_generated_a (g0 : List Sc) (a1 : Int) : List AV := enc [.p .gr, .p (.int .i64)] [.l g0, .i a1]
def f_i_Group_generated_i (g0 : List Sc) (a1 : Int) : List AV := enc [] []
def f_i_Group_generated_en (r : Int) : List AV × List AV := (enc [.p (.int .i64)] [.i r], enc [] [])
def f_i_Group_generated_M : Calling := addC 71 f_i_Group_sum_c (addC 72 f_i_Group_opposite_c (noC))
theorem f_i_Group_generated_Mt : CallOk Try.prog (f_i_Group_generated_M) := addC_true f_i_Group_sum_cc (addC_true f_i_Group_opposite_cc (noC_true))
theorem f_i_Group_generated_o : loopsOnce Try.f50 = true := by kernel_rfl
def f_i_Group_generated_h0 : List Sh := [.u, .p (.int .i64), .p .el, .u, .u, .p (.int .i64), .u, .u, .u, .u, .u, .u, .u, .u, .u, .u, .u, .u, .u, .u, .u, .u, .u, .u, .u]
def f_i_Group_generated_fr0 (a1 : Int) (g2 : List Sc) (s : Int) : List AV := enc f_i_Group_generated_h0 [.i a1, .l g2, .i s]
def f_i_Group_generated_g0_1 : List Sh := [.u, .u, .u, .u, .p (.int .i64), .u, .u, .u, .u, .u, .u, .u, .u, .u, .u, .u, .u, .u, .u, .u, .u, .u, .u, .u, .u]
def f_i_Group_generated_x0_1 (a1 : Int) (g2 : List Sc) (e : Int) : X × List AV := (.ret, enc f_i_Group_generated_g0_1 [.i e])
def f_i_Group_generated_x0_2 (a1 : Int) (g2 : List Sc) (_e : Unit) : X × List AV := (.ret, [])
theorem f_i_Group_generated_p0 {R : Type} (a1 : Int) (g2 : List Sc) (s : Int) (kN : Int → Option R) (kA : Int → Option R) (kB : Unit → Option R) : f_i_Group_generated_k0 a1 g2 s kN kA = (f_i_Group_generated_r0 a1 g2 s).bind (Ro.el kN kA kB) := by
  simp only [f_i_Group_generated_k0, f_i_Group_generated_r0, brB, boB, someB, Ro.el]
theorem f_i_Group_generated_e0 (a1 : Int) (g2 : List Sc) (s : Int) : EC E0 f_i_Group_generated_M H0 f_i_Group_generated_F (asL (noL)) 0 (bodyOf Try.f50 0) (f_i_Group_generated_fr0 a1 g2 s) (done (klOf f_i_Group_generated_F 0)) = f_i_Group_generated_k0 a1 g2 s (fun s => some (.norm, f_i_Group_generated_fr0 a1 g2 s)) (fun e => some (f_i_Group_generated_x0_1 a1 g2 e)) := by kernel_rfl
theorem f_i_Group_generated_l0 (a1 : Int) (g2 : List Sc) : ∀ s r, loopL (f_i_Group_generated_r0 a1 g2) s = some r → LS Try.prog f_i_Group_generated_F (bodyOf Try.f50 0) (f_i_Group_generated_fr0 a1 g2 s) (enX (f_i_Group_generated_x0_1 a1 g2) (f_i_Group_generated_x0_2 a1 g2) r) :=
  loop_true E0ok f_i_Group_generated_Mt (noL_true) f_i_Group_generated_o (fun _ h => by cases h) (fun _ h => by cases h) (fun s => (f_i_Group_generated_e0 a1 g2 s).trans (f_i_Group_generated_p0 a1 g2 s _ _ (fun e => some (f_i_Group_generated_x0_2 a1 g2 e))))
def f_i_Group_generated_t0 (σ : List AV) : Option (Bool × Bool × (X × List AV) × (X × List AV)) := match dec f_i_Group_generated_h0 σ with
  | some [.i a1, .l g2, .i h5] => some (isOne (loopL (f_i_Group_generated_r0 a1 g2) h5), true, f_i_Group_generated_x0_1 a1 g2 (getOne 0 (loopL (f_i_Group_generated_r0 a1 g2) h5)), (.ret, []))
  | _ => none
theorem f_i_Group_generated_tt0 : TTrue Try.prog f_i_Group_generated_F Try.f50 0 (f_i_Group_generated_t0) := by
  intro σ p r r' h
  unfold f_i_Group_generated_t0 at h
  split at h
  · rename_i hd
    rw [← dec_enc hd]
    exact row1 (f_i_Group_generated_l0 _ _ _) h
  · cases h
theorem f_i_Group_generated_p {R : Type} (g0 : List Sc) (a1 : Int) (kR : Int → Option R) : f_i_Group_generated_k g0 a1 kR = (f_i_Group_generated_k g0 a1 some).bind kR := by
  simp only [f_i_Group_generated_k, bl1B, someB]
theorem f_i_Group_generated_e (g0 : List Sc) (a1 : Int) : runFn E0 f_i_Group_generated_M H0 f_i_Group_generated_F (asL (addL 0 (f_i_Group_generated_t0) (noL))) Try.f50 (f_i_Group_generated_a g0 a1) (f_i_Group_generated_i g0 a1) = f_i_Group_generated_k g0 a1 (fun r => some (f_i_Group_generated_en r)) := by kernel_rfl
theorem f_i_Group_generated_ok (g0 : List Sc) (a1 : Int) (r : Int) (h : f_i_Group_generated g0 a1 = some r) : CS Try.prog 50 (f_i_Group_generated_a g0 a1) (f_i_Group_generated_i g0 a1) (f_i_Group_generated_en r).1 (f_i_Group_generated_en r).2 :=
  fn_true (Gk := fun k => f_i_Group_generated_k g0 a1 k) (en := f_i_Group_generated_en) Try.func50 E0ok f_i_Group_generated_Mt (addL_true (f_i_Group_generated_tt0) (noL_true)) f_i_Group_generated_o (f_i_Group_generated_e g0 a1) (f_i_Group_generated_p g0 a1) h
def f_i_Group_generated_c : CRow := fun args inh => match dec2 [.p .gr, .p (.int .i64)] [] args inh with
  | some ([.l g0, .i a1], []) => some ((f_i_Group_generated g0 a1).isSome, (f_i_Group_generated_en ((f_i_Group_generated g0 a1).getD 0)).1, (f_i_Group_generated_en ((f_i_Group_generated g0 a1).getD 0)).2)
  | _ => none
theorem f_i_Group_generated_cc : CTrue Try.prog 50 f_i_Group_generated_c := by
  intro args inh rs out h
  unfold f_i_Group_generated_c at h
  split at h
  · rename_i hd
    obtain ⟨h1, h2⟩ := dec2_enc hd
    rw [← h1, ← h2]
    exact rowC (f_i_Group_generated_ok _ _) h
  · cases h

def f_i_IsSubgroup_F : Fi := { nv := 0, nc := 0, m := 0, vt := [], kl := [], sk := [], mvs := [], fz := [] }
def f_i_IsSubgroup_a (g0 : List Sc) (a1 : Int) : List AV := enc [.p .gr, .p (.int .i64)] [.l g0, .i a1]
def f_i_IsSubgroup_i (g0 : List Sc) (a1 : Int) : List AV := enc [] []
def f_i_IsSubgroup_en (r : Bool) : List AV × List AV := (enc [.p .boo] [.b r], enc [] [])
def f_i_IsSubgroup_M : Calling := addC 47 f_i_IsSet_c (addC 50 f_i_Group_generated_c (noC))
theorem f_i_IsSubgroup_Mt : CallOk Try.prog (f_i_IsSubgroup_M) := addC_true f_i_IsSet_cc (addC_true f_i_Group_generated_cc (noC_true))
theorem f_i_IsSubgroup_o : loopsOnce Try.f15 = true := by kernel_rfl
theorem f_i_IsSubgroup_p {R : Type} (g0 : List Sc) (a1 : Int) (kR : Bool → Option R) : f_i_IsSubgroup_k g0 a1 kR = (f_i_IsSubgroup_k g0 a1 some).bind kR := by
  simp only [f_i_IsSubgroup_k, brB, boB, someB]
theorem f_i_IsSubgroup_e (g0 : List Sc) (a1 : Int) : runFn E0 f_i_IsSubgroup_M H0 f_i_IsSubgroup_F (asL (noL)) Try.f15 (f_i_IsSubgroup_a g0 a1) (f_i_IsSubgroup_i g0 a1) = f_i_IsSubgroup_k g0 a1 (fun r => some (f_i_IsSubgroup_en r)) := by kernel_rfl
theorem f_i_IsSubgroup_ok (g0 : List Sc) (a1 : Int) (r : Bool) (h : f_i_IsSubgroup g0 a1 = some r) : CS Try.prog 15 (f_i_IsSubgroup_a g0 a1) (f_i_IsSubgroup_i g0 a1) (f_i_IsSubgroup_en r).1 (f_i_IsSubgroup_en r).2 :=
  fn_true (Gk := fun k => f_i_IsSubgroup_k g0 a1 k) (en := f_i_IsSubgroup_en) Try.func15 E0ok f_i_IsSubgroup_Mt (noL_true) f_i_IsSubgroup_o (f_i_IsSubgroup_e g0 a1) (f_i_IsSubgroup_p g0 a1) h
def f_i_IsSubgroup_c : CRow := fun args inh => match dec2 [.p .gr, .p (.int .i64)] [] args inh with
  | some ([.l g0, .i a1], []) => some ((f_i_IsSubgroup g0 a1).isSome, (f_i_IsSubgroup_en ((f_i_IsSubgroup g0 a1).getD false)).1, (f_i_IsSubgroup_en ((f_i_IsSubgroup g0 a1).getD false)).2)
  | _ => none
theorem f_i_IsSubgroup_cc : CTrue Try.prog 15 f_i_IsSubgroup_c := by
  intro args inh rs out h
  unfold f_i_IsSubgroup_c at h
  split at h
  · rename_i hd
    obtain ⟨h1, h2⟩ := dec2_enc hd
    rw [← h1, ← h2]
    exact rowC (f_i_IsSubgroup_ok _ _) h
  · cases h

def f_s_IsSubgroup_F : Fi := { nv := 0, nc := 0, m := 0, vt := [], kl := [], sk := [], mvs := [], fz := [] }
def f_s_IsSubgroup_a (g0 : List Sc) (a1 : Int) : List AV := enc [.p .gr, .p (.int .i64)] [.l g0, .i a1]
def f_s_IsSubgroup_i (g0 : List Sc) (a1 : Int) : List AV := enc [] []
def f_s_IsSubgroup_en (r : Bool) : List AV × List AV := (enc [.p .boo] [.b r], enc [] [])
def f_s_IsSubgroup_M : Calling := addC 49 f_s_IsSet_c (addC 51 f_s_l5Closure_c (noC))
theorem f_s_IsSubgroup_Mt : CallOk Try.prog (f_s_IsSubgroup_M) := addC_true f_s_IsSet_cc (addC_true f_s_l5Closure_cc (noC_true))
theorem f_s_IsSubgroup_o : loopsOnce Try.f16 = true := by kernel_rfl
theorem f_s_IsSubgroup_p {R : Type} (g0 : List Sc) (a1 : Int) (kR : Bool → Option R) : f_s_IsSubgroup_k g0 a1 kR = (f_s_IsSubgroup_k g0 a1 some).bind kR := by
  simp only [f_s_IsSubgroup_k, brB, boB, someB]
theorem f_s_IsSubgroup_e (g0 : List Sc) (a1 : Int) : runFn E0 f_s_IsSubgroup_M H0 f_s_IsSubgroup_F (asL (noL)) Try.f16 (f_s_IsSubgroup_a g0 a1) (f_s_IsSubgroup_i g0 a1) = f_s_IsSubgroup_k g0 a1 (fun r => some (f_s_IsSubgroup_en r)) := by kernel_rfl
theorem f_s_IsSubgroup_ok (g0 : List Sc) (a1 : Int) (r : Bool) (h : f_s_IsSubgroup g0 a1 = some r) : CS Try.prog 16 (f_s_IsSubgroup_a g0 a1) (f_s_IsSubgroup_i g0 a1) (f_s_IsSubgroup_en r).1 (f_s_IsSubgroup_en r).2 :=
  fn_true (Gk := fun k => f_s_IsSubgroup_k g0 a1 k) (en := f_s_IsSubgroup_en) Try.func16 E0ok f_s_IsSubgroup_Mt (noL_true) f_s_IsSubgroup_o (f_s_IsSubgroup_e g0 a1) (f_s_IsSubgroup_p g0 a1) h
def f_s_IsSubgroup_c : CRow := fun args inh => match dec2 [.p .gr, .p (.int .i64)] [] args inh with
  | some ([.l g0, .i a1], []) => some ((f_s_IsSubgroup g0 a1).isSome, (f_s_IsSubgroup_en ((f_s_IsSubgroup g0 a1).getD false)).1, (f_s_IsSubgroup_en ((f_s_IsSubgroup g0 a1).getD false)).2)
  | _ => none
theorem f_s_IsSubgroup_cc : CTrue Try.prog 16 f_s_IsSubgroup_c := by
  intro args inh rs out h
  unfold f_s_IsSubgroup_c at h
  split at h
  · rename_i hd
    obtain ⟨h1, h2⟩ := dec2_enc hd
    rw [← h1, ← h2]
    exact rowC (f_s_IsSubgroup_ok _ _) h
  · cases h

def f_s_l3Bits_F : Fi := { nv := 0, nc := 0, m := 0, vt := [], kl := [(0, ([0, 1, 2, 5, 6, 7, 8, 9, 10, 11, 12, 13, 14], [0, 1, 2, 4, 5, 6, 7, 8, 9, 10, 11, 12, 13, 14], [0, 1, 3, 4, 5, 6, 7, 8, 9, 10, 11, 12, 13, 14]))], sk := [], mvs := [], fz := [] }
def f_s_l3Bits_a (a0 : Int) : List AV := enc [.p (.int .i64)] [.i a0]
def f_s_l3Bits_i (a0 : Int) : List AV := enc [] []
def f_s_l3Bits_en (r : Int) : List AV × List AV := (enc [.p (.int .i64)] [.i r], enc [] [])
def f_s_l3Bits_M : Calling := noC
theorem f_s_l3Bits_Mt : CallOk Try.prog (f_s_l3Bits_M) := noC_true
theorem f_s_l3Bits_o : loopsOnce Try.f52 = true := by kernel_rfl
def f_s_l3Bits_h0 : List Sh := [.u, .u, .u, .p (.int .i64), .p (.int .i64), .u, .u, .u, .u, .u, .u, .u, .u, .u, .u]
def f_s_l3Bits_fr0 (s : Int × Int) : List AV := enc f_s_l3Bits_h0 [.i s.1, .i s.2]
def f_s_l3Bits_g0_1 : List Sh := [.u, .u, .u, .p (.int .i64), .u, .u, .u, .u, .u, .u, .u, .u, .u, .u, .u]
def f_s_l3Bits_x0_1 (e : Int) : X × List AV := (.out 0, enc f_s_l3Bits_g0_1 [.i e])
def f_s_l3Bits_x0_2 (_e : Unit) : X × List AV := (.ret, [])
theorem f_s_l3Bits_p0 {R : Type} (s : Int × Int) (kN : Int × Int → Option R) (kA : Int → Option R) (kB : Unit → Option R) : f_s_l3Bits_k0 s.1 s.2 kN kA = (f_s_l3Bits_r0 s).bind (Ro.el kN kA kB) := by
  simp only [f_s_l3Bits_k0, f_s_l3Bits_r0, brB, someB, Ro.el]
theorem f_s_l3Bits_e0 (s : Int × Int) : EC E0 f_s_l3Bits_M H0 f_s_l3Bits_F (asL (noL)) 0 (bodyOf Try.f52 0) (f_s_l3Bits_fr0 s) (done (klOf f_s_l3Bits_F 0)) = f_s_l3Bits_k0 s.1 s.2 (fun s => some (.norm, f_s_l3Bits_fr0 s)) (fun e => some (f_s_l3Bits_x0_1 e)) := by kernel_rfl
theorem f_s_l3Bits_l0 : ∀ s r, loopL (f_s_l3Bits_r0) s = some r → LS Try.prog f_s_l3Bits_F (bodyOf Try.f52 0) (f_s_l3Bits_fr0 s) (enX (f_s_l3Bits_x0_1) (f_s_l3Bits_x0_2) r) :=
  loop_true E0ok f_s_l3Bits_Mt (noL_true) f_s_l3Bits_o (fun _ h => by cases h) (fun _ h => by cases h) (fun s => (f_s_l3Bits_e0 s).trans (f_s_l3Bits_p0 s _ _ (fun e => some (f_s_l3Bits_x0_2 e))))
def f_s_l3Bits_t0 (σ : List AV) : Option (Bool × Bool × (X × List AV) × (X × List AV)) := match dec f_s_l3Bits_h0 σ with
  | some [.i n3, .i x4] => some (isOne (loopL (f_s_l3Bits_r0) (n3, x4)), true, f_s_l3Bits_x0_1 (getOne 0 (loopL (f_s_l3Bits_r0) (n3, x4))), (.ret, []))
  | _ => none
theorem f_s_l3Bits_tt0 : TTrue Try.prog f_s_l3Bits_F Try.f52 0 (f_s_l3Bits_t0) := by
  intro σ p r r' h
  unfold f_s_l3Bits_t0 at h
  split at h
  · rename_i hd
    rw [← dec_enc hd]
    exact row1 (f_s_l3Bits_l0 _) h
  · cases h
theorem f_s_l3Bits_p {R : Type} (a0 : Int) (kR : Int → Option R) : f_s_l3Bits_k a0 kR = (f_s_l3Bits_k a0 some).bind kR := by
  simp only [f_s_l3Bits_k, bl1B, someB]
theorem f_s_l3Bits_e (a0 : Int) : runFn E0 f_s_l3Bits_M H0 f_s_l3Bits_F (asL (addL 0 (f_s_l3Bits_t0) (noL))) Try.f52 (f_s_l3Bits_a a0) (f_s_l3Bits_i a0) = f_s_l3Bits_k a0 (fun r => some (f_s_l3Bits_en r)) := by kernel_rfl
theorem f_s_l3Bits_ok (a0 : Int) (r : Int) (h : f_s_l3Bits a0 = some r) : CS Try.prog 52 (f_s_l3Bits_a a0) (f_s_l3Bits_i a0) (f_s_l3Bits_en r).1 (f_s_l3Bits_en r).2 :=
  fn_true (Gk := fun k => f_s_l3Bits_k a0 k) (en := f_s_l3Bits_en) Try.func52 E0ok f_s_l3Bits_Mt (addL_true (f_s_l3Bits_tt0) (noL_true)) f_s_l3Bits_o (f_s_l3Bits_e a0) (f_s_l3Bits_p a0) h
def f_s_l3Bits_c : CRow := fun args inh => match dec2 [.p (.int .i64)] [] args inh with
  | some ([.i a0], []) => some ((f_s_l3Bits a0).isSome, (f_s_l3Bits_en ((f_s_l3Bits a0).getD 0)).1, (f_s_l3Bits_en ((f_s_l3Bits a0).getD 0)).2)
  | _ => none
theorem f_s_l3Bits_cc : CTrue Try.prog 52 f_s_l3Bits_c := by
  intro args inh rs out h
  unfold f_s_l3Bits_c at h
  split at h
  · rename_i hd
    obtain ⟨h1, h2⟩ := dec2_enc hd
    rw [← h1, ← h2]
    exact rowC (f_s_l3Bits_ok _) h
  · cases h

def f_s_CountSet_F : Fi := { nv := 0, nc := 0, m := 0, vt := [], kl := [], sk := [], mvs := [], fz := [] }
def f_s_CountSet_a (g0 : List Sc) (a1 : Int) : List AV := enc [.p .gr, .p (.int .i64)] [.l g0, .i a1]
def f_s_CountSet_i (g0 : List Sc) (a1 : Int) : List AV := enc [] []
def f_s_CountSet_en (r : Int) : List AV × List AV := (enc [.p (.int .i64)] [.i r], enc [] [])
def f_s_CountSet_M : Calling := addC 49 f_s_IsSet_c (addC 52 f_s_l3Bits_c (noC))
theorem f_s_CountSet_Mt : CallOk Try.prog (f_s_CountSet_M) := addC_true f_s_IsSet_cc (addC_true f_s_l3Bits_cc (noC_true))
theorem f_s_CountSet_o : loopsOnce Try.f17 = true := by kernel_rfl
theorem f_s_CountSet_p {R : Type} (g0 : List Sc) (a1 : Int) (kR : Int → Option R) : f_s_CountSet_k g0 a1 kR = (f_s_CountSet_k g0 a1 some).bind kR := by
  simp only [f_s_CountSet_k, brB, boB, someB]
theorem f_s_CountSet_e (g0 : List Sc) (a1 : Int) : runFn E0 f_s_CountSet_M H0 f_s_CountSet_F (asL (noL)) Try.f17 (f_s_CountSet_a g0 a1) (f_s_CountSet_i g0 a1) = f_s_CountSet_k g0 a1 (fun r => some (f_s_CountSet_en r)) := by kernel_rfl
theorem f_s_CountSet_ok (g0 : List Sc) (a1 : Int) (r : Int) (h : f_s_CountSet g0 a1 = some r) : CS Try.prog 17 (f_s_CountSet_a g0 a1) (f_s_CountSet_i g0 a1) (f_s_CountSet_en r).1 (f_s_CountSet_en r).2 :=
  fn_true (Gk := fun k => f_s_CountSet_k g0 a1 k) (en := f_s_CountSet_en) Try.func17 E0ok f_s_CountSet_Mt (noL_true) f_s_CountSet_o (f_s_CountSet_e g0 a1) (f_s_CountSet_p g0 a1) h
def f_s_CountSet_c : CRow := fun args inh => match dec2 [.p .gr, .p (.int .i64)] [] args inh with
  | some ([.l g0, .i a1], []) => some ((f_s_CountSet g0 a1).isSome, (f_s_CountSet_en ((f_s_CountSet g0 a1).getD 0)).1, (f_s_CountSet_en ((f_s_CountSet g0 a1).getD 0)).2)
  | _ => none
theorem f_s_CountSet_cc : CTrue Try.prog 17 f_s_CountSet_c := by
  intro args inh rs out h
  unfold f_s_CountSet_c at h
  split at h
  · rename_i hd
    obtain ⟨h1, h2⟩ := dec2_enc hd
    rw [← h1, ← h2]
    exact rowC (f_s_CountSet_ok _ _) h
  · cases h

def f_i_CoefficientCounts_F : Fi := { nv := 0, nc := 0, m := 0, vt := [], kl := [(0, ([0, 1, 4, 5, 6, 8, 9, 10, 11, 12, 13, 14, 15, 16, 17, 18, 19, 20, 21, 22, 23, 24, 28, 29, 30, 31, 32, 33, 34, 35, 36, 37, 38, 39, 40, 41], [0, 1, 2, 3, 4, 5, 6, 8, 9, 10, 11, 12, 13, 14, 15, 16, 17, 18, 19, 20, 21, 22, 23, 24, 25, 26, 27, 28, 29, 30, 31, 32, 33, 34, 35, 36, 37, 38, 39, 40, 41], [0, 1, 2, 3, 4, 5, 7, 8, 9, 10, 11, 12, 13, 14, 15, 16, 17, 18, 19, 20, 21, 22, 23, 24, 25, 26, 27, 28, 29, 30, 31, 32, 33, 34, 35, 36, 37, 38, 39, 40, 41]))], sk := [], mvs := [], fz := [] }
def f_i_CoefficientCounts_a (g0 : List Sc) (a1 : Int) (k2 : Int) : List AV := enc [.p .gr, .p (.int .i64), .p (.int .i64)] [.l g0, .i a1, .i k2]
def f_i_CoefficientCounts_i (g0 : List Sc) (a1 : Int) (k2 : Int) : List AV := enc [] []
def f_i_CoefficientCounts_en (r : List Sc) : List AV × List AV := (enc [.p (.al 0)] [], enc [.own 3] [.l r])
def f_i_CoefficientCounts_M : Calling := addC 47 f_i_IsSet_c (addC 38 f_i_Group_has_c (addC 39 f_i_ExponentOf_c (addC 56 f_i_members_c (addC 6 f_i_CharacterValue_c (noC)))))
theorem f_i_CoefficientCounts_Mt : CallOk Try.prog (f_i_CoefficientCounts_M) := addC_true f_i_IsSet_cc (addC_true f_i_Group_has_cc (addC_true f_i_ExponentOf_cc (addC_true f_i_members_cc (addC_true f_i_CharacterValue_cc (noC_true)))))
theorem f_i_CoefficientCounts_o : loopsOnce Try.f22 = true := by kernel_rfl
def f_i_CoefficientCounts_h0 : List Sh := [.u, .u, .p (.int .i64), .p .el, .u, .u, .u, .own 3, .u, .u, .u, .u, .u, .u, .u, .u, .u, .u, .u, .u, .u, .u, .u, .u, .u, .own 3, .p (.int .i64), .p (.int .i64), .u, .u, .u, .u, .u, .u, .u, .u, .u, .u, .u, .u, .u, .u]
def f_i_CoefficientCounts_fr0 (k2 : Int) (g3 : List Sc) (t26 : Int) (s : List Sc × List Sc × Int) : List AV := enc f_i_CoefficientCounts_h0 [.i k2, .l g3, .l s.1, .l s.2.1, .i t26, .i s.2.2]
def f_i_CoefficientCounts_g0_1 : List Sh := [.u, .u, .u, .u, .u, .u, .u, .own 3, .u, .u, .u, .u, .u, .u, .u, .u, .u, .u, .u, .u, .u, .u, .u, .u, .u, .u, .u, .u, .u, .u, .u, .u, .u, .u, .u, .u, .u, .u, .u, .u, .u, .u]
def f_i_CoefficientCounts_x0_1 (k2 : Int) (g3 : List Sc) (t26 : Int) (e : List Sc) : X × List AV := (.out 0, enc f_i_CoefficientCounts_g0_1 [.l e])
def f_i_CoefficientCounts_x0_2 (k2 : Int) (g3 : List Sc) (t26 : Int) (_e : Unit) : X × List AV := (.ret, [])
theorem f_i_CoefficientCounts_p0 {R : Type} (k2 : Int) (g3 : List Sc) (t26 : Int) (s : List Sc × List Sc × Int) (kN : List Sc × List Sc × Int → Option R) (kA : List Sc → Option R) (kB : Unit → Option R) : f_i_CoefficientCounts_k0 k2 g3 t26 s.1 s.2.1 s.2.2 kN kA = (f_i_CoefficientCounts_r0 k2 g3 t26 s).bind (Ro.el kN kA kB) := by
  simp only [f_i_CoefficientCounts_k0, f_i_CoefficientCounts_r0, brB, boB, someB, noneB, Ro.el]
theorem f_i_CoefficientCounts_e0 (k2 : Int) (g3 : List Sc) (t26 : Int) (s : List Sc × List Sc × Int) : EC E0 f_i_CoefficientCounts_M H0 f_i_CoefficientCounts_F (asL (noL)) 0 (bodyOf Try.f22 0) (f_i_CoefficientCounts_fr0 k2 g3 t26 s) (done (klOf f_i_CoefficientCounts_F 0)) = f_i_CoefficientCounts_k0 k2 g3 t26 s.1 s.2.1 s.2.2 (fun s => some (.norm, f_i_CoefficientCounts_fr0 k2 g3 t26 s)) (fun e => some (f_i_CoefficientCounts_x0_1 k2 g3 t26 e)) := by kernel_rfl
theorem f_i_CoefficientCounts_l0 (k2 : Int) (g3 : List Sc) (t26 : Int) : ∀ s r, loopL (f_i_CoefficientCounts_r0 k2 g3 t26) s = some r → LS Try.prog f_i_CoefficientCounts_F (bodyOf Try.f22 0) (f_i_CoefficientCounts_fr0 k2 g3 t26 s) (enX (f_i_CoefficientCounts_x0_1 k2 g3 t26) (f_i_CoefficientCounts_x0_2 k2 g3 t26) r) :=
  loop_true E0ok f_i_CoefficientCounts_Mt (noL_true) f_i_CoefficientCounts_o (fun _ h => by cases h) (fun _ h => by cases h) (fun s => (f_i_CoefficientCounts_e0 k2 g3 t26 s).trans (f_i_CoefficientCounts_p0 k2 g3 t26 s _ _ (fun e => some (f_i_CoefficientCounts_x0_2 k2 g3 t26 e))))
def f_i_CoefficientCounts_t0 (σ : List AV) : Option (Bool × Bool × (X × List AV) × (X × List AV)) := match dec f_i_CoefficientCounts_h0 σ with
  | some [.i k2, .l g3, .l out7, .l t25, .i t26, .i t27] => some (isOne (loopL (f_i_CoefficientCounts_r0 k2 g3 t26) (out7, t25, t27)), true, f_i_CoefficientCounts_x0_1 k2 g3 t26 (getOne [] (loopL (f_i_CoefficientCounts_r0 k2 g3 t26) (out7, t25, t27))), (.ret, []))
  | _ => none
theorem f_i_CoefficientCounts_tt0 : TTrue Try.prog f_i_CoefficientCounts_F Try.f22 0 (f_i_CoefficientCounts_t0) := by
  intro σ p r r' h
  unfold f_i_CoefficientCounts_t0 at h
  split at h
  · rename_i hd
    rw [← dec_enc hd]
    exact row1 (f_i_CoefficientCounts_l0 _ _ _ _) h
  · cases h
theorem f_i_CoefficientCounts_p {R : Type} (g0 : List Sc) (a1 : Int) (k2 : Int) (kR : List Sc → Option R) : f_i_CoefficientCounts_k g0 a1 k2 kR = (f_i_CoefficientCounts_k g0 a1 k2 some).bind kR := by
  simp only [f_i_CoefficientCounts_k, brB, boB, bl1B, someB, noneB]
theorem f_i_CoefficientCounts_e (g0 : List Sc) (a1 : Int) (k2 : Int) : runFn E0 f_i_CoefficientCounts_M H0 f_i_CoefficientCounts_F (asL (addL 0 (f_i_CoefficientCounts_t0) (noL))) Try.f22 (f_i_CoefficientCounts_a g0 a1 k2) (f_i_CoefficientCounts_i g0 a1 k2) = f_i_CoefficientCounts_k g0 a1 k2 (fun r => some (f_i_CoefficientCounts_en r)) := by kernel_rfl
theorem f_i_CoefficientCounts_ok (g0 : List Sc) (a1 : Int) (k2 : Int) (r : List Sc) (h : f_i_CoefficientCounts g0 a1 k2 = some r) : CS Try.prog 22 (f_i_CoefficientCounts_a g0 a1 k2) (f_i_CoefficientCounts_i g0 a1 k2) (f_i_CoefficientCounts_en r).1 (f_i_CoefficientCounts_en r).2 :=
  fn_true (Gk := fun k => f_i_CoefficientCounts_k g0 a1 k2 k) (en := f_i_CoefficientCounts_en) Try.func22 E0ok f_i_CoefficientCounts_Mt (addL_true (f_i_CoefficientCounts_tt0) (noL_true)) f_i_CoefficientCounts_o (f_i_CoefficientCounts_e g0 a1 k2) (f_i_CoefficientCounts_p g0 a1 k2) h
def f_i_CoefficientCounts_c : CRow := fun args inh => match dec2 [.p .gr, .p (.int .i64), .p (.int .i64)] [] args inh with
  | some ([.l g0, .i a1, .i k2], []) => some ((f_i_CoefficientCounts g0 a1 k2).isSome, (f_i_CoefficientCounts_en ((f_i_CoefficientCounts g0 a1 k2).getD [])).1, (f_i_CoefficientCounts_en ((f_i_CoefficientCounts g0 a1 k2).getD [])).2)
  | _ => none
theorem f_i_CoefficientCounts_cc : CTrue Try.prog 22 f_i_CoefficientCounts_c := by
  intro args inh rs out h
  unfold f_i_CoefficientCounts_c at h
  split at h
  · rename_i hd
    obtain ⟨h1, h2⟩ := dec2_enc hd
    rw [← h1, ← h2]
    exact rowC (f_i_CoefficientCounts_ok _ _ _) h
  · cases h

def f_i_copyInts_F : Fi := { nv := 0, nc := 0, m := 0, vt := [], kl := [], sk := [], mvs := [], fz := [] }
def f_i_copyInts_a (l0 : List Sc) : List AV := enc [.p .sl] [.l l0]
def f_i_copyInts_i (l0 : List Sc) : List AV := enc [] []
def f_i_copyInts_en (r : List Sc) : List AV × List AV := (enc [.p (.al 0)] [], enc [.own 3] [.l r])
def f_i_copyInts_M : Calling := noC
theorem f_i_copyInts_Mt : CallOk Try.prog (f_i_copyInts_M) := noC_true
theorem f_i_copyInts_o : loopsOnce Try.f81 = true := by kernel_rfl
theorem f_i_copyInts_p {R : Type} (l0 : List Sc) (kR : List Sc → Option R) : f_i_copyInts_k l0 kR = (f_i_copyInts_k l0 some).bind kR := by
  simp only [f_i_copyInts_k, brB, someB, noneB]
theorem f_i_copyInts_e (l0 : List Sc) : runFn E0 f_i_copyInts_M H0 f_i_copyInts_F (asL (noL)) Try.f81 (f_i_copyInts_a l0) (f_i_copyInts_i l0) = f_i_copyInts_k l0 (fun r => some (f_i_copyInts_en r)) := by kernel_rfl
theorem f_i_copyInts_ok (l0 : List Sc) (r : List Sc) (h : f_i_copyInts l0 = some r) : CS Try.prog 81 (f_i_copyInts_a l0) (f_i_copyInts_i l0) (f_i_copyInts_en r).1 (f_i_copyInts_en r).2 :=
  fn_true (Gk := fun k => f_i_copyInts_k l0 k) (en := f_i_copyInts_en) Try.func81 E0ok f_i_copyInts_Mt (noL_true) f_i_copyInts_o (f_i_copyInts_e l0) (f_i_copyInts_p l0) h
def f_i_copyInts_c : CRow := fun args inh => match dec2 [.p .sl] [] args inh with
  | some ([.l l0], []) => some ((f_i_copyInts l0).isSome, (f_i_copyInts_en ((f_i_copyInts l0).getD [])).1, (f_i_copyInts_en ((f_i_copyInts l0).getD [])).2)
  | _ => none
theorem f_i_copyInts_cc : CTrue Try.prog 81 f_i_copyInts_c := by
  intro args inh rs out h
  unfold f_i_copyInts_c at h
  split at h
  · rename_i hd
    obtain ⟨h1, h2⟩ := dec2_enc hd
    rw [← h1, ← h2]
    exact rowC (f_i_copyInts_ok _) h
  · cases h

def f_i_rest_F : Fi := { nv := 0, nc := 0, m := 0, vt := [], kl := [(2, ([0, 2, 3, 4, 5, 10, 11, 12, 13, 14, 15, 16, 17, 18, 19, 20, 21, 22, 23, 24, 25, 26, 27, 28, 29, 30, 31, 32, 33, 34, 35, 36, 37, 38, 39, 40, 44, 45, 46, 47, 48, 49, 50, 51, 52, 53, 54, 55, 56, 57, 58, 59, 60, 61, 62, 63, 64, 65, 66, 67, 68, 69, 70, 71, 72], [0, 2, 3, 4, 5, 9, 10, 11, 12, 13, 14, 15, 16, 17, 18, 19, 20, 21, 22, 23, 24, 25, 26, 27, 28, 29, 30, 31, 32, 33, 34, 35, 36, 37, 38, 39, 40, 41, 42, 43, 44, 45, 46, 47, 48, 49, 50, 51, 52, 53, 54, 55, 56, 57, 58, 59, 60, 61, 62, 63, 64, 65, 66, 67, 68, 69, 70, 71, 72], [0, 1, 2, 3, 6, 7, 8, 9, 10, 11, 12, 13, 14, 15, 16, 17, 18, 19, 20, 21, 22, 23, 24, 25, 26, 27, 28, 29, 30, 31, 32, 33, 34, 35, 36, 37, 38, 39, 40, 41, 42, 43, 44, 45, 46, 47, 48, 49, 50, 51, 52, 53, 54, 55, 56, 57, 58, 59, 60, 61, 62, 63, 64, 65, 66, 67, 68, 69, 70, 71, 72])), (0, ([0, 2, 3, 4, 5, 9, 10, 11, 12, 13, 14, 15, 16, 17, 18, 19, 20, 21, 22, 23, 24, 25, 26, 27, 28, 29, 30, 31, 32, 33, 34, 35, 36, 37, 38, 39, 40, 41, 42, 43, 44, 45, 46, 47, 48, 49, 50, 51, 52, 53, 54, 55, 56, 57, 58, 59, 60, 61, 62, 63, 64, 65, 66, 67, 68, 69, 70, 71, 72], [0, 2, 3, 4, 5, 9, 10, 11, 12, 13, 14, 15, 16, 17, 18, 19, 20, 21, 22, 23, 24, 25, 26, 27, 28, 29, 30, 31, 32, 33, 34, 35, 36, 37, 38, 39, 40, 41, 42, 43, 44, 45, 46, 47, 48, 49, 50, 51, 52, 53, 54, 55, 56, 57, 58, 59, 60, 61, 62, 63, 64, 65, 66, 67, 68, 69, 70, 71, 72], [0, 1, 2, 3, 6, 7, 8, 9, 10, 11, 12, 13, 14, 15, 16, 17, 18, 19, 20, 21, 22, 23, 24, 25, 26, 27, 28, 29, 30, 31, 32, 33, 34, 35, 36, 37, 38, 39, 40, 41, 42, 43, 44, 45, 46, 47, 48, 49, 50, 51, 52, 53, 54, 55, 56, 57, 58, 59, 60, 61, 62, 63, 64, 65, 66, 67, 68, 69, 70, 71, 72])), (100013, ([0, 2, 3, 4, 5, 8, 9, 10, 11, 12, 13, 14, 15, 16, 17, 18, 19, 20, 21, 22, 23, 24, 25, 26, 27, 28, 29, 30, 31, 32, 33, 34, 35, 36, 37, 38, 39, 40, 41, 42, 43, 44, 45, 46, 47, 48, 49, 50, 51, 52, 53, 54, 55, 56, 57, 58, 59, 60, 61, 62, 63, 64, 65, 66, 67, 68, 69, 70, 71, 72], [0, 1, 2, 3, 6, 7, 8, 9, 10, 11, 12, 13, 14, 15, 16, 17, 18, 19, 20, 21, 22, 23, 24, 25, 26, 27, 28, 29, 30, 31, 32, 33, 34, 35, 36, 37, 38, 39, 40, 41, 42, 43, 44, 45, 46, 47, 48, 49, 50, 51, 52, 53, 54, 55, 56, 57, 58, 59, 60, 61, 62, 63, 64, 65, 66, 67, 68, 69, 70, 71, 72], []))], sk := [], mvs := [], fz := [], tb := [13] }
def f_i_rest_a (L0 : List Sc) (p1 : List Sc) : List AV := enc [.p .sl, .p .sl] [.l L0, .l p1]
def f_i_rest_i (L0 : List Sc) (p1 : List Sc) : List AV := enc [] []
def f_i_rest_en (r : List Sc × List Sc) : List AV × List AV := (enc [.p (.al 0), .p .sl] [.l r.2], enc [.own 3] [.l r.1])
def f_i_rest_M : Calling := addC 81 f_i_copyInts_c (noC)
theorem f_i_rest_Mt : CallOk Try.prog (f_i_rest_M) := addC_true f_i_copyInts_cc (noC_true)
theorem f_i_rest_o : loopsOnce Try.f74 = true := by kernel_rfl
def f_i_rest_hg13 : List Sh := [.u, .p .sl, .u, .u, .u, .u, .own 3, .own 3, .u, .u, .u, .u, .u, .u, .u, .u, .u, .u, .u, .u, .u, .u, .u, .u, .u, .u, .u, .u, .u, .u, .u, .u, .u, .u, .u, .u, .u, .u, .u, .u, .u, .u, .u, .u, .u, .u, .u, .u, .u, .u, .u, .u, .u, .u, .u, .u, .u, .u, .u, .u, .u, .u, .u, .u, .u, .u, .u, .u, .u, .u, .u, .u, .u]
def f_i_rest_frg13 (t1 : List Sc) (t6 : List Sc) (t7 : List Sc) : List AV := enc f_i_rest_hg13 [.l t1, .l t6, .l t7]
def f_i_rest_xg13 (t1 : List Sc) (t6 : List Sc) (t7 : List Sc) (e : List Sc) : X × List AV := (.norm, enc [.u, .u, .u, .u, .own 3, .p .sl, .u, .u, .u, .u, .u, .u, .u, .u, .u, .u, .u, .u, .u, .u, .u, .u, .u, .u, .u, .u, .u, .u, .u, .u, .u, .u, .u, .u, .u, .u, .u, .u, .u, .u, .u, .u, .u, .u, .u, .u, .u, .u, .u, .u, .u, .u, .u, .u, .u, .u, .u, .u, .u, .u, .u, .u, .u, .u, .u, .u, .u, .u, .u, .u, .u, .u, .u] [.l t7, .l e])
theorem f_i_rest_pg13 {R : Type} (t1 : List Sc) (t6 : List Sc) (t7 : List Sc) (kA : List Sc → Option R) : f_i_rest_g13_k t1 t6 t7 kA = (f_i_rest_g13 t1 t6 t7).bind kA := by
  simp only [f_i_rest_g13_k, f_i_rest_g13, brB, someB, noneB]
theorem f_i_rest_bg13 : bodyOf Try.f74 100013 = .region 13 (opsAt (bodyOf Try.f74 100013)) true := by kernel_rfl
def f_i_rest_Dg13 : List (Array Bool) := [#[false, false, false, false, false, false, false, false, false, false, false], #[true, false, false, false, false, false, false, false, false, false, false], #[false, true, false, false, false, false, false, false, false, false, false], #[false, false, true, false, false, false, false, false, false, false, false], #[false, false, false, false, true, false, false, false, false, false, false], #[true, true, false, false, false, false, false, false, false, false, false], #[true, false, true, false, false, false, false, false, false, false, false], #[true, false, false, false, true, false, false, false, false, false, false], #[true, false, false, false, false, false, false, false, false, true, false], #[false, true, true, false, false, false, false, false, false, false, false], #[false, true, false, false, true, false, false, false, false, false, false], #[false, false, true, true, false, false, false, false, false, false, false], #[false, false, true, false, true, false, false, false, false, false, false], #[false, false, false, false, true, true, false, false, false, false, false], #[true, true, true, false, false, false, false, false, false, false, false], #[true, true, false, false, true, false, false, false, false, false, false], #[true, true, false, false, false, false, false, false, false, true, false], #[true, false, true, true, false, false, false, false, false, false, false], #[true, false, true, false, true, false, false, false, false, false, false], #[true, false, true, false, false, false, false, false, false, true, false], #[true, false, false, false, true, true, false, false, false, false, false], #[true, false, false, false, true, false, false, false, false, true, false], #[false, true, true, true, false, false, false, false, false, false, false], #[false, true, true, false, true, false, false, false, false, false, false], #[false, true, false, false, true, true, false, false, false, false, false], #[false, false, true, true, true, false, false, false, false, false, false], #[false, false, true, false, true, true, false, false, false, false, false], #[false, false, false, false, true, true, true, false, false, false, false], #[true, true, true, true, false, false, false, false, false, false, false], #[true, true, true, false, true, false, false, false, false, false, false], #[true, true, true, false, false, false, false, false, false, true, false], #[true, true, false, false, true, true, false, false, false, false, false], #[true, true, false, false, true, false, false, false, false, true, false], #[true, false, true, true, true, false, false, false, false, false, false], #[true, false, true, true, false, false, false, false, false, true, false], #[true, false, true, false, true, true, false, false, false, false, false], #[true, false, true, false, true, false, false, false, false, true, false], #[true, false, false, false, true, true, true, false, false, false, false], #[true, false, false, false, true, true, false, false, false, true, false], #[false, true, true, true, true, false, false, false, false, false, false], #[false, true, true, false, true, true, false, false, false, false, false], #[false, true, false, false, true, true, true, false, false, false, false], #[false, false, true, true, true, true, false, false, false, false, false], #[false, false, true, false, true, true, true, false, false, false, false], #[true, true, true, true, true, false, false, false, false, false, false], #[true, true, true, true, false, false, false, false, false, true, false], #[true, true, true, false, true, true, false, false, false, false, false], #[true, true, true, false, true, false, false, false, false, true, false], #[true, true, false, false, true, true, true, false, false, false, false], #[true, true, false, false, true, true, false, false, false, true, false], #[true, false, true, true, true, true, false, false, false, false, false], #[true, false, true, true, true, false, false, false, false, true, false], #[true, false, true, false, true, true, true, false, false, false, false], #[true, false, true, false, true, true, false, false, false, true, false], #[true, false, false, false, true, true, true, false, false, true, false], #[false, true, true, true, true, true, false, false, false, false, false], #[false, true, true, false, true, true, true, false, false, false, false], #[false, false, true, true, true, true, true, false, false, false, false], #[true, true, true, true, true, true, false, false, false, false, false], #[true, true, true, true, true, false, false, false, false, true, false], #[true, true, true, false, true, true, true, false, false, false, false], #[true, true, true, false, true, true, false, false, false, true, false], #[true, true, false, false, true, true, true, false, false, true, false], #[true, false, true, true, true, true, true, false, false, false, false], #[true, false, true, true, true, true, false, false, false, true, false], #[true, false, true, false, true, true, true, false, false, true, false], #[false, true, true, true, true, true, true, false, false, false, false], #[false, false, true, true, true, true, true, true, false, false, false], #[true, true, true, true, true, true, true, false, false, false, false], #[true, true, true, true, true, true, false, false, false, true, false], #[true, true, true, false, true, true, true, false, false, true, false], #[true, false, true, true, true, true, true, true, false, false, false], #[true, false, true, true, true, true, true, false, false, true, false], #[false, true, true, true, true, true, true, true, false, false, false], #[true, true, true, true, true, true, true, true, false, false, false], #[true, true, true, true, true, true, true, false, false, true, false], #[true, false, true, true, true, true, true, true, false, true, false], #[false, true, true, true, true, true, true, true, true, false, false], #[true, true, true, true, true, true, true, true, true, false, false], #[true, true, true, true, true, true, true, true, false, true, false], #[true, true, true, true, true, true, true, true, true, true, false], #[true, true, true, true, true, true, true, true, true, true, true]]
theorem f_i_rest_cg13 : closedB (opsAt (bodyOf Try.f74 100013)) f_i_rest_Dg13 = true := by kernel_rfl
def f_i_rest_sg13_0 (t1 : List Sc) (t6 : List Sc) (t7 : List Sc) (fr : List AV) : Option (List AV) :=
  some (setAll [] fr)
def f_i_rest_sg13_1 (t1 : List Sc) (t6 : List Sc) (t7 : List Sc) (fr : List AV) : Option (List AV) :=
  some (setAll [(64, .p (.al 7))] fr)
def f_i_rest_sg13_2 (t1 : List Sc) (t6 : List Sc) (t7 : List Sc) (fr : List AV) : Option (List AV) :=
  some (setAll [(65, .p (.al 6))] fr)
def f_i_rest_sg13_4 (t1 : List Sc) (t6 : List Sc) (t7 : List Sc) (fr : List AV) : Option (List AV) :=
  some (setAll [(66, .p (.al 6))] fr)
def f_i_rest_sg13_16 (t1 : List Sc) (t6 : List Sc) (t7 : List Sc) (fr : List AV) : Option (List AV) :=
  some (setAll [(68, .p (.sl t1))] fr)
def f_i_rest_sg13_3 (t1 : List Sc) (t6 : List Sc) (t7 : List Sc) (fr : List AV) : Option (List AV) :=
  some (setAll [(64, .p (.al 7)), (65, .p (.al 6))] fr)
def f_i_rest_sg13_5 (t1 : List Sc) (t6 : List Sc) (t7 : List Sc) (fr : List AV) : Option (List AV) :=
  some (setAll [(64, .p (.al 7)), (66, .p (.al 6))] fr)
def f_i_rest_sg13_17 (t1 : List Sc) (t6 : List Sc) (t7 : List Sc) (fr : List AV) : Option (List AV) :=
  some (setAll [(64, .p (.al 7)), (68, .p (.sl t1))] fr)
def f_i_rest_sg13_513 (t1 : List Sc) (t6 : List Sc) (t7 : List Sc) (fr : List AV) : Option (List AV) :=
  some (setAll [(4, .own 3 t7), (7, .p (.al 4)), (64, .p (.al 4))] fr)
def f_i_rest_sg13_6 (t1 : List Sc) (t6 : List Sc) (t7 : List Sc) (fr : List AV) : Option (List AV) :=
  some (setAll [(65, .p (.al 6)), (66, .p (.al 6))] fr)
def f_i_rest_sg13_18 (t1 : List Sc) (t6 : List Sc) (t7 : List Sc) (fr : List AV) : Option (List AV) :=
  some (setAll [(65, .p (.al 6)), (68, .p (.sl t1))] fr)
def f_i_rest_sg13_12 (t1 : List Sc) (t6 : List Sc) (t7 : List Sc) (fr : List AV) : Option (List AV) :=
  some (setAll [(66, .p (.al 6)), (67, .p (.sc (Sc.n .i64 (t6.length : Int))))] fr)
def f_i_rest_sg13_20 (t1 : List Sc) (t6 : List Sc) (t7 : List Sc) (fr : List AV) : Option (List AV) :=
  some (setAll [(66, .p (.al 6)), (68, .p (.sl t1))] fr)
def f_i_rest_sg13_48 (t1 : List Sc) (t6 : List Sc) (t7 : List Sc) (fr : List AV) : Option (List AV) :=
  some (setAll [(68, .p (.sl t1)), (69, .p (.sc (Sc.n .i64 (t1.length : Int))))] fr)
def f_i_rest_sg13_7 (t1 : List Sc) (t6 : List Sc) (t7 : List Sc) (fr : List AV) : Option (List AV) :=
  some (setAll [(64, .p (.al 7)), (65, .p (.al 6)), (66, .p (.al 6))] fr)
def f_i_rest_sg13_19 (t1 : List Sc) (t6 : List Sc) (t7 : List Sc) (fr : List AV) : Option (List AV) :=
  some (setAll [(64, .p (.al 7)), (65, .p (.al 6)), (68, .p (.sl t1))] fr)
def f_i_rest_sg13_515 (t1 : List Sc) (t6 : List Sc) (t7 : List Sc) (fr : List AV) : Option (List AV) :=
  some (setAll [(4, .own 3 t7), (7, .p (.al 4)), (64, .p (.al 4)), (65, .p (.al 6))] fr)
def f_i_rest_sg13_13 (t1 : List Sc) (t6 : List Sc) (t7 : List Sc) (fr : List AV) : Option (List AV) :=
  some (setAll [(64, .p (.al 7)), (66, .p (.al 6)), (67, .p (.sc (Sc.n .i64 (t6.length : Int))))] fr)
def f_i_rest_sg13_21 (t1 : List Sc) (t6 : List Sc) (t7 : List Sc) (fr : List AV) : Option (List AV) :=
  some (setAll [(64, .p (.al 7)), (66, .p (.al 6)), (68, .p (.sl t1))] fr)
def f_i_rest_sg13_517 (t1 : List Sc) (t6 : List Sc) (t7 : List Sc) (fr : List AV) : Option (List AV) :=
  some (setAll [(4, .own 3 t7), (7, .p (.al 4)), (64, .p (.al 4)), (66, .p (.al 6))] fr)
def f_i_rest_sg13_49 (t1 : List Sc) (t6 : List Sc) (t7 : List Sc) (fr : List AV) : Option (List AV) :=
  some (setAll [(64, .p (.al 7)), (68, .p (.sl t1)), (69, .p (.sc (Sc.n .i64 (t1.length : Int))))] fr)
def f_i_rest_sg13_529 (t1 : List Sc) (t6 : List Sc) (t7 : List Sc) (fr : List AV) : Option (List AV) :=
  some (setAll [(4, .own 3 t7), (7, .p (.al 4)), (64, .p (.al 4)), (68, .p (.sl t1))] fr)
def f_i_rest_sg13_14 (t1 : List Sc) (t6 : List Sc) (t7 : List Sc) (fr : List AV) : Option (List AV) :=
  some (setAll [(65, .p (.al 6)), (66, .p (.al 6)), (67, .p (.sc (Sc.n .i64 (t6.length : Int))))] fr)
def f_i_rest_sg13_22 (t1 : List Sc) (t6 : List Sc) (t7 : List Sc) (fr : List AV) : Option (List AV) :=
  some (setAll [(65, .p (.al 6)), (66, .p (.al 6)), (68, .p (.sl t1))] fr)
def f_i_rest_sg13_50 (t1 : List Sc) (t6 : List Sc) (t7 : List Sc) (fr : List AV) : Option (List AV) :=
  some (setAll [(65, .p (.al 6)), (68, .p (.sl t1)), (69, .p (.sc (Sc.n .i64 (t1.length : Int))))] fr)
def f_i_rest_sg13_28 (t1 : List Sc) (t6 : List Sc) (t7 : List Sc) (fr : List AV) : Option (List AV) :=
  some (setAll [(66, .p (.al 6)), (67, .p (.sc (Sc.n .i64 (t6.length : Int)))), (68, .p (.sl t1))] fr)
def f_i_rest_sg13_52 (t1 : List Sc) (t6 : List Sc) (t7 : List Sc) (fr : List AV) : Option (List AV) :=
  some (setAll [(66, .p (.al 6)), (68, .p (.sl t1)), (69, .p (.sc (Sc.n .i64 (t1.length : Int))))] fr)
def f_i_rest_sg13_112 (t1 : List Sc) (t6 : List Sc) (t7 : List Sc) (fr : List AV) : Option (List AV) :=
  some (setAll [(68, .p (.sl t1)), (69, .p (.sc (Sc.n .i64 (t1.length : Int)))), (70, .p (.sc (Sc.n .i64 (w64 ((t1.length : Int) - 1)))))] fr)
def f_i_rest_sg13_15 (t1 : List Sc) (t6 : List Sc) (t7 : List Sc) (fr : List AV) : Option (List AV) :=
  some (setAll [(64, .p (.al 7)), (65, .p (.al 6)), (66, .p (.al 6)), (67, .p (.sc (Sc.n .i64 (t6.length : Int))))] fr)
def f_i_rest_sg13_23 (t1 : List Sc) (t6 : List Sc) (t7 : List Sc) (fr : List AV) : Option (List AV) :=
  some (setAll [(64, .p (.al 7)), (65, .p (.al 6)), (66, .p (.al 6)), (68, .p (.sl t1))] fr)
def f_i_rest_sg13_519 (t1 : List Sc) (t6 : List Sc) (t7 : List Sc) (fr : List AV) : Option (List AV) :=
  some (setAll [(4, .own 3 t7), (7, .p (.al 4)), (64, .p (.al 4)), (65, .p (.al 6)), (66, .p (.al 6))] fr)
def f_i_rest_sg13_51 (t1 : List Sc) (t6 : List Sc) (t7 : List Sc) (fr : List AV) : Option (List AV) :=
  some (setAll [(64, .p (.al 7)), (65, .p (.al 6)), (68, .p (.sl t1)), (69, .p (.sc (Sc.n .i64 (t1.length : Int))))] fr)
def f_i_rest_sg13_531 (t1 : List Sc) (t6 : List Sc) (t7 : List Sc) (fr : List AV) : Option (List AV) :=
  some (setAll [(4, .own 3 t7), (7, .p (.al 4)), (64, .p (.al 4)), (65, .p (.al 6)), (68, .p (.sl t1))] fr)
def f_i_rest_sg13_29 (t1 : List Sc) (t6 : List Sc) (t7 : List Sc) (fr : List AV) : Option (List AV) :=
  some (setAll [(64, .p (.al 7)), (66, .p (.al 6)), (67, .p (.sc (Sc.n .i64 (t6.length : Int)))), (68, .p (.sl t1))] fr)
def f_i_rest_sg13_525 (t1 : List Sc) (t6 : List Sc) (t7 : List Sc) (fr : List AV) : Option (List AV) :=
  some (setAll [(4, .own 3 t7), (7, .p (.al 4)), (64, .p (.al 4)), (66, .p (.al 6)), (67, .p (.sc (Sc.n .i64 (t6.length : Int))))] fr)
def f_i_rest_sg13_53 (t1 : List Sc) (t6 : List Sc) (t7 : List Sc) (fr : List AV) : Option (List AV) :=
  some (setAll [(64, .p (.al 7)), (66, .p (.al 6)), (68, .p (.sl t1)), (69, .p (.sc (Sc.n .i64 (t1.length : Int))))] fr)
def f_i_rest_sg13_533 (t1 : List Sc) (t6 : List Sc) (t7 : List Sc) (fr : List AV) : Option (List AV) :=
  some (setAll [(4, .own 3 t7), (7, .p (.al 4)), (64, .p (.al 4)), (66, .p (.al 6)), (68, .p (.sl t1))] fr)
def f_i_rest_sg13_113 (t1 : List Sc) (t6 : List Sc) (t7 : List Sc) (fr : List AV) : Option (List AV) :=
  some (setAll [(64, .p (.al 7)), (68, .p (.sl t1)), (69, .p (.sc (Sc.n .i64 (t1.length : Int)))), (70, .p (.sc (Sc.n .i64 (w64 ((t1.length : Int) - 1)))))] fr)
def f_i_rest_sg13_561 (t1 : List Sc) (t6 : List Sc) (t7 : List Sc) (fr : List AV) : Option (List AV) :=
  some (setAll [(4, .own 3 t7), (7, .p (.al 4)), (64, .p (.al 4)), (68, .p (.sl t1)), (69, .p (.sc (Sc.n .i64 (t1.length : Int))))] fr)
def f_i_rest_sg13_30 (t1 : List Sc) (t6 : List Sc) (t7 : List Sc) (fr : List AV) : Option (List AV) :=
  some (setAll [(65, .p (.al 6)), (66, .p (.al 6)), (67, .p (.sc (Sc.n .i64 (t6.length : Int)))), (68, .p (.sl t1))] fr)
def f_i_rest_sg13_54 (t1 : List Sc) (t6 : List Sc) (t7 : List Sc) (fr : List AV) : Option (List AV) :=
  some (setAll [(65, .p (.al 6)), (66, .p (.al 6)), (68, .p (.sl t1)), (69, .p (.sc (Sc.n .i64 (t1.length : Int))))] fr)
def f_i_rest_sg13_114 (t1 : List Sc) (t6 : List Sc) (t7 : List Sc) (fr : List AV) : Option (List AV) :=
  some (setAll [(65, .p (.al 6)), (68, .p (.sl t1)), (69, .p (.sc (Sc.n .i64 (t1.length : Int)))), (70, .p (.sc (Sc.n .i64 (w64 ((t1.length : Int) - 1)))))] fr)
def f_i_rest_sg13_60 (t1 : List Sc) (t6 : List Sc) (t7 : List Sc) (fr : List AV) : Option (List AV) :=
  some (setAll [(66, .p (.al 6)), (67, .p (.sc (Sc.n .i64 (t6.length : Int)))), (68, .p (.sl t1)), (69, .p (.sc (Sc.n .i64 (t1.length : Int))))] fr)
def f_i_rest_sg13_116 (t1 : List Sc) (t6 : List Sc) (t7 : List Sc) (fr : List AV) : Option (List AV) :=
  some (setAll [(66, .p (.al 6)), (68, .p (.sl t1)), (69, .p (.sc (Sc.n .i64 (t1.length : Int)))), (70, .p (.sc (Sc.n .i64 (w64 ((t1.length : Int) - 1)))))] fr)
def f_i_rest_sg13_31 (t1 : List Sc) (t6 : List Sc) (t7 : List Sc) (fr : List AV) : Option (List AV) :=
  some (setAll [(64, .p (.al 7)), (65, .p (.al 6)), (66, .p (.al 6)), (67, .p (.sc (Sc.n .i64 (t6.length : Int)))), (68, .p (.sl t1))] fr)
def f_i_rest_sg13_527 (t1 : List Sc) (t6 : List Sc) (t7 : List Sc) (fr : List AV) : Option (List AV) :=
  some (setAll [(4, .own 3 t7), (7, .p (.al 4)), (64, .p (.al 4)), (65, .p (.al 6)), (66, .p (.al 6)), (67, .p (.sc (Sc.n .i64 (t6.length : Int))))] fr)
def f_i_rest_sg13_55 (t1 : List Sc) (t6 : List Sc) (t7 : List Sc) (fr : List AV) : Option (List AV) :=
  some (setAll [(64, .p (.al 7)), (65, .p (.al 6)), (66, .p (.al 6)), (68, .p (.sl t1)), (69, .p (.sc (Sc.n .i64 (t1.length : Int))))] fr)
def f_i_rest_sg13_535 (t1 : List Sc) (t6 : List Sc) (t7 : List Sc) (fr : List AV) : Option (List AV) :=
  some (setAll [(4, .own 3 t7), (7, .p (.al 4)), (64, .p (.al 4)), (65, .p (.al 6)), (66, .p (.al 6)), (68, .p (.sl t1))] fr)
def f_i_rest_sg13_115 (t1 : List Sc) (t6 : List Sc) (t7 : List Sc) (fr : List AV) : Option (List AV) :=
  some (setAll [(64, .p (.al 7)), (65, .p (.al 6)), (68, .p (.sl t1)), (69, .p (.sc (Sc.n .i64 (t1.length : Int)))), (70, .p (.sc (Sc.n .i64 (w64 ((t1.length : Int) - 1)))))] fr)
def f_i_rest_sg13_563 (t1 : List Sc) (t6 : List Sc) (t7 : List Sc) (fr : List AV) : Option (List AV) :=
  some (setAll [(4, .own 3 t7), (7, .p (.al 4)), (64, .p (.al 4)), (65, .p (.al 6)), (68, .p (.sl t1)), (69, .p (.sc (Sc.n .i64 (t1.length : Int))))] fr)
def f_i_rest_sg13_61 (t1 : List Sc) (t6 : List Sc) (t7 : List Sc) (fr : List AV) : Option (List AV) :=
  some (setAll [(64, .p (.al 7)), (66, .p (.al 6)), (67, .p (.sc (Sc.n .i64 (t6.length : Int)))), (68, .p (.sl t1)), (69, .p (.sc (Sc.n .i64 (t1.length : Int))))] fr)
def f_i_rest_sg13_541 (t1 : List Sc) (t6 : List Sc) (t7 : List Sc) (fr : List AV) : Option (List AV) :=
  some (setAll [(4, .own 3 t7), (7, .p (.al 4)), (64, .p (.al 4)), (66, .p (.al 6)), (67, .p (.sc (Sc.n .i64 (t6.length : Int)))), (68, .p (.sl t1))] fr)
def f_i_rest_sg13_117 (t1 : List Sc) (t6 : List Sc) (t7 : List Sc) (fr : List AV) : Option (List AV) :=
  some (setAll [(64, .p (.al 7)), (66, .p (.al 6)), (68, .p (.sl t1)), (69, .p (.sc (Sc.n .i64 (t1.length : Int)))), (70, .p (.sc (Sc.n .i64 (w64 ((t1.length : Int) - 1)))))] fr)
def f_i_rest_sg13_565 (t1 : List Sc) (t6 : List Sc) (t7 : List Sc) (fr : List AV) : Option (List AV) :=
  some (setAll [(4, .own 3 t7), (7, .p (.al 4)), (64, .p (.al 4)), (66, .p (.al 6)), (68, .p (.sl t1)), (69, .p (.sc (Sc.n .i64 (t1.length : Int))))] fr)
def f_i_rest_sg13_625 (t1 : List Sc) (t6 : List Sc) (t7 : List Sc) (fr : List AV) : Option (List AV) :=
  some (setAll [(4, .own 3 t7), (7, .p (.al 4)), (64, .p (.al 4)), (68, .p (.sl t1)), (69, .p (.sc (Sc.n .i64 (t1.length : Int)))), (70, .p (.sc (Sc.n .i64 (w64 ((t1.length : Int) - 1)))))] fr)
def f_i_rest_sg13_62 (t1 : List Sc) (t6 : List Sc) (t7 : List Sc) (fr : List AV) : Option (List AV) :=
  some (setAll [(65, .p (.al 6)), (66, .p (.al 6)), (67, .p (.sc (Sc.n .i64 (t6.length : Int)))), (68, .p (.sl t1)), (69, .p (.sc (Sc.n .i64 (t1.length : Int))))] fr)
def f_i_rest_sg13_118 (t1 : List Sc) (t6 : List Sc) (t7 : List Sc) (fr : List AV) : Option (List AV) :=
  some (setAll [(65, .p (.al 6)), (66, .p (.al 6)), (68, .p (.sl t1)), (69, .p (.sc (Sc.n .i64 (t1.length : Int)))), (70, .p (.sc (Sc.n .i64 (w64 ((t1.length : Int) - 1)))))] fr)
def f_i_rest_sg13_124 (t1 : List Sc) (t6 : List Sc) (t7 : List Sc) (fr : List AV) : Option (List AV) :=
  some (setAll [(66, .p (.al 6)), (67, .p (.sc (Sc.n .i64 (t6.length : Int)))), (68, .p (.sl t1)), (69, .p (.sc (Sc.n .i64 (t1.length : Int)))), (70, .p (.sc (Sc.n .i64 (w64 ((t1.length : Int) - 1)))))] fr)
def f_i_rest_sg13_63 (t1 : List Sc) (t6 : List Sc) (t7 : List Sc) (fr : List AV) : Option (List AV) :=
  some (setAll [(64, .p (.al 7)), (65, .p (.al 6)), (66, .p (.al 6)), (67, .p (.sc (Sc.n .i64 (t6.length : Int)))), (68, .p (.sl t1)), (69, .p (.sc (Sc.n .i64 (t1.length : Int))))] fr)
def f_i_rest_sg13_543 (t1 : List Sc) (t6 : List Sc) (t7 : List Sc) (fr : List AV) : Option (List AV) :=
  some (setAll [(4, .own 3 t7), (7, .p (.al 4)), (64, .p (.al 4)), (65, .p (.al 6)), (66, .p (.al 6)), (67, .p (.sc (Sc.n .i64 (t6.length : Int)))), (68, .p (.sl t1))] fr)
def f_i_rest_sg13_119 (t1 : List Sc) (t6 : List Sc) (t7 : List Sc) (fr : List AV) : Option (List AV) :=
  some (setAll [(64, .p (.al 7)), (65, .p (.al 6)), (66, .p (.al 6)), (68, .p (.sl t1)), (69, .p (.sc (Sc.n .i64 (t1.length : Int)))), (70, .p (.sc (Sc.n .i64 (w64 ((t1.length : Int) - 1)))))] fr)
def f_i_rest_sg13_567 (t1 : List Sc) (t6 : List Sc) (t7 : List Sc) (fr : List AV) : Option (List AV) :=
  some (setAll [(4, .own 3 t7), (7, .p (.al 4)), (64, .p (.al 4)), (65, .p (.al 6)), (66, .p (.al 6)), (68, .p (.sl t1)), (69, .p (.sc (Sc.n .i64 (t1.length : Int))))] fr)
def f_i_rest_sg13_627 (t1 : List Sc) (t6 : List Sc) (t7 : List Sc) (fr : List AV) : Option (List AV) :=
  some (setAll [(4, .own 3 t7), (7, .p (.al 4)), (64, .p (.al 4)), (65, .p (.al 6)), (68, .p (.sl t1)), (69, .p (.sc (Sc.n .i64 (t1.length : Int)))), (70, .p (.sc (Sc.n .i64 (w64 ((t1.length : Int) - 1)))))] fr)
def f_i_rest_sg13_125 (t1 : List Sc) (t6 : List Sc) (t7 : List Sc) (fr : List AV) : Option (List AV) :=
  some (setAll [(64, .p (.al 7)), (66, .p (.al 6)), (67, .p (.sc (Sc.n .i64 (t6.length : Int)))), (68, .p (.sl t1)), (69, .p (.sc (Sc.n .i64 (t1.length : Int)))), (70, .p (.sc (Sc.n .i64 (w64 ((t1.length : Int) - 1)))))] fr)
def f_i_rest_sg13_573 (t1 : List Sc) (t6 : List Sc) (t7 : List Sc) (fr : List AV) : Option (List AV) :=
  some (setAll [(4, .own 3 t7), (7, .p (.al 4)), (64, .p (.al 4)), (66, .p (.al 6)), (67, .p (.sc (Sc.n .i64 (t6.length : Int)))), (68, .p (.sl t1)), (69, .p (.sc (Sc.n .i64 (t1.length : Int))))] fr)
def f_i_rest_sg13_629 (t1 : List Sc) (t6 : List Sc) (t7 : List Sc) (fr : List AV) : Option (List AV) :=
  some (setAll [(4, .own 3 t7), (7, .p (.al 4)), (64, .p (.al 4)), (66, .p (.al 6)), (68, .p (.sl t1)), (69, .p (.sc (Sc.n .i64 (t1.length : Int)))), (70, .p (.sc (Sc.n .i64 (w64 ((t1.length : Int) - 1)))))] fr)
def f_i_rest_sg13_126 (t1 : List Sc) (t6 : List Sc) (t7 : List Sc) (fr : List AV) : Option (List AV) :=
  some (setAll [(65, .p (.al 6)), (66, .p (.al 6)), (67, .p (.sc (Sc.n .i64 (t6.length : Int)))), (68, .p (.sl t1)), (69, .p (.sc (Sc.n .i64 (t1.length : Int)))), (70, .p (.sc (Sc.n .i64 (w64 ((t1.length : Int) - 1)))))] fr)
def f_i_rest_sg13_252 (t1 : List Sc) (t6 : List Sc) (t7 : List Sc) (fr : List AV) : Option (List AV) :=
  some (setAll [(66, .p (.al 6)), (67, .p (.sc (Sc.n .i64 (t6.length : Int)))), (68, .p (.sl t1)), (69, .p (.sc (Sc.n .i64 (t1.length : Int)))), (70, .p (.sc (Sc.n .i64 (w64 ((t1.length : Int) - 1))))), (71, .p (.sc (Sc.n .i64 (if (w64 ((t1.length : Int) - 1)) < (t6.length : Int) then (w64 ((t1.length : Int) - 1)) else (t6.length : Int)))))] fr)
def f_i_rest_sg13_127 (t1 : List Sc) (t6 : List Sc) (t7 : List Sc) (fr : List AV) : Option (List AV) :=
  some (setAll [(64, .p (.al 7)), (65, .p (.al 6)), (66, .p (.al 6)), (67, .p (.sc (Sc.n .i64 (t6.length : Int)))), (68, .p (.sl t1)), (69, .p (.sc (Sc.n .i64 (t1.length : Int)))), (70, .p (.sc (Sc.n .i64 (w64 ((t1.length : Int) - 1)))))] fr)
def f_i_rest_sg13_575 (t1 : List Sc) (t6 : List Sc) (t7 : List Sc) (fr : List AV) : Option (List AV) :=
  some (setAll [(4, .own 3 t7), (7, .p (.al 4)), (64, .p (.al 4)), (65, .p (.al 6)), (66, .p (.al 6)), (67, .p (.sc (Sc.n .i64 (t6.length : Int)))), (68, .p (.sl t1)), (69, .p (.sc (Sc.n .i64 (t1.length : Int))))] fr)
def f_i_rest_sg13_631 (t1 : List Sc) (t6 : List Sc) (t7 : List Sc) (fr : List AV) : Option (List AV) :=
  some (setAll [(4, .own 3 t7), (7, .p (.al 4)), (64, .p (.al 4)), (65, .p (.al 6)), (66, .p (.al 6)), (68, .p (.sl t1)), (69, .p (.sc (Sc.n .i64 (t1.length : Int)))), (70, .p (.sc (Sc.n .i64 (w64 ((t1.length : Int) - 1)))))] fr)
def f_i_rest_sg13_253 (t1 : List Sc) (t6 : List Sc) (t7 : List Sc) (fr : List AV) : Option (List AV) :=
  some (setAll [(64, .p (.al 7)), (66, .p (.al 6)), (67, .p (.sc (Sc.n .i64 (t6.length : Int)))), (68, .p (.sl t1)), (69, .p (.sc (Sc.n .i64 (t1.length : Int)))), (70, .p (.sc (Sc.n .i64 (w64 ((t1.length : Int) - 1))))), (71, .p (.sc (Sc.n .i64 (if (w64 ((t1.length : Int) - 1)) < (t6.length : Int) then (w64 ((t1.length : Int) - 1)) else (t6.length : Int)))))] fr)
def f_i_rest_sg13_637 (t1 : List Sc) (t6 : List Sc) (t7 : List Sc) (fr : List AV) : Option (List AV) :=
  some (setAll [(4, .own 3 t7), (7, .p (.al 4)), (64, .p (.al 4)), (66, .p (.al 6)), (67, .p (.sc (Sc.n .i64 (t6.length : Int)))), (68, .p (.sl t1)), (69, .p (.sc (Sc.n .i64 (t1.length : Int)))), (70, .p (.sc (Sc.n .i64 (w64 ((t1.length : Int) - 1)))))] fr)
def f_i_rest_sg13_254 (t1 : List Sc) (t6 : List Sc) (t7 : List Sc) (fr : List AV) : Option (List AV) :=
  some (setAll [(65, .p (.al 6)), (66, .p (.al 6)), (67, .p (.sc (Sc.n .i64 (t6.length : Int)))), (68, .p (.sl t1)), (69, .p (.sc (Sc.n .i64 (t1.length : Int)))), (70, .p (.sc (Sc.n .i64 (w64 ((t1.length : Int) - 1))))), (71, .p (.sc (Sc.n .i64 (if (w64 ((t1.length : Int) - 1)) < (t6.length : Int) then (w64 ((t1.length : Int) - 1)) else (t6.length : Int)))))] fr)
def f_i_rest_sg13_255 (t1 : List Sc) (t6 : List Sc) (t7 : List Sc) (fr : List AV) : Option (List AV) :=
  some (setAll [(64, .p (.al 7)), (65, .p (.al 6)), (66, .p (.al 6)), (67, .p (.sc (Sc.n .i64 (t6.length : Int)))), (68, .p (.sl t1)), (69, .p (.sc (Sc.n .i64 (t1.length : Int)))), (70, .p (.sc (Sc.n .i64 (w64 ((t1.length : Int) - 1))))), (71, .p (.sc (Sc.n .i64 (if (w64 ((t1.length : Int) - 1)) < (t6.length : Int) then (w64 ((t1.length : Int) - 1)) else (t6.length : Int)))))] fr)
def f_i_rest_sg13_639 (t1 : List Sc) (t6 : List Sc) (t7 : List Sc) (fr : List AV) : Option (List AV) :=
  some (setAll [(4, .own 3 t7), (7, .p (.al 4)), (64, .p (.al 4)), (65, .p (.al 6)), (66, .p (.al 6)), (67, .p (.sc (Sc.n .i64 (t6.length : Int)))), (68, .p (.sl t1)), (69, .p (.sc (Sc.n .i64 (t1.length : Int)))), (70, .p (.sc (Sc.n .i64 (w64 ((t1.length : Int) - 1)))))] fr)
def f_i_rest_sg13_765 (t1 : List Sc) (t6 : List Sc) (t7 : List Sc) (fr : List AV) : Option (List AV) :=
  some (setAll [(4, .own 3 t7), (7, .p (.al 4)), (64, .p (.al 4)), (66, .p (.al 6)), (67, .p (.sc (Sc.n .i64 (t6.length : Int)))), (68, .p (.sl t1)), (69, .p (.sc (Sc.n .i64 (t1.length : Int)))), (70, .p (.sc (Sc.n .i64 (w64 ((t1.length : Int) - 1))))), (71, .p (.sc (Sc.n .i64 (if (w64 ((t1.length : Int) - 1)) < (t6.length : Int) then (w64 ((t1.length : Int) - 1)) else (t6.length : Int)))))] fr)
def f_i_rest_sg13_510 (t1 : List Sc) (t6 : List Sc) (t7 : List Sc) (fr : List AV) : Option (List AV) :=
  br (decide (0 ≤ (0 : Int)) && (decide ((0 : Int) ≤ (if (w64 ((t1.length : Int) - 1)) < (t6.length : Int) then (w64 ((t1.length : Int) - 1)) else (t6.length : Int))) && decide ((if (w64 ((t1.length : Int) - 1)) < (t6.length : Int) then (w64 ((t1.length : Int) - 1)) else (t6.length : Int)) ≤ (t6.length : Int))))
    (some (setAll [(6, .fr 3 t6), (65, .fr 3 t6), (66, .fr 3 t6), (67, .p (.sc (Sc.n .i64 (t6.length : Int)))), (68, .p (.sl t1)), (69, .p (.sc (Sc.n .i64 (t1.length : Int)))), (70, .p (.sc (Sc.n .i64 (w64 ((t1.length : Int) - 1))))), (71, .p (.sc (Sc.n .i64 (if (w64 ((t1.length : Int) - 1)) < (t6.length : Int) then (w64 ((t1.length : Int) - 1)) else (t6.length : Int))))), (72, .p (.sl (sliceA t6 0 (if (w64 ((t1.length : Int) - 1)) < (t6.length : Int) then (w64 ((t1.length : Int) - 1)) else (t6.length : Int)))))] fr))
    none
def f_i_rest_sg13_511 (t1 : List Sc) (t6 : List Sc) (t7 : List Sc) (fr : List AV) : Option (List AV) :=
  br (decide (0 ≤ (0 : Int)) && (decide ((0 : Int) ≤ (if (w64 ((t1.length : Int) - 1)) < (t6.length : Int) then (w64 ((t1.length : Int) - 1)) else (t6.length : Int))) && decide ((if (w64 ((t1.length : Int) - 1)) < (t6.length : Int) then (w64 ((t1.length : Int) - 1)) else (t6.length : Int)) ≤ (t6.length : Int))))
    (some (setAll [(6, .fr 3 t6), (64, .p (.al 7)), (65, .fr 3 t6), (66, .fr 3 t6), (67, .p (.sc (Sc.n .i64 (t6.length : Int)))), (68, .p (.sl t1)), (69, .p (.sc (Sc.n .i64 (t1.length : Int)))), (70, .p (.sc (Sc.n .i64 (w64 ((t1.length : Int) - 1))))), (71, .p (.sc (Sc.n .i64 (if (w64 ((t1.length : Int) - 1)) < (t6.length : Int) then (w64 ((t1.length : Int) - 1)) else (t6.length : Int))))), (72, .p (.sl (sliceA t6 0 (if (w64 ((t1.length : Int) - 1)) < (t6.length : Int) then (w64 ((t1.length : Int) - 1)) else (t6.length : Int)))))] fr))
    none
def f_i_rest_sg13_767 (t1 : List Sc) (t6 : List Sc) (t7 : List Sc) (fr : List AV) : Option (List AV) :=
  some (setAll [(4, .own 3 t7), (7, .p (.al 4)), (64, .p (.al 4)), (65, .p (.al 6)), (66, .p (.al 6)), (67, .p (.sc (Sc.n .i64 (t6.length : Int)))), (68, .p (.sl t1)), (69, .p (.sc (Sc.n .i64 (t1.length : Int)))), (70, .p (.sc (Sc.n .i64 (w64 ((t1.length : Int) - 1))))), (71, .p (.sc (Sc.n .i64 (if (w64 ((t1.length : Int) - 1)) < (t6.length : Int) then (w64 ((t1.length : Int) - 1)) else (t6.length : Int)))))] fr)
def f_i_rest_sg13_1023 (t1 : List Sc) (t6 : List Sc) (t7 : List Sc) (fr : List AV) : Option (List AV) :=
  br (decide (0 ≤ (0 : Int)) && (decide ((0 : Int) ≤ (if (w64 ((t1.length : Int) - 1)) < (t6.length : Int) then (w64 ((t1.length : Int) - 1)) else (t6.length : Int))) && decide ((if (w64 ((t1.length : Int) - 1)) < (t6.length : Int) then (w64 ((t1.length : Int) - 1)) else (t6.length : Int)) ≤ (t6.length : Int))))
    (some (setAll [(4, .own 3 t7), (6, .fr 3 t6), (7, .p (.al 4)), (64, .p (.al 4)), (65, .fr 3 t6), (66, .fr 3 t6), (67, .p (.sc (Sc.n .i64 (t6.length : Int)))), (68, .p (.sl t1)), (69, .p (.sc (Sc.n .i64 (t1.length : Int)))), (70, .p (.sc (Sc.n .i64 (w64 ((t1.length : Int) - 1))))), (71, .p (.sc (Sc.n .i64 (if (w64 ((t1.length : Int) - 1)) < (t6.length : Int) then (w64 ((t1.length : Int) - 1)) else (t6.length : Int))))), (72, .p (.sl (sliceA t6 0 (if (w64 ((t1.length : Int) - 1)) < (t6.length : Int) then (w64 ((t1.length : Int) - 1)) else (t6.length : Int)))))] fr))
    none
def f_i_rest_sg13_2047 (t1 : List Sc) (t6 : List Sc) (t7 : List Sc) (fr : List AV) : Option (List AV) :=
  br (decide (0 ≤ (0 : Int)) && (decide ((0 : Int) ≤ (if (w64 ((t1.length : Int) - 1)) < (t6.length : Int) then (w64 ((t1.length : Int) - 1)) else (t6.length : Int))) && decide ((if (w64 ((t1.length : Int) - 1)) < (t6.length : Int) then (w64 ((t1.length : Int) - 1)) else (t6.length : Int)) ≤ (t6.length : Int))))
    (some (setAll [(4, .own 3 t7), (5, .p (.sl (sliceA t6 0 (if (w64 ((t1.length : Int) - 1)) < (t6.length : Int) then (w64 ((t1.length : Int) - 1)) else (t6.length : Int))))), (6, .fr 3 t6), (7, .p (.al 4)), (64, .p (.al 4)), (65, .fr 3 t6), (66, .fr 3 t6), (67, .p (.sc (Sc.n .i64 (t6.length : Int)))), (68, .p (.sl t1)), (69, .p (.sc (Sc.n .i64 (t1.length : Int)))), (70, .p (.sc (Sc.n .i64 (w64 ((t1.length : Int) - 1))))), (71, .p (.sc (Sc.n .i64 (if (w64 ((t1.length : Int) - 1)) < (t6.length : Int) then (w64 ((t1.length : Int) - 1)) else (t6.length : Int))))), (72, .p (.sl (sliceA t6 0 (if (w64 ((t1.length : Int) - 1)) < (t6.length : Int) then (w64 ((t1.length : Int) - 1)) else (t6.length : Int)))))] fr))
    none
def f_i_rest_Eg13 (t1 : List Sc) (t6 : List Sc) (t7 : List Sc) (fr : List AV) : List (Option (List AV)) := [f_i_rest_sg13_1 t1 t6 t7 fr, f_i_rest_sg13_2 t1 t6 t7 fr, f_i_rest_sg13_4 t1 t6 t7 fr, f_i_rest_sg13_16 t1 t6 t7 fr, f_i_rest_sg13_3 t1 t6 t7 fr, f_i_rest_sg13_5 t1 t6 t7 fr, f_i_rest_sg13_17 t1 t6 t7 fr, f_i_rest_sg13_513 t1 t6 t7 fr, f_i_rest_sg13_3 t1 t6 t7 fr, f_i_rest_sg13_6 t1 t6 t7 fr, f_i_rest_sg13_18 t1 t6 t7 fr, f_i_rest_sg13_5 t1 t6 t7 fr, f_i_rest_sg13_6 t1 t6 t7 fr, f_i_rest_sg13_12 t1 t6 t7 fr, f_i_rest_sg13_20 t1 t6 t7 fr, f_i_rest_sg13_17 t1 t6 t7 fr, f_i_rest_sg13_18 t1 t6 t7 fr, f_i_rest_sg13_20 t1 t6 t7 fr, f_i_rest_sg13_48 t1 t6 t7 fr, f_i_rest_sg13_7 t1 t6 t7 fr, f_i_rest_sg13_19 t1 t6 t7 fr, f_i_rest_sg13_515 t1 t6 t7 fr, f_i_rest_sg13_7 t1 t6 t7 fr, f_i_rest_sg13_13 t1 t6 t7 fr, f_i_rest_sg13_21 t1 t6 t7 fr, f_i_rest_sg13_517 t1 t6 t7 fr, f_i_rest_sg13_19 t1 t6 t7 fr, f_i_rest_sg13_21 t1 t6 t7 fr, f_i_rest_sg13_49 t1 t6 t7 fr, f_i_rest_sg13_529 t1 t6 t7 fr, f_i_rest_sg13_515 t1 t6 t7 fr, f_i_rest_sg13_517 t1 t6 t7 fr, f_i_rest_sg13_529 t1 t6 t7 fr, f_i_rest_sg13_7 t1 t6 t7 fr, f_i_rest_sg13_14 t1 t6 t7 fr, f_i_rest_sg13_22 t1 t6 t7 fr, f_i_rest_sg13_19 t1 t6 t7 fr, f_i_rest_sg13_22 t1 t6 t7 fr, f_i_rest_sg13_50 t1 t6 t7 fr, f_i_rest_sg13_13 t1 t6 t7 fr, f_i_rest_sg13_14 t1 t6 t7 fr, f_i_rest_sg13_28 t1 t6 t7 fr, f_i_rest_sg13_21 t1 t6 t7 fr, f_i_rest_sg13_22 t1 t6 t7 fr, f_i_rest_sg13_28 t1 t6 t7 fr, f_i_rest_sg13_52 t1 t6 t7 fr, f_i_rest_sg13_49 t1 t6 t7 fr, f_i_rest_sg13_50 t1 t6 t7 fr, f_i_rest_sg13_52 t1 t6 t7 fr, f_i_rest_sg13_112 t1 t6 t7 fr, f_i_rest_sg13_15 t1 t6 t7 fr, f_i_rest_sg13_23 t1 t6 t7 fr, f_i_rest_sg13_519 t1 t6 t7 fr, f_i_rest_sg13_23 t1 t6 t7 fr, f_i_rest_sg13_51 t1 t6 t7 fr, f_i_rest_sg13_531 t1 t6 t7 fr, f_i_rest_sg13_519 t1 t6 t7 fr, f_i_rest_sg13_531 t1 t6 t7 fr, f_i_rest_sg13_15 t1 t6 t7 fr, f_i_rest_sg13_29 t1 t6 t7 fr, f_i_rest_sg13_525 t1 t6 t7 fr, f_i_rest_sg13_23 t1 t6 t7 fr, f_i_rest_sg13_29 t1 t6 t7 fr, f_i_rest_sg13_53 t1 t6 t7 fr, f_i_rest_sg13_533 t1 t6 t7 fr, f_i_rest_sg13_519 t1 t6 t7 fr, f_i_rest_sg13_525 t1 t6 t7 fr, f_i_rest_sg13_533 t1 t6 t7 fr, f_i_rest_sg13_51 t1 t6 t7 fr, f_i_rest_sg13_53 t1 t6 t7 fr, f_i_rest_sg13_113 t1 t6 t7 fr, f_i_rest_sg13_561 t1 t6 t7 fr, f_i_rest_sg13_531 t1 t6 t7 fr, f_i_rest_sg13_533 t1 t6 t7 fr, f_i_rest_sg13_561 t1 t6 t7 fr, f_i_rest_sg13_15 t1 t6 t7 fr, f_i_rest_sg13_30 t1 t6 t7 fr, f_i_rest_sg13_23 t1 t6 t7 fr, f_i_rest_sg13_30 t1 t6 t7 fr, f_i_rest_sg13_54 t1 t6 t7 fr, f_i_rest_sg13_51 t1 t6 t7 fr, f_i_rest_sg13_54 t1 t6 t7 fr, f_i_rest_sg13_114 t1 t6 t7 fr, f_i_rest_sg13_29 t1 t6 t7 fr, f_i_rest_sg13_30 t1 t6 t7 fr, f_i_rest_sg13_60 t1 t6 t7 fr, f_i_rest_sg13_53 t1 t6 t7 fr, f_i_rest_sg13_54 t1 t6 t7 fr, f_i_rest_sg13_60 t1 t6 t7 fr, f_i_rest_sg13_116 t1 t6 t7 fr, f_i_rest_sg13_113 t1 t6 t7 fr, f_i_rest_sg13_114 t1 t6 t7 fr, f_i_rest_sg13_116 t1 t6 t7 fr, f_i_rest_sg13_31 t1 t6 t7 fr, f_i_rest_sg13_527 t1 t6 t7 fr, f_i_rest_sg13_31 t1 t6 t7 fr, f_i_rest_sg13_55 t1 t6 t7 fr, f_i_rest_sg13_535 t1 t6 t7 fr, f_i_rest_sg13_527 t1 t6 t7 fr, f_i_rest_sg13_535 t1 t6 t7 fr, f_i_rest_sg13_55 t1 t6 t7 fr, f_i_rest_sg13_115 t1 t6 t7 fr, f_i_rest_sg13_563 t1 t6 t7 fr, f_i_rest_sg13_535 t1 t6 t7 fr, f_i_rest_sg13_563 t1 t6 t7 fr, f_i_rest_sg13_31 t1 t6 t7 fr, f_i_rest_sg13_61 t1 t6 t7 fr, f_i_rest_sg13_541 t1 t6 t7 fr, f_i_rest_sg13_527 t1 t6 t7 fr, f_i_rest_sg13_541 t1 t6 t7 fr, f_i_rest_sg13_55 t1 t6 t7 fr, f_i_rest_sg13_61 t1 t6 t7 fr, f_i_rest_sg13_117 t1 t6 t7 fr, f_i_rest_sg13_565 t1 t6 t7 fr, f_i_rest_sg13_535 t1 t6 t7 fr, f_i_rest_sg13_541 t1 t6 t7 fr, f_i_rest_sg13_565 t1 t6 t7 fr, f_i_rest_sg13_115 t1 t6 t7 fr, f_i_rest_sg13_117 t1 t6 t7 fr, f_i_rest_sg13_625 t1 t6 t7 fr, f_i_rest_sg13_563 t1 t6 t7 fr, f_i_rest_sg13_565 t1 t6 t7 fr, f_i_rest_sg13_625 t1 t6 t7 fr, f_i_rest_sg13_31 t1 t6 t7 fr, f_i_rest_sg13_62 t1 t6 t7 fr, f_i_rest_sg13_55 t1 t6 t7 fr, f_i_rest_sg13_62 t1 t6 t7 fr, f_i_rest_sg13_118 t1 t6 t7 fr, f_i_rest_sg13_115 t1 t6 t7 fr, f_i_rest_sg13_118 t1 t6 t7 fr, f_i_rest_sg13_61 t1 t6 t7 fr, f_i_rest_sg13_62 t1 t6 t7 fr, f_i_rest_sg13_124 t1 t6 t7 fr, f_i_rest_sg13_117 t1 t6 t7 fr, f_i_rest_sg13_118 t1 t6 t7 fr, f_i_rest_sg13_124 t1 t6 t7 fr, f_i_rest_sg13_63 t1 t6 t7 fr, f_i_rest_sg13_543 t1 t6 t7 fr, f_i_rest_sg13_543 t1 t6 t7 fr, f_i_rest_sg13_63 t1 t6 t7 fr, f_i_rest_sg13_119 t1 t6 t7 fr, f_i_rest_sg13_567 t1 t6 t7 fr, f_i_rest_sg13_543 t1 t6 t7 fr, f_i_rest_sg13_567 t1 t6 t7 fr, f_i_rest_sg13_119 t1 t6 t7 fr, f_i_rest_sg13_627 t1 t6 t7 fr, f_i_rest_sg13_567 t1 t6 t7 fr, f_i_rest_sg13_627 t1 t6 t7 fr, f_i_rest_sg13_63 t1 t6 t7 fr, f_i_rest_sg13_125 t1 t6 t7 fr, f_i_rest_sg13_573 t1 t6 t7 fr, f_i_rest_sg13_543 t1 t6 t7 fr, f_i_rest_sg13_573 t1 t6 t7 fr, f_i_rest_sg13_119 t1 t6 t7 fr, f_i_rest_sg13_125 t1 t6 t7 fr, f_i_rest_sg13_629 t1 t6 t7 fr, f_i_rest_sg13_567 t1 t6 t7 fr, f_i_rest_sg13_573 t1 t6 t7 fr, f_i_rest_sg13_629 t1 t6 t7 fr, f_i_rest_sg13_627 t1 t6 t7 fr, f_i_rest_sg13_629 t1 t6 t7 fr, f_i_rest_sg13_63 t1 t6 t7 fr, f_i_rest_sg13_126 t1 t6 t7 fr, f_i_rest_sg13_119 t1 t6 t7 fr, f_i_rest_sg13_126 t1 t6 t7 fr, f_i_rest_sg13_125 t1 t6 t7 fr, f_i_rest_sg13_126 t1 t6 t7 fr, f_i_rest_sg13_252 t1 t6 t7 fr, f_i_rest_sg13_127 t1 t6 t7 fr, f_i_rest_sg13_575 t1 t6 t7 fr, f_i_rest_sg13_575 t1 t6 t7 fr, f_i_rest_sg13_127 t1 t6 t7 fr, f_i_rest_sg13_631 t1 t6 t7 fr, f_i_rest_sg13_575 t1 t6 t7 fr, f_i_rest_sg13_631 t1 t6 t7 fr, f_i_rest_sg13_631 t1 t6 t7 fr, f_i_rest_sg13_127 t1 t6 t7 fr, f_i_rest_sg13_253 t1 t6 t7 fr, f_i_rest_sg13_637 t1 t6 t7 fr, f_i_rest_sg13_575 t1 t6 t7 fr, f_i_rest_sg13_637 t1 t6 t7 fr, f_i_rest_sg13_631 t1 t6 t7 fr, f_i_rest_sg13_637 t1 t6 t7 fr, f_i_rest_sg13_127 t1 t6 t7 fr, f_i_rest_sg13_254 t1 t6 t7 fr, f_i_rest_sg13_253 t1 t6 t7 fr, f_i_rest_sg13_254 t1 t6 t7 fr, f_i_rest_sg13_255 t1 t6 t7 fr, f_i_rest_sg13_639 t1 t6 t7 fr, f_i_rest_sg13_639 t1 t6 t7 fr, f_i_rest_sg13_639 t1 t6 t7 fr, f_i_rest_sg13_255 t1 t6 t7 fr, f_i_rest_sg13_765 t1 t6 t7 fr, f_i_rest_sg13_639 t1 t6 t7 fr, f_i_rest_sg13_765 t1 t6 t7 fr, f_i_rest_sg13_255 t1 t6 t7 fr, f_i_rest_sg13_510 t1 t6 t7 fr, f_i_rest_sg13_511 t1 t6 t7 fr, f_i_rest_sg13_767 t1 t6 t7 fr, f_i_rest_sg13_767 t1 t6 t7 fr, f_i_rest_sg13_767 t1 t6 t7 fr, f_i_rest_sg13_511 t1 t6 t7 fr, f_i_rest_sg13_1023 t1 t6 t7 fr, f_i_rest_sg13_1023 t1 t6 t7 fr, f_i_rest_sg13_2047 t1 t6 t7 fr]
theorem f_i_rest_dLg13 (t1 : List Sc) (t6 : List Sc) (t7 : List Sc) : edgeL E0 f_i_rest_M H0 f_i_rest_F (opsAt (bodyOf Try.f74 100013)) f_i_rest_Dg13 (f_i_rest_frg13 t1 t6 t7) = f_i_rest_Eg13 t1 t6 t7 (f_i_rest_frg13 t1 t6 t7) := by kernel_rfl
theorem f_i_rest_dRg13 (t1 : List Sc) (t6 : List Sc) (t7 : List Sc) : edgeR E0 f_i_rest_M H0 f_i_rest_F (opsAt (bodyOf Try.f74 100013)) f_i_rest_Dg13 (f_i_rest_frg13 t1 t6 t7) = f_i_rest_Eg13 t1 t6 t7 (f_i_rest_frg13 t1 t6 t7) := by kernel_rfl
theorem f_i_rest_dg13 (t1 : List Sc) (t6 : List Sc) (t7 : List Sc) : edgeL E0 f_i_rest_M H0 f_i_rest_F (opsAt (bodyOf Try.f74 100013)) f_i_rest_Dg13 (f_i_rest_frg13 t1 t6 t7) = edgeR E0 f_i_rest_M H0 f_i_rest_F (opsAt (bodyOf Try.f74 100013)) f_i_rest_Dg13 (f_i_rest_frg13 t1 t6 t7) := (f_i_rest_dLg13 t1 t6 t7).trans (f_i_rest_dRg13 t1 t6 t7).symm
theorem f_i_rest_eg13 (t1 : List Sc) (t6 : List Sc) (t7 : List Sc) : goL E0 f_i_rest_M H0 f_i_rest_F (opsAt (bodyOf Try.f74 100013)) (Array.replicate (opsAt (bodyOf Try.f74 100013)).size true) (opsAt (bodyOf Try.f74 100013)).toList 0 (f_i_rest_frg13 t1 t6 t7) (fun s => some (X.norm, clear (klOf f_i_rest_F 100013).2.1 s)) = f_i_rest_g13_k t1 t6 t7 (fun e => some (f_i_rest_xg13 t1 t6 t7 e)) := by kernel_rfl
theorem f_i_rest_lg13 (t1 : List Sc) (t6 : List Sc) (t7 : List Sc) (r : List Sc) (h : f_i_rest_g13 t1 t6 t7 = some r) : LS Try.prog f_i_rest_F (bodyOf Try.f74 100013) (f_i_rest_frg13 t1 t6 t7) (f_i_rest_xg13 t1 t6 t7 r) :=
  region_true (S := Unit) (id := 13) (G := fun _ => f_i_rest_g13 t1 t6 t7) (Gk := fun _ k => f_i_rest_g13_k t1 t6 t7 k) (fr := fun _ => f_i_rest_frg13 t1 t6 t7) (f1 := fun e => f_i_rest_xg13 t1 t6 t7 e) E0ok f_i_rest_Mt f_i_rest_bg13 f_i_rest_cg13 (fun _ => f_i_rest_dg13 t1 t6 t7) (fun _ => rfl) (fun _ => f_i_rest_eg13 t1 t6 t7) (fun _ k => f_i_rest_pg13 t1 t6 t7 k) () r h
def f_i_rest_tg13 (σ : List AV) : Option (Bool × Bool × (X × List AV) × (X × List AV)) := match dec f_i_rest_hg13 σ with
  | some [.l t1, .l t6, .l t7] => some ((f_i_rest_g13 t1 t6 t7).isSome, true, f_i_rest_xg13 t1 t6 t7 ((f_i_rest_g13 t1 t6 t7).getD []), (.ret, []))
  | _ => none
theorem f_i_rest_ttg13 : TTrue Try.prog f_i_rest_F Try.f74 100013 f_i_rest_tg13 := by
  intro σ p r r' h
  unfold f_i_rest_tg13 at h
  split at h
  · rename_i hd
    rw [← dec_enc hd]
    exact rowR (f_i_rest_lg13 _ _ _) h
  · cases h
def f_i_rest_h2 : List Sh := [.u, .p .sl, .u, .u, .u, .u, .own 3, .own 3, .p (.int .i64), .p (.int .i64), .u, .u, .u, .u, .u, .u, .u, .u, .u, .u, .u, .u, .u, .u, .u, .u, .u, .u, .u, .u, .u, .u, .u, .u, .u, .u, .u, .u, .u, .u, .u, .p .sl, .p (.int .i64), .p (.int .i64), .u, .u, .u, .u, .u, .u, .u, .u, .u, .u, .u, .u, .u, .u, .u, .u, .u, .u, .u, .u, .u, .u, .u, .u, .u, .u, .u, .u, .u]
def f_i_rest_fr2 (t1 : List Sc) (t8 : Int) (t9 : Int) (t41 : List Sc) (t42 : Int) (s : List Sc × List Sc × Int) : List AV := enc f_i_rest_h2 [.l t1, .l s.1, .l s.2.1, .i t8, .i t9, .l t41, .i t42, .i s.2.2]
def f_i_rest_g2_1 : List Sh := [.u, .p .sl, .u, .u, .u, .u, .own 3, .own 3, .p (.int .i64), .u, .u, .u, .u, .u, .u, .u, .u, .u, .u, .u, .u, .u, .u, .u, .u, .u, .u, .u, .u, .u, .u, .u, .u, .u, .u, .u, .u, .u, .u, .u, .u, .u, .u, .u, .u, .u, .u, .u, .u, .u, .u, .u, .u, .u, .u, .u, .u, .u, .u, .u, .u, .u, .u, .u, .u, .u, .u, .u, .u, .u, .u, .u, .u]
def f_i_rest_x2_1 (t1 : List Sc) (t8 : Int) (t9 : Int) (t41 : List Sc) (t42 : Int) (e : List Sc × List Sc) : X × List AV := (.out 2, enc f_i_rest_g2_1 [.l t1, .l e.1, .l e.2, .i t8])
def f_i_rest_x2_2 (t1 : List Sc) (t8 : Int) (t9 : Int) (t41 : List Sc) (t42 : Int) (_e : Unit) : X × List AV := (.ret, [])
theorem f_i_rest_p2 {R : Type} (t1 : List Sc) (t8 : Int) (t9 : Int) (t41 : List Sc) (t42 : Int) (s : List Sc × List Sc × Int) (kN : List Sc × List Sc × Int → Option R) (kA : List Sc × List Sc → Option R) (kB : Unit → Option R) : f_i_rest_k2 t1 t8 t9 t41 t42 s.1 s.2.1 s.2.2 kN kA = (f_i_rest_r2 t1 t8 t9 t41 t42 s).bind (Ro.el kN kA kB) := by
  simp only [f_i_rest_k2, f_i_rest_r2, brB, someB, noneB, Ro.el]
theorem f_i_rest_e2 (t1 : List Sc) (t8 : Int) (t9 : Int) (t41 : List Sc) (t42 : Int) (s : List Sc × List Sc × Int) : EC E0 f_i_rest_M H0 f_i_rest_F (asL (addL 100013 f_i_rest_tg13 (noL))) 2 (bodyOf Try.f74 2) (f_i_rest_fr2 t1 t8 t9 t41 t42 s) (done (klOf f_i_rest_F 2)) = f_i_rest_k2 t1 t8 t9 t41 t42 s.1 s.2.1 s.2.2 (fun s => some (.norm, f_i_rest_fr2 t1 t8 t9 t41 t42 s)) (fun e => some (f_i_rest_x2_1 t1 t8 t9 t41 t42 e)) := by kernel_rfl
theorem f_i_rest_l2 (t1 : List Sc) (t8 : Int) (t9 : Int) (t41 : List Sc) (t42 : Int) : ∀ s r, loopL (f_i_rest_r2 t1 t8 t9 t41 t42) s = some r → LS Try.prog f_i_rest_F (bodyOf Try.f74 2) (f_i_rest_fr2 t1 t8 t9 t41 t42 s) (enX (f_i_rest_x2_1 t1 t8 t9 t41 t42) (f_i_rest_x2_2 t1 t8 t9 t41 t42) r) :=
  loop_true E0ok f_i_rest_Mt (addL_true f_i_rest_ttg13 (noL_true)) f_i_rest_o (fun _ h => by cases h) (fun _ h => by cases h) (fun s => (f_i_rest_e2 t1 t8 t9 t41 t42 s).trans (f_i_rest_p2 t1 t8 t9 t41 t42 s _ _ (fun e => some (f_i_rest_x2_2 t1 t8 t9 t41 t42 e))))
def f_i_rest_t2 (σ : List AV) : Option (Bool × Bool × (X × List AV) × (X × List AV)) := match dec f_i_rest_h2 σ with
  | some [.l t1, .l t6, .l t7, .i t8, .i t9, .l t41, .i t42, .i t43] => some (isOne (loopL (f_i_rest_r2 t1 t8 t9 t41 t42) (t6, t7, t43)), true, f_i_rest_x2_1 t1 t8 t9 t41 t42 (getOne ([], []) (loopL (f_i_rest_r2 t1 t8 t9 t41 t42) (t6, t7, t43))), (.ret, []))
  | _ => none
theorem f_i_rest_tt2 : TTrue Try.prog f_i_rest_F Try.f74 2 (f_i_rest_t2) := by
  intro σ p r r' h
  unfold f_i_rest_t2 at h
  split at h
  · rename_i hd
    rw [← dec_enc hd]
    exact row1 (f_i_rest_l2 _ _ _ _ _ _) h
  · cases h
def f_i_rest_h0 : List Sh := [.u, .p .sl, .u, .u, .u, .u, .own 3, .own 3, .p (.int .i64), .u, .u, .u, .u, .u, .u, .u, .u, .u, .u, .u, .u, .u, .u, .u, .u, .u, .u, .u, .u, .u, .u, .u, .u, .u, .u, .u, .u, .u, .u, .u, .u, .u, .u, .u, .u, .u, .u, .u, .u, .u, .u, .u, .u, .u, .u, .u, .u, .u, .u, .u, .u, .u, .u, .u, .u, .u, .u, .u, .u, .u, .u, .u, .u]
def f_i_rest_fr0 (t1 : List Sc) (s : List Sc × List Sc × Int) : List AV := enc f_i_rest_h0 [.l t1, .l s.1, .l s.2.1, .i s.2.2]
def f_i_rest_g0_1 : List Sh := [.u, .p .sl, .u, .u, .u, .u, .own 3, .own 3, .p (.int .i64), .u, .u, .u, .u, .u, .u, .u, .u, .u, .u, .u, .u, .u, .u, .u, .u, .u, .u, .u, .u, .u, .u, .u, .u, .u, .u, .u, .u, .u, .u, .u, .u, .u, .u, .u, .u, .u, .u, .u, .u, .u, .u, .u, .u, .u, .u, .u, .u, .u, .u, .u, .u, .u, .u, .u, .u, .u, .u, .u, .u, .u, .u, .u, .u]
def f_i_rest_x0_1 (t1 : List Sc) (e : List Sc × List Sc × Int) : X × List AV := (.out 0, enc f_i_rest_g0_1 [.l t1, .l e.1, .l e.2.1, .i e.2.2])
def f_i_rest_x0_2 (t1 : List Sc) (_e : Unit) : X × List AV := (.ret, [])
theorem f_i_rest_p0 {R : Type} (t1 : List Sc) (s : List Sc × List Sc × Int) (kN : List Sc × List Sc × Int → Option R) (kA : List Sc × List Sc × Int → Option R) (kB : Unit → Option R) : f_i_rest_k0 t1 s.1 s.2.1 s.2.2 kN kA = (f_i_rest_r0 t1 s).bind (Ro.el kN kA kB) := by
  simp only [f_i_rest_k0, f_i_rest_r0, brB, bl1B, someB, noneB, Ro.el]
theorem f_i_rest_e0 (t1 : List Sc) (s : List Sc × List Sc × Int) : EC E0 f_i_rest_M H0 f_i_rest_F (asL (addL 2 (f_i_rest_t2) (addL 100013 f_i_rest_tg13 (noL)))) 0 (bodyOf Try.f74 0) (f_i_rest_fr0 t1 s) (done (klOf f_i_rest_F 0)) = f_i_rest_k0 t1 s.1 s.2.1 s.2.2 (fun s => some (.norm, f_i_rest_fr0 t1 s)) (fun e => some (f_i_rest_x0_1 t1 e)) := by kernel_rfl
theorem f_i_rest_l0 (t1 : List Sc) : ∀ s r, loopL (f_i_rest_r0 t1) s = some r → LS Try.prog f_i_rest_F (bodyOf Try.f74 0) (f_i_rest_fr0 t1 s) (enX (f_i_rest_x0_1 t1) (f_i_rest_x0_2 t1) r) :=
  loop_true E0ok f_i_rest_Mt (addL_true (f_i_rest_tt2) (addL_true f_i_rest_ttg13 (noL_true))) f_i_rest_o (fun _ h => by cases h) (fun _ h => by cases h) (fun s => (f_i_rest_e0 t1 s).trans (f_i_rest_p0 t1 s _ _ (fun e => some (f_i_rest_x0_2 t1 e))))
def f_i_rest_t0 (σ : List AV) : Option (Bool × Bool × (X × List AV) × (X × List AV)) := match dec f_i_rest_h0 σ with
  | some [.l t1, .l t6, .l t7, .i t8] => some (isOne (loopL (f_i_rest_r0 t1) (t6, t7, t8)), true, f_i_rest_x0_1 t1 (getOne ([], [], 0) (loopL (f_i_rest_r0 t1) (t6, t7, t8))), (.ret, []))
  | _ => none
theorem f_i_rest_tt0 : TTrue Try.prog f_i_rest_F Try.f74 0 (f_i_rest_t0) := by
  intro σ p r r' h
  unfold f_i_rest_t0 at h
  split at h
  · rename_i hd
    rw [← dec_enc hd]
    exact row1 (f_i_rest_l0 _ _) h
  · cases h
theorem f_i_rest_p {R : Type} (L0 : List Sc) (p1 : List Sc) (kR : List Sc × List Sc → Option R) : f_i_rest_k L0 p1 kR = (f_i_rest_k L0 p1 some).bind kR := by
  simp only [f_i_rest_k, brB, boB, bl1B, someB, noneB]
theorem f_i_rest_e (L0 : List Sc) (p1 : List Sc) : runFn E0 f_i_rest_M H0 f_i_rest_F (asL (addL 0 (f_i_rest_t0) (addL 2 (f_i_rest_t2) (addL 100013 f_i_rest_tg13 (noL))))) Try.f74 (f_i_rest_a L0 p1) (f_i_rest_i L0 p1) = f_i_rest_k L0 p1 (fun r => some (f_i_rest_en r)) := by kernel_rfl
theorem f_i_rest_ok (L0 : List Sc) (p1 : List Sc) (r : List Sc × List Sc) (h : f_i_rest L0 p1 = some r) : CS Try.prog 74 (f_i_rest_a L0 p1) (f_i_rest_i L0 p1) (f_i_rest_en r).1 (f_i_rest_en r).2 :=
  fn_true (Gk := fun k => f_i_rest_k L0 p1 k) (en := f_i_rest_en) Try.func74 E0ok f_i_rest_Mt (addL_true (f_i_rest_tt0) (addL_true (f_i_rest_tt2) (addL_true f_i_rest_ttg13 (noL_true)))) f_i_rest_o (f_i_rest_e L0 p1) (f_i_rest_p L0 p1) h
def f_i_rest_c : CRow := fun args inh => match dec2 [.p .sl, .p .sl] [] args inh with
  | some ([.l L0, .l p1], []) => some ((f_i_rest L0 p1).isSome, (f_i_rest_en ((f_i_rest L0 p1).getD ([], []))).1, (f_i_rest_en ((f_i_rest L0 p1).getD ([], []))).2)
  | _ => none
theorem f_i_rest_cc : CTrue Try.prog 74 f_i_rest_c := by
  intro args inh rs out h
  unfold f_i_rest_c at h
  split at h
  · rename_i hd
    obtain ⟨h1, h2⟩ := dec2_enc hd
    rw [← h1, ← h2]
    exact rowC (f_i_rest_ok _ _) h
  · cases h

def f_i_cyclotomic_F : Fi := { nv := 1, nc := 0, m := 0, vt := [(26, 0)], kl := [(0, ([0, 2, 3, 6, 7, 8, 9, 10, 11, 12, 13, 14, 15, 16, 17, 18, 19, 20, 21, 22, 23, 24, 25, 26, 27, 28, 29, 30], [0, 1, 2, 3, 5, 6, 7, 8, 9, 10, 11, 12, 13, 14, 15, 16, 17, 18, 19, 20, 21, 22, 23, 24, 25, 26, 27, 28, 29, 30], [0, 1, 2, 4, 5, 6, 7, 8, 9, 10, 11, 12, 13, 14, 15, 16, 17, 18, 19, 20, 21, 22, 23, 24, 25, 26, 27, 28, 29, 30]))], sk := [], mvs := [0], fz := [] }
def f_i_cyclotomic_a (d0 : Int) : List AV := enc [.p (.int .i64)] [.i d0]
def f_i_cyclotomic_i (d0 : Int) : List AV := enc [] []
def f_i_cyclotomic_en (r : List Sc) : List AV × List AV := (enc [.p (.al 0)] [], enc [.own 3] [.l r])
def f_i_cyclotomic_cs (self : Int → Option (List Sc)) : CRow := fun args inh => match dec2 [.p (.int .i64)] [] args inh with
  | some ([.i d0], []) => some ((self d0).isSome, (f_i_cyclotomic_en ((self d0).getD [])).1, (f_i_cyclotomic_en ((self d0).getD [])).2)
  | _ => none
theorem f_i_cyclotomic_cst (self : Int → Option (List Sc)) (hs : ∀ a r, self a = some r → CS Try.prog 75 (f_i_cyclotomic_a a) (f_i_cyclotomic_i a) (f_i_cyclotomic_en r).1 (f_i_cyclotomic_en r).2) : CTrue Try.prog 75 (f_i_cyclotomic_cs self) := by
  intro args inh rs out h
  unfold f_i_cyclotomic_cs at h
  split at h
  · rename_i hd
    obtain ⟨h1, h2⟩ := dec2_enc hd
    rw [← h1, ← h2]
    exact rowC (hs _) h
  · cases h
def f_i_cyclotomic_M (self : Int → Option (List Sc)) : Calling := addC 75 (f_i_cyclotomic_cs self) (addC 74 f_i_rest_c (noC))
theorem f_i_cyclotomic_Mt (self : Int → Option (List Sc)) (hs : ∀ a r, self a = some r → CS Try.prog 75 (f_i_cyclotomic_a a) (f_i_cyclotomic_i a) (f_i_cyclotomic_en r).1 (f_i_cyclotomic_en r).2) : CallOk Try.prog (f_i_cyclotomic_M self) := addC_true (f_i_cyclotomic_cst self hs) (addC_true f_i_rest_cc (noC_true))
theorem f_i_cyclotomic_o : loopsOnce Try.f75 = true := by kernel_rfl
def f_i_cyclotomic_h0 : List Sh := [.u, .p (.int .i64), .u, .u, .own 3, .p (.int .i64), .u, .u, .u, .u, .u, .u, .u, .u, .u, .u, .u, .u, .u, .u, .u, .u, .u, .u, .u, .u, .u, .u, .u, .u, .u]
def f_i_cyclotomic_fr0 (self : Int → Option (List Sc)) (d0 : Int) (s : List Sc × Int) : List AV := enc f_i_cyclotomic_h0 [.i d0, .l s.1, .i s.2]
def f_i_cyclotomic_g0_1 : List Sh := [.u, .u, .u, .u, .own 3, .u, .u, .u, .u, .u, .u, .u, .u, .u, .u, .u, .u, .u, .u, .u, .u, .u, .u, .u, .u, .u, .u, .u, .u, .u, .u]
def f_i_cyclotomic_x0_1 (self : Int → Option (List Sc)) (d0 : Int) (e : List Sc) : X × List AV := (.out 0, enc f_i_cyclotomic_g0_1 [.l e])
def f_i_cyclotomic_x0_2 (self : Int → Option (List Sc)) (d0 : Int) (_e : Unit) : X × List AV := (.ret, [])
theorem f_i_cyclotomic_p0 {R : Type} (self : Int → Option (List Sc)) (d0 : Int) (s : List Sc × Int) (kN : List Sc × Int → Option R) (kA : List Sc → Option R) (kB : Unit → Option R) : f_i_cyclotomic_k0 self d0 s.1 s.2 kN kA = (f_i_cyclotomic_r0 self d0 s).bind (Ro.el kN kA kB) := by
  simp only [f_i_cyclotomic_k0, f_i_cyclotomic_r0, brB, boB, someB, noneB, Ro.el]
theorem f_i_cyclotomic_e0 (self : Int → Option (List Sc)) (d0 : Int) (s : List Sc × Int) : EC E0 (f_i_cyclotomic_M self) H0 f_i_cyclotomic_F (asL (noL)) 0 (bodyOf Try.f75 0) (f_i_cyclotomic_fr0 self d0 s) (done (klOf f_i_cyclotomic_F 0)) = f_i_cyclotomic_k0 self d0 s.1 s.2 (fun s => some (.norm, f_i_cyclotomic_fr0 self d0 s)) (fun e => some (f_i_cyclotomic_x0_1 self d0 e)) := by kernel_rfl
theorem f_i_cyclotomic_l0 (self : Int → Option (List Sc)) (hs : ∀ a r, self a = some r → CS Try.prog 75 (f_i_cyclotomic_a a) (f_i_cyclotomic_i a) (f_i_cyclotomic_en r).1 (f_i_cyclotomic_en r).2) (d0 : Int) : ∀ s r, loopL (f_i_cyclotomic_r0 self d0) s = some r → LS Try.prog f_i_cyclotomic_F (bodyOf Try.f75 0) (f_i_cyclotomic_fr0 self d0 s) (enX (f_i_cyclotomic_x0_1 self d0) (f_i_cyclotomic_x0_2 self d0) r) :=
  loop_true E0ok (f_i_cyclotomic_Mt self hs) (noL_true) f_i_cyclotomic_o (fun _ h => by cases h) (fun _ h => by cases h) (fun s => (f_i_cyclotomic_e0 self d0 s).trans (f_i_cyclotomic_p0 self d0 s _ _ (fun e => some (f_i_cyclotomic_x0_2 self d0 e))))
def f_i_cyclotomic_t0 (self : Int → Option (List Sc)) (σ : List AV) : Option (Bool × Bool × (X × List AV) × (X × List AV)) := match dec f_i_cyclotomic_h0 σ with
  | some [.i d0, .l p3, .i e4] => some (isOne (loopL (f_i_cyclotomic_r0 self d0) (p3, e4)), true, f_i_cyclotomic_x0_1 self d0 (getOne [] (loopL (f_i_cyclotomic_r0 self d0) (p3, e4))), (.ret, []))
  | _ => none
theorem f_i_cyclotomic_tt0 (self : Int → Option (List Sc)) (hs : ∀ a r, self a = some r → CS Try.prog 75 (f_i_cyclotomic_a a) (f_i_cyclotomic_i a) (f_i_cyclotomic_en r).1 (f_i_cyclotomic_en r).2) : TTrue Try.prog f_i_cyclotomic_F Try.f75 0 (f_i_cyclotomic_t0 self) := by
  intro σ p r r' h
  unfold f_i_cyclotomic_t0 at h
  split at h
  · rename_i hd
    rw [← dec_enc hd]
    exact row1 (f_i_cyclotomic_l0 self hs _ _) h
  · cases h
theorem f_i_cyclotomic_p {R : Type} (self : Int → Option (List Sc)) (d0 : Int) (kR : List Sc → Option R) : f_i_cyclotomic_k self d0 kR = (f_i_cyclotomic_k self d0 some).bind kR := by
  simp only [f_i_cyclotomic_k, brB, bl1B, someB, noneB]
theorem f_i_cyclotomic_e (self : Int → Option (List Sc)) (d0 : Int) : runFn E0 (f_i_cyclotomic_M self) H0 f_i_cyclotomic_F (asL (addL 0 (f_i_cyclotomic_t0 self) (noL))) Try.f75 (f_i_cyclotomic_a d0) (f_i_cyclotomic_i d0) = f_i_cyclotomic_k self d0 (fun r => some (f_i_cyclotomic_en r)) := by kernel_rfl
theorem f_i_cyclotomic_ks (self : Int → Option (List Sc)) (hs : ∀ a r, self a = some r → CS Try.prog 75 (f_i_cyclotomic_a a) (f_i_cyclotomic_i a) (f_i_cyclotomic_en r).1 (f_i_cyclotomic_en r).2) (d0 : Int) (r : List Sc) (h : f_i_cyclotomic_k self d0 some = some r) : CS Try.prog 75 (f_i_cyclotomic_a d0) (f_i_cyclotomic_i d0) (f_i_cyclotomic_en r).1 (f_i_cyclotomic_en r).2 :=
  fn_true (Gk := fun k => f_i_cyclotomic_k self d0 k) (en := f_i_cyclotomic_en) Try.func75 E0ok (f_i_cyclotomic_Mt self hs) (addL_true (f_i_cyclotomic_tt0 self hs) (noL_true)) f_i_cyclotomic_o (f_i_cyclotomic_e self d0) (f_i_cyclotomic_p self d0) h
theorem f_i_cyclotomic_ns : ∀ n a r, f_i_cyclotomic_n n a = some r → CS Try.prog 75 (f_i_cyclotomic_a a) (f_i_cyclotomic_i a) (f_i_cyclotomic_en r).1 (f_i_cyclotomic_en r).2
  | 0, _, _, h => by cases h
  | n + 1, a, r, h => f_i_cyclotomic_ks (f_i_cyclotomic_n n) (f_i_cyclotomic_ns n) a r h
theorem f_i_cyclotomic_ok (d0 : Int) (r : List Sc) (h : f_i_cyclotomic d0 = some r) : CS Try.prog 75 (f_i_cyclotomic_a d0) (f_i_cyclotomic_i d0) (f_i_cyclotomic_en r).1 (f_i_cyclotomic_en r).2 := by
  obtain ⟨n, hn⟩ := limF_some h
  exact f_i_cyclotomic_ns n _ r hn
def f_i_cyclotomic_c : CRow := fun args inh => match dec2 [.p (.int .i64)] [] args inh with
  | some ([.i d0], []) => some ((f_i_cyclotomic d0).isSome, (f_i_cyclotomic_en ((f_i_cyclotomic d0).getD [])).1, (f_i_cyclotomic_en ((f_i_cyclotomic d0).getD [])).2)
  | _ => none
theorem f_i_cyclotomic_cc : CTrue Try.prog 75 f_i_cyclotomic_c := by
  intro args inh rs out h
  unfold f_i_cyclotomic_c at h
  split at h
  · rename_i hd
    obtain ⟨h1, h2⟩ := dec2_enc hd
    rw [← h1, ← h2]
    exact rowC (f_i_cyclotomic_ok _) h
  · cases h

def f_i_vanishes_F : Fi := { nv := 1, nc := 0, m := 0, vt := [(12, 0)], kl := [(0, ([0, 1, 2, 3, 4, 5, 6, 7, 8, 9, 10, 11, 12, 13, 14, 15, 19, 20, 21, 22, 23, 24], [0, 1, 2, 3, 4, 5, 6, 7, 8, 9, 10, 11, 12, 13, 14, 15, 16, 17, 18, 19, 20, 21, 22, 23, 24], [0, 1, 2, 4, 5, 6, 7, 8, 9, 10, 11, 12, 13, 14, 15, 16, 17, 18, 19, 20, 21, 22, 23, 24]))], sk := [], mvs := [0], fz := [] }
def f_i_vanishes_a (counts0 : List Sc) : List AV := enc [.p .sl] [.l counts0]
def f_i_vanishes_i (counts0 : List Sc) : List AV := enc [] []
def f_i_vanishes_en (r : Bool) : List AV × List AV := (enc [.p .boo] [.b r], enc [] [])
def f_i_vanishes_M : Calling := addC 75 f_i_cyclotomic_c (addC 74 f_i_rest_c (noC))
theorem f_i_vanishes_Mt : CallOk Try.prog (f_i_vanishes_M) := addC_true f_i_cyclotomic_cc (addC_true f_i_rest_cc (noC_true))
theorem f_i_vanishes_o : loopsOnce Try.f53 = true := by kernel_rfl
def f_i_vanishes_h0 : List Sh := [.u, .u, .u, .u, .u, .u, .u, .u, .u, .u, .u, .u, .u, .u, .u, .u, .p .sl, .p (.int .i64), .p (.int .i64), .u, .u, .u, .u, .u, .u]
def f_i_vanishes_fr0 (t15 : List Sc) (t16 : Int) (s : Int) : List AV := enc f_i_vanishes_h0 [.l t15, .i t16, .i s]
def f_i_vanishes_g0_1 : List Sh := [.u, .u, .u, .u, .u, .u, .u, .u, .u, .u, .u, .u, .u, .u, .u, .u, .u, .u, .u, .u, .u, .u, .u, .u, .u]
def f_i_vanishes_x0_1 (t15 : List Sc) (t16 : Int) (e : Unit) : X × List AV := (.out 0, enc f_i_vanishes_g0_1 [])
def f_i_vanishes_g0_2 : List Sh := [.u, .u, .u, .p .boo, .u, .u, .u, .u, .u, .u, .u, .u, .u, .u, .u, .u, .u, .u, .u, .u, .u, .u, .u, .u, .u]
def f_i_vanishes_x0_2 (t15 : List Sc) (t16 : Int) (e : Unit) : X × List AV := (.ret, enc f_i_vanishes_g0_2 [.b false])
theorem f_i_vanishes_p0 {R : Type} (t15 : List Sc) (t16 : Int) (s : Int) (kN : Int → Option R) (kA : Unit → Option R) (kB : Unit → Option R) : f_i_vanishes_k0 t15 t16 s kN kA kB = (f_i_vanishes_r0 t15 t16 s).bind (Ro.el kN kA kB) := by
  simp only [f_i_vanishes_k0, f_i_vanishes_r0, brB, someB, noneB, Ro.el]
theorem f_i_vanishes_e0 (t15 : List Sc) (t16 : Int) (s : Int) : EC E0 f_i_vanishes_M H0 f_i_vanishes_F (asL (noL)) 0 (bodyOf Try.f53 0) (f_i_vanishes_fr0 t15 t16 s) (done (klOf f_i_vanishes_F 0)) = f_i_vanishes_k0 t15 t16 s (fun s => some (.norm, f_i_vanishes_fr0 t15 t16 s)) (fun e => some (f_i_vanishes_x0_1 t15 t16 e)) (fun e => some (f_i_vanishes_x0_2 t15 t16 e)) := by kernel_rfl
theorem f_i_vanishes_l0 (t15 : List Sc) (t16 : Int) : ∀ s r, loopL (f_i_vanishes_r0 t15 t16) s = some r → LS Try.prog f_i_vanishes_F (bodyOf Try.f53 0) (f_i_vanishes_fr0 t15 t16 s) (enX (f_i_vanishes_x0_1 t15 t16) (f_i_vanishes_x0_2 t15 t16) r) :=
  loop_true E0ok f_i_vanishes_Mt (noL_true) f_i_vanishes_o (fun _ h => by cases h) (fun _ h => by cases h) (fun s => (f_i_vanishes_e0 t15 t16 s).trans (f_i_vanishes_p0 t15 t16 s _ _ (fun e => some (f_i_vanishes_x0_2 t15 t16 e))))
def f_i_vanishes_t0 (σ : List AV) : Option (Bool × Bool × (X × List AV) × (X × List AV)) := match dec f_i_vanishes_h0 σ with
  | some [.l t15, .i t16, .i t17] => some ((loopL (f_i_vanishes_r0 t15 t16) t17).isSome, isOne (loopL (f_i_vanishes_r0 t15 t16) t17), f_i_vanishes_x0_1 t15 t16 (getOne () (loopL (f_i_vanishes_r0 t15 t16) t17)), f_i_vanishes_x0_2 t15 t16 (getTwo () (loopL (f_i_vanishes_r0 t15 t16) t17)))
  | _ => none
theorem f_i_vanishes_tt0 : TTrue Try.prog f_i_vanishes_F Try.f53 0 (f_i_vanishes_t0) := by
  intro σ p r r' h
  unfold f_i_vanishes_t0 at h
  split at h
  · rename_i hd
    rw [← dec_enc hd]
    exact row2 (f_i_vanishes_l0 _ _ _) h
  · cases h
theorem f_i_vanishes_p {R : Type} (counts0 : List Sc) (kR : Bool → Option R) : f_i_vanishes_k counts0 kR = (f_i_vanishes_k counts0 some).bind kR := by
  simp only [f_i_vanishes_k, boB, blB, someB]
theorem f_i_vanishes_e (counts0 : List Sc) : runFn E0 f_i_vanishes_M H0 f_i_vanishes_F (asL (addL 0 (f_i_vanishes_t0) (noL))) Try.f53 (f_i_vanishes_a counts0) (f_i_vanishes_i counts0) = f_i_vanishes_k counts0 (fun r => some (f_i_vanishes_en r)) := by kernel_rfl
theorem f_i_vanishes_ok (counts0 : List Sc) (r : Bool) (h : f_i_vanishes counts0 = some r) : CS Try.prog 53 (f_i_vanishes_a counts0) (f_i_vanishes_i counts0) (f_i_vanishes_en r).1 (f_i_vanishes_en r).2 :=
  fn_true (Gk := fun k => f_i_vanishes_k counts0 k) (en := f_i_vanishes_en) Try.func53 E0ok f_i_vanishes_Mt (addL_true (f_i_vanishes_tt0) (noL_true)) f_i_vanishes_o (f_i_vanishes_e counts0) (f_i_vanishes_p counts0) h
def f_i_vanishes_c : CRow := fun args inh => match dec2 [.p .sl] [] args inh with
  | some ([.l counts0], []) => some ((f_i_vanishes counts0).isSome, (f_i_vanishes_en ((f_i_vanishes counts0).getD false)).1, (f_i_vanishes_en ((f_i_vanishes counts0).getD false)).2)
  | _ => none
theorem f_i_vanishes_cc : CTrue Try.prog 53 f_i_vanishes_c := by
  intro args inh rs out h
  unfold f_i_vanishes_c at h
  split at h
  · rename_i hd
    obtain ⟨h1, h2⟩ := dec2_enc hd
    rw [← h1, ← h2]
    exact rowC (f_i_vanishes_ok _) h
  · cases h

def f_i_IsZeroCoefficient_F : Fi := { nv := 0, nc := 0, m := 0, vt := [], kl := [], sk := [], mvs := [], fz := [] }
def f_i_IsZeroCoefficient_a (g0 : List Sc) (a1 : Int) (k2 : Int) : List AV := enc [.p .gr, .p (.int .i64), .p (.int .i64)] [.l g0, .i a1, .i k2]
def f_i_IsZeroCoefficient_i (g0 : List Sc) (a1 : Int) (k2 : Int) : List AV := enc [] []
def f_i_IsZeroCoefficient_en (r : Bool) : List AV × List AV := (enc [.p .boo] [.b r], enc [] [])
def f_i_IsZeroCoefficient_M : Calling := addC 47 f_i_IsSet_c (addC 38 f_i_Group_has_c (addC 22 f_i_CoefficientCounts_c (addC 53 f_i_vanishes_c (noC))))
theorem f_i_IsZeroCoefficient_Mt : CallOk Try.prog (f_i_IsZeroCoefficient_M) := addC_true f_i_IsSet_cc (addC_true f_i_Group_has_cc (addC_true f_i_CoefficientCounts_cc (addC_true f_i_vanishes_cc (noC_true))))
theorem f_i_IsZeroCoefficient_o : loopsOnce Try.f18 = true := by kernel_rfl
theorem f_i_IsZeroCoefficient_p {R : Type} (g0 : List Sc) (a1 : Int) (k2 : Int) (kR : Bool → Option R) : f_i_IsZeroCoefficient_k g0 a1 k2 kR = (f_i_IsZeroCoefficient_k g0 a1 k2 some).bind kR := by
  simp only [f_i_IsZeroCoefficient_k, brB, boB, someB]
theorem f_i_IsZeroCoefficient_e (g0 : List Sc) (a1 : Int) (k2 : Int) : runFn E0 f_i_IsZeroCoefficient_M H0 f_i_IsZeroCoefficient_F (asL (noL)) Try.f18 (f_i_IsZeroCoefficient_a g0 a1 k2) (f_i_IsZeroCoefficient_i g0 a1 k2) = f_i_IsZeroCoefficient_k g0 a1 k2 (fun r => some (f_i_IsZeroCoefficient_en r)) := by kernel_rfl
theorem f_i_IsZeroCoefficient_ok (g0 : List Sc) (a1 : Int) (k2 : Int) (r : Bool) (h : f_i_IsZeroCoefficient g0 a1 k2 = some r) : CS Try.prog 18 (f_i_IsZeroCoefficient_a g0 a1 k2) (f_i_IsZeroCoefficient_i g0 a1 k2) (f_i_IsZeroCoefficient_en r).1 (f_i_IsZeroCoefficient_en r).2 :=
  fn_true (Gk := fun k => f_i_IsZeroCoefficient_k g0 a1 k2 k) (en := f_i_IsZeroCoefficient_en) Try.func18 E0ok f_i_IsZeroCoefficient_Mt (noL_true) f_i_IsZeroCoefficient_o (f_i_IsZeroCoefficient_e g0 a1 k2) (f_i_IsZeroCoefficient_p g0 a1 k2) h
def f_i_IsZeroCoefficient_c : CRow := fun args inh => match dec2 [.p .gr, .p (.int .i64), .p (.int .i64)] [] args inh with
  | some ([.l g0, .i a1, .i k2], []) => some ((f_i_IsZeroCoefficient g0 a1 k2).isSome, (f_i_IsZeroCoefficient_en ((f_i_IsZeroCoefficient g0 a1 k2).getD false)).1, (f_i_IsZeroCoefficient_en ((f_i_IsZeroCoefficient g0 a1 k2).getD false)).2)
  | _ => none
theorem f_i_IsZeroCoefficient_cc : CTrue Try.prog 18 f_i_IsZeroCoefficient_c := by
  intro args inh rs out h
  unfold f_i_IsZeroCoefficient_c at h
  split at h
  · rename_i hd
    obtain ⟨h1, h2⟩ := dec2_enc hd
    rw [← h1, ← h2]
    exact rowC (f_i_IsZeroCoefficient_ok _ _ _) h
  · cases h

def f_s_ListOf_F : Fi := { nv := 0, nc := 0, m := 0, vt := [], kl := [], sk := [], mvs := [], fz := [] }
def f_s_ListOf_a (g0 : List Sc) (a1 : Int) : List AV := enc [.p .gr, .p (.int .i64)] [.l g0, .i a1]
def f_s_ListOf_i (g0 : List Sc) (a1 : Int) : List AV := enc [] []
def f_s_ListOf_en (r : List Sc) : List AV × List AV := (enc [.p (.al 0)] [], enc [.own 3] [.l r])
def f_s_ListOf_M : Calling := addC 49 f_s_IsSet_c (addC 54 f_s_l3List_c (noC))
theorem f_s_ListOf_Mt : CallOk Try.prog (f_s_ListOf_M) := addC_true f_s_IsSet_cc (addC_true f_s_l3List_cc (noC_true))
theorem f_s_ListOf_o : loopsOnce Try.f20 = true := by kernel_rfl
theorem f_s_ListOf_p {R : Type} (g0 : List Sc) (a1 : Int) (kR : List Sc → Option R) : f_s_ListOf_k g0 a1 kR = (f_s_ListOf_k g0 a1 some).bind kR := by
  simp only [f_s_ListOf_k, brB, boB, someB]
theorem f_s_ListOf_e (g0 : List Sc) (a1 : Int) : runFn E0 f_s_ListOf_M H0 f_s_ListOf_F (asL (noL)) Try.f20 (f_s_ListOf_a g0 a1) (f_s_ListOf_i g0 a1) = f_s_ListOf_k g0 a1 (fun r => some (f_s_ListOf_en r)) := by kernel_rfl
theorem f_s_ListOf_ok (g0 : List Sc) (a1 : Int) (r : List Sc) (h : f_s_ListOf g0 a1 = some r) : CS Try.prog 20 (f_s_ListOf_a g0 a1) (f_s_ListOf_i g0 a1) (f_s_ListOf_en r).1 (f_s_ListOf_en r).2 :=
  fn_true (Gk := fun k => f_s_ListOf_k g0 a1 k) (en := f_s_ListOf_en) Try.func20 E0ok f_s_ListOf_Mt (noL_true) f_s_ListOf_o (f_s_ListOf_e g0 a1) (f_s_ListOf_p g0 a1) h
def f_s_ListOf_c : CRow := fun args inh => match dec2 [.p .gr, .p (.int .i64)] [] args inh with
  | some ([.l g0, .i a1], []) => some ((f_s_ListOf g0 a1).isSome, (f_s_ListOf_en ((f_s_ListOf g0 a1).getD [])).1, (f_s_ListOf_en ((f_s_ListOf g0 a1).getD [])).2)
  | _ => none
theorem f_s_ListOf_cc : CTrue Try.prog 20 f_s_ListOf_c := by
  intro args inh rs out h
  unfold f_s_ListOf_c at h
  split at h
  · rename_i hd
    obtain ⟨h1, h2⟩ := dec2_enc hd
    rw [← h1, ← h2]
    exact rowC (f_s_ListOf_ok _ _) h
  · cases h

def f_l_has_F : Fi := { nv := 0, nc := 0, m := 0, vt := [], kl := [(0, ([2, 3, 4, 6, 7, 8, 9, 10, 11, 12, 13, 14, 15, 16, 17], [0, 1, 2, 3, 4, 5, 6, 7, 8, 9, 10, 11, 12, 13, 14, 15, 16, 17], [0, 1, 2, 3, 5, 6, 7, 8, 9, 10, 11, 12, 13, 14, 15, 16, 17]))], sk := [], mvs := [], fz := [] }
def f_l_has_a (l0 : List Sc) (x1 : Int) : List AV := enc [.p .sl, .p (.int .i64)] [.l l0, .i x1]
def f_l_has_i (l0 : List Sc) (x1 : Int) : List AV := enc [] []
def f_l_has_en (r : Bool) : List AV × List AV := (enc [.p .boo] [.b r], enc [] [])
def f_l_has_M : Calling := noC
theorem f_l_has_Mt : CallOk Try.prog (f_l_has_M) := noC_true
theorem f_l_has_o : loopsOnce Try.f19 = true := by kernel_rfl
def f_l_has_h0 : List Sh := [.p .sl, .p (.int .i64), .u, .u, .u, .p (.int .i64), .u, .u, .u, .u, .u, .u, .u, .u, .u, .u, .u, .u]
def f_l_has_fr0 (l0 : List Sc) (x1 : Int) (s : Int) : List AV := enc f_l_has_h0 [.l l0, .i x1, .i s]
def f_l_has_g0_1 : List Sh := [.u, .u, .u, .u, .u, .u, .u, .u, .u, .u, .u, .u, .u, .u, .u, .u, .u, .u]
def f_l_has_x0_1 (l0 : List Sc) (x1 : Int) (e : Unit) : X × List AV := (.out 0, enc f_l_has_g0_1 [])
def f_l_has_g0_2 : List Sh := [.u, .u, .u, .u, .p .boo, .u, .u, .u, .u, .u, .u, .u, .u, .u, .u, .u, .u, .u]
def f_l_has_x0_2 (l0 : List Sc) (x1 : Int) (e : Unit) : X × List AV := (.ret, enc f_l_has_g0_2 [.b true])
theorem f_l_has_p0 {R : Type} (l0 : List Sc) (x1 : Int) (s : Int) (kN : Int → Option R) (kA : Unit → Option R) (kB : Unit → Option R) : f_l_has_k0 l0 x1 s kN kA kB = (f_l_has_r0 l0 x1 s).bind (Ro.el kN kA kB) := by
  simp only [f_l_has_k0, f_l_has_r0, brB, someB, noneB, Ro.el]
theorem f_l_has_e0 (l0 : List Sc) (x1 : Int) (s : Int) : EC E0 f_l_has_M H0 f_l_has_F (asL (noL)) 0 (bodyOf Try.f19 0) (f_l_has_fr0 l0 x1 s) (done (klOf f_l_has_F 0)) = f_l_has_k0 l0 x1 s (fun s => some (.norm, f_l_has_fr0 l0 x1 s)) (fun e => some (f_l_has_x0_1 l0 x1 e)) (fun e => some (f_l_has_x0_2 l0 x1 e)) := by kernel_rfl
theorem f_l_has_l0 (l0 : List Sc) (x1 : Int) : ∀ s r, loopL (f_l_has_r0 l0 x1) s = some r → LS Try.prog f_l_has_F (bodyOf Try.f19 0) (f_l_has_fr0 l0 x1 s) (enX (f_l_has_x0_1 l0 x1) (f_l_has_x0_2 l0 x1) r) :=
  loop_true E0ok f_l_has_Mt (noL_true) f_l_has_o (fun _ h => by cases h) (fun _ h => by cases h) (fun s => (f_l_has_e0 l0 x1 s).trans (f_l_has_p0 l0 x1 s _ _ (fun e => some (f_l_has_x0_2 l0 x1 e))))
def f_l_has_t0 (σ : List AV) : Option (Bool × Bool × (X × List AV) × (X × List AV)) := match dec f_l_has_h0 σ with
  | some [.l l0, .i x1, .i i5] => some ((loopL (f_l_has_r0 l0 x1) i5).isSome, isOne (loopL (f_l_has_r0 l0 x1) i5), f_l_has_x0_1 l0 x1 (getOne () (loopL (f_l_has_r0 l0 x1) i5)), f_l_has_x0_2 l0 x1 (getTwo () (loopL (f_l_has_r0 l0 x1) i5)))
  | _ => none
theorem f_l_has_tt0 : TTrue Try.prog f_l_has_F Try.f19 0 (f_l_has_t0) := by
  intro σ p r r' h
  unfold f_l_has_t0 at h
  split at h
  · rename_i hd
    rw [← dec_enc hd]
    exact row2 (f_l_has_l0 _ _ _) h
  · cases h
theorem f_l_has_p {R : Type} (l0 : List Sc) (x1 : Int) (kR : Bool → Option R) : f_l_has_k l0 x1 kR = (f_l_has_k l0 x1 some).bind kR := by
  simp only [f_l_has_k, blB, someB]
theorem f_l_has_e (l0 : List Sc) (x1 : Int) : runFn E0 f_l_has_M H0 f_l_has_F (asL (addL 0 (f_l_has_t0) (noL))) Try.f19 (f_l_has_a l0 x1) (f_l_has_i l0 x1) = f_l_has_k l0 x1 (fun r => some (f_l_has_en r)) := by kernel_rfl
theorem f_l_has_ok (l0 : List Sc) (x1 : Int) (r : Bool) (h : f_l_has l0 x1 = some r) : CS Try.prog 19 (f_l_has_a l0 x1) (f_l_has_i l0 x1) (f_l_has_en r).1 (f_l_has_en r).2 :=
  fn_true (Gk := fun k => f_l_has_k l0 x1 k) (en := f_l_has_en) Try.func19 E0ok f_l_has_Mt (addL_true (f_l_has_tt0) (noL_true)) f_l_has_o (f_l_has_e l0 x1) (f_l_has_p l0 x1) h
def f_l_has_c : CRow := fun args inh => match dec2 [.p .sl, .p (.int .i64)] [] args inh with
  | some ([.l l0, .i x1], []) => some ((f_l_has l0 x1).isSome, (f_l_has_en ((f_l_has l0 x1).getD false)).1, (f_l_has_en ((f_l_has l0 x1).getD false)).2)
  | _ => none
theorem f_l_has_cc : CTrue Try.prog 19 f_l_has_c := by
  intro args inh rs out h
  unfold f_l_has_c at h
  split at h
  · rename_i hd
    obtain ⟨h1, h2⟩ := dec2_enc hd
    rw [← h1, ← h2]
    exact rowC (f_l_has_ok _ _) h
  · cases h

def f_s_l6Set_io_F : Fi := { nv := 5, nc := 5, m := 3, vt := [(2, 3), (4, 4)], kl := [], sk := [], mvs := [], fz := [] }
def f_s_l6Set_io_a (h0 : List Sc) (h1 : Int) (h2 : Int) : List AV := enc [.p (.pt 0 3)] []
def f_s_l6Set_io_i (h0 : List Sc) (h1 : Int) (h2 : Int) : List AV := enc [.p .sl, .p (.int .i64), .p (.int .i64)] [.l h0, .i h1, .i h2]
def f_s_l6Set_io_en (r : List Sc × Int × List Sc × Int × Int) : List AV × List AV := (enc [.p .gr, .p (.int .i64)] [.l r.1, .i r.2.1], enc [.p .sl, .p (.int .i64), .p (.int .i64)] [.l r.2.2.1, .i r.2.2.2.1, .i r.2.2.2.2])
def f_s_l6Set_io_M : Calling := addC 70 f_s_l5Group_io_c (addC 78 f_s_l3Set_io_c (addC 49 f_s_IsSet_c (addC 16 f_s_IsSubgroup_c (addC 79 f_s_l1Once_io_c (addC 73 f_s_l4Sum_c (noC))))))
theorem f_s_l6Set_io_Mt : CallOk Try.prog (f_s_l6Set_io_M) := addC_true f_s_l5Group_io_cc (addC_true f_s_l3Set_io_cc (addC_true f_s_IsSet_cc (addC_true f_s_IsSubgroup_cc (addC_true f_s_l1Once_io_cc (addC_true f_s_l4Sum_cc (noC_true))))))
theorem f_s_l6Set_io_o : loopsOnce Try.f76 = true := by kernel_rfl
theorem f_s_l6Set_io_p {R : Type} (h0 : List Sc) (h1 : Int) (h2 : Int) (kR : List Sc × Int × List Sc × Int × Int → Option R) : f_s_l6Set_io_k h0 h1 h2 kR = (f_s_l6Set_io_k h0 h1 h2 some).bind kR := by
  simp only [f_s_l6Set_io_k, brB, boB, someB]
theorem f_s_l6Set_io_e (h0 : List Sc) (h1 : Int) (h2 : Int) : runFn E0 f_s_l6Set_io_M H0 f_s_l6Set_io_F (asL (noL)) Try.f76 (f_s_l6Set_io_a h0 h1 h2) (f_s_l6Set_io_i h0 h1 h2) = f_s_l6Set_io_k h0 h1 h2 (fun r => some (f_s_l6Set_io_en r)) := by kernel_rfl
theorem f_s_l6Set_io_ok (h0 : List Sc) (h1 : Int) (h2 : Int) (r : List Sc × Int × List Sc × Int × Int) (h : f_s_l6Set_io h0 h1 h2 = some r) : CS Try.prog 76 (f_s_l6Set_io_a h0 h1 h2) (f_s_l6Set_io_i h0 h1 h2) (f_s_l6Set_io_en r).1 (f_s_l6Set_io_en r).2 :=
  fn_true (Gk := fun k => f_s_l6Set_io_k h0 h1 h2 k) (en := f_s_l6Set_io_en) Try.func76 E0ok f_s_l6Set_io_Mt (noL_true) f_s_l6Set_io_o (f_s_l6Set_io_e h0 h1 h2) (f_s_l6Set_io_p h0 h1 h2) h
def f_s_l6Set_io_c : CRow := fun args inh => match dec2 [.p (.pt 0 3)] [.p .sl, .p (.int .i64), .p (.int .i64)] args inh with
  | some ([], [.l h0, .i h1, .i h2]) => some ((f_s_l6Set_io h0 h1 h2).isSome, (f_s_l6Set_io_en ((f_s_l6Set_io h0 h1 h2).getD ([], 0, [], 0, 0))).1, (f_s_l6Set_io_en ((f_s_l6Set_io h0 h1 h2).getD ([], 0, [], 0, 0))).2)
  | _ => none
theorem f_s_l6Set_io_cc : CTrue Try.prog 76 f_s_l6Set_io_c := by
  intro args inh rs out h
  unfold f_s_l6Set_io_c at h
  split at h
  · rename_i hd
    obtain ⟨h1, h2⟩ := dec2_enc hd
    rw [← h1, ← h2]
    exact rowC (f_s_l6Set_io_ok _ _ _) h
  · cases h
end
end Go.Proofs.Ytonjcafobhpfdaa
