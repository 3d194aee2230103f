/-
  That the program computes just that (printed by gen2.py).
-/
import Derived.Test.YtlnhommmmajllaaGreatShal
import Derived.Test.YtlnhommmmajllaaGreatRows
import Derived.WalkKit
import Derived.Test.YtlnhommmmajllaaGreatShelf
import Derived.Test.YtlnhommmmajllaaGreatCmpF
set_option linter.unusedVariables false
set_option linter.unusedSimpArgs false
namespace Go.Proofs.YtlnhommmmajllaaGreat
open Go Ev
noncomputable section
def E0 : Env := { sl := [(22, 5, .n .u8 0), (24, 3, .n .i64 0), (28, 1000024, .l []), (37, 2000028, .l [])], gr := [(26, 24)], sc := [3, 4, 5, 9, 21, 78, 87, 95, 97, 104], bl := [4], ik := [(3, .i64), (5, .u8), (21, .i32), (78, .u64), (87, .i64), (95, .u32), (97, .u64), (104, .u64)], st := [9], one := [3, 4, 5, 9, 21, 78, 87, 95, 97, 104, 22, 24, 28, 37, 1, 23, 27, 30, 31, 32, 33, 34, 36, 39, 40, 41, 43, 44, 46, 48, 50, 51, 52, 53, 54, 55, 56, 57, 58, 59, 60, 61, 62, 63, 64, 65, 66, 67, 68, 69, 70, 73, 74, 75, 76, 77, 79, 80, 81, 82, 83, 84, 85, 86, 89, 90, 91, 93, 94, 96, 98, 99, 100, 101, 102, 103, 105, 106, 107, 109, 110, 111, 113, 114, 115, 121, 124], al := [(3, [.sc (.n .i64 0)]), (4, [.sc (.b false)]), (5, [.sc (.n .u8 0)]), (9, [.sc (.s ByteArray.empty)]), (21, [.sc (.n .i32 0)]), (78, [.sc (.n .u64 0)]), (87, [.sc (.n .i64 0)]), (95, [.sc (.n .u32 0)]), (97, [.sc (.n .u64 0)]), (104, [.sc (.n .u64 0)]), (22, [.sl]), (24, [.sl]), (28, [.sl]), (37, [.sl]), (1, [.fn]), (23, [.fn]), (26, [.sl]), (27, [.fn]), (30, [.fn]), (31, [.fn]), (32, [.fn]), (33, [.fn]), (34, [.fn]), (36, [.fn]), (39, [.fn]), (40, [.fn]), (41, [.fn]), (43, [.fn]), (44, [.fn]), (46, [.fn]), (48, [.fn]), (50, [.fn]), (51, [.fn]), (52, [.fn]), (53, [.fn]), (54, [.fn]), (55, [.fn]), (56, [.fn]), (57, [.fn]), (58, [.fn]), (59, [.fn]), (60, [.fn]), (61, [.fn]), (62, [.fn]), (63, [.fn]), (64, [.fn]), (65, [.fn]), (66, [.fn]), (67, [.fn]), (68, [.fn]), (69, [.fn]), (70, [.fn]), (73, [.fn]), (74, [.fn]), (75, [.fn]), (76, [.fn]), (77, [.fn]), (79, [.fn]), (80, [.fn]), (81, [.fn]), (82, [.fn]), (83, [.fn]), (84, [.fn]), (85, [.fn]), (86, [.fn]), (89, [.fn]), (90, [.fn]), (91, [.fn]), (93, [.fn]), (94, [.fn]), (96, [.fn]), (98, [.fn]), (99, [.fn]), (100, [.fn]), (101, [.fn]), (102, [.fn]), (103, [.fn]), (105, [.fn]), (106, [.fn]), (107, [.fn]), (109, [.fn]), (110, [.fn]), (111, [.fn]), (113, [.fn]), (114, [.fn]), (115, [.fn]), (121, [.fn]), (124, [.fn]), (72, [.sl, .sc (.n .i64 0), .sc (.n .i64 0)])], fd := [(26, 1), (72, 3)] }
def H0 : Hints := { md := [(35, [.ro, .fz, .ro, .io]), (45, [.ro, .ro, .ro, .ro, .io]), (53, [.io]), (54, [.io]), (40, [.io, .io]), (70, [.io, .ro, .ro, .ro, .io]), (83, [.io, .ro, .ro, .io]), (84, [.io, .ro, .ro, .io]), (85, [.io, .ro, .ro, .io]), (86, [.io, .ro, .ro, .io]), (87, [.io, .ro, .ro, .io]), (88, [.io, .ro, .ro, .io]), (89, [.io, .ro, .ro, .ro, .io]), (90, [.io, .ro, .ro, .ro, .io]), (105, [.io, .ro, .ro, .ro, .io]), (108, [.io, .ro, .io, .io]), (109, [.io, .ro, .ro, .ro, .io, .io]), (113, [.io, .ro, .ro, .io, .io]), (107, [.io]), (30, [.io, .ro]), (31, [.io]), (32, [.io, .ro]), (59, [.io, .ro]), (65, [.io, .ro]), (79, [.io])], soft := [6, 7, 13, 14, 21, 24, 29, 30, 31, 32, 35, 36, 40, 45, 51, 52, 59, 60, 65, 76, 79] }
theorem E0ok : EnvOk Tryz.prog E0 := okEnv_spec (by kernel_rfl)
def fCx_F : Fi := { nv := 0, nc := 0, m := 0, vt := [], kl := [], sk := [], mvs := [], fz := [] }
def fCx_a (code0 : List Sc) : List AV := enc [.p .sl] [.l code0]
def fCx_i (code0 : List Sc) : List AV := enc [] []
def fCx_en (r : Bool) : List AV × List AV := (enc [.p .boo] [.b r], enc [] [])
def fCx_M : Calling := noC
theorem fCx_Mt : CallOk Tryz.prog (fCx_M) := noC_true
theorem fCx_o : loopsOnce Tryz.f4 = true := by kernel_rfl
theorem fCx_p {R : Type} (code0 : List Sc) (kR : Bool → Option R) : fCx_k code0 kR = (fCx_k code0 some).bind kR := by
  simp only [fCx_k, someB]
theorem fCx_e (code0 : List Sc) : runFn E0 fCx_M H0 fCx_F (asL (noL)) Tryz.f4 (fCx_a code0) (fCx_i code0) = fCx_k code0 (fun r => some (fCx_en r)) := by kernel_rfl
theorem fCx_ok (code0 : List Sc) (r : Bool) (h : fCx code0 = some r) : CS Tryz.prog 4 (fCx_a code0) (fCx_i code0) (fCx_en r).1 (fCx_en r).2 :=
  fn_true (Gk := fun k => fCx_k code0 k) (en := fCx_en) Tryz.func4 E0ok fCx_Mt (noL_true) fCx_o (fCx_e code0) (fCx_p code0) h
def fCx_c : CRow := fun args inh => match dec2 [.p .sl] [] args inh with | some ([.l code0], []) => some ((fCx code0).isSome, (fCx_en ((fCx code0).getD false)).1, (fCx_en ((fCx code0).getD false)).2) | _ => none
theorem fCx_cc : CTrue Tryz.prog 4 fCx_c := by
  intro args inh rs out h
  unfold fCx_c at h
  split at h
  · rename_i hd
    obtain ⟨h1, h2⟩ := dec2_enc hd
    rw [← h1, ← h2]
    exact rowC (fCx_ok _) h
  · cases h
def fCq_F : Fi := { nv := 3, nc := 3, m := 0, vt := [(31, 0)], kl := [(0, ([0, 1, 2, 4, 5, 8, 9, 10, 11, 12, 13, 14, 15, 16, 17, 18, 19, 20, 21, 22, 23, 24, 25, 26, 27, 28, 29, 30, 31, 32, 33, 34], [0, 1, 2, 4, 5, 7, 8, 9, 10, 11, 12, 13, 14, 15, 16, 17, 18, 19, 20, 21, 22, 23, 24, 25, 26, 27, 28, 29, 30, 31, 32, 33, 34], [3, 4, 6, 7, 8, 9, 10, 11, 12, 13, 14, 15, 16, 17, 18, 19, 20, 21, 22, 23, 24, 25, 26, 27, 28, 29, 30, 31, 32, 33, 34]))], sk := [], mvs := [], fz := [] }
def fCq_a (code0 : List Sc) : List AV := enc [.p .sl] [.l code0]
def fCq_i (code0 : List Sc) : List AV := enc [] []
def fCq_en (r : List Sc × Int × Int) : List AV × List AV := (enc [.p (.pt 0 3)] [], enc [.p .sl, .p (.int .i64), .p (.int .i64)] [.l r.1, .i r.2.1, .i r.2.2])
def fCq_M : Calling := noC
theorem fCq_Mt : CallOk Tryz.prog (fCq_M) := noC_true
theorem fCq_o : loopsOnce Tryz.f29 = true := by kernel_rfl
def fCq_h0 : List Sh := [.u, .u, .u, .p .sl, .u, .u, .p (.int .i64), .p (.int .i64), .u, .u, .u, .u, .u, .u, .u, .u, .u, .u, .u, .u, .u, .u, .u, .u, .u, .u, .u, .u, .u, .u, .u, .u, .u, .u, .u]
def fCq_fr0 (code0 : List Sc) (s : Int × Int) : List AV := enc fCq_h0 [.l code0, .i s.1, .i s.2]
def fCq_g0_1 : List Sh := [.u, .u, .u, .p .sl, .u, .u, .p (.int .i64), .u, .u, .u, .u, .u, .u, .u, .u, .u, .u, .u, .u, .u, .u, .u, .u, .u, .u, .u, .u, .u, .u, .u, .u, .u, .u, .u, .u]
def fCq_x0_1 (code0 : List Sc) (e : Int) : X × List AV := (.out 0, enc fCq_g0_1 [.l code0, .i e])
def fCq_x0_2 (code0 : List Sc) (_e : Unit) : X × List AV := (.ret, [])
theorem fCq_p0 {R : Type} (code0 : List Sc) (s : Int × Int) (kN : Int × Int → Option R) (kA : Int → Option R) (kB : Unit → Option R) : fCq_k0 code0 s.1 s.2 kN kA = (fCq_r0 code0 s).bind (Ro.el kN kA kB) := by
  simp only [fCq_k0, fCq_r0, brB, someB, noneB, Ro.el]
theorem fCq_e0 (code0 : List Sc) (s : Int × Int) : EC E0 fCq_M H0 fCq_F (asL (noL)) 0 (bodyOf Tryz.f29 0) (fCq_fr0 code0 s) (done (klOf fCq_F 0)) = fCq_k0 code0 s.1 s.2 (fun s => some (.norm, fCq_fr0 code0 s)) (fun e => some (fCq_x0_1 code0 e)) := by kernel_rfl
theorem fCq_l0 (code0 : List Sc) : ∀ s r, loopL (fCq_r0 code0) s = some r → LS Tryz.prog fCq_F (bodyOf Tryz.f29 0) (fCq_fr0 code0 s) (enX (fCq_x0_1 code0) (fCq_x0_2 code0) r) :=
  loop_true E0ok fCq_Mt (noL_true) fCq_o (fun _ h => by cases h) (fun _ h => by cases h) (fun _ h => by cases h) (fun _ h => by cases h) (fun s => (fCq_e0 code0 s).trans (fCq_p0 code0 s _ _ (fun e => some (fCq_x0_2 code0 e))))
def fCq_t0 (σ : List AV) : Option (Bool × Bool × (X × List AV) × (X × List AV)) := match dec fCq_h0 σ with | some [.l code0, .i h3, .i i4] => some (isOne (loopL (fCq_r0 code0) (h3, i4)), true, fCq_x0_1 code0 (getOne 0 (loopL (fCq_r0 code0) (h3, i4))), (.ret, [])) | _ => none
theorem fCq_tt0 : TTrue Tryz.prog fCq_F Tryz.f29 0 (fCq_t0) := by
  intro σ p r r' h
  unfold fCq_t0 at h
  split at h
  · rename_i hd
    rw [← dec_enc hd]
    exact row1 (fCq_l0 _ _) h
  · cases h
theorem fCq_p {R : Type} (code0 : List Sc) (kR : List Sc × Int × Int → Option R) : fCq_k code0 kR = (fCq_k code0 some).bind kR := by
  simp only [fCq_k, bl1B, someB]
theorem fCq_e (code0 : List Sc) : runFn E0 fCq_M H0 fCq_F (asL (addL 0 (fCq_t0) (noL))) Tryz.f29 (fCq_a code0) (fCq_i code0) = fCq_k code0 (fun r => some (fCq_en r)) := by kernel_rfl
theorem fCq_ok (code0 : List Sc) (r : List Sc × Int × Int) (h : fCq code0 = some r) : CS Tryz.prog 29 (fCq_a code0) (fCq_i code0) (fCq_en r).1 (fCq_en r).2 :=
  fn_true (Gk := fun k => fCq_k code0 k) (en := fCq_en) Tryz.func29 E0ok fCq_Mt (addL_true (fCq_tt0) (noL_true)) fCq_o (fCq_e code0) (fCq_p code0) h
def fCq_c : CRow := fun args inh => match dec2 [.p .sl] [] args inh with | some ([.l code0], []) => some ((fCq code0).isSome, (fCq_en ((fCq code0).getD ([], 0, 0))).1, (fCq_en ((fCq code0).getD ([], 0, 0))).2) | _ => none
theorem fCq_cc : CTrue Tryz.prog 29 fCq_c := by
  intro args inh rs out h
  unfold fCq_c at h
  split at h
  · rename_i hd
    obtain ⟨h1, h2⟩ := dec2_enc hd
    rw [← h1, ← h2]
    exact rowC (fCq_ok _) h
  · cases h
def fBo_F : Fi := { nv := 3, nc := 3, m := 3, vt := [], kl := [], sk := [], mvs := [], fz := [] }
def fBo_a (h0 : List Sc) (h1 h2 : Int) : List AV := enc [.p (.pt 0 3)] []
def fBo_i (h0 : List Sc) (h1 h2 : Int) : List AV := enc [.p .sl, .p (.int .i64), .p (.int .i64)] [.l h0, .i h1, .i h2]
def fBo_en (r : Int × List Sc × Int × Int) : List AV × List AV := (enc [.p (.int .i64)] [.i r.1], enc [.p .sl, .p (.int .i64), .p (.int .i64)] [.l r.2.1, .i r.2.2.1, .i r.2.2.2])
def fBo_M : Calling := noC
theorem fBo_Mt : CallOk Tryz.prog (fBo_M) := noC_true
theorem fBo_o : loopsOnce Tryz.f79 = true := by kernel_rfl
theorem fBo_p {R : Type} (h0 : List Sc) (h1 h2 : Int) (kR : Int × List Sc × Int × Int → Option R) : fBo_k h0 h1 h2 kR = (fBo_k h0 h1 h2 some).bind kR := by
  simp only [fBo_k, brB, someB, noneB]
theorem fBo_e (h0 : List Sc) (h1 h2 : Int) : runFn E0 fBo_M H0 fBo_F (asL (noL)) Tryz.f79 (fBo_a h0 h1 h2) (fBo_i h0 h1 h2) = fBo_k h0 h1 h2 (fun r => some (fBo_en r)) := by kernel_rfl
theorem fBo_ok (h0 : List Sc) (h1 h2 : Int) (r : Int × List Sc × Int × Int) (h : fBo h0 h1 h2 = some r) : CS Tryz.prog 79 (fBo_a h0 h1 h2) (fBo_i h0 h1 h2) (fBo_en r).1 (fBo_en r).2 :=
  fn_true (Gk := fun k => fBo_k h0 h1 h2 k) (en := fBo_en) Tryz.func79 E0ok fBo_Mt (noL_true) fBo_o (fBo_e h0 h1 h2) (fBo_p h0 h1 h2) h
def fBo_c : CRow := fun args inh => match dec2 [.p (.pt 0 3)] [.p .sl, .p (.int .i64), .p (.int .i64)] args inh with | some ([], [.l h0, .i h1, .i h2]) => some ((fBo h0 h1 h2).isSome, (fBo_en ((fBo h0 h1 h2).getD (0, [], 0, 0))).1, (fBo_en ((fBo h0 h1 h2).getD (0, [], 0, 0))).2) | _ => none
theorem fBo_cc : CTrue Tryz.prog 79 fBo_c := by
  intro args inh rs out h
  unfold fBo_c at h
  split at h
  · rename_i hd
    obtain ⟨h1, h2⟩ := dec2_enc hd
    rw [← h1, ← h2]
    exact rowC (fBo_ok _ _ _) h
  · cases h
def fBd_F : Fi := { nv := 3, nc := 3, m := 3, vt := [], kl := [], sk := [], mvs := [], fz := [] }
def fBd_a (n1 : Int) (h0 : List Sc) (h1 h2 : Int) : List AV := enc [.p (.pt 0 3), .p (.int .i64)] [.i n1]
def fBd_i (n1 : Int) (h0 : List Sc) (h1 h2 : Int) : List AV := enc [.p .sl, .p (.int .i64), .p (.int .i64)] [.l h0, .i h1, .i h2]
def fBd_en (r : Int × List Sc × Int × Int) : List AV × List AV := (enc [.p (.int .i64)] [.i r.1], enc [.p .sl, .p (.int .i64), .p (.int .i64)] [.l r.2.1, .i r.2.2.1, .i r.2.2.2])
def fBd_M : Calling := addC 79 fBo_c (noC)
theorem fBd_Mt : CallOk Tryz.prog (fBd_M) := addC_true fBo_cc (noC_true)
theorem fBd_o : loopsOnce Tryz.f59 = true := by kernel_rfl
theorem fBd_p {R : Type} (n1 : Int) (h0 : List Sc) (h1 h2 : Int) (kR : Int × List Sc × Int × Int → Option R) : fBd_k n1 h0 h1 h2 kR = (fBd_k n1 h0 h1 h2 some).bind kR := by
  simp only [fBd_k, brB, boB, someB, noneB]
theorem fBd_e (n1 : Int) (h0 : List Sc) (h1 h2 : Int) : runFn E0 fBd_M H0 fBd_F (asL (noL)) Tryz.f59 (fBd_a n1 h0 h1 h2) (fBd_i n1 h0 h1 h2) = fBd_k n1 h0 h1 h2 (fun r => some (fBd_en r)) := by kernel_rfl
theorem fBd_ok (n1 : Int) (h0 : List Sc) (h1 h2 : Int) (r : Int × List Sc × Int × Int) (h : fBd n1 h0 h1 h2 = some r) : CS Tryz.prog 59 (fBd_a n1 h0 h1 h2) (fBd_i n1 h0 h1 h2) (fBd_en r).1 (fBd_en r).2 :=
  fn_true (Gk := fun k => fBd_k n1 h0 h1 h2 k) (en := fBd_en) Tryz.func59 E0ok fBd_Mt (noL_true) fBd_o (fBd_e n1 h0 h1 h2) (fBd_p n1 h0 h1 h2) h
def fBd_c : CRow := fun args inh => match dec2 [.p (.pt 0 3), .p (.int .i64)] [.p .sl, .p (.int .i64), .p (.int .i64)] args inh with | some ([.i n1], [.l h0, .i h1, .i h2]) => some ((fBd n1 h0 h1 h2).isSome, (fBd_en ((fBd n1 h0 h1 h2).getD (0, [], 0, 0))).1, (fBd_en ((fBd n1 h0 h1 h2).getD (0, [], 0, 0))).2) | _ => none
theorem fBd_cc : CTrue Tryz.prog 59 fBd_c := by
  intro args inh rs out h
  unfold fBd_c at h
  split at h
  · rename_i hd
    obtain ⟨h1, h2⟩ := dec2_enc hd
    rw [← h1, ← h2]
    exact rowC (fBd_ok _ _ _ _) h
  · cases h
def fBp_F : Fi := { nv := 3, nc := 3, m := 3, vt := [], kl := [], sk := [], mvs := [], fz := [] }
def fBp_a (n1 : Int) (h0 : List Sc) (h1 h2 : Int) : List AV := enc [.p (.pt 0 3), .p (.int .i64)] [.i n1]
def fBp_i (n1 : Int) (h0 : List Sc) (h1 h2 : Int) : List AV := enc [.p .sl, .p (.int .i64), .p (.int .i64)] [.l h0, .i h1, .i h2]
def fBp_en (r : Bool × List Sc × Int × Int) : List AV × List AV := (enc [.p .boo] [.b r.1], enc [.p .sl, .p (.int .i64), .p (.int .i64)] [.l r.2.1, .i r.2.2.1, .i r.2.2.2])
def fBp_M : Calling := addC 59 fBd_c (noC)
theorem fBp_Mt : CallOk Tryz.prog (fBp_M) := addC_true fBd_cc (noC_true)
theorem fBp_o : loopsOnce Tryz.f30 = true := by kernel_rfl
theorem fBp_p {R : Type} (n1 : Int) (h0 : List Sc) (h1 h2 : Int) (kR : Bool × List Sc × Int × Int → Option R) : fBp_k n1 h0 h1 h2 kR = (fBp_k n1 h0 h1 h2 some).bind kR := by
  simp only [fBp_k, boB, someB]
theorem fBp_e (n1 : Int) (h0 : List Sc) (h1 h2 : Int) : runFn E0 fBp_M H0 fBp_F (asL (noL)) Tryz.f30 (fBp_a n1 h0 h1 h2) (fBp_i n1 h0 h1 h2) = fBp_k n1 h0 h1 h2 (fun r => some (fBp_en r)) := by kernel_rfl
theorem fBp_ok (n1 : Int) (h0 : List Sc) (h1 h2 : Int) (r : Bool × List Sc × Int × Int) (h : fBp n1 h0 h1 h2 = some r) : CS Tryz.prog 30 (fBp_a n1 h0 h1 h2) (fBp_i n1 h0 h1 h2) (fBp_en r).1 (fBp_en r).2 :=
  fn_true (Gk := fun k => fBp_k n1 h0 h1 h2 k) (en := fBp_en) Tryz.func30 E0ok fBp_Mt (noL_true) fBp_o (fBp_e n1 h0 h1 h2) (fBp_p n1 h0 h1 h2) h
def fBp_c : CRow := fun args inh => match dec2 [.p (.pt 0 3), .p (.int .i64)] [.p .sl, .p (.int .i64), .p (.int .i64)] args inh with | some ([.i n1], [.l h0, .i h1, .i h2]) => some ((fBp n1 h0 h1 h2).isSome, (fBp_en ((fBp n1 h0 h1 h2).getD (false, [], 0, 0))).1, (fBp_en ((fBp n1 h0 h1 h2).getD (false, [], 0, 0))).2) | _ => none
theorem fBp_cc : CTrue Tryz.prog 30 fBp_c := by
  intro args inh rs out h
  unfold fBp_c at h
  split at h
  · rename_i hd
    obtain ⟨h1, h2⟩ := dec2_enc hd
    rw [← h1, ← h2]
    exact rowC (fBp_ok _ _ _ _) h
  · cases h
def fBq_F : Fi := { nv := 4, nc := 4, m := 3, vt := [(4, 3)], kl := [(0, ([4, 6, 7, 9, 13, 14, 15, 16, 17, 18, 19, 20, 21, 22, 23, 24, 25, 26, 27, 28, 29, 30, 31, 32, 33, 34, 35, 36, 37, 38, 39, 40, 41, 42, 43, 44, 45, 46, 47, 48, 49, 50, 51, 52, 53, 54, 55, 56, 57, 58, 59, 60, 61, 62, 63, 64], [4, 6, 7, 9, 12, 13, 14, 15, 16, 17, 18, 19, 20, 21, 22, 23, 24, 25, 26, 27, 28, 29, 30, 31, 32, 33, 34, 35, 36, 37, 38, 39, 40, 41, 42, 43, 44, 45, 46, 47, 48, 49, 50, 51, 52, 53, 54, 55, 56, 57, 58, 59, 60, 61, 62, 63, 64], [4, 5, 6, 7, 9, 10, 11, 12, 13, 14, 15, 16, 17, 18, 19, 20, 21, 22, 23, 24, 25, 26, 27, 28, 29, 30, 31, 32, 33, 34, 35, 36, 37, 38, 39, 40, 41, 42, 43, 44, 45, 46, 47, 48, 49, 50, 51, 52, 53, 54, 55, 56, 57, 58, 59, 60, 61, 62, 63, 64]))], sk := [], mvs := [], fz := [] }
def fBq_a (most1 : Int) (h0 : List Sc) (h1 h2 : Int) : List AV := enc [.p (.pt 0 3), .p (.int .i64)] [.i most1]
def fBq_i (most1 : Int) (h0 : List Sc) (h1 h2 : Int) : List AV := enc [.p .sl, .p (.int .i64), .p (.int .i64)] [.l h0, .i h1, .i h2]
def fBq_en (r : List Sc × List Sc × Int × Int) : List AV × List AV := (enc [.p (.go 3)] [], enc [.p .sl, .p (.int .i64), .p (.int .i64), .own 3] [.l r.2.1, .i r.2.2.1, .i r.2.2.2, .l r.1])
def fBq_M : Calling := addC 59 fBd_c (noC)
theorem fBq_Mt : CallOk Tryz.prog (fBq_M) := addC_true fBd_cc (noC_true)
theorem fBq_o : loopsOnce Tryz.f32 = true := by kernel_rfl
def fBq_h0 : List Sh := [.p .sl, .p (.int .i64), .p (.int .i64), .p .sl, .u, .p (.int .i64), .u, .u, .p (.pt 3 1), .u, .p .sl, .p (.int .i64), .p (.int .i64), .u, .u, .u, .u, .u, .u, .u, .u, .u, .u, .u, .u, .u, .u, .u, .u, .u, .u, .u, .u, .u, .u, .u, .u, .u, .u, .u, .u, .u, .u, .u, .u, .u, .u, .u, .u, .u, .u, .u, .u, .u, .u, .u, .u, .u, .u, .u, .u, .u, .u, .u, .u]
def fBq_fr0 (most1 : Int) (o6 : List Sc) (s : List Sc × Int × Int × List Sc × Int × Int) : List AV := enc fBq_h0 [.l s.1, .i s.2.1, .i s.2.2.1, .l s.2.2.2.1, .i most1, .l o6, .i s.2.2.2.2.1, .i s.2.2.2.2.2]
def fBq_g0_1 : List Sh := [.p .sl, .p (.int .i64), .p (.int .i64), .p .sl, .u, .p (.int .i64), .u, .u, .p (.pt 3 1), .u, .p .sl, .p (.int .i64), .u, .u, .u, .u, .u, .u, .u, .u, .u, .u, .u, .u, .u, .u, .u, .u, .u, .u, .u, .u, .u, .u, .u, .u, .u, .u, .u, .u, .u, .u, .u, .u, .u, .u, .u, .u, .u, .u, .u, .u, .u, .u, .u, .u, .u, .u, .u, .u, .u, .u, .u, .u, .u]
def fBq_x0_1 (most1 : Int) (o6 : List Sc) (e : List Sc × Int × Int × List Sc × Int) : X × List AV := (.out 0, enc fBq_g0_1 [.l e.1, .i e.2.1, .i e.2.2.1, .l e.2.2.2.1, .i most1, .l o6, .i e.2.2.2.2])
def fBq_x0_2 (most1 : Int) (o6 : List Sc) (_e : Unit) : X × List AV := (.ret, [])
theorem fBq_p0 {R : Type} (most1 : Int) (o6 : List Sc) (s : List Sc × Int × Int × List Sc × Int × Int) (kN : List Sc × Int × Int × List Sc × Int × Int → Option R) (kA : List Sc × Int × Int × List Sc × Int → Option R) (kB : Unit → Option R) : fBq_k0 most1 o6 s.1 s.2.1 s.2.2.1 s.2.2.2.1 s.2.2.2.2.1 s.2.2.2.2.2 kN kA = (fBq_r0 most1 o6 s).bind (Ro.el kN kA kB) := by
  simp only [fBq_k0, fBq_r0, brB, someB, noneB, Ro.el]
theorem fBq_e0 (most1 : Int) (o6 : List Sc) (s : List Sc × Int × Int × List Sc × Int × Int) : EC E0 fBq_M H0 fBq_F (asL (noL)) 0 (bodyOf Tryz.f32 0) (fBq_fr0 most1 o6 s) (done (klOf fBq_F 0)) = fBq_k0 most1 o6 s.1 s.2.1 s.2.2.1 s.2.2.2.1 s.2.2.2.2.1 s.2.2.2.2.2 (fun s => some (.norm, fBq_fr0 most1 o6 s)) (fun e => some (fBq_x0_1 most1 o6 e)) := by kernel_rfl
theorem fBq_l0 (most1 : Int) (o6 : List Sc) : ∀ s r, loopL (fBq_r0 most1 o6) s = some r → LS Tryz.prog fBq_F (bodyOf Tryz.f32 0) (fBq_fr0 most1 o6 s) (enX (fBq_x0_1 most1 o6) (fBq_x0_2 most1 o6) r) :=
  loop_true E0ok fBq_Mt (noL_true) fBq_o (fun _ h => by cases h) (fun _ h => by cases h) (fun _ h => by cases h) (fun _ h => by cases h) (fun s => (fBq_e0 most1 o6 s).trans (fBq_p0 most1 o6 s _ _ (fun e => some (fBq_x0_2 most1 o6 e))))
def fBq_t0 (σ : List AV) : Option (Bool × Bool × (X × List AV) × (X × List AV)) := match dec fBq_h0 σ with | some [.l v0, .i v1, .i v2, .l v3, .i most1, .l o6, .i n7, .i i8] => some (isOne (loopL (fBq_r0 most1 o6) (v0, v1, v2, v3, n7, i8)), true, fBq_x0_1 most1 o6 (getOne ([], 0, 0, [], 0) (loopL (fBq_r0 most1 o6) (v0, v1, v2, v3, n7, i8))), (.ret, [])) | _ => none
theorem fBq_tt0 : TTrue Tryz.prog fBq_F Tryz.f32 0 (fBq_t0) := by
  intro σ p r r' h
  unfold fBq_t0 at h
  split at h
  · rename_i hd
    rw [← dec_enc hd]
    exact row1 (fBq_l0 _ _ _) h
  · cases h
theorem fBq_p {R : Type} (most1 : Int) (h0 : List Sc) (h1 h2 : Int) (kR : List Sc × List Sc × Int × Int → Option R) : fBq_k most1 h0 h1 h2 kR = (fBq_k most1 h0 h1 h2 some).bind kR := by
  simp only [fBq_k, brB, boB, bl1B, someB, noneB]
theorem fBq_e (most1 : Int) (h0 : List Sc) (h1 h2 : Int) : runFn E0 fBq_M H0 fBq_F (asL (addL 0 (fBq_t0) (noL))) Tryz.f32 (fBq_a most1 h0 h1 h2) (fBq_i most1 h0 h1 h2) = fBq_k most1 h0 h1 h2 (fun r => some (fBq_en r)) := by kernel_rfl
theorem fBq_ok (most1 : Int) (h0 : List Sc) (h1 h2 : Int) (r : List Sc × List Sc × Int × Int) (h : fBq most1 h0 h1 h2 = some r) : CS Tryz.prog 32 (fBq_a most1 h0 h1 h2) (fBq_i most1 h0 h1 h2) (fBq_en r).1 (fBq_en r).2 :=
  fn_true (Gk := fun k => fBq_k most1 h0 h1 h2 k) (en := fBq_en) Tryz.func32 E0ok fBq_Mt (addL_true (fBq_tt0) (noL_true)) fBq_o (fBq_e most1 h0 h1 h2) (fBq_p most1 h0 h1 h2) h
def fBq_c : CRow := fun args inh => match dec2 [.p (.pt 0 3), .p (.int .i64)] [.p .sl, .p (.int .i64), .p (.int .i64)] args inh with | some ([.i most1], [.l h0, .i h1, .i h2]) => some ((fBq most1 h0 h1 h2).isSome, (fBq_en ((fBq most1 h0 h1 h2).getD ([], [], 0, 0))).1, (fBq_en ((fBq most1 h0 h1 h2).getD ([], [], 0, 0))).2) | _ => none
theorem fBq_cc : CTrue Tryz.prog 32 fBq_c := by
  intro args inh rs out h
  unfold fBq_c at h
  split at h
  · rename_i hd
    obtain ⟨h1, h2⟩ := dec2_enc hd
    rw [← h1, ← h2]
    exact rowC (fBq_ok _ _ _ _) h
  · cases h
def fAp_F : Fi := { nv := 3, nc := 3, m := 3, vt := [], kl := [], sk := [], mvs := [], fz := [] }
def fAp_a (list1 h0 : List Sc) (h1 h2 : Int) : List AV := enc [.p (.pt 0 3), .p .sl] [.l list1]
def fAp_i (list1 h0 : List Sc) (h1 h2 : Int) : List AV := enc [.p .sl, .p (.int .i64), .p (.int .i64)] [.l h0, .i h1, .i h2]
def fAp_en (r : Int × List Sc × Int × Int) : List AV × List AV := (enc [.p (.int .i64)] [.i r.1], enc [.p .sl, .p (.int .i64), .p (.int .i64)] [.l r.2.1, .i r.2.2.1, .i r.2.2.2])
def fAp_M : Calling := addC 59 fBd_c (noC)
theorem fAp_Mt : CallOk Tryz.prog (fAp_M) := addC_true fBd_cc (noC_true)
theorem fAp_o : loopsOnce Tryz.f65 = true := by kernel_rfl
theorem fAp_p {R : Type} (list1 h0 : List Sc) (h1 h2 : Int) (kR : Int × List Sc × Int × Int → Option R) : fAp_k list1 h0 h1 h2 kR = (fAp_k list1 h0 h1 h2 some).bind kR := by
  simp only [fAp_k, brB, boB, someB, noneB]
theorem fAp_e (list1 h0 : List Sc) (h1 h2 : Int) : runFn E0 fAp_M H0 fAp_F (asL (noL)) Tryz.f65 (fAp_a list1 h0 h1 h2) (fAp_i list1 h0 h1 h2) = fAp_k list1 h0 h1 h2 (fun r => some (fAp_en r)) := by kernel_rfl
theorem fAp_ok (list1 h0 : List Sc) (h1 h2 : Int) (r : Int × List Sc × Int × Int) (h : fAp list1 h0 h1 h2 = some r) : CS Tryz.prog 65 (fAp_a list1 h0 h1 h2) (fAp_i list1 h0 h1 h2) (fAp_en r).1 (fAp_en r).2 :=
  fn_true (Gk := fun k => fAp_k list1 h0 h1 h2 k) (en := fAp_en) Tryz.func65 E0ok fAp_Mt (noL_true) fAp_o (fAp_e list1 h0 h1 h2) (fAp_p list1 h0 h1 h2) h
def fAp_c : CRow := fun args inh => match dec2 [.p (.pt 0 3), .p .sl] [.p .sl, .p (.int .i64), .p (.int .i64)] args inh with | some ([.l list1], [.l h0, .i h1, .i h2]) => some ((fAp list1 h0 h1 h2).isSome, (fAp_en ((fAp list1 h0 h1 h2).getD (0, [], 0, 0))).1, (fAp_en ((fAp list1 h0 h1 h2).getD (0, [], 0, 0))).2) | _ => none
theorem fAp_cc : CTrue Tryz.prog 65 fAp_c := by
  intro args inh rs out h
  unfold fAp_c at h
  split at h
  · rename_i hd
    obtain ⟨h1, h2⟩ := dec2_enc hd
    rw [← h1, ← h2]
    exact rowC (fAp_ok _ _ _ _) h
  · cases h
def fBv_F : Fi := { nv := 6, nc := 5, m := 3, vt := [(2, 3), (3, 4), (5, 5)], kl := [], sk := [], mvs := [5], fz := [] }
def fBv_a (h0 : List Sc) (h1 h2 : Int) : List AV := enc [.p (.pt 0 3)] []
def fBv_i (h0 : List Sc) (h1 h2 : Int) : List AV := enc [.p .sl, .p (.int .i64), .p (.int .i64)] [.l h0, .i h1, .i h2]
def fBv_en (r : List Sc × List Sc × Int × Int) : List AV × List AV := (enc [.p (.go 3)] [], enc [.p .sl, .p (.int .i64), .p (.int .i64), .own 3] [.l r.2.1, .i r.2.2.1, .i r.2.2.2, .l r.1])
def fBv_M : Calling := addC 32 fBq_c (addC 59 fBd_c (addC 65 fAp_c (noC)))
theorem fBv_Mt : CallOk Tryz.prog (fBv_M) := addC_true fBq_cc (addC_true fBd_cc (addC_true fAp_cc (noC_true)))
theorem fBv_o : loopsOnce Tryz.f31 = true := by kernel_rfl
theorem fBv_p {R : Type} (h0 : List Sc) (h1 h2 : Int) (kR : List Sc × List Sc × Int × Int → Option R) : fBv_k h0 h1 h2 kR = (fBv_k h0 h1 h2 some).bind kR := by
  simp only [fBv_k, brB, boB, someB]
theorem fBv_e (h0 : List Sc) (h1 h2 : Int) : runFn E0 fBv_M H0 fBv_F (asL (noL)) Tryz.f31 (fBv_a h0 h1 h2) (fBv_i h0 h1 h2) = fBv_k h0 h1 h2 (fun r => some (fBv_en r)) := by kernel_rfl
theorem fBv_ok (h0 : List Sc) (h1 h2 : Int) (r : List Sc × List Sc × Int × Int) (h : fBv h0 h1 h2 = some r) : CS Tryz.prog 31 (fBv_a h0 h1 h2) (fBv_i h0 h1 h2) (fBv_en r).1 (fBv_en r).2 :=
  fn_true (Gk := fun k => fBv_k h0 h1 h2 k) (en := fBv_en) Tryz.func31 E0ok fBv_Mt (noL_true) fBv_o (fBv_e h0 h1 h2) (fBv_p h0 h1 h2) h
def fBv_c : CRow := fun args inh => match dec2 [.p (.pt 0 3)] [.p .sl, .p (.int .i64), .p (.int .i64)] args inh with | some ([], [.l h0, .i h1, .i h2]) => some ((fBv h0 h1 h2).isSome, (fBv_en ((fBv h0 h1 h2).getD ([], [], 0, 0))).1, (fBv_en ((fBv h0 h1 h2).getD ([], [], 0, 0))).2) | _ => none
theorem fBv_cc : CTrue Tryz.prog 31 fBv_c := by
  intro args inh rs out h
  unfold fBv_c at h
  split at h
  · rename_i hd
    obtain ⟨h1, h2⟩ := dec2_enc hd
    rw [← h1, ← h2]
    exact rowC (fBv_ok _ _ _) h
  · cases h
def fAt_F : Fi := { nv := 6, nc := 4, m := 0, vt := [(2, 0), (5, 1), (9, 4), (11, 5)], kl := [], sk := [], mvs := [4, 5], fz := [] }
def fAt_a (code0 : List Sc) : List AV := enc [.p .sl] [.l code0]
def fAt_i (code0 : List Sc) : List AV := enc [] []
def fAt_en (r : List Sc) : List AV × List AV := (enc [.p (.go 0)] [], enc [.own 3] [.l r])
def fAt_M : Calling := addC 29 fCq_c (addC 30 fBp_c (addC 31 fBv_c (addC 32 fBq_c (noC))))
theorem fAt_Mt : CallOk Tryz.prog (fAt_M) := addC_true fCq_cc (addC_true fBp_cc (addC_true fBv_cc (addC_true fBq_cc (noC_true))))
theorem fAt_o : loopsOnce Tryz.f5 = true := by kernel_rfl
theorem fAt_p {R : Type} (code0 : List Sc) (kR : List Sc → Option R) : fAt_k code0 kR = (fAt_k code0 some).bind kR := by
  simp only [fAt_k, brB, boB, someB]
theorem fAt_e (code0 : List Sc) : runFn E0 fAt_M H0 fAt_F (asL (noL)) Tryz.f5 (fAt_a code0) (fAt_i code0) = fAt_k code0 (fun r => some (fAt_en r)) := by kernel_rfl
theorem fAt_ok (code0 r : List Sc) (h : fAt code0 = some r) : CS Tryz.prog 5 (fAt_a code0) (fAt_i code0) (fAt_en r).1 (fAt_en r).2 :=
  fn_true (Gk := fun k => fAt_k code0 k) (en := fAt_en) Tryz.func5 E0ok fAt_Mt (noL_true) fAt_o (fAt_e code0) (fAt_p code0) h
def fAt_c : CRow := fun args inh => match dec2 [.p .sl] [] args inh with | some ([.l code0], []) => some ((fAt code0).isSome, (fAt_en ((fAt code0).getD [])).1, (fAt_en ((fAt code0).getD [])).2) | _ => none
theorem fAt_cc : CTrue Tryz.prog 5 fAt_c := by
  intro args inh rs out h
  unfold fAt_c at h
  split at h
  · rename_i hd
    obtain ⟨h1, h2⟩ := dec2_enc hd
    rw [← h1, ← h2]
    exact rowC (fAt_ok _) h
  · cases h
def fCm_F : Fi := { nv := 0, nc := 0, m := 0, vt := [], kl := [], sk := [], mvs := [], fz := [] }
def fCm_a (x0 lo1 hi2 : Int) : List AV := enc [.p (.int .i64), .p (.int .i64), .p (.int .i64)] [.i x0, .i lo1, .i hi2]
def fCm_i (x0 lo1 hi2 : Int) : List AV := enc [] []
def fCm_en (r : Bool) : List AV × List AV := (enc [.p .boo] [.b r], enc [] [])
def fCm_M : Calling := noC
theorem fCm_Mt : CallOk Tryz.prog (fCm_M) := noC_true
theorem fCm_o : loopsOnce Tryz.f66 = true := by kernel_rfl
theorem fCm_p {R : Type} (x0 lo1 hi2 : Int) (kR : Bool → Option R) : fCm_k x0 lo1 hi2 kR = (fCm_k x0 lo1 hi2 some).bind kR := by
  simp only [fCm_k, brB, someB]
theorem fCm_e (x0 lo1 hi2 : Int) : runFn E0 fCm_M H0 fCm_F (asL (noL)) Tryz.f66 (fCm_a x0 lo1 hi2) (fCm_i x0 lo1 hi2) = fCm_k x0 lo1 hi2 (fun r => some (fCm_en r)) := by kernel_rfl
theorem fCm_ok (x0 lo1 hi2 : Int) (r : Bool) (h : fCm x0 lo1 hi2 = some r) : CS Tryz.prog 66 (fCm_a x0 lo1 hi2) (fCm_i x0 lo1 hi2) (fCm_en r).1 (fCm_en r).2 :=
  fn_true (Gk := fun k => fCm_k x0 lo1 hi2 k) (en := fCm_en) Tryz.func66 E0ok fCm_Mt (noL_true) fCm_o (fCm_e x0 lo1 hi2) (fCm_p x0 lo1 hi2) h
def fCm_c : CRow := fun args inh => match dec2 [.p (.int .i64), .p (.int .i64), .p (.int .i64)] [] args inh with | some ([.i x0, .i lo1, .i hi2], []) => some ((fCm x0 lo1 hi2).isSome, (fCm_en ((fCm x0 lo1 hi2).getD false)).1, (fCm_en ((fCm x0 lo1 hi2).getD false)).2) | _ => none
theorem fCm_cc : CTrue Tryz.prog 66 fCm_c := by
  intro args inh rs out h
  unfold fCm_c at h
  split at h
  · rename_i hd
    obtain ⟨h1, h2⟩ := dec2_enc hd
    rw [← h1, ← h2]
    exact rowC (fCm_ok _ _ _) h
  · cases h
def fBz_F : Fi := { nv := 0, nc := 0, m := 0, vt := [], kl := [(0, ([0, 1, 2, 4, 5, 6, 7, 8, 9, 10, 14, 15, 16, 17, 18, 19, 20, 21, 22, 23, 24, 25], [0, 1, 2, 4, 5, 6, 7, 8, 9, 10, 11, 12, 13, 14, 15, 16, 17, 18, 19, 20, 21, 22, 23, 24, 25], [0, 1, 3, 4, 5, 6, 7, 8, 9, 10, 11, 12, 13, 14, 15, 16, 17, 18, 19, 20, 21, 22, 23, 24, 25]))], sk := [], mvs := [], fz := [] }
def fBz_a (g0 : List Sc) : List AV := enc [.p .gr] [.l g0]
def fBz_i (g0 : List Sc) : List AV := enc [] []
def fBz_en (r : Bool) : List AV × List AV := (enc [.p .boo] [.b r], enc [] [])
def fBz_M : Calling := addC 66 fCm_c (noC)
theorem fBz_Mt : CallOk Tryz.prog (fBz_M) := addC_true fCm_cc (noC_true)
theorem fBz_o : loopsOnce Tryz.f33 = true := by kernel_rfl
def fBz_h0 : List Sh := [.u, .u, .u, .p (.int .i64), .u, .u, .u, .u, .u, .u, .u, .p .sl, .p (.int .i64), .p (.int .i64), .u, .u, .u, .u, .u, .u, .u, .u, .u, .u, .u, .u]
def fBz_fr0 (t11 : List Sc) (t12 : Int) (s : Int × Int) : List AV := enc fBz_h0 [.i s.1, .l t11, .i t12, .i s.2]
def fBz_g0_1 : List Sh := [.u, .u, .u, .p (.int .i64), .u, .u, .u, .u, .u, .u, .u, .u, .u, .u, .u, .u, .u, .u, .u, .u, .u, .u, .u, .u, .u, .u]
def fBz_x0_1 (t11 : List Sc) (t12 e : Int) : X × List AV := (.out 0, enc fBz_g0_1 [.i e])
def fBz_g0_2 : List Sh := [.u, .u, .p .boo, .u, .u, .u, .u, .u, .u, .u, .u, .u, .u, .u, .u, .u, .u, .u, .u, .u, .u, .u, .u, .u, .u, .u]
def fBz_x0_2 (t11 : List Sc) (t12 : Int) (e : Unit) : X × List AV := (.ret, enc fBz_g0_2 [.b false])
theorem fBz_p0 {R : Type} (t11 : List Sc) (t12 : Int) (s : Int × Int) (kN : Int × Int → Option R) (kA : Int → Option R) (kB : Unit → Option R) : fBz_k0 t11 t12 s.1 s.2 kN kA kB = (fBz_r0 t11 t12 s).bind (Ro.el kN kA kB) := by
  simp only [fBz_k0, fBz_r0, brB, boB, someB, noneB, Ro.el]
theorem fBz_e0 (t11 : List Sc) (t12 : Int) (s : Int × Int) : EC E0 fBz_M H0 fBz_F (asL (noL)) 0 (bodyOf Tryz.f33 0) (fBz_fr0 t11 t12 s) (done (klOf fBz_F 0)) = fBz_k0 t11 t12 s.1 s.2 (fun s => some (.norm, fBz_fr0 t11 t12 s)) (fun e => some (fBz_x0_1 t11 t12 e)) (fun e => some (fBz_x0_2 t11 t12 e)) := by kernel_rfl
theorem fBz_l0 (t11 : List Sc) (t12 : Int) : ∀ s r, loopL (fBz_r0 t11 t12) s = some r → LS Tryz.prog fBz_F (bodyOf Tryz.f33 0) (fBz_fr0 t11 t12 s) (enX (fBz_x0_1 t11 t12) (fBz_x0_2 t11 t12) r) :=
  loop_true E0ok fBz_Mt (noL_true) fBz_o (fun _ h => by cases h) (fun _ h => by cases h) (fun _ h => by cases h) (fun _ h => by cases h) (fun s => (fBz_e0 t11 t12 s).trans (fBz_p0 t11 t12 s _ _ (fun e => some (fBz_x0_2 t11 t12 e))))
def fBz_t0 (σ : List AV) : Option (Bool × Bool × (X × List AV) × (X × List AV)) := match dec fBz_h0 σ with | some [.i n3, .l t11, .i t12, .i t13] => some ((loopL (fBz_r0 t11 t12) (n3, t13)).isSome, isOne (loopL (fBz_r0 t11 t12) (n3, t13)), fBz_x0_1 t11 t12 (getOne 0 (loopL (fBz_r0 t11 t12) (n3, t13))), fBz_x0_2 t11 t12 (getTwo () (loopL (fBz_r0 t11 t12) (n3, t13)))) | _ => none
theorem fBz_tt0 : TTrue Tryz.prog fBz_F Tryz.f33 0 (fBz_t0) := by
  intro σ p r r' h
  unfold fBz_t0 at h
  split at h
  · rename_i hd
    rw [← dec_enc hd]
    exact row2 (fBz_l0 _ _ _) h
  · cases h
theorem fBz_p {R : Type} (g0 : List Sc) (kR : Bool → Option R) : fBz_k g0 kR = (fBz_k g0 some).bind kR := by
  simp only [fBz_k, brB, blB, someB]
theorem fBz_e (g0 : List Sc) : runFn E0 fBz_M H0 fBz_F (asL (addL 0 (fBz_t0) (noL))) Tryz.f33 (fBz_a g0) (fBz_i g0) = fBz_k g0 (fun r => some (fBz_en r)) := by kernel_rfl
theorem fBz_ok (g0 : List Sc) (r : Bool) (h : fBz g0 = some r) : CS Tryz.prog 33 (fBz_a g0) (fBz_i g0) (fBz_en r).1 (fBz_en r).2 :=
  fn_true (Gk := fun k => fBz_k g0 k) (en := fBz_en) Tryz.func33 E0ok fBz_Mt (addL_true (fBz_tt0) (noL_true)) fBz_o (fBz_e g0) (fBz_p g0) h
def fBz_c : CRow := fun args inh => match dec2 [.p .gr] [] args inh with | some ([.l g0], []) => some ((fBz g0).isSome, (fBz_en ((fBz g0).getD false)).1, (fBz_en ((fBz g0).getD false)).2) | _ => none
theorem fBz_cc : CTrue Tryz.prog 33 fBz_c := by
  intro args inh rs out h
  unfold fBz_c at h
  split at h
  · rename_i hd
    obtain ⟨h1, h2⟩ := dec2_enc hd
    rw [← h1, ← h2]
    exact rowC (fBz_ok _) h
  · cases h
def fCa_F : Fi := { nv := 0, nc := 0, m := 0, vt := [], kl := [(0, ([0, 1, 2, 4, 5, 6, 7, 8, 9, 13, 14, 15, 16, 17, 18, 19, 20], [0, 1, 2, 4, 5, 6, 7, 8, 9, 10, 11, 12, 13, 14, 15, 16, 17, 18, 19, 20], [0, 1, 3, 4, 5, 6, 7, 8, 9, 10, 11, 12, 13, 14, 15, 16, 17, 18, 19, 20]))], sk := [], mvs := [], fz := [] }
def fCa_a (g0 : List Sc) : List AV := enc [.p .gr] [.l g0]
def fCa_i (g0 : List Sc) : List AV := enc [] []
def fCa_en (r : Int) : List AV × List AV := (enc [.p (.int .i64)] [.i r], enc [] [])
def fCa_M : Calling := addC 33 fBz_c (noC)
theorem fCa_Mt : CallOk Tryz.prog (fCa_M) := addC_true fBz_cc (noC_true)
theorem fCa_o : loopsOnce Tryz.f34 = true := by kernel_rfl
def fCa_h0 : List Sh := [.u, .u, .u, .p (.int .i64), .u, .u, .u, .u, .u, .u, .p .sl, .p (.int .i64), .p (.int .i64), .u, .u, .u, .u, .u, .u, .u, .u]
def fCa_fr0 (t10 : List Sc) (t11 : Int) (s : Int × Int) : List AV := enc fCa_h0 [.i s.1, .l t10, .i t11, .i s.2]
def fCa_g0_1 : List Sh := [.u, .u, .u, .p (.int .i64), .u, .u, .u, .u, .u, .u, .u, .u, .u, .u, .u, .u, .u, .u, .u, .u, .u]
def fCa_x0_1 (t10 : List Sc) (t11 e : Int) : X × List AV := (.out 0, enc fCa_g0_1 [.i e])
def fCa_x0_2 (t10 : List Sc) (t11 : Int) (_e : Unit) : X × List AV := (.ret, [])
theorem fCa_p0 {R : Type} (t10 : List Sc) (t11 : Int) (s : Int × Int) (kN : Int × Int → Option R) (kA : Int → Option R) (kB : Unit → Option R) : fCa_k0 t10 t11 s.1 s.2 kN kA = (fCa_r0 t10 t11 s).bind (Ro.el kN kA kB) := by
  simp only [fCa_k0, fCa_r0, brB, someB, noneB, Ro.el]
theorem fCa_e0 (t10 : List Sc) (t11 : Int) (s : Int × Int) : EC E0 fCa_M H0 fCa_F (asL (noL)) 0 (bodyOf Tryz.f34 0) (fCa_fr0 t10 t11 s) (done (klOf fCa_F 0)) = fCa_k0 t10 t11 s.1 s.2 (fun s => some (.norm, fCa_fr0 t10 t11 s)) (fun e => some (fCa_x0_1 t10 t11 e)) := by kernel_rfl
theorem fCa_l0 (t10 : List Sc) (t11 : Int) : ∀ s r, loopL (fCa_r0 t10 t11) s = some r → LS Tryz.prog fCa_F (bodyOf Tryz.f34 0) (fCa_fr0 t10 t11 s) (enX (fCa_x0_1 t10 t11) (fCa_x0_2 t10 t11) r) :=
  loop_true E0ok fCa_Mt (noL_true) fCa_o (fun _ h => by cases h) (fun _ h => by cases h) (fun _ h => by cases h) (fun _ h => by cases h) (fun s => (fCa_e0 t10 t11 s).trans (fCa_p0 t10 t11 s _ _ (fun e => some (fCa_x0_2 t10 t11 e))))
def fCa_t0 (σ : List AV) : Option (Bool × Bool × (X × List AV) × (X × List AV)) := match dec fCa_h0 σ with | some [.i n3, .l t10, .i t11, .i t12] => some (isOne (loopL (fCa_r0 t10 t11) (n3, t12)), true, fCa_x0_1 t10 t11 (getOne 0 (loopL (fCa_r0 t10 t11) (n3, t12))), (.ret, [])) | _ => none
theorem fCa_tt0 : TTrue Tryz.prog fCa_F Tryz.f34 0 (fCa_t0) := by
  intro σ p r r' h
  unfold fCa_t0 at h
  split at h
  · rename_i hd
    rw [← dec_enc hd]
    exact row1 (fCa_l0 _ _ _) h
  · cases h
theorem fCa_p {R : Type} (g0 : List Sc) (kR : Int → Option R) : fCa_k g0 kR = (fCa_k g0 some).bind kR := by
  simp only [fCa_k, brB, boB, bl1B, someB]
theorem fCa_e (g0 : List Sc) : runFn E0 fCa_M H0 fCa_F (asL (addL 0 (fCa_t0) (noL))) Tryz.f34 (fCa_a g0) (fCa_i g0) = fCa_k g0 (fun r => some (fCa_en r)) := by kernel_rfl
theorem fCa_ok (g0 : List Sc) (r : Int) (h : fCa g0 = some r) : CS Tryz.prog 34 (fCa_a g0) (fCa_i g0) (fCa_en r).1 (fCa_en r).2 :=
  fn_true (Gk := fun k => fCa_k g0 k) (en := fCa_en) Tryz.func34 E0ok fCa_Mt (addL_true (fCa_tt0) (noL_true)) fCa_o (fCa_e g0) (fCa_p g0) h
def fCa_c : CRow := fun args inh => match dec2 [.p .gr] [] args inh with | some ([.l g0], []) => some ((fCa g0).isSome, (fCa_en ((fCa g0).getD 0)).1, (fCa_en ((fCa g0).getD 0)).2) | _ => none
theorem fCa_cc : CTrue Tryz.prog 34 fCa_c := by
  intro args inh rs out h
  unfold fCa_c at h
  split at h
  · rename_i hd
    obtain ⟨h1, h2⟩ := dec2_enc hd
    rw [← h1, ← h2]
    exact rowC (fCa_ok _) h
  · cases h
def fBf_F : Fi := { nv := 0, nc := 0, m := 0, vt := [], kl := [(0, ([0, 3, 4, 5, 6, 9, 10, 11, 15, 16, 17, 18, 19, 20, 21, 22, 23, 24, 25, 26, 27, 28, 29, 30, 31, 32, 33, 34, 35, 36, 37, 38, 39, 40, 41], [0, 1, 2, 3, 4, 5, 6, 8, 9, 10, 11, 12, 13, 14, 15, 16, 17, 18, 19, 20, 21, 22, 23, 24, 25, 26, 27, 28, 29, 30, 31, 32, 33, 34, 35, 36, 37, 38, 39, 40, 41], [0, 1, 2, 3, 4, 5, 7, 8, 9, 10, 11, 12, 13, 14, 15, 16, 17, 18, 19, 20, 21, 22, 23, 24, 25, 26, 27, 28, 29, 30, 31, 32, 33, 34, 35, 36, 37, 38, 39, 40, 41]))], sk := [], mvs := [], fz := [] }
def fBf_a (g0 : List Sc) (x1 y2 : Int) : List AV := enc [.p .gr, .p (.int .i64), .p (.int .i64)] [.l g0, .i x1, .i y2]
def fBf_i (g0 : List Sc) (x1 y2 : Int) : List AV := enc [] []
def fBf_en (r : Int) : List AV × List AV := (enc [.p (.int .i64)] [.i r], enc [] [])
def fBf_M : Calling := noC
theorem fBf_Mt : CallOk Tryz.prog (fBf_M) := noC_true
theorem fBf_o : loopsOnce Tryz.f69 = true := by kernel_rfl
def fBf_h0 : List Sh := [.u, .p (.int .i64), .p (.int .i64), .u, .u, .u, .u, .p (.int .i64), .p (.int .i64), .u, .u, .u, .p .sl, .p (.int .i64), .p (.int .i64), .u, .u, .u, .u, .u, .u, .u, .u, .u, .u, .u, .u, .u, .u, .u, .u, .u, .u, .u, .u, .u, .u, .u, .u, .u, .u, .u]
def fBf_fr0 (t12 : List Sc) (t13 : Int) (s : Int × Int × Int × Int × Int) : List AV := enc fBf_h0 [.i s.1, .i s.2.1, .i s.2.2.1, .i s.2.2.2.1, .l t12, .i t13, .i s.2.2.2.2]
def fBf_g0_1 : List Sh := [.u, .u, .u, .u, .u, .u, .u, .p (.int .i64), .u, .u, .u, .u, .u, .u, .u, .u, .u, .u, .u, .u, .u, .u, .u, .u, .u, .u, .u, .u, .u, .u, .u, .u, .u, .u, .u, .u, .u, .u, .u, .u, .u, .u]
def fBf_x0_1 (t12 : List Sc) (t13 e : Int) : X × List AV := (.out 0, enc fBf_g0_1 [.i e])
def fBf_x0_2 (t12 : List Sc) (t13 : Int) (_e : Unit) : X × List AV := (.ret, [])
theorem fBf_p0 {R : Type} (t12 : List Sc) (t13 : Int) (s : Int × Int × Int × Int × Int) (kN : Int × Int × Int × Int × Int → Option R) (kA : Int → Option R) (kB : Unit → Option R) : fBf_k0 t12 t13 s.1 s.2.1 s.2.2.1 s.2.2.2.1 s.2.2.2.2 kN kA = (fBf_r0 t12 t13 s).bind (Ro.el kN kA kB) := by
  simp only [fBf_k0, fBf_r0, brB, someB, noneB, Ro.el]
theorem fBf_e0 (t12 : List Sc) (t13 : Int) (s : Int × Int × Int × Int × Int) : EC E0 fBf_M H0 fBf_F (asL (noL)) 0 (bodyOf Tryz.f69 0) (fBf_fr0 t12 t13 s) (done (klOf fBf_F 0)) = fBf_k0 t12 t13 s.1 s.2.1 s.2.2.1 s.2.2.2.1 s.2.2.2.2 (fun s => some (.norm, fBf_fr0 t12 t13 s)) (fun e => some (fBf_x0_1 t12 t13 e)) := by kernel_rfl
theorem fBf_l0 (t12 : List Sc) (t13 : Int) : ∀ s r, loopL (fBf_r0 t12 t13) s = some r → LS Tryz.prog fBf_F (bodyOf Tryz.f69 0) (fBf_fr0 t12 t13 s) (enX (fBf_x0_1 t12 t13) (fBf_x0_2 t12 t13) r) :=
  loop_true E0ok fBf_Mt (noL_true) fBf_o (fun _ h => by cases h) (fun _ h => by cases h) (fun _ h => by cases h) (fun _ h => by cases h) (fun s => (fBf_e0 t12 t13 s).trans (fBf_p0 t12 t13 s _ _ (fun e => some (fBf_x0_2 t12 t13 e))))
def fBf_t0 (σ : List AV) : Option (Bool × Bool × (X × List AV) × (X × List AV)) := match dec fBf_h0 σ with | some [.i x1, .i y2, .i sum7, .i unit8, .l t12, .i t13, .i t14] => some (isOne (loopL (fBf_r0 t12 t13) (x1, y2, sum7, unit8, t14)), true, fBf_x0_1 t12 t13 (getOne 0 (loopL (fBf_r0 t12 t13) (x1, y2, sum7, unit8, t14))), (.ret, [])) | _ => none
theorem fBf_tt0 : TTrue Tryz.prog fBf_F Tryz.f69 0 (fBf_t0) := by
  intro σ p r r' h
  unfold fBf_t0 at h
  split at h
  · rename_i hd
    rw [← dec_enc hd]
    exact row1 (fBf_l0 _ _ _) h
  · cases h
theorem fBf_p {R : Type} (g0 : List Sc) (x1 y2 : Int) (kR : Int → Option R) : fBf_k g0 x1 y2 kR = (fBf_k g0 x1 y2 some).bind kR := by
  simp only [fBf_k, bl1B, someB]
theorem fBf_e (g0 : List Sc) (x1 y2 : Int) : runFn E0 fBf_M H0 fBf_F (asL (addL 0 (fBf_t0) (noL))) Tryz.f69 (fBf_a g0 x1 y2) (fBf_i g0 x1 y2) = fBf_k g0 x1 y2 (fun r => some (fBf_en r)) := by kernel_rfl
theorem fBf_ok (g0 : List Sc) (x1 y2 r : Int) (h : fBf g0 x1 y2 = some r) : CS Tryz.prog 69 (fBf_a g0 x1 y2) (fBf_i g0 x1 y2) (fBf_en r).1 (fBf_en r).2 :=
  fn_true (Gk := fun k => fBf_k g0 x1 y2 k) (en := fBf_en) Tryz.func69 E0ok fBf_Mt (addL_true (fBf_tt0) (noL_true)) fBf_o (fBf_e g0 x1 y2) (fBf_p g0 x1 y2) h
def fBf_c : CRow := fun args inh => match dec2 [.p .gr, .p (.int .i64), .p (.int .i64)] [] args inh with | some ([.l g0, .i x1, .i y2], []) => some ((fBf g0 x1 y2).isSome, (fBf_en ((fBf g0 x1 y2).getD 0)).1, (fBf_en ((fBf g0 x1 y2).getD 0)).2) | _ => none
theorem fBf_cc : CTrue Tryz.prog 69 fBf_c := by
  intro args inh rs out h
  unfold fBf_c at h
  split at h
  · rename_i hd
    obtain ⟨h1, h2⟩ := dec2_enc hd
    rw [← h1, ← h2]
    exact rowC (fBf_ok _ _ _) h
  · cases h
def fAs_F : Fi := { nv := 0, nc := 0, m := 0, vt := [], kl := [(0, ([0, 1, 3, 4, 6, 7, 11, 12, 13, 14, 15, 16, 17, 18, 19], [0, 1, 2, 3, 4, 6, 7, 8, 9, 10, 11, 12, 13, 14, 15, 16, 17, 18, 19], [0, 1, 2, 3, 5, 6, 7, 8, 9, 10, 11, 12, 13, 14, 15, 16, 17, 18, 19]))], sk := [], mvs := [], fz := [] }
def fAs_a (g0 l1 : List Sc) : List AV := enc [.p .gr, .p .sl] [.l g0, .l l1]
def fAs_i (g0 l1 : List Sc) : List AV := enc [] []
def fAs_en (r : Int) : List AV × List AV := (enc [.p (.int .i64)] [.i r], enc [] [])
def fAs_M : Calling := addC 69 fBf_c (noC)
theorem fAs_Mt : CallOk Tryz.prog (fAs_M) := addC_true fBf_cc (noC_true)
theorem fAs_o : loopsOnce Tryz.f38 = true := by kernel_rfl
def fAs_h0 : List Sh := [.u, .u, .p .el, .u, .u, .p (.int .i64), .u, .u, .p .sl, .p (.int .i64), .p (.int .i64), .u, .u, .u, .u, .u, .u, .u, .u, .u]
def fAs_fr0 (g2 t8 : List Sc) (t9 : Int) (s : Int × Int) : List AV := enc fAs_h0 [.l g2, .i s.1, .l t8, .i t9, .i s.2]
def fAs_g0_1 : List Sh := [.u, .u, .u, .u, .u, .p (.int .i64), .u, .u, .u, .u, .u, .u, .u, .u, .u, .u, .u, .u, .u, .u]
def fAs_x0_1 (g2 t8 : List Sc) (t9 e : Int) : X × List AV := (.out 0, enc fAs_g0_1 [.i e])
def fAs_x0_2 (g2 t8 : List Sc) (t9 : Int) (_e : Unit) : X × List AV := (.ret, [])
theorem fAs_p0 {R : Type} (g2 t8 : List Sc) (t9 : Int) (s : Int × Int) (kN : Int × Int → Option R) (kA : Int → Option R) (kB : Unit → Option R) : fAs_k0 g2 t8 t9 s.1 s.2 kN kA = (fAs_r0 g2 t8 t9 s).bind (Ro.el kN kA kB) := by
  simp only [fAs_k0, fAs_r0, brB, boB, someB, noneB, Ro.el]
theorem fAs_e0 (g2 t8 : List Sc) (t9 : Int) (s : Int × Int) : EC E0 fAs_M H0 fAs_F (asL (noL)) 0 (bodyOf Tryz.f38 0) (fAs_fr0 g2 t8 t9 s) (done (klOf fAs_F 0)) = fAs_k0 g2 t8 t9 s.1 s.2 (fun s => some (.norm, fAs_fr0 g2 t8 t9 s)) (fun e => some (fAs_x0_1 g2 t8 t9 e)) := by kernel_rfl
theorem fAs_l0 (g2 t8 : List Sc) (t9 : Int) : ∀ s r, loopL (fAs_r0 g2 t8 t9) s = some r → LS Tryz.prog fAs_F (bodyOf Tryz.f38 0) (fAs_fr0 g2 t8 t9 s) (enX (fAs_x0_1 g2 t8 t9) (fAs_x0_2 g2 t8 t9) r) :=
  loop_true E0ok fAs_Mt (noL_true) fAs_o (fun _ h => by cases h) (fun _ h => by cases h) (fun _ h => by cases h) (fun _ h => by cases h) (fun s => (fAs_e0 g2 t8 t9 s).trans (fAs_p0 g2 t8 t9 s _ _ (fun e => some (fAs_x0_2 g2 t8 t9 e))))
def fAs_t0 (σ : List AV) : Option (Bool × Bool × (X × List AV) × (X × List AV)) := match dec fAs_h0 σ with | some [.l g2, .i s5, .l t8, .i t9, .i t10] => some (isOne (loopL (fAs_r0 g2 t8 t9) (s5, t10)), true, fAs_x0_1 g2 t8 t9 (getOne 0 (loopL (fAs_r0 g2 t8 t9) (s5, t10))), (.ret, [])) | _ => none
theorem fAs_tt0 : TTrue Tryz.prog fAs_F Tryz.f38 0 (fAs_t0) := by
  intro σ p r r' h
  unfold fAs_t0 at h
  split at h
  · rename_i hd
    rw [← dec_enc hd]
    exact row1 (fAs_l0 _ _ _ _) h
  · cases h
theorem fAs_p {R : Type} (g0 l1 : List Sc) (kR : Int → Option R) : fAs_k g0 l1 kR = (fAs_k g0 l1 some).bind kR := by
  simp only [fAs_k, bl1B, someB]
theorem fAs_e (g0 l1 : List Sc) : runFn E0 fAs_M H0 fAs_F (asL (addL 0 (fAs_t0) (noL))) Tryz.f38 (fAs_a g0 l1) (fAs_i g0 l1) = fAs_k g0 l1 (fun r => some (fAs_en r)) := by kernel_rfl
theorem fAs_ok (g0 l1 : List Sc) (r : Int) (h : fAs g0 l1 = some r) : CS Tryz.prog 38 (fAs_a g0 l1) (fAs_i g0 l1) (fAs_en r).1 (fAs_en r).2 :=
  fn_true (Gk := fun k => fAs_k g0 l1 k) (en := fAs_en) Tryz.func38 E0ok fAs_Mt (addL_true (fAs_tt0) (noL_true)) fAs_o (fAs_e g0 l1) (fAs_p g0 l1) h
def fAs_c : CRow := fun args inh => match dec2 [.p .gr, .p .sl] [] args inh with | some ([.l g0, .l l1], []) => some ((fAs g0 l1).isSome, (fAs_en ((fAs g0 l1).getD 0)).1, (fAs_en ((fAs g0 l1).getD 0)).2) | _ => none
theorem fAs_cc : CTrue Tryz.prog 38 fAs_c := by
  intro args inh rs out h
  unfold fAs_c at h
  split at h
  · rename_i hd
    obtain ⟨h1, h2⟩ := dec2_enc hd
    rw [← h1, ← h2]
    exact rowC (fAs_ok _ _) h
  · cases h
def fAm_F : Fi := { nv := 0, nc := 0, m := 0, vt := [], kl := [(0, ([0, 2, 3, 4, 7, 8, 9, 13, 14, 15, 16, 17, 18, 19, 20, 21, 22, 23, 24, 25, 26, 27, 28, 29, 30, 31, 32, 33, 34], [0, 1, 2, 3, 4, 6, 7, 8, 9, 10, 11, 12, 13, 14, 15, 16, 17, 18, 19, 20, 21, 22, 23, 24, 25, 26, 27, 28, 29, 30, 31, 32, 33, 34], [0, 1, 2, 3, 5, 6, 7, 8, 9, 10, 11, 12, 13, 14, 15, 16, 17, 18, 19, 20, 21, 22, 23, 24, 25, 26, 27, 28, 29, 30, 31, 32, 33, 34]))], sk := [], mvs := [], fz := [] }
def fAm_a (g0 : List Sc) (x1 : Int) : List AV := enc [.p .gr, .p (.int .i64)] [.l g0, .i x1]
def fAm_i (g0 : List Sc) (x1 : Int) : List AV := enc [] []
def fAm_en (r : Int) : List AV × List AV := (enc [.p (.int .i64)] [.i r], enc [] [])
def fAm_M : Calling := noC
theorem fAm_Mt : CallOk Tryz.prog (fAm_M) := noC_true
theorem fAm_o : loopsOnce Tryz.f37 = true := by kernel_rfl
def fAm_h0 : List Sh := [.u, .p (.int .i64), .u, .u, .u, .p (.int .i64), .p (.int .i64), .u, .u, .u, .p .sl, .p (.int .i64), .p (.int .i64), .u, .u, .u, .u, .u, .u, .u, .u, .u, .u, .u, .u, .u, .u, .u, .u, .u, .u, .u, .u, .u, .u]
def fAm_fr0 (t10 : List Sc) (t11 : Int) (s : Int × Int × Int × Int) : List AV := enc fAm_h0 [.i s.1, .i s.2.1, .i s.2.2.1, .l t10, .i t11, .i s.2.2.2]
def fAm_g0_1 : List Sh := [.u, .u, .u, .u, .u, .p (.int .i64), .u, .u, .u, .u, .u, .u, .u, .u, .u, .u, .u, .u, .u, .u, .u, .u, .u, .u, .u, .u, .u, .u, .u, .u, .u, .u, .u, .u, .u]
def fAm_x0_1 (t10 : List Sc) (t11 e : Int) : X × List AV := (.out 0, enc fAm_g0_1 [.i e])
def fAm_x0_2 (t10 : List Sc) (t11 : Int) (_e : Unit) : X × List AV := (.ret, [])
theorem fAm_p0 {R : Type} (t10 : List Sc) (t11 : Int) (s : Int × Int × Int × Int) (kN : Int × Int × Int × Int → Option R) (kA : Int → Option R) (kB : Unit → Option R) : fAm_k0 t10 t11 s.1 s.2.1 s.2.2.1 s.2.2.2 kN kA = (fAm_r0 t10 t11 s).bind (Ro.el kN kA kB) := by
  simp only [fAm_k0, fAm_r0, brB, someB, noneB, Ro.el]
theorem fAm_e0 (t10 : List Sc) (t11 : Int) (s : Int × Int × Int × Int) : EC E0 fAm_M H0 fAm_F (asL (noL)) 0 (bodyOf Tryz.f37 0) (fAm_fr0 t10 t11 s) (done (klOf fAm_F 0)) = fAm_k0 t10 t11 s.1 s.2.1 s.2.2.1 s.2.2.2 (fun s => some (.norm, fAm_fr0 t10 t11 s)) (fun e => some (fAm_x0_1 t10 t11 e)) := by kernel_rfl
theorem fAm_l0 (t10 : List Sc) (t11 : Int) : ∀ s r, loopL (fAm_r0 t10 t11) s = some r → LS Tryz.prog fAm_F (bodyOf Tryz.f37 0) (fAm_fr0 t10 t11 s) (enX (fAm_x0_1 t10 t11) (fAm_x0_2 t10 t11) r) :=
  loop_true E0ok fAm_Mt (noL_true) fAm_o (fun _ h => by cases h) (fun _ h => by cases h) (fun _ h => by cases h) (fun _ h => by cases h) (fun s => (fAm_e0 t10 t11 s).trans (fAm_p0 t10 t11 s _ _ (fun e => some (fAm_x0_2 t10 t11 e))))
def fAm_t0 (σ : List AV) : Option (Bool × Bool × (X × List AV) × (X × List AV)) := match dec fAm_h0 σ with | some [.i x1, .i sum5, .i unit6, .l t10, .i t11, .i t12] => some (isOne (loopL (fAm_r0 t10 t11) (x1, sum5, unit6, t12)), true, fAm_x0_1 t10 t11 (getOne 0 (loopL (fAm_r0 t10 t11) (x1, sum5, unit6, t12))), (.ret, [])) | _ => none
theorem fAm_tt0 : TTrue Tryz.prog fAm_F Tryz.f37 0 (fAm_t0) := by
  intro σ p r r' h
  unfold fAm_t0 at h
  split at h
  · rename_i hd
    rw [← dec_enc hd]
    exact row1 (fAm_l0 _ _ _) h
  · cases h
theorem fAm_p {R : Type} (g0 : List Sc) (x1 : Int) (kR : Int → Option R) : fAm_k g0 x1 kR = (fAm_k g0 x1 some).bind kR := by
  simp only [fAm_k, bl1B, someB]
theorem fAm_e (g0 : List Sc) (x1 : Int) : runFn E0 fAm_M H0 fAm_F (asL (addL 0 (fAm_t0) (noL))) Tryz.f37 (fAm_a g0 x1) (fAm_i g0 x1) = fAm_k g0 x1 (fun r => some (fAm_en r)) := by kernel_rfl
theorem fAm_ok (g0 : List Sc) (x1 r : Int) (h : fAm g0 x1 = some r) : CS Tryz.prog 37 (fAm_a g0 x1) (fAm_i g0 x1) (fAm_en r).1 (fAm_en r).2 :=
  fn_true (Gk := fun k => fAm_k g0 x1 k) (en := fAm_en) Tryz.func37 E0ok fAm_Mt (addL_true (fAm_tt0) (noL_true)) fAm_o (fAm_e g0 x1) (fAm_p g0 x1) h
def fAm_c : CRow := fun args inh => match dec2 [.p .gr, .p (.int .i64)] [] args inh with | some ([.l g0, .i x1], []) => some ((fAm g0 x1).isSome, (fAm_en ((fAm g0 x1).getD 0)).1, (fAm_en ((fAm g0 x1).getD 0)).2) | _ => none
theorem fAm_cc : CTrue Tryz.prog 37 fAm_c := by
  intro args inh rs out h
  unfold fAm_c at h
  split at h
  · rename_i hd
    obtain ⟨h1, h2⟩ := dec2_enc hd
    rw [← h1, ← h2]
    exact rowC (fAm_ok _ _) h
  · cases h
def fBs_F : Fi := { nv := 0, nc := 0, m := 0, vt := [], kl := [], sk := [], mvs := [], fz := [] }
def fBs_a (l0 : List Sc) : List AV := enc [.p .sl] [.l l0]
def fBs_i (l0 : List Sc) : List AV := enc [] []
def fBs_en (r : List Sc) : List AV × List AV := (enc [.p (.al 0)] [], enc [.own 3] [.l r])
def fBs_M : Calling := noC
theorem fBs_Mt : CallOk Tryz.prog (fBs_M) := noC_true
theorem fBs_o : loopsOnce Tryz.f39 = true := by kernel_rfl
theorem fBs_p {R : Type} (l0 : List Sc) (kR : List Sc → Option R) : fBs_k l0 kR = (fBs_k l0 some).bind kR := by
  simp only [fBs_k, brB, someB, noneB]
theorem fBs_e (l0 : List Sc) : runFn E0 fBs_M H0 fBs_F (asL (noL)) Tryz.f39 (fBs_a l0) (fBs_i l0) = fBs_k l0 (fun r => some (fBs_en r)) := by kernel_rfl
theorem fBs_ok (l0 r : List Sc) (h : fBs l0 = some r) : CS Tryz.prog 39 (fBs_a l0) (fBs_i l0) (fBs_en r).1 (fBs_en r).2 :=
  fn_true (Gk := fun k => fBs_k l0 k) (en := fBs_en) Tryz.func39 E0ok fBs_Mt (noL_true) fBs_o (fBs_e l0) (fBs_p l0) h
def fBs_c : CRow := fun args inh => match dec2 [.p .sl] [] args inh with | some ([.l l0], []) => some ((fBs l0).isSome, (fBs_en ((fBs l0).getD [])).1, (fBs_en ((fBs l0).getD [])).2) | _ => none
theorem fBs_cc : CTrue Tryz.prog 39 fBs_c := by
  intro args inh rs out h
  unfold fBs_c at h
  split at h
  · rename_i hd
    obtain ⟨h1, h2⟩ := dec2_enc hd
    rw [← h1, ← h2]
    exact rowC (fBs_ok _) h
  · cases h
def fBg_F : Fi := { nv := 0, nc := 0, m := 0, vt := [], kl := [], sk := [], mvs := [], fz := [] }
def fBg_a (g0 : List Sc) (x1 : Int) : List AV := enc [.p .gr, .p (.int .i64)] [.l g0, .i x1]
def fBg_i (g0 : List Sc) (x1 : Int) : List AV := enc [] []
def fBg_en (r : Bool) : List AV × List AV := (enc [.p .boo] [.b r], enc [] [])
def fBg_M : Calling := addC 34 fCa_c (addC 66 fCm_c (noC))
theorem fBg_Mt : CallOk Tryz.prog (fBg_M) := addC_true fCa_cc (addC_true fCm_cc (noC_true))
theorem fBg_o : loopsOnce Tryz.f80 = true := by kernel_rfl
theorem fBg_p {R : Type} (g0 : List Sc) (x1 : Int) (kR : Bool → Option R) : fBg_k g0 x1 kR = (fBg_k g0 x1 some).bind kR := by
  simp only [fBg_k, boB, someB]
theorem fBg_e (g0 : List Sc) (x1 : Int) : runFn E0 fBg_M H0 fBg_F (asL (noL)) Tryz.f80 (fBg_a g0 x1) (fBg_i g0 x1) = fBg_k g0 x1 (fun r => some (fBg_en r)) := by kernel_rfl
theorem fBg_ok (g0 : List Sc) (x1 : Int) (r : Bool) (h : fBg g0 x1 = some r) : CS Tryz.prog 80 (fBg_a g0 x1) (fBg_i g0 x1) (fBg_en r).1 (fBg_en r).2 :=
  fn_true (Gk := fun k => fBg_k g0 x1 k) (en := fBg_en) Tryz.func80 E0ok fBg_Mt (noL_true) fBg_o (fBg_e g0 x1) (fBg_p g0 x1) h
def fBg_c : CRow := fun args inh => match dec2 [.p .gr, .p (.int .i64)] [] args inh with | some ([.l g0, .i x1], []) => some ((fBg g0 x1).isSome, (fBg_en ((fBg g0 x1).getD false)).1, (fBg_en ((fBg g0 x1).getD false)).2) | _ => none
theorem fBg_cc : CTrue Tryz.prog 80 fBg_c := by
  intro args inh rs out h
  unfold fBg_c at h
  split at h
  · rename_i hd
    obtain ⟨h1, h2⟩ := dec2_enc hd
    rw [← h1, ← h2]
    exact rowC (fBg_ok _ _) h
  · cases h
def fBx_F : Fi := { nv := 0, nc := 0, m := 0, vt := [], kl := [], sk := [], mvs := [], fz := [] }
def fBx_a (x0 : Int) : List AV := enc [.p (.int .i64)] [.i x0]
def fBx_i (x0 : Int) : List AV := enc [] []
def fBx_en (r : Bool) : List AV × List AV := (enc [.p .boo] [.b r], enc [] [])
def fBx_M : Calling := noC
theorem fBx_Mt : CallOk Tryz.prog (fBx_M) := noC_true
theorem fBx_o : loopsOnce Tryz.f93 = true := by kernel_rfl
theorem fBx_p {R : Type} (x0 : Int) (kR : Bool → Option R) : fBx_k x0 kR = (fBx_k x0 some).bind kR := by
  simp only [fBx_k, someB]
theorem fBx_e (x0 : Int) : runFn E0 fBx_M H0 fBx_F (asL (noL)) Tryz.f93 (fBx_a x0) (fBx_i x0) = fBx_k x0 (fun r => some (fBx_en r)) := by kernel_rfl
theorem fBx_ok (x0 : Int) (r : Bool) (h : fBx x0 = some r) : CS Tryz.prog 93 (fBx_a x0) (fBx_i x0) (fBx_en r).1 (fBx_en r).2 :=
  fn_true (Gk := fun k => fBx_k x0 k) (en := fBx_en) Tryz.func93 E0ok fBx_Mt (noL_true) fBx_o (fBx_e x0) (fBx_p x0) h
def fBx_c : CRow := fun args inh => match dec2 [.p (.int .i64)] [] args inh with | some ([.i x0], []) => some ((fBx x0).isSome, (fBx_en ((fBx x0).getD false)).1, (fBx_en ((fBx x0).getD false)).2) | _ => none
theorem fBx_cc : CTrue Tryz.prog 93 fBx_c := by
  intro args inh rs out h
  unfold fBx_c at h
  split at h
  · rename_i hd
    obtain ⟨h1, h2⟩ := dec2_enc hd
    rw [← h1, ← h2]
    exact rowC (fBx_ok _) h
  · cases h
def fCj_F : Fi := { nv := 0, nc := 0, m := 0, vt := [], kl := [], sk := [], mvs := [], fz := [] }
def fCj_a (x0 y1 : Int) : List AV := enc [.p (.int .i64), .p (.int .i64)] [.i x0, .i y1]
def fCj_i (x0 y1 : Int) : List AV := enc [] []
def fCj_en (r : Bool) : List AV × List AV := (enc [.p .boo] [.b r], enc [] [])
def fCj_M : Calling := addC 93 fBx_c (noC)
theorem fCj_Mt : CallOk Tryz.prog (fCj_M) := addC_true fBx_cc (noC_true)
theorem fCj_o : loopsOnce Tryz.f101 = true := by kernel_rfl
theorem fCj_p {R : Type} (x0 y1 : Int) (kR : Bool → Option R) : fCj_k x0 y1 kR = (fCj_k x0 y1 some).bind kR := by
  simp only [fCj_k, brB, boB, someB]
theorem fCj_e (x0 y1 : Int) : runFn E0 fCj_M H0 fCj_F (asL (noL)) Tryz.f101 (fCj_a x0 y1) (fCj_i x0 y1) = fCj_k x0 y1 (fun r => some (fCj_en r)) := by kernel_rfl
theorem fCj_ok (x0 y1 : Int) (r : Bool) (h : fCj x0 y1 = some r) : CS Tryz.prog 101 (fCj_a x0 y1) (fCj_i x0 y1) (fCj_en r).1 (fCj_en r).2 :=
  fn_true (Gk := fun k => fCj_k x0 y1 k) (en := fCj_en) Tryz.func101 E0ok fCj_Mt (noL_true) fCj_o (fCj_e x0 y1) (fCj_p x0 y1) h
def fCj_c : CRow := fun args inh => match dec2 [.p (.int .i64), .p (.int .i64)] [] args inh with | some ([.i x0, .i y1], []) => some ((fCj x0 y1).isSome, (fCj_en ((fCj x0 y1).getD false)).1, (fCj_en ((fCj x0 y1).getD false)).2) | _ => none
theorem fCj_cc : CTrue Tryz.prog 101 fCj_c := by
  intro args inh rs out h
  unfold fCj_c at h
  split at h
  · rename_i hd
    obtain ⟨h1, h2⟩ := dec2_enc hd
    rw [← h1, ← h2]
    exact rowC (fCj_ok _ _) h
  · cases h
def fAj_F : Fi := { nv := 0, nc := 0, m := 0, vt := [], kl := [(0, ([1, 2, 4, 5, 6, 7, 8, 9, 10, 11, 12, 13, 14, 15, 16, 17, 18, 19, 20], [0, 1, 2, 3, 4, 5, 6, 7, 8, 9, 10, 11, 12, 13, 14, 15, 16, 17, 18, 19, 20], [0, 1, 3, 4, 5, 6, 7, 8, 9, 10, 11, 12, 13, 14, 15, 16, 17, 18, 19, 20]))], sk := [], mvs := [], fz := [] }
def fAj_a (x0 : List Sc) : List AV := enc [.p .sl] [.l x0]
def fAj_i (x0 : List Sc) : List AV := enc [] []
def fAj_en (r : Bool) : List AV × List AV := (enc [.p .boo] [.b r], enc [] [])
def fAj_M : Calling := addC 101 fCj_c (noC)
theorem fAj_Mt : CallOk Tryz.prog (fAj_M) := addC_true fCj_cc (noC_true)
theorem fAj_o : loopsOnce Tryz.f81 = true := by kernel_rfl
def fAj_h0 : List Sh := [.p .sl, .u, .u, .p (.int .i64), .u, .u, .u, .u, .u, .u, .u, .u, .u, .u, .u, .u, .u, .u, .u, .u, .u]
def fAj_fr0 (x0 : List Sc) (s : Int) : List AV := enc fAj_h0 [.l x0, .i s]
def fAj_g0_1 : List Sh := [.u, .u, .u, .u, .u, .u, .u, .u, .u, .u, .u, .u, .u, .u, .u, .u, .u, .u, .u, .u, .u]
def fAj_x0_1 (x0 : List Sc) (e : Unit) : X × List AV := (.out 0, enc fAj_g0_1 [])
def fAj_g0_2 : List Sh := [.u, .u, .p .boo, .u, .u, .u, .u, .u, .u, .u, .u, .u, .u, .u, .u, .u, .u, .u, .u, .u, .u]
def fAj_x0_2 (x0 : List Sc) (e : Unit) : X × List AV := (.ret, enc fAj_g0_2 [.b false])
theorem fAj_p0 {R : Type} (x0 : List Sc) (s : Int) (kN : Int → Option R) (kA kB : Unit → Option R) : fAj_k0 x0 s kN kA kB = (fAj_r0 x0 s).bind (Ro.el kN kA kB) := by
  simp only [fAj_k0, fAj_r0, brB, boB, someB, noneB, Ro.el]
theorem fAj_e0 (x0 : List Sc) (s : Int) : EC E0 fAj_M H0 fAj_F (asL (noL)) 0 (bodyOf Tryz.f81 0) (fAj_fr0 x0 s) (done (klOf fAj_F 0)) = fAj_k0 x0 s (fun s => some (.norm, fAj_fr0 x0 s)) (fun e => some (fAj_x0_1 x0 e)) (fun e => some (fAj_x0_2 x0 e)) := by kernel_rfl
theorem fAj_l0 (x0 : List Sc) : ∀ s r, loopL (fAj_r0 x0) s = some r → LS Tryz.prog fAj_F (bodyOf Tryz.f81 0) (fAj_fr0 x0 s) (enX (fAj_x0_1 x0) (fAj_x0_2 x0) r) :=
  loop_true E0ok fAj_Mt (noL_true) fAj_o (fun _ h => by cases h) (fun _ h => by cases h) (fun _ h => by cases h) (fun _ h => by cases h) (fun s => (fAj_e0 x0 s).trans (fAj_p0 x0 s _ _ (fun e => some (fAj_x0_2 x0 e))))
def fAj_t0 (σ : List AV) : Option (Bool × Bool × (X × List AV) × (X × List AV)) := match dec fAj_h0 σ with | some [.l x0, .i i3] => some ((loopL (fAj_r0 x0) i3).isSome, isOne (loopL (fAj_r0 x0) i3), fAj_x0_1 x0 (getOne () (loopL (fAj_r0 x0) i3)), fAj_x0_2 x0 (getTwo () (loopL (fAj_r0 x0) i3))) | _ => none
theorem fAj_tt0 : TTrue Tryz.prog fAj_F Tryz.f81 0 (fAj_t0) := by
  intro σ p r r' h
  unfold fAj_t0 at h
  split at h
  · rename_i hd
    rw [← dec_enc hd]
    exact row2 (fAj_l0 _ _) h
  · cases h
theorem fAj_p {R : Type} (x0 : List Sc) (kR : Bool → Option R) : fAj_k x0 kR = (fAj_k x0 some).bind kR := by
  simp only [fAj_k, blB, someB]
theorem fAj_e (x0 : List Sc) : runFn E0 fAj_M H0 fAj_F (asL (addL 0 (fAj_t0) (noL))) Tryz.f81 (fAj_a x0) (fAj_i x0) = fAj_k x0 (fun r => some (fAj_en r)) := by kernel_rfl
theorem fAj_ok (x0 : List Sc) (r : Bool) (h : fAj x0 = some r) : CS Tryz.prog 81 (fAj_a x0) (fAj_i x0) (fAj_en r).1 (fAj_en r).2 :=
  fn_true (Gk := fun k => fAj_k x0 k) (en := fAj_en) Tryz.func81 E0ok fAj_Mt (addL_true (fAj_tt0) (noL_true)) fAj_o (fAj_e x0) (fAj_p x0) h
def fAj_c : CRow := fun args inh => match dec2 [.p .sl] [] args inh with | some ([.l x0], []) => some ((fAj x0).isSome, (fAj_en ((fAj x0).getD false)).1, (fAj_en ((fAj x0).getD false)).2) | _ => none
theorem fAj_cc : CTrue Tryz.prog 81 fAj_c := by
  intro args inh rs out h
  unfold fAj_c at h
  split at h
  · rename_i hd
    obtain ⟨h1, h2⟩ := dec2_enc hd
    rw [← h1, ← h2]
    exact rowC (fAj_ok _) h
  · cases h
def fAw_F : Fi := { nv := 0, nc := 0, m := 0, vt := [], kl := [(0, ([0, 3, 4, 5, 6, 10, 11, 12, 13, 14, 15, 16, 17, 18, 19, 20, 21, 22, 23, 24, 25, 26, 27, 28], [0, 3, 4, 5, 6, 7, 8, 9, 10, 11, 12, 13, 14, 15, 16, 17, 18, 19, 20, 21, 22, 23, 24, 25, 26, 27, 28], [0, 1, 2, 3, 5, 6, 7, 8, 9, 10, 11, 12, 13, 14, 15, 16, 17, 18, 19, 20, 21, 22, 23, 24, 25, 26, 27, 28]))], sk := [], mvs := [], fz := [] }
def fAw_a (g0 l1 : List Sc) : List AV := enc [.p .gr, .p .sl] [.l g0, .l l1]
def fAw_i (g0 l1 : List Sc) : List AV := enc [] []
def fAw_en (r : Bool) : List AV × List AV := (enc [.p .boo] [.b r], enc [] [])
def fAw_M : Calling := addC 80 fBg_c (addC 33 fBz_c (addC 81 fAj_c (noC)))
theorem fAw_Mt : CallOk Tryz.prog (fAw_M) := addC_true fBg_cc (addC_true fBz_cc (addC_true fAj_cc (noC_true)))
theorem fAw_o : loopsOnce Tryz.f63 = true := by kernel_rfl
def fAw_h0 : List Sh := [.u, .p .sl, .p .el, .u, .u, .u, .u, .p .sl, .p (.int .i64), .p (.int .i64), .u, .u, .u, .u, .u, .u, .u, .u, .u, .u, .u, .u, .u, .u, .u, .u, .u, .u, .u]
def fAw_fr0 (l1 g2 t7 : List Sc) (t8 s : Int) : List AV := enc fAw_h0 [.l l1, .l g2, .l t7, .i t8, .i s]
def fAw_g0_1 : List Sh := [.u, .p .sl, .p .el, .u, .u, .u, .u, .u, .u, .u, .u, .u, .u, .u, .u, .u, .u, .u, .u, .u, .u, .u, .u, .u, .u, .u, .u, .u, .u]
def fAw_x0_1 (l1 g2 t7 : List Sc) (t8 : Int) (e : Unit) : X × List AV := (.out 0, enc fAw_g0_1 [.l l1, .l g2])
def fAw_g0_2 : List Sh := [.u, .u, .u, .u, .p .boo, .u, .u, .u, .u, .u, .u, .u, .u, .u, .u, .u, .u, .u, .u, .u, .u, .u, .u, .u, .u, .u, .u, .u, .u]
def fAw_x0_2 (l1 g2 t7 : List Sc) (t8 : Int) (e : Unit) : X × List AV := (.ret, enc fAw_g0_2 [.b false])
theorem fAw_p0 {R : Type} (l1 g2 t7 : List Sc) (t8 s : Int) (kN : Int → Option R) (kA kB : Unit → Option R) : fAw_k0 l1 g2 t7 t8 s kN kA kB = (fAw_r0 l1 g2 t7 t8 s).bind (Ro.el kN kA kB) := by
  simp only [fAw_k0, fAw_r0, brB, boB, someB, noneB, Ro.el]
theorem fAw_e0 (l1 g2 t7 : List Sc) (t8 s : Int) : EC E0 fAw_M H0 fAw_F (asL (noL)) 0 (bodyOf Tryz.f63 0) (fAw_fr0 l1 g2 t7 t8 s) (done (klOf fAw_F 0)) = fAw_k0 l1 g2 t7 t8 s (fun s => some (.norm, fAw_fr0 l1 g2 t7 t8 s)) (fun e => some (fAw_x0_1 l1 g2 t7 t8 e)) (fun e => some (fAw_x0_2 l1 g2 t7 t8 e)) := by kernel_rfl
theorem fAw_l0 (l1 g2 t7 : List Sc) (t8 : Int) : ∀ s r, loopL (fAw_r0 l1 g2 t7 t8) s = some r → LS Tryz.prog fAw_F (bodyOf Tryz.f63 0) (fAw_fr0 l1 g2 t7 t8 s) (enX (fAw_x0_1 l1 g2 t7 t8) (fAw_x0_2 l1 g2 t7 t8) r) :=
  loop_true E0ok fAw_Mt (noL_true) fAw_o (fun _ h => by cases h) (fun _ h => by cases h) (fun _ h => by cases h) (fun _ h => by cases h) (fun s => (fAw_e0 l1 g2 t7 t8 s).trans (fAw_p0 l1 g2 t7 t8 s _ _ (fun e => some (fAw_x0_2 l1 g2 t7 t8 e))))
def fAw_t0 (σ : List AV) : Option (Bool × Bool × (X × List AV) × (X × List AV)) := match dec fAw_h0 σ with | some [.l l1, .l g2, .l t7, .i t8, .i t9] => some ((loopL (fAw_r0 l1 g2 t7 t8) t9).isSome, isOne (loopL (fAw_r0 l1 g2 t7 t8) t9), fAw_x0_1 l1 g2 t7 t8 (getOne () (loopL (fAw_r0 l1 g2 t7 t8) t9)), fAw_x0_2 l1 g2 t7 t8 (getTwo () (loopL (fAw_r0 l1 g2 t7 t8) t9))) | _ => none
theorem fAw_tt0 : TTrue Tryz.prog fAw_F Tryz.f63 0 (fAw_t0) := by
  intro σ p r r' h
  unfold fAw_t0 at h
  split at h
  · rename_i hd
    rw [← dec_enc hd]
    exact row2 (fAw_l0 _ _ _ _ _) h
  · cases h
theorem fAw_p {R : Type} (g0 l1 : List Sc) (kR : Bool → Option R) : fAw_k g0 l1 kR = (fAw_k g0 l1 some).bind kR := by
  simp only [fAw_k, brB, boB, blB, someB]
theorem fAw_e (g0 l1 : List Sc) : runFn E0 fAw_M H0 fAw_F (asL (addL 0 (fAw_t0) (noL))) Tryz.f63 (fAw_a g0 l1) (fAw_i g0 l1) = fAw_k g0 l1 (fun r => some (fAw_en r)) := by kernel_rfl
theorem fAw_ok (g0 l1 : List Sc) (r : Bool) (h : fAw g0 l1 = some r) : CS Tryz.prog 63 (fAw_a g0 l1) (fAw_i g0 l1) (fAw_en r).1 (fAw_en r).2 :=
  fn_true (Gk := fun k => fAw_k g0 l1 k) (en := fAw_en) Tryz.func63 E0ok fAw_Mt (addL_true (fAw_tt0) (noL_true)) fAw_o (fAw_e g0 l1) (fAw_p g0 l1) h
def fAw_c : CRow := fun args inh => match dec2 [.p .gr, .p .sl] [] args inh with | some ([.l g0, .l l1], []) => some ((fAw g0 l1).isSome, (fAw_en ((fAw g0 l1).getD false)).1, (fAw_en ((fAw g0 l1).getD false)).2) | _ => none
theorem fAw_cc : CTrue Tryz.prog 63 fAw_c := by
  intro args inh rs out h
  unfold fAw_c at h
  split at h
  · rename_i hd
    obtain ⟨h1, h2⟩ := dec2_enc hd
    rw [← h1, ← h2]
    exact rowC (fAw_ok _ _) h
  · cases h
def fBh_F : Fi := { nv := 0, nc := 0, m := 0, vt := [], kl := [], sk := [], mvs := [], fz := [] }
def fBh_a (g0 l1 : List Sc) : List AV := enc [.p .gr, .p .sl] [.l g0, .l l1]
def fBh_i (g0 l1 : List Sc) : List AV := enc [] []
def fBh_en (r : Bool) : List AV × List AV := (enc [.p .boo] [.b r], enc [] [])
def fBh_M : Calling := addC 63 fAw_c (addC 38 fAs_c (noC))
theorem fBh_Mt : CallOk Tryz.prog (fBh_M) := addC_true fAw_cc (addC_true fAs_cc (noC_true))
theorem fBh_o : loopsOnce Tryz.f26 = true := by kernel_rfl
theorem fBh_p {R : Type} (g0 l1 : List Sc) (kR : Bool → Option R) : fBh_k g0 l1 kR = (fBh_k g0 l1 some).bind kR := by
  simp only [fBh_k, brB, boB, someB]
theorem fBh_e (g0 l1 : List Sc) : runFn E0 fBh_M H0 fBh_F (asL (noL)) Tryz.f26 (fBh_a g0 l1) (fBh_i g0 l1) = fBh_k g0 l1 (fun r => some (fBh_en r)) := by kernel_rfl
theorem fBh_ok (g0 l1 : List Sc) (r : Bool) (h : fBh g0 l1 = some r) : CS Tryz.prog 26 (fBh_a g0 l1) (fBh_i g0 l1) (fBh_en r).1 (fBh_en r).2 :=
  fn_true (Gk := fun k => fBh_k g0 l1 k) (en := fBh_en) Tryz.func26 E0ok fBh_Mt (noL_true) fBh_o (fBh_e g0 l1) (fBh_p g0 l1) h
def fBh_c : CRow := fun args inh => match dec2 [.p .gr, .p .sl] [] args inh with | some ([.l g0, .l l1], []) => some ((fBh g0 l1).isSome, (fBh_en ((fBh g0 l1).getD false)).1, (fBh_en ((fBh g0 l1).getD false)).2) | _ => none
theorem fBh_cc : CTrue Tryz.prog 26 fBh_c := by
  intro args inh rs out h
  unfold fBh_c at h
  split at h
  · rename_i hd
    obtain ⟨h1, h2⟩ := dec2_enc hd
    rw [← h1, ← h2]
    exact rowC (fBh_ok _ _) h
  · cases h
def fCz_F : Fi := { nv := 0, nc := 0, m := 0, vt := [], kl := [], sk := [], mvs := [], fz := [] }
def fCz_a (a0 x1 : Int) : List AV := enc [.p (.int .i64), .p (.int .i64)] [.i a0, .i x1]
def fCz_i (a0 x1 : Int) : List AV := enc [] []
def fCz_en (r : Bool) : List AV × List AV := (enc [.p .boo] [.b r], enc [] [])
def fCz_M : Calling := noC
theorem fCz_Mt : CallOk Tryz.prog (fCz_M) := noC_true
theorem fCz_o : loopsOnce Tryz.f68 = true := by kernel_rfl
theorem fCz_p {R : Type} (a0 x1 : Int) (kR : Bool → Option R) : fCz_k a0 x1 kR = (fCz_k a0 x1 some).bind kR := by
  simp only [fCz_k, brB, someB, noneB]
theorem fCz_e (a0 x1 : Int) : runFn E0 fCz_M H0 fCz_F (asL (noL)) Tryz.f68 (fCz_a a0 x1) (fCz_i a0 x1) = fCz_k a0 x1 (fun r => some (fCz_en r)) := by kernel_rfl
theorem fCz_ok (a0 x1 : Int) (r : Bool) (h : fCz a0 x1 = some r) : CS Tryz.prog 68 (fCz_a a0 x1) (fCz_i a0 x1) (fCz_en r).1 (fCz_en r).2 :=
  fn_true (Gk := fun k => fCz_k a0 x1 k) (en := fCz_en) Tryz.func68 E0ok fCz_Mt (noL_true) fCz_o (fCz_e a0 x1) (fCz_p a0 x1) h
def fCz_c : CRow := fun args inh => match dec2 [.p (.int .i64), .p (.int .i64)] [] args inh with | some ([.i a0, .i x1], []) => some ((fCz a0 x1).isSome, (fCz_en ((fCz a0 x1).getD false)).1, (fCz_en ((fCz a0 x1).getD false)).2) | _ => none
theorem fCz_cc : CTrue Tryz.prog 68 fCz_c := by
  intro args inh rs out h
  unfold fCz_c at h
  split at h
  · rename_i hd
    obtain ⟨h1, h2⟩ := dec2_enc hd
    rw [← h1, ← h2]
    exact rowC (fCz_ok _ _) h
  · cases h
def fCt_F : Fi := { nv := 0, nc := 0, m := 0, vt := [], kl := [(0, ([0, 2, 3, 4, 6, 7, 8, 12, 13, 14, 15, 16, 17, 18, 19, 20, 21, 22, 23, 24], [0, 1, 2, 3, 4, 6, 7, 8, 9, 10, 11, 12, 13, 14, 15, 16, 17, 18, 19, 20, 21, 22, 23, 24], [0, 1, 2, 3, 5, 6, 7, 8, 9, 10, 11, 12, 13, 14, 15, 16, 17, 18, 19, 20, 21, 22, 23, 24]))], sk := [], mvs := [], fz := [] }
def fCt_a (l0 : List Sc) (mask1 : Int) : List AV := enc [.p .sl, .p (.int .i64)] [.l l0, .i mask1]
def fCt_i (l0 : List Sc) (mask1 : Int) : List AV := enc [] []
def fCt_en (r : List Sc) : List AV × List AV := (enc [.p (.al 0)] [], enc [.own 3] [.l r])
def fCt_M : Calling := addC 68 fCz_c (noC)
theorem fCt_Mt : CallOk Tryz.prog (fCt_M) := addC_true fCz_cc (noC_true)
theorem fCt_o : loopsOnce Tryz.f47 = true := by kernel_rfl
def fCt_h0 : List Sh := [.u, .p (.int .i64), .u, .u, .u, .own 3, .u, .u, .u, .p .sl, .p (.int .i64), .p (.int .i64), .u, .u, .u, .u, .u, .u, .u, .u, .u, .u, .u, .u, .u]
def fCt_fr0 (mask1 : Int) (t9 : List Sc) (t10 : Int) (s : List Sc × Int) : List AV := enc fCt_h0 [.i mask1, .l s.1, .l t9, .i t10, .i s.2]
def fCt_g0_1 : List Sh := [.u, .u, .u, .u, .u, .own 3, .u, .u, .u, .u, .u, .u, .u, .u, .u, .u, .u, .u, .u, .u, .u, .u, .u, .u, .u]
def fCt_x0_1 (mask1 : Int) (t9 : List Sc) (t10 : Int) (e : List Sc) : X × List AV := (.out 0, enc fCt_g0_1 [.l e])
def fCt_x0_2 (mask1 : Int) (t9 : List Sc) (t10 : Int) (_e : Unit) : X × List AV := (.ret, [])
theorem fCt_p0 {R : Type} (mask1 : Int) (t9 : List Sc) (t10 : Int) (s : List Sc × Int) (kN : List Sc × Int → Option R) (kA : List Sc → Option R) (kB : Unit → Option R) : fCt_k0 mask1 t9 t10 s.1 s.2 kN kA = (fCt_r0 mask1 t9 t10 s).bind (Ro.el kN kA kB) := by
  simp only [fCt_k0, fCt_r0, brB, boB, someB, noneB, Ro.el]
theorem fCt_e0 (mask1 : Int) (t9 : List Sc) (t10 : Int) (s : List Sc × Int) : EC E0 fCt_M H0 fCt_F (asL (noL)) 0 (bodyOf Tryz.f47 0) (fCt_fr0 mask1 t9 t10 s) (done (klOf fCt_F 0)) = fCt_k0 mask1 t9 t10 s.1 s.2 (fun s => some (.norm, fCt_fr0 mask1 t9 t10 s)) (fun e => some (fCt_x0_1 mask1 t9 t10 e)) := by kernel_rfl
theorem fCt_l0 (mask1 : Int) (t9 : List Sc) (t10 : Int) : ∀ s r, loopL (fCt_r0 mask1 t9 t10) s = some r → LS Tryz.prog fCt_F (bodyOf Tryz.f47 0) (fCt_fr0 mask1 t9 t10 s) (enX (fCt_x0_1 mask1 t9 t10) (fCt_x0_2 mask1 t9 t10) r) :=
  loop_true E0ok fCt_Mt (noL_true) fCt_o (fun _ h => by cases h) (fun _ h => by cases h) (fun _ h => by cases h) (fun _ h => by cases h) (fun s => (fCt_e0 mask1 t9 t10 s).trans (fCt_p0 mask1 t9 t10 s _ _ (fun e => some (fCt_x0_2 mask1 t9 t10 e))))
def fCt_t0 (σ : List AV) : Option (Bool × Bool × (X × List AV) × (X × List AV)) := match dec fCt_h0 σ with | some [.i mask1, .l out5, .l t9, .i t10, .i t11] => some (isOne (loopL (fCt_r0 mask1 t9 t10) (out5, t11)), true, fCt_x0_1 mask1 t9 t10 (getOne [] (loopL (fCt_r0 mask1 t9 t10) (out5, t11))), (.ret, [])) | _ => none
theorem fCt_tt0 : TTrue Tryz.prog fCt_F Tryz.f47 0 (fCt_t0) := by
  intro σ p r r' h
  unfold fCt_t0 at h
  split at h
  · rename_i hd
    rw [← dec_enc hd]
    exact row1 (fCt_l0 _ _ _ _) h
  · cases h
theorem fCt_p {R : Type} (l0 : List Sc) (mask1 : Int) (kR : List Sc → Option R) : fCt_k l0 mask1 kR = (fCt_k l0 mask1 some).bind kR := by
  simp only [fCt_k, bl1B, someB]
theorem fCt_e (l0 : List Sc) (mask1 : Int) : runFn E0 fCt_M H0 fCt_F (asL (addL 0 (fCt_t0) (noL))) Tryz.f47 (fCt_a l0 mask1) (fCt_i l0 mask1) = fCt_k l0 mask1 (fun r => some (fCt_en r)) := by kernel_rfl
theorem fCt_ok (l0 : List Sc) (mask1 : Int) (r : List Sc) (h : fCt l0 mask1 = some r) : CS Tryz.prog 47 (fCt_a l0 mask1) (fCt_i l0 mask1) (fCt_en r).1 (fCt_en r).2 :=
  fn_true (Gk := fun k => fCt_k l0 mask1 k) (en := fCt_en) Tryz.func47 E0ok fCt_Mt (addL_true (fCt_tt0) (noL_true)) fCt_o (fCt_e l0 mask1) (fCt_p l0 mask1) h
def fCt_c : CRow := fun args inh => match dec2 [.p .sl, .p (.int .i64)] [] args inh with | some ([.l l0, .i mask1], []) => some ((fCt l0 mask1).isSome, (fCt_en ((fCt l0 mask1).getD [])).1, (fCt_en ((fCt l0 mask1).getD [])).2) | _ => none
theorem fCt_cc : CTrue Tryz.prog 47 fCt_c := by
  intro args inh rs out h
  unfold fCt_c at h
  split at h
  · rename_i hd
    obtain ⟨h1, h2⟩ := dec2_enc hd
    rw [← h1, ← h2]
    exact rowC (fCt_ok _ _) h
  · cases h
def fCk_F : Fi := { nv := 0, nc := 0, m := 0, vt := [], kl := [(0, ([0, 3, 4, 6, 7, 8, 9, 10, 11, 12, 13, 14, 15, 16, 17, 18, 19, 20, 21, 22, 23, 24, 25, 26, 27, 28], [0, 1, 2, 3, 4, 5, 6, 7, 8, 9, 10, 11, 12, 13, 14, 15, 16, 17, 18, 19, 20, 21, 22, 23, 24, 25, 26, 27, 28], [0, 1, 2, 3, 5, 6, 7, 8, 9, 10, 11, 12, 13, 14, 15, 16, 17, 18, 19, 20, 21, 22, 23, 24, 25, 26, 27, 28]))], sk := [], mvs := [], fz := [] }
def fCk_a (g0 l1 : List Sc) : List AV := enc [.p .gr, .p .sl] [.l g0, .l l1]
def fCk_i (g0 l1 : List Sc) : List AV := enc [] []
def fCk_en (r : Bool) : List AV × List AV := (enc [.p .boo] [.b r], enc [] [])
def fCk_M : Calling := addC 26 fBh_c (addC 47 fCt_c (addC 38 fAs_c (noC)))
theorem fCk_Mt : CallOk Tryz.prog (fCk_M) := addC_true fBh_cc (addC_true fCt_cc (addC_true fAs_cc (noC_true)))
theorem fCk_o : loopsOnce Tryz.f9 = true := by kernel_rfl
def fCk_h0 : List Sh := [.u, .p .sl, .p .el, .u, .u, .p (.int .i64), .u, .u, .u, .u, .u, .u, .u, .u, .u, .u, .u, .u, .u, .u, .u, .u, .u, .u, .u, .u, .u, .u, .u]
def fCk_fr0 (l1 g2 : List Sc) (s : Int) : List AV := enc fCk_h0 [.l l1, .l g2, .i s]
def fCk_g0_1 : List Sh := [.u, .u, .u, .u, .u, .u, .u, .u, .u, .u, .u, .u, .u, .u, .u, .u, .u, .u, .u, .u, .u, .u, .u, .u, .u, .u, .u, .u, .u]
def fCk_x0_1 (l1 g2 : List Sc) (e : Unit) : X × List AV := (.out 0, enc fCk_g0_1 [])
def fCk_g0_2 : List Sh := [.u, .u, .u, .u, .p .boo, .u, .u, .u, .u, .u, .u, .u, .u, .u, .u, .u, .u, .u, .u, .u, .u, .u, .u, .u, .u, .u, .u, .u, .u]
def fCk_x0_2 (l1 g2 : List Sc) (e : Unit) : X × List AV := (.ret, enc fCk_g0_2 [.b false])
theorem fCk_p0 {R : Type} (l1 g2 : List Sc) (s : Int) (kN : Int → Option R) (kA kB : Unit → Option R) : fCk_k0 l1 g2 s kN kA kB = (fCk_r0 l1 g2 s).bind (Ro.el kN kA kB) := by
  simp only [fCk_k0, fCk_r0, brB, boB, someB, noneB, Ro.el]
theorem fCk_e0 (l1 g2 : List Sc) (s : Int) : EC E0 fCk_M H0 fCk_F (asL (noL)) 0 (bodyOf Tryz.f9 0) (fCk_fr0 l1 g2 s) (done (klOf fCk_F 0)) = fCk_k0 l1 g2 s (fun s => some (.norm, fCk_fr0 l1 g2 s)) (fun e => some (fCk_x0_1 l1 g2 e)) (fun e => some (fCk_x0_2 l1 g2 e)) := by kernel_rfl
theorem fCk_l0 (l1 g2 : List Sc) : ∀ s r, loopL (fCk_r0 l1 g2) s = some r → LS Tryz.prog fCk_F (bodyOf Tryz.f9 0) (fCk_fr0 l1 g2 s) (enX (fCk_x0_1 l1 g2) (fCk_x0_2 l1 g2) r) :=
  loop_true E0ok fCk_Mt (noL_true) fCk_o (fun _ h => by cases h) (fun _ h => by cases h) (fun _ h => by cases h) (fun _ h => by cases h) (fun s => (fCk_e0 l1 g2 s).trans (fCk_p0 l1 g2 s _ _ (fun e => some (fCk_x0_2 l1 g2 e))))
def fCk_t0 (σ : List AV) : Option (Bool × Bool × (X × List AV) × (X × List AV)) := match dec fCk_h0 σ with | some [.l l1, .l g2, .i mask5] => some ((loopL (fCk_r0 l1 g2) mask5).isSome, isOne (loopL (fCk_r0 l1 g2) mask5), fCk_x0_1 l1 g2 (getOne () (loopL (fCk_r0 l1 g2) mask5)), fCk_x0_2 l1 g2 (getTwo () (loopL (fCk_r0 l1 g2) mask5))) | _ => none
theorem fCk_tt0 : TTrue Tryz.prog fCk_F Tryz.f9 0 (fCk_t0) := by
  intro σ p r r' h
  unfold fCk_t0 at h
  split at h
  · rename_i hd
    rw [← dec_enc hd]
    exact row2 (fCk_l0 _ _ _) h
  · cases h
theorem fCk_p {R : Type} (g0 l1 : List Sc) (kR : Bool → Option R) : fCk_k g0 l1 kR = (fCk_k g0 l1 some).bind kR := by
  simp only [fCk_k, brB, boB, blB, someB]
theorem fCk_e (g0 l1 : List Sc) : runFn E0 fCk_M H0 fCk_F (asL (addL 0 (fCk_t0) (noL))) Tryz.f9 (fCk_a g0 l1) (fCk_i g0 l1) = fCk_k g0 l1 (fun r => some (fCk_en r)) := by kernel_rfl
theorem fCk_ok (g0 l1 : List Sc) (r : Bool) (h : fCk g0 l1 = some r) : CS Tryz.prog 9 (fCk_a g0 l1) (fCk_i g0 l1) (fCk_en r).1 (fCk_en r).2 :=
  fn_true (Gk := fun k => fCk_k g0 l1 k) (en := fCk_en) Tryz.func9 E0ok fCk_Mt (addL_true (fCk_tt0) (noL_true)) fCk_o (fCk_e g0 l1) (fCk_p g0 l1) h
def fCk_c : CRow := fun args inh => match dec2 [.p .gr, .p .sl] [] args inh with | some ([.l g0, .l l1], []) => some ((fCk g0 l1).isSome, (fCk_en ((fCk g0 l1).getD false)).1, (fCk_en ((fCk g0 l1).getD false)).2) | _ => none
theorem fCk_cc : CTrue Tryz.prog 9 fCk_c := by
  intro args inh rs out h
  unfold fCk_c at h
  split at h
  · rename_i hd
    obtain ⟨h1, h2⟩ := dec2_enc hd
    rw [← h1, ← h2]
    exact rowC (fCk_ok _ _) h
  · cases h
def fBe_F : Fi := { nv := 1, nc := 1, m := 1, vt := [], kl := [], sk := [], mvs := [], fz := [] }
def fBe_a (l0 : List Sc) (sums1 : Int) (p2 h0 : List Sc) : List AV := enc [.p .sl, .p (.int .i64), .p .el, .p (.pt 0 1)] [.l l0, .i sums1, .l p2]
def fBe_i (l0 : List Sc) (sums1 : Int) (p2 h0 : List Sc) : List AV := enc [.own 1000024] [.l h0]
def fBe_en (r : List Sc) : List AV × List AV := (enc [] [], enc [.own 1000024] [.l r])
def fBe_M : Calling := addC 38 fAs_c (addC 37 fAm_c (addC 39 fBs_c (addC 9 fCk_c (noC))))
theorem fBe_Mt : CallOk Tryz.prog (fBe_M) := addC_true fAs_cc (addC_true fAm_cc (addC_true fBs_cc (addC_true fCk_cc (noC_true))))
theorem fBe_o : loopsOnce Tryz.f36 = true := by kernel_rfl
theorem fBe_p {R : Type} (l0 : List Sc) (sums1 : Int) (p2 h0 : List Sc) (kR : List Sc → Option R) : fBe_k l0 sums1 p2 h0 kR = (fBe_k l0 sums1 p2 h0 some).bind kR := by
  simp only [fBe_k, brB, boB, someB, noneB]
theorem fBe_e (l0 : List Sc) (sums1 : Int) (p2 h0 : List Sc) : runFn E0 fBe_M H0 fBe_F (asL (noL)) Tryz.f36 (fBe_a l0 sums1 p2 h0) (fBe_i l0 sums1 p2 h0) = fBe_k l0 sums1 p2 h0 (fun r => some (fBe_en r)) := by kernel_rfl
theorem fBe_ok (l0 : List Sc) (sums1 : Int) (p2 h0 r : List Sc) (h : fBe l0 sums1 p2 h0 = some r) : CS Tryz.prog 36 (fBe_a l0 sums1 p2 h0) (fBe_i l0 sums1 p2 h0) (fBe_en r).1 (fBe_en r).2 :=
  fn_true (Gk := fun k => fBe_k l0 sums1 p2 h0 k) (en := fBe_en) Tryz.func36 E0ok fBe_Mt (noL_true) fBe_o (fBe_e l0 sums1 p2 h0) (fBe_p l0 sums1 p2 h0) h
def fBe_c : CRow := fun args inh => match dec2 [.p .sl, .p (.int .i64), .p .el, .p (.pt 0 1)] [.own 1000024] args inh with | some ([.l l0, .i sums1, .l p2], [.l h0]) => some ((fBe l0 sums1 p2 h0).isSome, (fBe_en ((fBe l0 sums1 p2 h0).getD [])).1, (fBe_en ((fBe l0 sums1 p2 h0).getD [])).2) | _ => none
theorem fBe_cc : CTrue Tryz.prog 36 fBe_c := by
  intro args inh rs out h
  unfold fBe_c at h
  split at h
  · rename_i hd
    obtain ⟨h1, h2⟩ := dec2_enc hd
    rw [← h1, ← h2]
    exact rowC (fBe_ok _ _ _ _) h
  · cases h
def fAr_F : Fi := { nv := 0, nc := 0, m := 0, vt := [], kl := [(0, ([0, 4, 5, 6, 9, 10, 11, 12, 13, 14, 15, 16, 17, 18, 19, 20, 21, 22, 23, 24, 25, 26, 27], [0, 1, 2, 3, 4, 5, 6, 8, 9, 10, 11, 12, 13, 14, 15, 16, 17, 18, 19, 20, 21, 22, 23, 24, 25, 26, 27], [0, 1, 2, 3, 4, 5, 7, 8, 9, 10, 11, 12, 13, 14, 15, 16, 17, 18, 19, 20, 21, 22, 23, 24, 25, 26, 27]))], sk := [], mvs := [], fz := [] }
def fAr_a (g0 : List Sc) (a1 x2 : Int) : List AV := enc [.p .gr, .p (.int .i64), .p (.int .i64)] [.l g0, .i a1, .i x2]
def fAr_i (g0 : List Sc) (a1 x2 : Int) : List AV := enc [] []
def fAr_en (r : Int) : List AV × List AV := (enc [.p (.int .i64)] [.i r], enc [] [])
def fAr_M : Calling := addC 69 fBf_c (noC)
theorem fAr_Mt : CallOk Tryz.prog (fAr_M) := addC_true fBf_cc (noC_true)
theorem fAr_o : loopsOnce Tryz.f67 = true := by kernel_rfl
def fAr_h0 : List Sh := [.u, .p (.int .i64), .p (.int .i64), .p .el, .u, .u, .u, .p (.int .i64), .p (.int .i64), .u, .u, .u, .u, .u, .u, .u, .u, .u, .u, .u, .u, .u, .u, .u, .u, .u, .u, .u]
def fAr_fr0 (a1 x2 : Int) (g3 : List Sc) (s : Int × Int) : List AV := enc fAr_h0 [.i a1, .i x2, .l g3, .i s.1, .i s.2]
def fAr_g0_1 : List Sh := [.u, .u, .u, .u, .u, .u, .u, .p (.int .i64), .u, .u, .u, .u, .u, .u, .u, .u, .u, .u, .u, .u, .u, .u, .u, .u, .u, .u, .u, .u]
def fAr_x0_1 (a1 x2 : Int) (g3 : List Sc) (e : Int) : X × List AV := (.out 0, enc fAr_g0_1 [.i e])
def fAr_x0_2 (a1 x2 : Int) (g3 : List Sc) (_e : Unit) : X × List AV := (.ret, [])
theorem fAr_p0 {R : Type} (a1 x2 : Int) (g3 : List Sc) (s : Int × Int) (kN : Int × Int → Option R) (kA : Int → Option R) (kB : Unit → Option R) : fAr_k0 a1 x2 g3 s.1 s.2 kN kA = (fAr_r0 a1 x2 g3 s).bind (Ro.el kN kA kB) := by
  simp only [fAr_k0, fAr_r0, brB, boB, someB, noneB, Ro.el]
theorem fAr_e0 (a1 x2 : Int) (g3 : List Sc) (s : Int × Int) : EC E0 fAr_M H0 fAr_F (asL (noL)) 0 (bodyOf Tryz.f67 0) (fAr_fr0 a1 x2 g3 s) (done (klOf fAr_F 0)) = fAr_k0 a1 x2 g3 s.1 s.2 (fun s => some (.norm, fAr_fr0 a1 x2 g3 s)) (fun e => some (fAr_x0_1 a1 x2 g3 e)) := by kernel_rfl
theorem fAr_l0 (a1 x2 : Int) (g3 : List Sc) : ∀ s r, loopL (fAr_r0 a1 x2 g3) s = some r → LS Tryz.prog fAr_F (bodyOf Tryz.f67 0) (fAr_fr0 a1 x2 g3 s) (enX (fAr_x0_1 a1 x2 g3) (fAr_x0_2 a1 x2 g3) r) :=
  loop_true E0ok fAr_Mt (noL_true) fAr_o (fun _ h => by cases h) (fun _ h => by cases h) (fun _ h => by cases h) (fun _ h => by cases h) (fun s => (fAr_e0 a1 x2 g3 s).trans (fAr_p0 a1 x2 g3 s _ _ (fun e => some (fAr_x0_2 a1 x2 g3 e))))
def fAr_t0 (σ : List AV) : Option (Bool × Bool × (X × List AV) × (X × List AV)) := match dec fAr_h0 σ with | some [.i a1, .i x2, .l g3, .i out7, .i y8] => some (isOne (loopL (fAr_r0 a1 x2 g3) (out7, y8)), true, fAr_x0_1 a1 x2 g3 (getOne 0 (loopL (fAr_r0 a1 x2 g3) (out7, y8))), (.ret, [])) | _ => none
theorem fAr_tt0 : TTrue Tryz.prog fAr_F Tryz.f67 0 (fAr_t0) := by
  intro σ p r r' h
  unfold fAr_t0 at h
  split at h
  · rename_i hd
    rw [← dec_enc hd]
    exact row1 (fAr_l0 _ _ _ _) h
  · cases h
theorem fAr_p {R : Type} (g0 : List Sc) (a1 x2 : Int) (kR : Int → Option R) : fAr_k g0 a1 x2 kR = (fAr_k g0 a1 x2 some).bind kR := by
  simp only [fAr_k, bl1B, someB]
theorem fAr_e (g0 : List Sc) (a1 x2 : Int) : runFn E0 fAr_M H0 fAr_F (asL (addL 0 (fAr_t0) (noL))) Tryz.f67 (fAr_a g0 a1 x2) (fAr_i g0 a1 x2) = fAr_k g0 a1 x2 (fun r => some (fAr_en r)) := by kernel_rfl
theorem fAr_ok (g0 : List Sc) (a1 x2 r : Int) (h : fAr g0 a1 x2 = some r) : CS Tryz.prog 67 (fAr_a g0 a1 x2) (fAr_i g0 a1 x2) (fAr_en r).1 (fAr_en r).2 :=
  fn_true (Gk := fun k => fAr_k g0 a1 x2 k) (en := fAr_en) Tryz.func67 E0ok fAr_Mt (addL_true (fAr_tt0) (noL_true)) fAr_o (fAr_e g0 a1 x2) (fAr_p g0 a1 x2) h
def fAr_c : CRow := fun args inh => match dec2 [.p .gr, .p (.int .i64), .p (.int .i64)] [] args inh with | some ([.l g0, .i a1, .i x2], []) => some ((fAr g0 a1 x2).isSome, (fAr_en ((fAr g0 a1 x2).getD 0)).1, (fAr_en ((fAr g0 a1 x2).getD 0)).2) | _ => none
theorem fAr_cc : CTrue Tryz.prog 67 fAr_c := by
  intro args inh rs out h
  unfold fAr_c at h
  split at h
  · rename_i hd
    obtain ⟨h1, h2⟩ := dec2_enc hd
    rw [← h1, ← h2]
    exact rowC (fAr_ok _ _ _) h
  · cases h
def fAd_F : Fi := { nv := 1, nc := 1, m := 1, vt := [], kl := [(0, ([1, 6, 7, 8, 9, 11, 12, 13, 14, 15, 16, 17, 18, 19, 20, 21, 22, 23, 24, 25, 26, 27, 28, 29, 30, 31, 32, 33, 34, 35, 36, 37, 38, 39, 40, 41, 42, 43, 44, 45, 46, 47, 48, 49, 50, 51, 52], [1, 2, 3, 4, 5, 6, 7, 8, 9, 10, 11, 12, 13, 14, 15, 16, 17, 18, 19, 20, 21, 22, 23, 24, 25, 26, 27, 28, 29, 30, 31, 32, 33, 34, 35, 36, 37, 38, 39, 40, 41, 42, 43, 44, 45, 46, 47, 48, 49, 50, 51, 52], [1, 2, 3, 4, 5, 6, 7, 8, 9, 10, 11, 12, 13, 14, 15, 16, 17, 18, 19, 20, 21, 22, 23, 24, 25, 26, 27, 28, 29, 30, 31, 32, 33, 34, 35, 36, 37, 38, 39, 40, 41, 42, 43, 44, 45, 46, 47, 48, 49, 50, 51, 52]))], sk := [], mvs := [], fz := [] }
def fAd_a (g0 l1 : List Sc) (sums2 : Int) (visit3 h0 : List Sc) : List AV := enc [.p .gr, .fr 3, .p (.int .i64), .fn 36 [.el, .pt 0 1]] [.l g0, .l l1, .i sums2, .l visit3]
def fAd_i (g0 l1 : List Sc) (sums2 : Int) (visit3 h0 : List Sc) : List AV := enc [.own 1000024] [.l h0]
def fAd_en (r : List Sc) : List AV × List AV := (enc [] [], enc [.own 1000024] [.l r])
def fAd_cs (self : (List Sc × List Sc × Int × List Sc × List Sc) → Option (List Sc)) : CRow := fun args inh => match dec2 [.p .gr, .fr 3, .p (.int .i64), .fn 36 [.el, .pt 0 1]] [.own 1000024] args inh with | some ([.l g0, .l l1, .i sums2, .l visit3], [.l h0]) => some ((self (g0, l1, sums2, visit3, h0)).isSome, (fAd_en ((self (g0, l1, sums2, visit3, h0)).getD [])).1, (fAd_en ((self (g0, l1, sums2, visit3, h0)).getD [])).2) | _ => none
theorem fAd_cst (self : (List Sc × List Sc × Int × List Sc × List Sc) → Option (List Sc)) (hs : ∀ a r, self a = some r → CS Tryz.prog 35 (fAd_a a.1 a.2.1 a.2.2.1 a.2.2.2.1 a.2.2.2.2) (fAd_i a.1 a.2.1 a.2.2.1 a.2.2.2.1 a.2.2.2.2) (fAd_en r).1 (fAd_en r).2) : CTrue Tryz.prog 35 (fAd_cs self) := by
  intro args inh rs out h
  unfold fAd_cs at h
  split at h
  · rename_i hd
    obtain ⟨h1, h2⟩ := dec2_enc hd
    rw [← h1, ← h2]
    exact rowC (hs _) h
  · cases h
def fAd_M (self : (List Sc × List Sc × Int × List Sc × List Sc) → Option (List Sc)) : Calling := addC 35 (fAd_cs self) (addC 36 fBe_c (addC 34 fCa_c (addC 67 fAr_c (addC 68 fCz_c (addC 39 fBs_c (noC))))))
theorem fAd_Mt (self : (List Sc × List Sc × Int × List Sc × List Sc) → Option (List Sc)) (hs : ∀ a r, self a = some r → CS Tryz.prog 35 (fAd_a a.1 a.2.1 a.2.2.1 a.2.2.2.1 a.2.2.2.2) (fAd_i a.1 a.2.1 a.2.2.1 a.2.2.2.1 a.2.2.2.2) (fAd_en r).1 (fAd_en r).2) : CallOk Tryz.prog (fAd_M self) := addC_true (fAd_cst self hs) (addC_true fBe_cc (addC_true fCa_cc (addC_true fAr_cc (addC_true fCz_cc (addC_true fBs_cc (noC_true))))))
theorem fAd_o : loopsOnce Tryz.f35 = true := by kernel_rfl
def fAd_h0 : List Sh := [.own 1000024, .u, .fr 3, .p (.int .i64), .fn 36 [.el, .pt 0 1], .p .el, .u, .u, .u, .u, .p (.int .i64), .u, .u, .u, .u, .u, .u, .u, .u, .u, .u, .u, .u, .u, .u, .u, .u, .u, .u, .u, .u, .u, .u, .u, .u, .u, .u, .u, .u, .u, .u, .u, .u, .u, .u, .u, .u, .u, .u, .u, .u, .u, .u]
def fAd_fr0 (self : (List Sc × List Sc × Int × List Sc × List Sc) → Option (List Sc)) (l1 : List Sc) (sums2 : Int) (visit3 g4 : List Sc) (s : List Sc × Int) : List AV := enc fAd_h0 [.l s.1, .l l1, .i sums2, .l visit3, .l g4, .i s.2]
def fAd_g0_1 : List Sh := [.own 1000024, .u, .u, .u, .u, .u, .u, .u, .u, .u, .u, .u, .u, .u, .u, .u, .u, .u, .u, .u, .u, .u, .u, .u, .u, .u, .u, .u, .u, .u, .u, .u, .u, .u, .u, .u, .u, .u, .u, .u, .u, .u, .u, .u, .u, .u, .u, .u, .u, .u, .u, .u, .u]
def fAd_x0_1 (self : (List Sc × List Sc × Int × List Sc × List Sc) → Option (List Sc)) (l1 : List Sc) (sums2 : Int) (visit3 g4 e : List Sc) : X × List AV := (.out 0, enc fAd_g0_1 [.l e])
def fAd_x0_2 (self : (List Sc × List Sc × Int × List Sc × List Sc) → Option (List Sc)) (l1 : List Sc) (sums2 : Int) (visit3 g4 : List Sc) (_e : Unit) : X × List AV := (.ret, [])
theorem fAd_p0 {R : Type} (self : (List Sc × List Sc × Int × List Sc × List Sc) → Option (List Sc)) (l1 : List Sc) (sums2 : Int) (visit3 g4 : List Sc) (s : List Sc × Int) (kN : List Sc × Int → Option R) (kA : List Sc → Option R) (kB : Unit → Option R) : fAd_k0 self l1 sums2 visit3 g4 s.1 s.2 kN kA = (fAd_r0 self l1 sums2 visit3 g4 s).bind (Ro.el kN kA kB) := by
  simp only [fAd_k0, fAd_r0, brB, boB, someB, noneB, Ro.el]
theorem fAd_e0 (self : (List Sc × List Sc × Int × List Sc × List Sc) → Option (List Sc)) (l1 : List Sc) (sums2 : Int) (visit3 g4 : List Sc) (s : List Sc × Int) : EC E0 (fAd_M self) H0 fAd_F (asL (noL)) 0 (bodyOf Tryz.f35 0) (fAd_fr0 self l1 sums2 visit3 g4 s) (done (klOf fAd_F 0)) = fAd_k0 self l1 sums2 visit3 g4 s.1 s.2 (fun s => some (.norm, fAd_fr0 self l1 sums2 visit3 g4 s)) (fun e => some (fAd_x0_1 self l1 sums2 visit3 g4 e)) := by kernel_rfl
theorem fAd_l0 (self : (List Sc × List Sc × Int × List Sc × List Sc) → Option (List Sc)) (hs : ∀ a r, self a = some r → CS Tryz.prog 35 (fAd_a a.1 a.2.1 a.2.2.1 a.2.2.2.1 a.2.2.2.2) (fAd_i a.1 a.2.1 a.2.2.1 a.2.2.2.1 a.2.2.2.2) (fAd_en r).1 (fAd_en r).2) (l1 : List Sc) (sums2 : Int) (visit3 g4 : List Sc) : ∀ s r, loopL (fAd_r0 self l1 sums2 visit3 g4) s = some r → LS Tryz.prog fAd_F (bodyOf Tryz.f35 0) (fAd_fr0 self l1 sums2 visit3 g4 s) (enX (fAd_x0_1 self l1 sums2 visit3 g4) (fAd_x0_2 self l1 sums2 visit3 g4) r) :=
  loop_true E0ok (fAd_Mt self hs) (noL_true) fAd_o (fun _ h => by cases h) (fun _ h => by cases h) (fun _ h => by cases h) (fun _ h => by cases h) (fun s => (fAd_e0 self l1 sums2 visit3 g4 s).trans (fAd_p0 self l1 sums2 visit3 g4 s _ _ (fun e => some (fAd_x0_2 self l1 sums2 visit3 g4 e))))
def fAd_t0 (self : (List Sc × List Sc × Int × List Sc × List Sc) → Option (List Sc)) (σ : List AV) : Option (Bool × Bool × (X × List AV) × (X × List AV)) := match dec fAd_h0 σ with | some [.l v0, .l l1, .i sums2, .l visit3, .l g4, .i x9] => some (isOne (loopL (fAd_r0 self l1 sums2 visit3 g4) (v0, x9)), true, fAd_x0_1 self l1 sums2 visit3 g4 (getOne [] (loopL (fAd_r0 self l1 sums2 visit3 g4) (v0, x9))), (.ret, [])) | _ => none
theorem fAd_tt0 (self : (List Sc × List Sc × Int × List Sc × List Sc) → Option (List Sc)) (hs : ∀ a r, self a = some r → CS Tryz.prog 35 (fAd_a a.1 a.2.1 a.2.2.1 a.2.2.2.1 a.2.2.2.2) (fAd_i a.1 a.2.1 a.2.2.1 a.2.2.2.1 a.2.2.2.2) (fAd_en r).1 (fAd_en r).2) : TTrue Tryz.prog fAd_F Tryz.f35 0 (fAd_t0 self) := by
  intro σ p r r' h
  unfold fAd_t0 at h
  split at h
  · rename_i hd
    rw [← dec_enc hd]
    exact row1 (fAd_l0 self hs _ _ _ _ _) h
  · cases h
theorem fAd_p {R : Type} (self : (List Sc × List Sc × Int × List Sc × List Sc) → Option (List Sc)) (g0 l1 : List Sc) (sums2 : Int) (visit3 h0 : List Sc) (kR : List Sc → Option R) : fAd_k self g0 l1 sums2 visit3 h0 kR = (fAd_k self g0 l1 sums2 visit3 h0 some).bind kR := by
  simp only [fAd_k, brB, boB, bl1B, someB, noneB]
theorem fAd_e (self : (List Sc × List Sc × Int × List Sc × List Sc) → Option (List Sc)) (g0 l1 : List Sc) (sums2 : Int) (visit3 h0 : List Sc) : runFn E0 (fAd_M self) H0 fAd_F (asL (addL 0 (fAd_t0 self) (noL))) Tryz.f35 (fAd_a g0 l1 sums2 visit3 h0) (fAd_i g0 l1 sums2 visit3 h0) = fAd_k self g0 l1 sums2 visit3 h0 (fun r => some (fAd_en r)) := by kernel_rfl
theorem fAd_ks (self : (List Sc × List Sc × Int × List Sc × List Sc) → Option (List Sc)) (hs : ∀ a r, self a = some r → CS Tryz.prog 35 (fAd_a a.1 a.2.1 a.2.2.1 a.2.2.2.1 a.2.2.2.2) (fAd_i a.1 a.2.1 a.2.2.1 a.2.2.2.1 a.2.2.2.2) (fAd_en r).1 (fAd_en r).2) (g0 l1 : List Sc) (sums2 : Int) (visit3 h0 r : List Sc) (h : fAd_k self g0 l1 sums2 visit3 h0 some = some r) : CS Tryz.prog 35 (fAd_a g0 l1 sums2 visit3 h0) (fAd_i g0 l1 sums2 visit3 h0) (fAd_en r).1 (fAd_en r).2 :=
  fn_true (Gk := fun k => fAd_k self g0 l1 sums2 visit3 h0 k) (en := fAd_en) Tryz.func35 E0ok (fAd_Mt self hs) (addL_true (fAd_tt0 self hs) (noL_true)) fAd_o (fAd_e self g0 l1 sums2 visit3 h0) (fAd_p self g0 l1 sums2 visit3 h0) h
theorem fAd_ns : ∀ n a r, fAd_n n a = some r → CS Tryz.prog 35 (fAd_a a.1 a.2.1 a.2.2.1 a.2.2.2.1 a.2.2.2.2) (fAd_i a.1 a.2.1 a.2.2.1 a.2.2.2.1 a.2.2.2.2) (fAd_en r).1 (fAd_en r).2
  | 0, _, _, h => by cases h
  | n + 1, a, r, h => fAd_ks (fAd_n n) (fAd_ns n) a.1 a.2.1 a.2.2.1 a.2.2.2.1 a.2.2.2.2 r h
theorem fAd_ok (g0 l1 : List Sc) (sums2 : Int) (visit3 h0 r : List Sc) (h : fAd g0 l1 sums2 visit3 h0 = some r) : CS Tryz.prog 35 (fAd_a g0 l1 sums2 visit3 h0) (fAd_i g0 l1 sums2 visit3 h0) (fAd_en r).1 (fAd_en r).2 := by
  obtain ⟨n, hn⟩ := limF_some h
  exact fAd_ns n _ r hn
def fAd_c : CRow := fun args inh => match dec2 [.p .gr, .fr 3, .p (.int .i64), .fn 36 [.el, .pt 0 1]] [.own 1000024] args inh with | some ([.l g0, .l l1, .i sums2, .l visit3], [.l h0]) => some ((fAd g0 l1 sums2 visit3 h0).isSome, (fAd_en ((fAd g0 l1 sums2 visit3 h0).getD [])).1, (fAd_en ((fAd g0 l1 sums2 visit3 h0).getD [])).2) | _ => none
theorem fAd_cc : CTrue Tryz.prog 35 fAd_c := by
  intro args inh rs out h
  unfold fAd_c at h
  split at h
  · rename_i hd
    obtain ⟨h1, h2⟩ := dec2_enc hd
    rw [← h1, ← h2]
    exact rowC (fAd_ok _ _ _ _ _) h
  · cases h
def fAk_a (h0 : List Sc) : List AV := enc [.p (.al 0), .fn 41 []] []
def fAk_i (h0 : List Sc) : List AV := enc [.own 1000024] [.l h0]
def fAk_en (r : List Sc) : List AV × List AV := (enc [] [], enc [.own 1000024] [.l r])
theorem fAk_ok (h0 r : List Sc) (h : fAk h0 = some r) : CS Tryz.prog 40 (fAk_a h0) (fAk_i h0) (fAk_en r).1 (fAk_en r).2 :=
  sortF_CS (e := 1000024) ⟨_, Tryz.func40, by kernel_rfl⟩ cmpF sortF1 sortF0 h
def fAk_c : CRow := fun args inh => match dec2 [.p (.al 0), .fn 41 []] [.own 1000024] args inh with | some ([], [.l h0]) => some ((fAk h0).isSome, (fAk_en ((fAk h0).getD [])).1, (fAk_en ((fAk h0).getD [])).2) | _ => none
theorem fAk_cc : CTrue Tryz.prog 40 fAk_c := by
  intro args inh rs out h
  unfold fAk_c at h
  split at h
  · rename_i hd
    obtain ⟨h1, h2⟩ := dec2_enc hd
    rw [← h1, ← h2]
    exact rowC (fAk_ok _) h
  · cases h
def fBy_F : Fi := { nv := 1, nc := 1, m := 0, vt := [(4, 0)], kl := [], sk := [], mvs := [], fz := [] }
def fBy_a (g0 : List Sc) : List AV := enc [.p .gr] [.l g0]
def fBy_i (g0 : List Sc) : List AV := enc [] []
def fBy_en (r : List Sc × Bool) : List AV × List AV := (enc [.p (.al 0), .p .boo] [.b r.2], enc [.own 1000024] [.l r.1])
def fBy_M : Calling := addC 33 fBz_c (addC 34 fCa_c (addC 35 fAd_c (addC 40 fAk_c (noC))))
theorem fBy_Mt : CallOk Tryz.prog (fBy_M) := addC_true fBz_cc (addC_true fCa_cc (addC_true fAd_cc (addC_true fAk_cc (noC_true))))
theorem fBy_o : loopsOnce Tryz.f6 = true := by kernel_rfl
theorem fBy_p {R : Type} (g0 : List Sc) (kR : List Sc × Bool → Option R) : fBy_k g0 kR = (fBy_k g0 some).bind kR := by
  simp only [fBy_k, brB, boB, someB]
theorem fBy_e (g0 : List Sc) : runFn E0 fBy_M H0 fBy_F (asL (noL)) Tryz.f6 (fBy_a g0) (fBy_i g0) = fBy_k g0 (fun r => some (fBy_en r)) := by kernel_rfl
theorem fBy_ok (g0 : List Sc) (r : List Sc × Bool) (h : fBy g0 = some r) : CS Tryz.prog 6 (fBy_a g0) (fBy_i g0) (fBy_en r).1 (fBy_en r).2 :=
  fn_true (Gk := fun k => fBy_k g0 k) (en := fBy_en) Tryz.func6 E0ok fBy_Mt (noL_true) fBy_o (fBy_e g0) (fBy_p g0) h
def fBy_c : CRow := fun args inh => match dec2 [.p .gr] [] args inh with | some ([.l g0], []) => some ((fBy g0).isSome, (fBy_en ((fBy g0).getD ([], false))).1, (fBy_en ((fBy g0).getD ([], false))).2) | _ => none
theorem fBy_cc : CTrue Tryz.prog 6 fBy_c := by
  intro args inh rs out h
  unfold fBy_c at h
  split at h
  · rename_i hd
    obtain ⟨h1, h2⟩ := dec2_enc hd
    rw [← h1, ← h2]
    exact rowC (fBy_ok _) h
  · cases h
def fCu_F : Fi := { nv := 0, nc := 0, m := 0, vt := [], kl := [], sk := [], mvs := [], fz := [] }
def fCu_a (x0 low1 high2 : Int) : List AV := enc [.p (.int .i64), .p (.int .i64), .p (.int .i64)] [.i x0, .i low1, .i high2]
def fCu_i (x0 low1 high2 : Int) : List AV := enc [] []
def fCu_en (r : Bool) : List AV × List AV := (enc [.p .boo] [.b r], enc [] [])
def fCu_M : Calling := noC
theorem fCu_Mt : CallOk Tryz.prog (fCu_M) := noC_true
theorem fCu_o : loopsOnce Tryz.f73 = true := by kernel_rfl
theorem fCu_p {R : Type} (x0 low1 high2 : Int) (kR : Bool → Option R) : fCu_k x0 low1 high2 kR = (fCu_k x0 low1 high2 some).bind kR := by
  simp only [fCu_k, brB, someB]
theorem fCu_e (x0 low1 high2 : Int) : runFn E0 fCu_M H0 fCu_F (asL (noL)) Tryz.f73 (fCu_a x0 low1 high2) (fCu_i x0 low1 high2) = fCu_k x0 low1 high2 (fun r => some (fCu_en r)) := by kernel_rfl
theorem fCu_ok (x0 low1 high2 : Int) (r : Bool) (h : fCu x0 low1 high2 = some r) : CS Tryz.prog 73 (fCu_a x0 low1 high2) (fCu_i x0 low1 high2) (fCu_en r).1 (fCu_en r).2 :=
  fn_true (Gk := fun k => fCu_k x0 low1 high2 k) (en := fCu_en) Tryz.func73 E0ok fCu_Mt (noL_true) fCu_o (fCu_e x0 low1 high2) (fCu_p x0 low1 high2) h
def fCu_c : CRow := fun args inh => match dec2 [.p (.int .i64), .p (.int .i64), .p (.int .i64)] [] args inh with | some ([.i x0, .i low1, .i high2], []) => some ((fCu x0 low1 high2).isSome, (fCu_en ((fCu x0 low1 high2).getD false)).1, (fCu_en ((fCu x0 low1 high2).getD false)).2) | _ => none
theorem fCu_cc : CTrue Tryz.prog 73 fCu_c := by
  intro args inh rs out h
  unfold fCu_c at h
  split at h
  · rename_i hd
    obtain ⟨h1, h2⟩ := dec2_enc hd
    rw [← h1, ← h2]
    exact rowC (fCu_ok _ _ _) h
  · cases h
def fCd_F : Fi := { nv := 0, nc := 0, m := 0, vt := [], kl := [(0, ([0, 2, 5, 6, 7, 8, 9, 10, 11, 12, 13, 14, 15, 16, 17, 18, 19, 20, 21, 22, 23, 24, 25, 26, 27, 28, 29, 30, 31], [0, 1, 2, 4, 5, 6, 7, 8, 9, 10, 11, 12, 13, 14, 15, 16, 17, 18, 19, 20, 21, 22, 23, 24, 25, 26, 27, 28, 29, 30, 31], [0, 1, 3, 4, 5, 6, 7, 8, 9, 10, 11, 12, 13, 14, 15, 16, 17, 18, 19, 20, 21, 22, 23, 24, 25, 26, 27, 28, 29, 30, 31]))], sk := [], mvs := [], fz := [] }
def fCd_a (g0 : List Sc) : List AV := enc [.p .gr] [.l g0]
def fCd_i (g0 : List Sc) : List AV := enc [] []
def fCd_en (r : Bool) : List AV × List AV := (enc [.p .boo] [.b r], enc [] [])
def fCd_M : Calling := addC 73 fCu_c (noC)
theorem fCd_Mt : CallOk Tryz.prog (fCd_M) := addC_true fCu_cc (noC_true)
theorem fCd_o : loopsOnce Tryz.f43 = true := by kernel_rfl
def fCd_h0 : List Sh := [.u, .p .el, .u, .p (.int .i64), .p (.int .i64), .u, .u, .u, .u, .u, .u, .u, .u, .u, .u, .u, .u, .u, .u, .u, .u, .u, .u, .u, .u, .u, .u, .u, .u, .u, .u, .u]
def fCd_fr0 (g1 : List Sc) (s : Int × Int) : List AV := enc fCd_h0 [.l g1, .i s.1, .i s.2]
def fCd_g0_1 : List Sh := [.u, .u, .u, .p (.int .i64), .u, .u, .u, .u, .u, .u, .u, .u, .u, .u, .u, .u, .u, .u, .u, .u, .u, .u, .u, .u, .u, .u, .u, .u, .u, .u, .u, .u]
def fCd_x0_1 (g1 : List Sc) (e : Int) : X × List AV := (.out 0, enc fCd_g0_1 [.i e])
def fCd_g0_2 : List Sh := [.u, .u, .p .boo, .u, .u, .u, .u, .u, .u, .u, .u, .u, .u, .u, .u, .u, .u, .u, .u, .u, .u, .u, .u, .u, .u, .u, .u, .u, .u, .u, .u, .u]
def fCd_x0_2 (g1 : List Sc) (e : Unit) : X × List AV := (.ret, enc fCd_g0_2 [.b false])
theorem fCd_p0 {R : Type} (g1 : List Sc) (s : Int × Int) (kN : Int × Int → Option R) (kA : Int → Option R) (kB : Unit → Option R) : fCd_k0 g1 s.1 s.2 kN kA kB = (fCd_r0 g1 s).bind (Ro.el kN kA kB) := by
  simp only [fCd_k0, fCd_r0, brB, boB, someB, noneB, Ro.el]
theorem fCd_e0 (g1 : List Sc) (s : Int × Int) : EC E0 fCd_M H0 fCd_F (asL (noL)) 0 (bodyOf Tryz.f43 0) (fCd_fr0 g1 s) (done (klOf fCd_F 0)) = fCd_k0 g1 s.1 s.2 (fun s => some (.norm, fCd_fr0 g1 s)) (fun e => some (fCd_x0_1 g1 e)) (fun e => some (fCd_x0_2 g1 e)) := by kernel_rfl
theorem fCd_l0 (g1 : List Sc) : ∀ s r, loopL (fCd_r0 g1) s = some r → LS Tryz.prog fCd_F (bodyOf Tryz.f43 0) (fCd_fr0 g1 s) (enX (fCd_x0_1 g1) (fCd_x0_2 g1) r) :=
  loop_true E0ok fCd_Mt (noL_true) fCd_o (fun _ h => by cases h) (fun _ h => by cases h) (fun _ h => by cases h) (fun _ h => by cases h) (fun s => (fCd_e0 g1 s).trans (fCd_p0 g1 s _ _ (fun e => some (fCd_x0_2 g1 e))))
def fCd_t0 (σ : List AV) : Option (Bool × Bool × (X × List AV) × (X × List AV)) := match dec fCd_h0 σ with | some [.l g1, .i n3, .i i4] => some ((loopL (fCd_r0 g1) (n3, i4)).isSome, isOne (loopL (fCd_r0 g1) (n3, i4)), fCd_x0_1 g1 (getOne 0 (loopL (fCd_r0 g1) (n3, i4))), fCd_x0_2 g1 (getTwo () (loopL (fCd_r0 g1) (n3, i4)))) | _ => none
theorem fCd_tt0 : TTrue Tryz.prog fCd_F Tryz.f43 0 (fCd_t0) := by
  intro σ p r r' h
  unfold fCd_t0 at h
  split at h
  · rename_i hd
    rw [← dec_enc hd]
    exact row2 (fCd_l0 _ _) h
  · cases h
theorem fCd_p {R : Type} (g0 : List Sc) (kR : Bool → Option R) : fCd_k g0 kR = (fCd_k g0 some).bind kR := by
  simp only [fCd_k, blB, someB]
theorem fCd_e (g0 : List Sc) : runFn E0 fCd_M H0 fCd_F (asL (addL 0 (fCd_t0) (noL))) Tryz.f43 (fCd_a g0) (fCd_i g0) = fCd_k g0 (fun r => some (fCd_en r)) := by kernel_rfl
theorem fCd_ok (g0 : List Sc) (r : Bool) (h : fCd g0 = some r) : CS Tryz.prog 43 (fCd_a g0) (fCd_i g0) (fCd_en r).1 (fCd_en r).2 :=
  fn_true (Gk := fun k => fCd_k g0 k) (en := fCd_en) Tryz.func43 E0ok fCd_Mt (addL_true (fCd_tt0) (noL_true)) fCd_o (fCd_e g0) (fCd_p g0) h
def fCd_c : CRow := fun args inh => match dec2 [.p .gr] [] args inh with | some ([.l g0], []) => some ((fCd g0).isSome, (fCd_en ((fCd g0).getD false)).1, (fCd_en ((fCd g0).getD false)).2) | _ => none
theorem fCd_cc : CTrue Tryz.prog 43 fCd_c := by
  intro args inh rs out h
  unfold fCd_c at h
  split at h
  · rename_i hd
    obtain ⟨h1, h2⟩ := dec2_enc hd
    rw [← h1, ← h2]
    exact rowC (fCd_ok _) h
  · cases h
def fCh_F : Fi := { nv := 0, nc := 0, m := 0, vt := [], kl := [(0, ([0, 2, 5, 6, 7, 8, 9, 10, 11, 12, 13, 14, 15, 16, 17, 18, 19], [0, 1, 2, 4, 5, 6, 7, 8, 9, 10, 11, 12, 13, 14, 15, 16, 17, 18, 19], [0, 1, 3, 4, 5, 6, 7, 8, 9, 10, 11, 12, 13, 14, 15, 16, 17, 18, 19]))], sk := [], mvs := [], fz := [] }
def fCh_a (g0 : List Sc) : List AV := enc [.p .gr] [.l g0]
def fCh_i (g0 : List Sc) : List AV := enc [] []
def fCh_en (r : Int) : List AV × List AV := (enc [.p (.int .i64)] [.i r], enc [] [])
def fCh_M : Calling := noC
theorem fCh_Mt : CallOk Tryz.prog (fCh_M) := noC_true
theorem fCh_o : loopsOnce Tryz.f44 = true := by kernel_rfl
def fCh_h0 : List Sh := [.u, .p .el, .u, .p (.int .i64), .p (.int .i64), .u, .u, .u, .u, .u, .u, .u, .u, .u, .u, .u, .u, .u, .u, .u]
def fCh_fr0 (g1 : List Sc) (s : Int × Int) : List AV := enc fCh_h0 [.l g1, .i s.1, .i s.2]
def fCh_g0_1 : List Sh := [.u, .u, .u, .p (.int .i64), .u, .u, .u, .u, .u, .u, .u, .u, .u, .u, .u, .u, .u, .u, .u, .u]
def fCh_x0_1 (g1 : List Sc) (e : Int) : X × List AV := (.out 0, enc fCh_g0_1 [.i e])
def fCh_x0_2 (g1 : List Sc) (_e : Unit) : X × List AV := (.ret, [])
theorem fCh_p0 {R : Type} (g1 : List Sc) (s : Int × Int) (kN : Int × Int → Option R) (kA : Int → Option R) (kB : Unit → Option R) : fCh_k0 g1 s.1 s.2 kN kA = (fCh_r0 g1 s).bind (Ro.el kN kA kB) := by
  simp only [fCh_k0, fCh_r0, brB, someB, noneB, Ro.el]
theorem fCh_e0 (g1 : List Sc) (s : Int × Int) : EC E0 fCh_M H0 fCh_F (asL (noL)) 0 (bodyOf Tryz.f44 0) (fCh_fr0 g1 s) (done (klOf fCh_F 0)) = fCh_k0 g1 s.1 s.2 (fun s => some (.norm, fCh_fr0 g1 s)) (fun e => some (fCh_x0_1 g1 e)) := by kernel_rfl
theorem fCh_l0 (g1 : List Sc) : ∀ s r, loopL (fCh_r0 g1) s = some r → LS Tryz.prog fCh_F (bodyOf Tryz.f44 0) (fCh_fr0 g1 s) (enX (fCh_x0_1 g1) (fCh_x0_2 g1) r) :=
  loop_true E0ok fCh_Mt (noL_true) fCh_o (fun _ h => by cases h) (fun _ h => by cases h) (fun _ h => by cases h) (fun _ h => by cases h) (fun s => (fCh_e0 g1 s).trans (fCh_p0 g1 s _ _ (fun e => some (fCh_x0_2 g1 e))))
def fCh_t0 (σ : List AV) : Option (Bool × Bool × (X × List AV) × (X × List AV)) := match dec fCh_h0 σ with | some [.l g1, .i n3, .i i4] => some (isOne (loopL (fCh_r0 g1) (n3, i4)), true, fCh_x0_1 g1 (getOne 0 (loopL (fCh_r0 g1) (n3, i4))), (.ret, [])) | _ => none
theorem fCh_tt0 : TTrue Tryz.prog fCh_F Tryz.f44 0 (fCh_t0) := by
  intro σ p r r' h
  unfold fCh_t0 at h
  split at h
  · rename_i hd
    rw [← dec_enc hd]
    exact row1 (fCh_l0 _ _) h
  · cases h
theorem fCh_p {R : Type} (g0 : List Sc) (kR : Int → Option R) : fCh_k g0 kR = (fCh_k g0 some).bind kR := by
  simp only [fCh_k, bl1B, someB]
theorem fCh_e (g0 : List Sc) : runFn E0 fCh_M H0 fCh_F (asL (addL 0 (fCh_t0) (noL))) Tryz.f44 (fCh_a g0) (fCh_i g0) = fCh_k g0 (fun r => some (fCh_en r)) := by kernel_rfl
theorem fCh_ok (g0 : List Sc) (r : Int) (h : fCh g0 = some r) : CS Tryz.prog 44 (fCh_a g0) (fCh_i g0) (fCh_en r).1 (fCh_en r).2 :=
  fn_true (Gk := fun k => fCh_k g0 k) (en := fCh_en) Tryz.func44 E0ok fCh_Mt (addL_true (fCh_tt0) (noL_true)) fCh_o (fCh_e g0) (fCh_p g0) h
def fCh_c : CRow := fun args inh => match dec2 [.p .gr] [] args inh with | some ([.l g0], []) => some ((fCh g0).isSome, (fCh_en ((fCh g0).getD 0)).1, (fCh_en ((fCh g0).getD 0)).2) | _ => none
theorem fCh_cc : CTrue Tryz.prog 44 fCh_c := by
  intro args inh rs out h
  unfold fCh_c at h
  split at h
  · rename_i hd
    obtain ⟨h1, h2⟩ := dec2_enc hd
    rw [← h1, ← h2]
    exact rowC (fCh_ok _) h
  · cases h
def fCr_F : Fi := { nv := 0, nc := 0, m := 0, vt := [], kl := [(0, ([0, 4, 5, 6, 10, 11, 12, 13, 14, 15, 16, 17, 18, 19, 20, 21, 22, 23, 24, 25, 26, 27, 28, 29, 30, 31, 32, 33, 34, 35, 36, 37, 38, 39, 40, 41, 42, 43, 44, 45], [0, 1, 2, 3, 4, 5, 6, 8, 9, 10, 11, 12, 13, 14, 15, 16, 17, 18, 19, 20, 21, 22, 23, 24, 25, 26, 27, 28, 29, 30, 31, 32, 33, 34, 35, 36, 37, 38, 39, 40, 41, 42, 43, 44, 45], [0, 1, 2, 3, 4, 5, 7, 8, 9, 10, 11, 12, 13, 14, 15, 16, 17, 18, 19, 20, 21, 22, 23, 24, 25, 26, 27, 28, 29, 30, 31, 32, 33, 34, 35, 36, 37, 38, 39, 40, 41, 42, 43, 44, 45]))], sk := [], mvs := [], fz := [] }
def fCr_a (g0 : List Sc) (x1 y2 : Int) : List AV := enc [.p .gr, .p (.int .i64), .p (.int .i64)] [.l g0, .i x1, .i y2]
def fCr_i (g0 : List Sc) (x1 y2 : Int) : List AV := enc [] []
def fCr_en (r : Int) : List AV × List AV := (enc [.p (.int .i64)] [.i r], enc [] [])
def fCr_M : Calling := noC
theorem fCr_Mt : CallOk Tryz.prog (fCr_M) := noC_true
theorem fCr_o : loopsOnce Tryz.f82 = true := by kernel_rfl
def fCr_h0 : List Sh := [.u, .p (.int .i64), .p (.int .i64), .p .el, .u, .u, .u, .p (.int .i64), .p (.int .i64), .p (.int .i64), .u, .u, .u, .u, .u, .u, .u, .u, .u, .u, .u, .u, .u, .u, .u, .u, .u, .u, .u, .u, .u, .u, .u, .u, .u, .u, .u, .u, .u, .u, .u, .u, .u, .u, .u, .u]
def fCr_fr0 (g3 : List Sc) (s : Int × Int × Int × Int × Int) : List AV := enc fCr_h0 [.i s.1, .i s.2.1, .l g3, .i s.2.2.1, .i s.2.2.2.1, .i s.2.2.2.2]
def fCr_g0_1 : List Sh := [.u, .u, .u, .u, .u, .u, .u, .p (.int .i64), .u, .u, .u, .u, .u, .u, .u, .u, .u, .u, .u, .u, .u, .u, .u, .u, .u, .u, .u, .u, .u, .u, .u, .u, .u, .u, .u, .u, .u, .u, .u, .u, .u, .u, .u, .u, .u, .u]
def fCr_x0_1 (g3 : List Sc) (e : Int) : X × List AV := (.out 0, enc fCr_g0_1 [.i e])
def fCr_x0_2 (g3 : List Sc) (_e : Unit) : X × List AV := (.ret, [])
theorem fCr_p0 {R : Type} (g3 : List Sc) (s : Int × Int × Int × Int × Int) (kN : Int × Int × Int × Int × Int → Option R) (kA : Int → Option R) (kB : Unit → Option R) : fCr_k0 g3 s.1 s.2.1 s.2.2.1 s.2.2.2.1 s.2.2.2.2 kN kA = (fCr_r0 g3 s).bind (Ro.el kN kA kB) := by
  simp only [fCr_k0, fCr_r0, brB, someB, noneB, Ro.el]
theorem fCr_e0 (g3 : List Sc) (s : Int × Int × Int × Int × Int) : EC E0 fCr_M H0 fCr_F (asL (noL)) 0 (bodyOf Tryz.f82 0) (fCr_fr0 g3 s) (done (klOf fCr_F 0)) = fCr_k0 g3 s.1 s.2.1 s.2.2.1 s.2.2.2.1 s.2.2.2.2 (fun s => some (.norm, fCr_fr0 g3 s)) (fun e => some (fCr_x0_1 g3 e)) := by kernel_rfl
theorem fCr_l0 (g3 : List Sc) : ∀ s r, loopL (fCr_r0 g3) s = some r → LS Tryz.prog fCr_F (bodyOf Tryz.f82 0) (fCr_fr0 g3 s) (enX (fCr_x0_1 g3) (fCr_x0_2 g3) r) :=
  loop_true E0ok fCr_Mt (noL_true) fCr_o (fun _ h => by cases h) (fun _ h => by cases h) (fun _ h => by cases h) (fun _ h => by cases h) (fun s => (fCr_e0 g3 s).trans (fCr_p0 g3 s _ _ (fun e => some (fCr_x0_2 g3 e))))
def fCr_t0 (σ : List AV) : Option (Bool × Bool × (X × List AV) × (X × List AV)) := match dec fCr_h0 σ with | some [.i x1, .i y2, .l g3, .i z7, .i step8, .i i9] => some (isOne (loopL (fCr_r0 g3) (x1, y2, z7, step8, i9)), true, fCr_x0_1 g3 (getOne 0 (loopL (fCr_r0 g3) (x1, y2, z7, step8, i9))), (.ret, [])) | _ => none
theorem fCr_tt0 : TTrue Tryz.prog fCr_F Tryz.f82 0 (fCr_t0) := by
  intro σ p r r' h
  unfold fCr_t0 at h
  split at h
  · rename_i hd
    rw [← dec_enc hd]
    exact row1 (fCr_l0 _ _) h
  · cases h
theorem fCr_p {R : Type} (g0 : List Sc) (x1 y2 : Int) (kR : Int → Option R) : fCr_k g0 x1 y2 kR = (fCr_k g0 x1 y2 some).bind kR := by
  simp only [fCr_k, bl1B, someB]
theorem fCr_e (g0 : List Sc) (x1 y2 : Int) : runFn E0 fCr_M H0 fCr_F (asL (addL 0 (fCr_t0) (noL))) Tryz.f82 (fCr_a g0 x1 y2) (fCr_i g0 x1 y2) = fCr_k g0 x1 y2 (fun r => some (fCr_en r)) := by kernel_rfl
theorem fCr_ok (g0 : List Sc) (x1 y2 r : Int) (h : fCr g0 x1 y2 = some r) : CS Tryz.prog 82 (fCr_a g0 x1 y2) (fCr_i g0 x1 y2) (fCr_en r).1 (fCr_en r).2 :=
  fn_true (Gk := fun k => fCr_k g0 x1 y2 k) (en := fCr_en) Tryz.func82 E0ok fCr_Mt (addL_true (fCr_tt0) (noL_true)) fCr_o (fCr_e g0 x1 y2) (fCr_p g0 x1 y2) h
def fCr_c : CRow := fun args inh => match dec2 [.p .gr, .p (.int .i64), .p (.int .i64)] [] args inh with | some ([.l g0, .i x1, .i y2], []) => some ((fCr g0 x1 y2).isSome, (fCr_en ((fCr g0 x1 y2).getD 0)).1, (fCr_en ((fCr g0 x1 y2).getD 0)).2) | _ => none
theorem fCr_cc : CTrue Tryz.prog 82 fCr_c := by
  intro args inh rs out h
  unfold fCr_c at h
  split at h
  · rename_i hd
    obtain ⟨h1, h2⟩ := dec2_enc hd
    rw [← h1, ← h2]
    exact rowC (fCr_ok _ _ _) h
  · cases h
def fCo_F : Fi := { nv := 0, nc := 0, m := 0, vt := [], kl := [(0, ([0, 3, 4, 7, 8, 9, 10, 11, 12, 13, 14, 15, 16, 17, 18, 19, 20], [0, 1, 2, 3, 4, 6, 7, 8, 9, 10, 11, 12, 13, 14, 15, 16, 17, 18, 19, 20], [0, 1, 2, 3, 5, 6, 7, 8, 9, 10, 11, 12, 13, 14, 15, 16, 17, 18, 19, 20]))], sk := [], mvs := [], fz := [] }
def fCo_a (g0 l1 : List Sc) : List AV := enc [.p .gr, .p .sl] [.l g0, .l l1]
def fCo_i (g0 l1 : List Sc) : List AV := enc [] []
def fCo_en (r : Int) : List AV × List AV := (enc [.p (.int .i64)] [.i r], enc [] [])
def fCo_M : Calling := addC 82 fCr_c (noC)
theorem fCo_Mt : CallOk Tryz.prog (fCo_M) := addC_true fCr_cc (noC_true)
theorem fCo_o : loopsOnce Tryz.f64 = true := by kernel_rfl
def fCo_h0 : List Sh := [.u, .p .sl, .p .el, .u, .u, .p (.int .i64), .p (.int .i64), .u, .u, .u, .u, .u, .u, .u, .u, .u, .u, .u, .u, .u, .u]
def fCo_fr0 (l1 g2 : List Sc) (s : Int × Int) : List AV := enc fCo_h0 [.l l1, .l g2, .i s.1, .i s.2]
def fCo_g0_1 : List Sh := [.u, .u, .u, .u, .u, .p (.int .i64), .u, .u, .u, .u, .u, .u, .u, .u, .u, .u, .u, .u, .u, .u, .u]
def fCo_x0_1 (l1 g2 : List Sc) (e : Int) : X × List AV := (.out 0, enc fCo_g0_1 [.i e])
def fCo_x0_2 (l1 g2 : List Sc) (_e : Unit) : X × List AV := (.ret, [])
theorem fCo_p0 {R : Type} (l1 g2 : List Sc) (s : Int × Int) (kN : Int × Int → Option R) (kA : Int → Option R) (kB : Unit → Option R) : fCo_k0 l1 g2 s.1 s.2 kN kA = (fCo_r0 l1 g2 s).bind (Ro.el kN kA kB) := by
  simp only [fCo_k0, fCo_r0, brB, boB, someB, noneB, Ro.el]
theorem fCo_e0 (l1 g2 : List Sc) (s : Int × Int) : EC E0 fCo_M H0 fCo_F (asL (noL)) 0 (bodyOf Tryz.f64 0) (fCo_fr0 l1 g2 s) (done (klOf fCo_F 0)) = fCo_k0 l1 g2 s.1 s.2 (fun s => some (.norm, fCo_fr0 l1 g2 s)) (fun e => some (fCo_x0_1 l1 g2 e)) := by kernel_rfl
theorem fCo_l0 (l1 g2 : List Sc) : ∀ s r, loopL (fCo_r0 l1 g2) s = some r → LS Tryz.prog fCo_F (bodyOf Tryz.f64 0) (fCo_fr0 l1 g2 s) (enX (fCo_x0_1 l1 g2) (fCo_x0_2 l1 g2) r) :=
  loop_true E0ok fCo_Mt (noL_true) fCo_o (fun _ h => by cases h) (fun _ h => by cases h) (fun _ h => by cases h) (fun _ h => by cases h) (fun s => (fCo_e0 l1 g2 s).trans (fCo_p0 l1 g2 s _ _ (fun e => some (fCo_x0_2 l1 g2 e))))
def fCo_t0 (σ : List AV) : Option (Bool × Bool × (X × List AV) × (X × List AV)) := match dec fCo_h0 σ with | some [.l l1, .l g2, .i z5, .i i6] => some (isOne (loopL (fCo_r0 l1 g2) (z5, i6)), true, fCo_x0_1 l1 g2 (getOne 0 (loopL (fCo_r0 l1 g2) (z5, i6))), (.ret, [])) | _ => none
theorem fCo_tt0 : TTrue Tryz.prog fCo_F Tryz.f64 0 (fCo_t0) := by
  intro σ p r r' h
  unfold fCo_t0 at h
  split at h
  · rename_i hd
    rw [← dec_enc hd]
    exact row1 (fCo_l0 _ _ _) h
  · cases h
theorem fCo_p {R : Type} (g0 l1 : List Sc) (kR : Int → Option R) : fCo_k g0 l1 kR = (fCo_k g0 l1 some).bind kR := by
  simp only [fCo_k, bl1B, someB]
theorem fCo_e (g0 l1 : List Sc) : runFn E0 fCo_M H0 fCo_F (asL (addL 0 (fCo_t0) (noL))) Tryz.f64 (fCo_a g0 l1) (fCo_i g0 l1) = fCo_k g0 l1 (fun r => some (fCo_en r)) := by kernel_rfl
theorem fCo_ok (g0 l1 : List Sc) (r : Int) (h : fCo g0 l1 = some r) : CS Tryz.prog 64 (fCo_a g0 l1) (fCo_i g0 l1) (fCo_en r).1 (fCo_en r).2 :=
  fn_true (Gk := fun k => fCo_k g0 l1 k) (en := fCo_en) Tryz.func64 E0ok fCo_Mt (addL_true (fCo_tt0) (noL_true)) fCo_o (fCo_e g0 l1) (fCo_p g0 l1) h
def fCo_c : CRow := fun args inh => match dec2 [.p .gr, .p .sl] [] args inh with | some ([.l g0, .l l1], []) => some ((fCo g0 l1).isSome, (fCo_en ((fCo g0 l1).getD 0)).1, (fCo_en ((fCo g0 l1).getD 0)).2) | _ => none
theorem fCo_cc : CTrue Tryz.prog 64 fCo_c := by
  intro args inh rs out h
  unfold fCo_c at h
  split at h
  · rename_i hd
    obtain ⟨h1, h2⟩ := dec2_enc hd
    rw [← h1, ← h2]
    exact rowC (fCo_ok _ _) h
  · cases h
def fBw_F : Fi := { nv := 0, nc := 0, m := 0, vt := [], kl := [(0, ([0, 3, 4, 8, 9, 10, 11, 12, 13, 14, 15, 16, 17, 18, 19, 20, 21, 22, 23, 24, 25, 26, 27, 28, 29, 30, 31, 32, 33, 34, 35, 36, 37, 38], [0, 1, 2, 3, 4, 6, 7, 8, 9, 10, 11, 12, 13, 14, 15, 16, 17, 18, 19, 20, 21, 22, 23, 24, 25, 26, 27, 28, 29, 30, 31, 32, 33, 34, 35, 36, 37, 38], [0, 1, 2, 3, 5, 6, 7, 8, 9, 10, 11, 12, 13, 14, 15, 16, 17, 18, 19, 20, 21, 22, 23, 24, 25, 26, 27, 28, 29, 30, 31, 32, 33, 34, 35, 36, 37, 38]))], sk := [], mvs := [], fz := [] }
def fBw_a (g0 : List Sc) (x1 : Int) : List AV := enc [.p .gr, .p (.int .i64)] [.l g0, .i x1]
def fBw_i (g0 : List Sc) (x1 : Int) : List AV := enc [] []
def fBw_en (r : Int) : List AV × List AV := (enc [.p (.int .i64)] [.i r], enc [] [])
def fBw_M : Calling := noC
theorem fBw_Mt : CallOk Tryz.prog (fBw_M) := noC_true
theorem fBw_o : loopsOnce Tryz.f74 = true := by kernel_rfl
def fBw_h0 : List Sh := [.u, .p (.int .i64), .p .el, .u, .u, .p (.int .i64), .p (.int .i64), .p (.int .i64), .u, .u, .u, .u, .u, .u, .u, .u, .u, .u, .u, .u, .u, .u, .u, .u, .u, .u, .u, .u, .u, .u, .u, .u, .u, .u, .u, .u, .u, .u, .u]
def fBw_fr0 (g2 : List Sc) (s : Int × Int × Int × Int) : List AV := enc fBw_h0 [.i s.1, .l g2, .i s.2.1, .i s.2.2.1, .i s.2.2.2]
def fBw_g0_1 : List Sh := [.u, .u, .u, .u, .u, .p (.int .i64), .u, .u, .u, .u, .u, .u, .u, .u, .u, .u, .u, .u, .u, .u, .u, .u, .u, .u, .u, .u, .u, .u, .u, .u, .u, .u, .u, .u, .u, .u, .u, .u, .u]
def fBw_x0_1 (g2 : List Sc) (e : Int) : X × List AV := (.out 0, enc fBw_g0_1 [.i e])
def fBw_x0_2 (g2 : List Sc) (_e : Unit) : X × List AV := (.ret, [])
theorem fBw_p0 {R : Type} (g2 : List Sc) (s : Int × Int × Int × Int) (kN : Int × Int × Int × Int → Option R) (kA : Int → Option R) (kB : Unit → Option R) : fBw_k0 g2 s.1 s.2.1 s.2.2.1 s.2.2.2 kN kA = (fBw_r0 g2 s).bind (Ro.el kN kA kB) := by
  simp only [fBw_k0, fBw_r0, brB, someB, noneB, Ro.el]
theorem fBw_e0 (g2 : List Sc) (s : Int × Int × Int × Int) : EC E0 fBw_M H0 fBw_F (asL (noL)) 0 (bodyOf Tryz.f74 0) (fBw_fr0 g2 s) (done (klOf fBw_F 0)) = fBw_k0 g2 s.1 s.2.1 s.2.2.1 s.2.2.2 (fun s => some (.norm, fBw_fr0 g2 s)) (fun e => some (fBw_x0_1 g2 e)) := by kernel_rfl
theorem fBw_l0 (g2 : List Sc) : ∀ s r, loopL (fBw_r0 g2) s = some r → LS Tryz.prog fBw_F (bodyOf Tryz.f74 0) (fBw_fr0 g2 s) (enX (fBw_x0_1 g2) (fBw_x0_2 g2) r) :=
  loop_true E0ok fBw_Mt (noL_true) fBw_o (fun _ h => by cases h) (fun _ h => by cases h) (fun _ h => by cases h) (fun _ h => by cases h) (fun s => (fBw_e0 g2 s).trans (fBw_p0 g2 s _ _ (fun e => some (fBw_x0_2 g2 e))))
def fBw_t0 (σ : List AV) : Option (Bool × Bool × (X × List AV) × (X × List AV)) := match dec fBw_h0 σ with | some [.i x1, .l g2, .i z5, .i step6, .i i7] => some (isOne (loopL (fBw_r0 g2) (x1, z5, step6, i7)), true, fBw_x0_1 g2 (getOne 0 (loopL (fBw_r0 g2) (x1, z5, step6, i7))), (.ret, [])) | _ => none
theorem fBw_tt0 : TTrue Tryz.prog fBw_F Tryz.f74 0 (fBw_t0) := by
  intro σ p r r' h
  unfold fBw_t0 at h
  split at h
  · rename_i hd
    rw [← dec_enc hd]
    exact row1 (fBw_l0 _ _) h
  · cases h
theorem fBw_p {R : Type} (g0 : List Sc) (x1 : Int) (kR : Int → Option R) : fBw_k g0 x1 kR = (fBw_k g0 x1 some).bind kR := by
  simp only [fBw_k, bl1B, someB]
theorem fBw_e (g0 : List Sc) (x1 : Int) : runFn E0 fBw_M H0 fBw_F (asL (addL 0 (fBw_t0) (noL))) Tryz.f74 (fBw_a g0 x1) (fBw_i g0 x1) = fBw_k g0 x1 (fun r => some (fBw_en r)) := by kernel_rfl
theorem fBw_ok (g0 : List Sc) (x1 r : Int) (h : fBw g0 x1 = some r) : CS Tryz.prog 74 (fBw_a g0 x1) (fBw_i g0 x1) (fBw_en r).1 (fBw_en r).2 :=
  fn_true (Gk := fun k => fBw_k g0 x1 k) (en := fBw_en) Tryz.func74 E0ok fBw_Mt (addL_true (fBw_tt0) (noL_true)) fBw_o (fBw_e g0 x1) (fBw_p g0 x1) h
def fBw_c : CRow := fun args inh => match dec2 [.p .gr, .p (.int .i64)] [] args inh with | some ([.l g0, .i x1], []) => some ((fBw g0 x1).isSome, (fBw_en ((fBw g0 x1).getD 0)).1, (fBw_en ((fBw g0 x1).getD 0)).2) | _ => none
theorem fBw_cc : CTrue Tryz.prog 74 fBw_c := by
  intro args inh rs out h
  unfold fBw_c at h
  split at h
  · rename_i hd
    obtain ⟨h1, h2⟩ := dec2_enc hd
    rw [← h1, ← h2]
    exact rowC (fBw_ok _ _) h
  · cases h
def fCp_F : Fi := { nv := 0, nc := 0, m := 0, vt := [], kl := [(0, ([0, 1, 2, 6, 7, 8, 9, 10, 11, 12, 13, 14, 15, 16, 17, 18, 19, 20, 21], [0, 1, 2, 4, 5, 6, 7, 8, 9, 10, 11, 12, 13, 14, 15, 16, 17, 18, 19, 20, 21], [0, 1, 3, 4, 5, 6, 7, 8, 9, 10, 11, 12, 13, 14, 15, 16, 17, 18, 19, 20, 21]))], sk := [], mvs := [], fz := [] }
def fCp_a (a0 : Int) : List AV := enc [.p (.int .i64)] [.i a0]
def fCp_i (a0 : Int) : List AV := enc [] []
def fCp_en (r : List Sc) : List AV × List AV := (enc [.p (.al 0)] [], enc [.own 3] [.l r])
def fCp_M : Calling := noC
theorem fCp_Mt : CallOk Tryz.prog (fCp_M) := noC_true
theorem fCp_o : loopsOnce Tryz.f94 = true := by kernel_rfl
def fCp_h0 : List Sh := [.u, .u, .u, .own 3, .p (.int .i64), .p (.int .i64), .u, .u, .u, .u, .u, .u, .u, .u, .u, .u, .u, .u, .u, .u, .u, .u]
def fCp_fr0 (s : List Sc × Int × Int) : List AV := enc fCp_h0 [.l s.1, .i s.2.1, .i s.2.2]
def fCp_g0_1 : List Sh := [.u, .u, .u, .own 3, .u, .u, .u, .u, .u, .u, .u, .u, .u, .u, .u, .u, .u, .u, .u, .u, .u, .u]
def fCp_x0_1 (e : List Sc) : X × List AV := (.out 0, enc fCp_g0_1 [.l e])
def fCp_x0_2 (_e : Unit) : X × List AV := (.ret, [])
theorem fCp_p0 {R : Type} (s : List Sc × Int × Int) (kN : List Sc × Int × Int → Option R) (kA : List Sc → Option R) (kB : Unit → Option R) : fCp_k0 s.1 s.2.1 s.2.2 kN kA = (fCp_r0 s).bind (Ro.el kN kA kB) := by
  simp only [fCp_k0, fCp_r0, brB, someB, noneB, Ro.el]
theorem fCp_e0 (s : List Sc × Int × Int) : EC E0 fCp_M H0 fCp_F (asL (noL)) 0 (bodyOf Tryz.f94 0) (fCp_fr0 s) (done (klOf fCp_F 0)) = fCp_k0 s.1 s.2.1 s.2.2 (fun s => some (.norm, fCp_fr0 s)) (fun e => some (fCp_x0_1 e)) := by kernel_rfl
theorem fCp_l0 : ∀ s r, loopL (fCp_r0) s = some r → LS Tryz.prog fCp_F (bodyOf Tryz.f94 0) (fCp_fr0 s) (enX (fCp_x0_1) (fCp_x0_2) r) :=
  loop_true E0ok fCp_Mt (noL_true) fCp_o (fun _ h => by cases h) (fun _ h => by cases h) (fun _ h => by cases h) (fun _ h => by cases h) (fun s => (fCp_e0 s).trans (fCp_p0 s _ _ (fun e => some (fCp_x0_2 e))))
def fCp_t0 (σ : List AV) : Option (Bool × Bool × (X × List AV) × (X × List AV)) := match dec fCp_h0 σ with | some [.l out3, .i i4, .i x5] => some (isOne (loopL (fCp_r0) (out3, i4, x5)), true, fCp_x0_1 (getOne [] (loopL (fCp_r0) (out3, i4, x5))), (.ret, [])) | _ => none
theorem fCp_tt0 : TTrue Tryz.prog fCp_F Tryz.f94 0 (fCp_t0) := by
  intro σ p r r' h
  unfold fCp_t0 at h
  split at h
  · rename_i hd
    rw [← dec_enc hd]
    exact row1 (fCp_l0 _) h
  · cases h
theorem fCp_p {R : Type} (a0 : Int) (kR : List Sc → Option R) : fCp_k a0 kR = (fCp_k a0 some).bind kR := by
  simp only [fCp_k, bl1B, someB]
theorem fCp_e (a0 : Int) : runFn E0 fCp_M H0 fCp_F (asL (addL 0 (fCp_t0) (noL))) Tryz.f94 (fCp_a a0) (fCp_i a0) = fCp_k a0 (fun r => some (fCp_en r)) := by kernel_rfl
theorem fCp_ok (a0 : Int) (r : List Sc) (h : fCp a0 = some r) : CS Tryz.prog 94 (fCp_a a0) (fCp_i a0) (fCp_en r).1 (fCp_en r).2 :=
  fn_true (Gk := fun k => fCp_k a0 k) (en := fCp_en) Tryz.func94 E0ok fCp_Mt (addL_true (fCp_tt0) (noL_true)) fCp_o (fCp_e a0) (fCp_p a0) h
def fCp_c : CRow := fun args inh => match dec2 [.p (.int .i64)] [] args inh with | some ([.i a0], []) => some ((fCp a0).isSome, (fCp_en ((fCp a0).getD [])).1, (fCp_en ((fCp a0).getD [])).2) | _ => none
theorem fCp_cc : CTrue Tryz.prog 94 fCp_c := by
  intro args inh rs out h
  unfold fCp_c at h
  split at h
  · rename_i hd
    obtain ⟨h1, h2⟩ := dec2_enc hd
    rw [← h1, ← h2]
    exact rowC (fCp_ok _) h
  · cases h
def fCi_F : Fi := { nv := 0, nc := 0, m := 0, vt := [], kl := [(0, ([0, 1, 4, 5, 6, 10, 11, 12, 13, 14, 15, 16, 17, 18, 19, 20, 21, 22, 23, 24, 25, 26, 27, 28], [0, 1, 2, 3, 4, 5, 6, 8, 9, 10, 11, 12, 13, 14, 15, 16, 17, 18, 19, 20, 21, 22, 23, 24, 25, 26, 27, 28], [0, 1, 2, 3, 4, 5, 7, 8, 9, 10, 11, 12, 13, 14, 15, 16, 17, 18, 19, 20, 21, 22, 23, 24, 25, 26, 27, 28]))], sk := [], mvs := [], fz := [] }
def fCi_a (g0 : List Sc) (a1 x2 : Int) : List AV := enc [.p .gr, .p (.int .i64), .p (.int .i64)] [.l g0, .i a1, .i x2]
def fCi_i (g0 : List Sc) (a1 x2 : Int) : List AV := enc [] []
def fCi_en (r : Int) : List AV × List AV := (enc [.p (.int .i64)] [.i r], enc [] [])
def fCi_M : Calling := addC 94 fCp_c (addC 82 fCr_c (noC))
theorem fCi_Mt : CallOk Tryz.prog (fCi_M) := addC_true fCp_cc (addC_true fCr_cc (noC_true))
theorem fCi_o : loopsOnce Tryz.f75 = true := by kernel_rfl
def fCi_h0 : List Sh := [.u, .u, .p (.int .i64), .p .el, .u, .u, .u, .p (.int .i64), .own 3, .p (.int .i64), .u, .u, .u, .u, .u, .u, .u, .u, .u, .u, .u, .u, .u, .u, .u, .u, .u, .u, .u]
def fCi_fr0 (x2 : Int) (g3 : List Sc) (s : Int × List Sc × Int) : List AV := enc fCi_h0 [.i x2, .l g3, .i s.1, .l s.2.1, .i s.2.2]
def fCi_g0_1 : List Sh := [.u, .u, .u, .u, .u, .u, .u, .p (.int .i64), .u, .u, .u, .u, .u, .u, .u, .u, .u, .u, .u, .u, .u, .u, .u, .u, .u, .u, .u, .u, .u]
def fCi_x0_1 (x2 : Int) (g3 : List Sc) (e : Int) : X × List AV := (.out 0, enc fCi_g0_1 [.i e])
def fCi_x0_2 (x2 : Int) (g3 : List Sc) (_e : Unit) : X × List AV := (.ret, [])
theorem fCi_p0 {R : Type} (x2 : Int) (g3 : List Sc) (s : Int × List Sc × Int) (kN : Int × List Sc × Int → Option R) (kA : Int → Option R) (kB : Unit → Option R) : fCi_k0 x2 g3 s.1 s.2.1 s.2.2 kN kA = (fCi_r0 x2 g3 s).bind (Ro.el kN kA kB) := by
  simp only [fCi_k0, fCi_r0, brB, boB, someB, noneB, Ro.el]
theorem fCi_e0 (x2 : Int) (g3 : List Sc) (s : Int × List Sc × Int) : EC E0 fCi_M H0 fCi_F (asL (noL)) 0 (bodyOf Tryz.f75 0) (fCi_fr0 x2 g3 s) (done (klOf fCi_F 0)) = fCi_k0 x2 g3 s.1 s.2.1 s.2.2 (fun s => some (.norm, fCi_fr0 x2 g3 s)) (fun e => some (fCi_x0_1 x2 g3 e)) := by kernel_rfl
theorem fCi_l0 (x2 : Int) (g3 : List Sc) : ∀ s r, loopL (fCi_r0 x2 g3) s = some r → LS Tryz.prog fCi_F (bodyOf Tryz.f75 0) (fCi_fr0 x2 g3 s) (enX (fCi_x0_1 x2 g3) (fCi_x0_2 x2 g3) r) :=
  loop_true E0ok fCi_Mt (noL_true) fCi_o (fun _ h => by cases h) (fun _ h => by cases h) (fun _ h => by cases h) (fun _ h => by cases h) (fun s => (fCi_e0 x2 g3 s).trans (fCi_p0 x2 g3 s _ _ (fun e => some (fCi_x0_2 x2 g3 e))))
def fCi_t0 (σ : List AV) : Option (Bool × Bool × (X × List AV) × (X × List AV)) := match dec fCi_h0 σ with | some [.i x2, .l g3, .i out7, .l l8, .i i9] => some (isOne (loopL (fCi_r0 x2 g3) (out7, l8, i9)), true, fCi_x0_1 x2 g3 (getOne 0 (loopL (fCi_r0 x2 g3) (out7, l8, i9))), (.ret, [])) | _ => none
theorem fCi_tt0 : TTrue Tryz.prog fCi_F Tryz.f75 0 (fCi_t0) := by
  intro σ p r r' h
  unfold fCi_t0 at h
  split at h
  · rename_i hd
    rw [← dec_enc hd]
    exact row1 (fCi_l0 _ _ _) h
  · cases h
theorem fCi_p {R : Type} (g0 : List Sc) (a1 x2 : Int) (kR : Int → Option R) : fCi_k g0 a1 x2 kR = (fCi_k g0 a1 x2 some).bind kR := by
  simp only [fCi_k, boB, bl1B, someB]
theorem fCi_e (g0 : List Sc) (a1 x2 : Int) : runFn E0 fCi_M H0 fCi_F (asL (addL 0 (fCi_t0) (noL))) Tryz.f75 (fCi_a g0 a1 x2) (fCi_i g0 a1 x2) = fCi_k g0 a1 x2 (fun r => some (fCi_en r)) := by kernel_rfl
theorem fCi_ok (g0 : List Sc) (a1 x2 r : Int) (h : fCi g0 a1 x2 = some r) : CS Tryz.prog 75 (fCi_a g0 a1 x2) (fCi_i g0 a1 x2) (fCi_en r).1 (fCi_en r).2 :=
  fn_true (Gk := fun k => fCi_k g0 a1 x2 k) (en := fCi_en) Tryz.func75 E0ok fCi_Mt (addL_true (fCi_tt0) (noL_true)) fCi_o (fCi_e g0 a1 x2) (fCi_p g0 a1 x2) h
def fCi_c : CRow := fun args inh => match dec2 [.p .gr, .p (.int .i64), .p (.int .i64)] [] args inh with | some ([.l g0, .i a1, .i x2], []) => some ((fCi g0 a1 x2).isSome, (fCi_en ((fCi g0 a1 x2).getD 0)).1, (fCi_en ((fCi g0 a1 x2).getD 0)).2) | _ => none
theorem fCi_cc : CTrue Tryz.prog 75 fCi_c := by
  intro args inh rs out h
  unfold fCi_c at h
  split at h
  · rename_i hd
    obtain ⟨h1, h2⟩ := dec2_enc hd
    rw [← h1, ← h2]
    exact rowC (fCi_ok _ _ _) h
  · cases h
def fBb_F : Fi := { nv := 0, nc := 0, m := 0, vt := [], kl := [(0, ([0, 3, 4, 7, 8, 9, 10, 11, 12, 13, 14, 15, 16, 17, 18, 19, 20, 21, 22, 23, 24, 25, 26, 27, 28], [0, 1, 2, 3, 4, 6, 7, 8, 9, 10, 11, 12, 13, 14, 15, 16, 17, 18, 19, 20, 21, 22, 23, 24, 25, 26, 27, 28], [0, 1, 2, 3, 5, 6, 7, 8, 9, 10, 11, 12, 13, 14, 15, 16, 17, 18, 19, 20, 21, 22, 23, 24, 25, 26, 27, 28]))], sk := [], mvs := [], fz := [] }
def fBb_a (g0 l1 : List Sc) : List AV := enc [.p .gr, .p .sl] [.l g0, .l l1]
def fBb_i (g0 l1 : List Sc) : List AV := enc [] []
def fBb_en (r : Int) : List AV × List AV := (enc [.p (.int .i64)] [.i r], enc [] [])
def fBb_M : Calling := addC 75 fCi_c (noC)
theorem fBb_Mt : CallOk Tryz.prog (fBb_M) := addC_true fCi_cc (noC_true)
theorem fBb_o : loopsOnce Tryz.f61 = true := by kernel_rfl
def fBb_h0 : List Sh := [.u, .p .sl, .p .el, .u, .u, .p (.int .i64), .p (.int .i64), .u, .u, .u, .u, .u, .u, .u, .u, .u, .u, .u, .u, .u, .u, .u, .u, .u, .u, .u, .u, .u, .u]
def fBb_fr0 (l1 g2 : List Sc) (s : Int × Int) : List AV := enc fBb_h0 [.l l1, .l g2, .i s.1, .i s.2]
def fBb_g0_1 : List Sh := [.u, .u, .u, .u, .u, .p (.int .i64), .u, .u, .u, .u, .u, .u, .u, .u, .u, .u, .u, .u, .u, .u, .u, .u, .u, .u, .u, .u, .u, .u, .u]
def fBb_x0_1 (l1 g2 : List Sc) (e : Int) : X × List AV := (.out 0, enc fBb_g0_1 [.i e])
def fBb_x0_2 (l1 g2 : List Sc) (_e : Unit) : X × List AV := (.ret, [])
theorem fBb_p0 {R : Type} (l1 g2 : List Sc) (s : Int × Int) (kN : Int × Int → Option R) (kA : Int → Option R) (kB : Unit → Option R) : fBb_k0 l1 g2 s.1 s.2 kN kA = (fBb_r0 l1 g2 s).bind (Ro.el kN kA kB) := by
  simp only [fBb_k0, fBb_r0, brB, boB, someB, noneB, Ro.el]
theorem fBb_e0 (l1 g2 : List Sc) (s : Int × Int) : EC E0 fBb_M H0 fBb_F (asL (noL)) 0 (bodyOf Tryz.f61 0) (fBb_fr0 l1 g2 s) (done (klOf fBb_F 0)) = fBb_k0 l1 g2 s.1 s.2 (fun s => some (.norm, fBb_fr0 l1 g2 s)) (fun e => some (fBb_x0_1 l1 g2 e)) := by kernel_rfl
theorem fBb_l0 (l1 g2 : List Sc) : ∀ s r, loopL (fBb_r0 l1 g2) s = some r → LS Tryz.prog fBb_F (bodyOf Tryz.f61 0) (fBb_fr0 l1 g2 s) (enX (fBb_x0_1 l1 g2) (fBb_x0_2 l1 g2) r) :=
  loop_true E0ok fBb_Mt (noL_true) fBb_o (fun _ h => by cases h) (fun _ h => by cases h) (fun _ h => by cases h) (fun _ h => by cases h) (fun s => (fBb_e0 l1 g2 s).trans (fBb_p0 l1 g2 s _ _ (fun e => some (fBb_x0_2 l1 g2 e))))
def fBb_t0 (σ : List AV) : Option (Bool × Bool × (X × List AV) × (X × List AV)) := match dec fBb_h0 σ with | some [.l l1, .l g2, .i out5, .i i6] => some (isOne (loopL (fBb_r0 l1 g2) (out5, i6)), true, fBb_x0_1 l1 g2 (getOne 0 (loopL (fBb_r0 l1 g2) (out5, i6))), (.ret, [])) | _ => none
theorem fBb_tt0 : TTrue Tryz.prog fBb_F Tryz.f61 0 (fBb_t0) := by
  intro σ p r r' h
  unfold fBb_t0 at h
  split at h
  · rename_i hd
    rw [← dec_enc hd]
    exact row1 (fBb_l0 _ _ _) h
  · cases h
theorem fBb_p {R : Type} (g0 l1 : List Sc) (kR : Int → Option R) : fBb_k g0 l1 kR = (fBb_k g0 l1 some).bind kR := by
  simp only [fBb_k, bl1B, someB]
theorem fBb_e (g0 l1 : List Sc) : runFn E0 fBb_M H0 fBb_F (asL (addL 0 (fBb_t0) (noL))) Tryz.f61 (fBb_a g0 l1) (fBb_i g0 l1) = fBb_k g0 l1 (fun r => some (fBb_en r)) := by kernel_rfl
theorem fBb_ok (g0 l1 : List Sc) (r : Int) (h : fBb g0 l1 = some r) : CS Tryz.prog 61 (fBb_a g0 l1) (fBb_i g0 l1) (fBb_en r).1 (fBb_en r).2 :=
  fn_true (Gk := fun k => fBb_k g0 l1 k) (en := fBb_en) Tryz.func61 E0ok fBb_Mt (addL_true (fBb_tt0) (noL_true)) fBb_o (fBb_e g0 l1) (fBb_p g0 l1) h
def fBb_c : CRow := fun args inh => match dec2 [.p .gr, .p .sl] [] args inh with | some ([.l g0, .l l1], []) => some ((fBb g0 l1).isSome, (fBb_en ((fBb g0 l1).getD 0)).1, (fBb_en ((fBb g0 l1).getD 0)).2) | _ => none
theorem fBb_cc : CTrue Tryz.prog 61 fBb_c := by
  intro args inh rs out h
  unfold fBb_c at h
  split at h
  · rename_i hd
    obtain ⟨h1, h2⟩ := dec2_enc hd
    rw [← h1, ← h2]
    exact rowC (fBb_ok _ _) h
  · cases h
def fBc_F : Fi := { nv := 0, nc := 0, m := 0, vt := [], kl := [(0, ([0, 3, 4, 6, 7, 8, 9, 10, 11, 12, 13, 14, 15, 16, 17, 18, 19, 20, 21, 22, 23, 24, 25, 26, 27], [0, 1, 2, 3, 4, 5, 6, 7, 8, 9, 10, 11, 12, 13, 14, 15, 16, 17, 18, 19, 20, 21, 22, 23, 24, 25, 26, 27], [0, 1, 2, 3, 5, 6, 7, 8, 9, 10, 11, 12, 13, 14, 15, 16, 17, 18, 19, 20, 21, 22, 23, 24, 25, 26, 27]))], sk := [], mvs := [], fz := [] }
def fBc_a (g0 l1 : List Sc) : List AV := enc [.p .gr, .p .sl] [.l g0, .l l1]
def fBc_i (g0 l1 : List Sc) : List AV := enc [] []
def fBc_en (r : Bool) : List AV × List AV := (enc [.p .boo] [.b r], enc [] [])
def fBc_M : Calling := addC 61 fBb_c (noC)
theorem fBc_Mt : CallOk Tryz.prog (fBc_M) := addC_true fBb_cc (noC_true)
theorem fBc_o : loopsOnce Tryz.f62 = true := by kernel_rfl
def fBc_h0 : List Sh := [.u, .p .sl, .p .el, .u, .u, .p (.int .i64), .u, .u, .u, .u, .u, .u, .u, .u, .u, .u, .u, .u, .u, .u, .u, .u, .u, .u, .u, .u, .u, .u]
def fBc_fr0 (l1 g2 : List Sc) (s : Int) : List AV := enc fBc_h0 [.l l1, .l g2, .i s]
def fBc_g0_1 : List Sh := [.u, .u, .u, .u, .u, .u, .u, .u, .u, .u, .u, .u, .u, .u, .u, .u, .u, .u, .u, .u, .u, .u, .u, .u, .u, .u, .u, .u]
def fBc_x0_1 (l1 g2 : List Sc) (e : Unit) : X × List AV := (.out 0, enc fBc_g0_1 [])
def fBc_g0_2 : List Sh := [.u, .u, .u, .u, .p .boo, .u, .u, .u, .u, .u, .u, .u, .u, .u, .u, .u, .u, .u, .u, .u, .u, .u, .u, .u, .u, .u, .u, .u]
def fBc_x0_2 (l1 g2 : List Sc) (e : Unit) : X × List AV := (.ret, enc fBc_g0_2 [.b false])
theorem fBc_p0 {R : Type} (l1 g2 : List Sc) (s : Int) (kN : Int → Option R) (kA kB : Unit → Option R) : fBc_k0 l1 g2 s kN kA kB = (fBc_r0 l1 g2 s).bind (Ro.el kN kA kB) := by
  simp only [fBc_k0, fBc_r0, brB, boB, someB, noneB, Ro.el]
theorem fBc_e0 (l1 g2 : List Sc) (s : Int) : EC E0 fBc_M H0 fBc_F (asL (noL)) 0 (bodyOf Tryz.f62 0) (fBc_fr0 l1 g2 s) (done (klOf fBc_F 0)) = fBc_k0 l1 g2 s (fun s => some (.norm, fBc_fr0 l1 g2 s)) (fun e => some (fBc_x0_1 l1 g2 e)) (fun e => some (fBc_x0_2 l1 g2 e)) := by kernel_rfl
theorem fBc_l0 (l1 g2 : List Sc) : ∀ s r, loopL (fBc_r0 l1 g2) s = some r → LS Tryz.prog fBc_F (bodyOf Tryz.f62 0) (fBc_fr0 l1 g2 s) (enX (fBc_x0_1 l1 g2) (fBc_x0_2 l1 g2) r) :=
  loop_true E0ok fBc_Mt (noL_true) fBc_o (fun _ h => by cases h) (fun _ h => by cases h) (fun _ h => by cases h) (fun _ h => by cases h) (fun s => (fBc_e0 l1 g2 s).trans (fBc_p0 l1 g2 s _ _ (fun e => some (fBc_x0_2 l1 g2 e))))
def fBc_t0 (σ : List AV) : Option (Bool × Bool × (X × List AV) × (X × List AV)) := match dec fBc_h0 σ with | some [.l l1, .l g2, .i i5] => some ((loopL (fBc_r0 l1 g2) i5).isSome, isOne (loopL (fBc_r0 l1 g2) i5), fBc_x0_1 l1 g2 (getOne () (loopL (fBc_r0 l1 g2) i5)), fBc_x0_2 l1 g2 (getTwo () (loopL (fBc_r0 l1 g2) i5))) | _ => none
theorem fBc_tt0 : TTrue Tryz.prog fBc_F Tryz.f62 0 (fBc_t0) := by
  intro σ p r r' h
  unfold fBc_t0 at h
  split at h
  · rename_i hd
    rw [← dec_enc hd]
    exact row2 (fBc_l0 _ _ _) h
  · cases h
theorem fBc_p {R : Type} (g0 l1 : List Sc) (kR : Bool → Option R) : fBc_k g0 l1 kR = (fBc_k g0 l1 some).bind kR := by
  simp only [fBc_k, blB, someB]
theorem fBc_e (g0 l1 : List Sc) : runFn E0 fBc_M H0 fBc_F (asL (addL 0 (fBc_t0) (noL))) Tryz.f62 (fBc_a g0 l1) (fBc_i g0 l1) = fBc_k g0 l1 (fun r => some (fBc_en r)) := by kernel_rfl
theorem fBc_ok (g0 l1 : List Sc) (r : Bool) (h : fBc g0 l1 = some r) : CS Tryz.prog 62 (fBc_a g0 l1) (fBc_i g0 l1) (fBc_en r).1 (fBc_en r).2 :=
  fn_true (Gk := fun k => fBc_k g0 l1 k) (en := fBc_en) Tryz.func62 E0ok fBc_Mt (addL_true (fBc_tt0) (noL_true)) fBc_o (fBc_e g0 l1) (fBc_p g0 l1) h
def fBc_c : CRow := fun args inh => match dec2 [.p .gr, .p .sl] [] args inh with | some ([.l g0, .l l1], []) => some ((fBc g0 l1).isSome, (fBc_en ((fBc g0 l1).getD false)).1, (fBc_en ((fBc g0 l1).getD false)).2) | _ => none
theorem fBc_cc : CTrue Tryz.prog 62 fBc_c := by
  intro args inh rs out h
  unfold fBc_c at h
  split at h
  · rename_i hd
    obtain ⟨h1, h2⟩ := dec2_enc hd
    rw [← h1, ← h2]
    exact rowC (fBc_ok _ _) h
  · cases h
def fAu_F : Fi := { nv := 1, nc := 1, m := 1, vt := [], kl := [(0, ([1, 4, 7, 8, 9, 10, 11, 12, 13, 15, 16, 17, 18, 19, 20, 21, 22, 23, 24, 25, 26, 27, 28, 29, 30, 31, 32, 33, 34, 35, 36, 37, 38, 39, 40, 41, 42, 43, 44, 45, 46, 47, 48, 49, 50, 51, 52, 53, 54, 55, 56, 57, 58, 59, 60, 61, 62, 63, 64, 65, 66, 67, 68, 69, 70, 71, 72, 73, 74, 75, 76, 77], [1, 2, 3, 4, 6, 7, 8, 9, 10, 11, 12, 13, 14, 15, 16, 17, 18, 19, 20, 21, 22, 23, 24, 25, 26, 27, 28, 29, 30, 31, 32, 33, 34, 35, 36, 37, 38, 39, 40, 41, 42, 43, 44, 45, 46, 47, 48, 49, 50, 51, 52, 53, 54, 55, 56, 57, 58, 59, 60, 61, 62, 63, 64, 65, 66, 67, 68, 69, 70, 71, 72, 73, 74, 75, 76, 77], [1, 2, 3, 4, 5, 6, 7, 8, 9, 10, 12, 13, 14, 15, 16, 17, 18, 19, 20, 21, 22, 23, 24, 25, 26, 27, 28, 29, 30, 31, 32, 33, 34, 35, 36, 37, 38, 39, 40, 41, 42, 43, 44, 45, 46, 47, 48, 49, 50, 51, 52, 53, 54, 55, 56, 57, 58, 59, 60, 61, 62, 63, 64, 65, 66, 67, 68, 69, 70, 71, 72, 73, 74, 75, 76, 77]))], sk := [], mvs := [], fz := [], tk := [4] }
def fAu_a (L0 p1 : List Sc) (p2 p3 : Int) (h0 : List Sc) : List AV := enc [.p .gr, .p .sl, .p (.int .i64), .p (.int .i64), .p (.al 0)] [.l L0, .l p1, .i p2, .i p3]
def fAu_i (L0 p1 : List Sc) (p2 p3 : Int) (h0 : List Sc) : List AV := enc [.own 1000024] [.l h0]
def fAu_en (r : List Sc) : List AV × List AV := (enc [.p (.al 1)] [], enc [.u, .own 1000024] [.l r])
def fAu_cs (self : (List Sc × List Sc × Int × Int × List Sc) → Option (List Sc)) : CRow := fun args inh => match dec2 [.p .gr, .p .sl, .p (.int .i64), .p (.int .i64), .p (.al 0)] [.own 1000024] args inh with | some ([.l L0, .l p1, .i p2, .i p3], [.l h0]) => some ((self (L0, p1, p2, p3, h0)).isSome, (fAu_en ((self (L0, p1, p2, p3, h0)).getD [])).1, (fAu_en ((self (L0, p1, p2, p3, h0)).getD [])).2) | _ => none
theorem fAu_cst (self : (List Sc × List Sc × Int × Int × List Sc) → Option (List Sc)) (hs : ∀ a r, self a = some r → CS Tryz.prog 45 (fAu_a a.1 a.2.1 a.2.2.1 a.2.2.2.1 a.2.2.2.2) (fAu_i a.1 a.2.1 a.2.2.1 a.2.2.2.1 a.2.2.2.2) (fAu_en r).1 (fAu_en r).2) : CTrue Tryz.prog 45 (fAu_cs self) := by
  intro args inh rs out h
  unfold fAu_cs at h
  split at h
  · rename_i hd
    obtain ⟨h1, h2⟩ := dec2_enc hd
    rw [← h1, ← h2]
    exact rowC (hs _) h
  · cases h
def fAu_M (self : (List Sc × List Sc × Int × Int × List Sc) → Option (List Sc)) : Calling := addC 45 (fAu_cs self) (addC 64 fCo_c (addC 74 fBw_c (addC 62 fBc_c (addC 44 fCh_c (addC 75 fCi_c (noC))))))
theorem fAu_Mt (self : (List Sc × List Sc × Int × Int × List Sc) → Option (List Sc)) (hs : ∀ a r, self a = some r → CS Tryz.prog 45 (fAu_a a.1 a.2.1 a.2.2.1 a.2.2.2.1 a.2.2.2.2) (fAu_i a.1 a.2.1 a.2.2.1 a.2.2.2.1 a.2.2.2.2) (fAu_en r).1 (fAu_en r).2) : CallOk Tryz.prog (fAu_M self) := addC_true (fAu_cst self hs) (addC_true fCo_cc (addC_true fBw_cc (addC_true fBc_cc (addC_true fCh_cc (addC_true fCi_cc (noC_true))))))
theorem fAu_o : loopsOnce Tryz.f45 = true := by kernel_rfl
def fAu_h0 : List Sh := [.u, .u, .p .sl, .p (.int .i64), .u, .own 1000024, .p .el, .u, .u, .u, .u, .u, .u, .u, .p (.int .i64), .u, .u, .u, .u, .u, .u, .u, .u, .u, .u, .u, .u, .u, .u, .u, .u, .u, .u, .u, .u, .u, .u, .u, .u, .u, .u, .u, .u, .u, .u, .u, .u, .u, .u, .u, .u, .u, .u, .u, .u, .u, .u, .u, .u, .u, .u, .u, .u, .u, .u, .u, .u, .u, .u, .u, .u, .u, .u, .u, .u, .u, .u, .u]
def fAu_fr0 (self : (List Sc × List Sc × Int × Int × List Sc) → Option (List Sc)) (t1 : List Sc) (t2 : Int) (t5 : List Sc) (s : List Sc × Int) : List AV := enc fAu_h0 [.l t1, .i t2, .l s.1, .l t5, .i s.2]
def fAu_g0_1 : List Sh := [.u, .u, .u, .u, .u, .own 1000024, .u, .u, .u, .u, .u, .u, .u, .u, .u, .u, .u, .u, .u, .u, .u, .u, .u, .u, .u, .u, .u, .u, .u, .u, .u, .u, .u, .u, .u, .u, .u, .u, .u, .u, .u, .u, .u, .u, .u, .u, .u, .u, .u, .u, .u, .u, .u, .u, .u, .u, .u, .u, .u, .u, .u, .u, .u, .u, .u, .u, .u, .u, .u, .u, .u, .u, .u, .u, .u, .u, .u, .u]
def fAu_x0_1 (self : (List Sc × List Sc × Int × Int × List Sc) → Option (List Sc)) (t1 : List Sc) (t2 : Int) (t5 e : List Sc) : X × List AV := (.out 0, enc fAu_g0_1 [.l e])
def fAu_x0_2 (self : (List Sc × List Sc × Int × Int × List Sc) → Option (List Sc)) (t1 : List Sc) (t2 : Int) (t5 : List Sc) (_e : Unit) : X × List AV := (.ret, [])
theorem fAu_p0 {R : Type} (self : (List Sc × List Sc × Int × Int × List Sc) → Option (List Sc)) (t1 : List Sc) (t2 : Int) (t5 : List Sc) (s : List Sc × Int) (kN : List Sc × Int → Option R) (kA : List Sc → Option R) (kB : Unit → Option R) : fAu_k0 self t1 t2 t5 s.1 s.2 kN kA = (fAu_r0 self t1 t2 t5 s).bind (Ro.el kN kA kB) := by
  simp only [fAu_k0, fAu_r0, brB, boB, someB, noneB, Ro.el]
theorem fAu_e0 (self : (List Sc × List Sc × Int × Int × List Sc) → Option (List Sc)) (t1 : List Sc) (t2 : Int) (t5 : List Sc) (s : List Sc × Int) : EC E0 (fAu_M self) H0 fAu_F (asL (noL)) 0 (bodyOf Tryz.f45 0) (fAu_fr0 self t1 t2 t5 s) (done (klOf fAu_F 0)) = fAu_k0 self t1 t2 t5 s.1 s.2 (fun s => some (.norm, fAu_fr0 self t1 t2 t5 s)) (fun e => some (fAu_x0_1 self t1 t2 t5 e)) := by kernel_rfl
theorem fAu_l0 (self : (List Sc × List Sc × Int × Int × List Sc) → Option (List Sc)) (hs : ∀ a r, self a = some r → CS Tryz.prog 45 (fAu_a a.1 a.2.1 a.2.2.1 a.2.2.2.1 a.2.2.2.2) (fAu_i a.1 a.2.1 a.2.2.1 a.2.2.2.1 a.2.2.2.2) (fAu_en r).1 (fAu_en r).2) (t1 : List Sc) (t2 : Int) (t5 : List Sc) : ∀ s r, loopL (fAu_r0 self t1 t2 t5) s = some r → LS Tryz.prog fAu_F (bodyOf Tryz.f45 0) (fAu_fr0 self t1 t2 t5 s) (enX (fAu_x0_1 self t1 t2 t5) (fAu_x0_2 self t1 t2 t5) r) :=
  loop_true E0ok (fAu_Mt self hs) (noL_true) fAu_o (fun _ h => by cases h) (fun _ h => by cases h) (fun _ h => by cases h) (fun _ h => by cases h) (fun s => (fAu_e0 self t1 t2 t5 s).trans (fAu_p0 self t1 t2 t5 s _ _ (fun e => some (fAu_x0_2 self t1 t2 t5 e))))
def fAu_t0 (self : (List Sc × List Sc × Int × Int × List Sc) → Option (List Sc)) (σ : List AV) : Option (Bool × Bool × (X × List AV) × (X × List AV)) := match dec fAu_h0 σ with | some [.l t1, .i t2, .l t4, .l t5, .i t13] => some (isOne (loopL (fAu_r0 self t1 t2 t5) (t4, t13)), true, fAu_x0_1 self t1 t2 t5 (getOne [] (loopL (fAu_r0 self t1 t2 t5) (t4, t13))), (.ret, [])) | _ => none
theorem fAu_tt0 (self : (List Sc × List Sc × Int × Int × List Sc) → Option (List Sc)) (hs : ∀ a r, self a = some r → CS Tryz.prog 45 (fAu_a a.1 a.2.1 a.2.2.1 a.2.2.2.1 a.2.2.2.2) (fAu_i a.1 a.2.1 a.2.2.1 a.2.2.2.1 a.2.2.2.2) (fAu_en r).1 (fAu_en r).2) : TTrue Tryz.prog fAu_F Tryz.f45 0 (fAu_t0 self) := by
  intro σ p r r' h
  unfold fAu_t0 at h
  split at h
  · rename_i hd
    rw [← dec_enc hd]
    exact row1 (fAu_l0 self hs _ _ _ _) h
  · cases h
theorem fAu_p {R : Type} (self : (List Sc × List Sc × Int × Int × List Sc) → Option (List Sc)) (L0 p1 : List Sc) (p2 p3 : Int) (h0 : List Sc) (kR : List Sc → Option R) : fAu_k self L0 p1 p2 p3 h0 kR = (fAu_k self L0 p1 p2 p3 h0 some).bind kR := by
  simp only [fAu_k, brB, boB, bl1B, someB, noneB]
theorem fAu_e (self : (List Sc × List Sc × Int × Int × List Sc) → Option (List Sc)) (L0 p1 : List Sc) (p2 p3 : Int) (h0 : List Sc) : runFn E0 (fAu_M self) H0 fAu_F (asL (addL 0 (fAu_t0 self) (noL))) Tryz.f45 (fAu_a L0 p1 p2 p3 h0) (fAu_i L0 p1 p2 p3 h0) = fAu_k self L0 p1 p2 p3 h0 (fun r => some (fAu_en r)) := by kernel_rfl
theorem fAu_ks (self : (List Sc × List Sc × Int × Int × List Sc) → Option (List Sc)) (hs : ∀ a r, self a = some r → CS Tryz.prog 45 (fAu_a a.1 a.2.1 a.2.2.1 a.2.2.2.1 a.2.2.2.2) (fAu_i a.1 a.2.1 a.2.2.1 a.2.2.2.1 a.2.2.2.2) (fAu_en r).1 (fAu_en r).2) (L0 p1 : List Sc) (p2 p3 : Int) (h0 r : List Sc) (h : fAu_k self L0 p1 p2 p3 h0 some = some r) : CS Tryz.prog 45 (fAu_a L0 p1 p2 p3 h0) (fAu_i L0 p1 p2 p3 h0) (fAu_en r).1 (fAu_en r).2 :=
  fn_true (Gk := fun k => fAu_k self L0 p1 p2 p3 h0 k) (en := fAu_en) Tryz.func45 E0ok (fAu_Mt self hs) (addL_true (fAu_tt0 self hs) (noL_true)) fAu_o (fAu_e self L0 p1 p2 p3 h0) (fAu_p self L0 p1 p2 p3 h0) h
theorem fAu_ns : ∀ n a r, fAu_n n a = some r → CS Tryz.prog 45 (fAu_a a.1 a.2.1 a.2.2.1 a.2.2.2.1 a.2.2.2.2) (fAu_i a.1 a.2.1 a.2.2.1 a.2.2.2.1 a.2.2.2.2) (fAu_en r).1 (fAu_en r).2
  | 0, _, _, h => by cases h
  | n + 1, a, r, h => fAu_ks (fAu_n n) (fAu_ns n) a.1 a.2.1 a.2.2.1 a.2.2.2.1 a.2.2.2.2 r h
theorem fAu_ok (L0 p1 : List Sc) (p2 p3 : Int) (h0 r : List Sc) (h : fAu L0 p1 p2 p3 h0 = some r) : CS Tryz.prog 45 (fAu_a L0 p1 p2 p3 h0) (fAu_i L0 p1 p2 p3 h0) (fAu_en r).1 (fAu_en r).2 := by
  obtain ⟨n, hn⟩ := limF_some h
  exact fAu_ns n _ r hn
def fAu_c : CRow := fun args inh => match dec2 [.p .gr, .p .sl, .p (.int .i64), .p (.int .i64), .p (.al 0)] [.own 1000024] args inh with | some ([.l L0, .l p1, .i p2, .i p3], [.l h0]) => some ((fAu L0 p1 p2 p3 h0).isSome, (fAu_en ((fAu L0 p1 p2 p3 h0).getD [])).1, (fAu_en ((fAu L0 p1 p2 p3 h0).getD [])).2) | _ => none
theorem fAu_cc : CTrue Tryz.prog 45 fAu_c := by
  intro args inh rs out h
  unfold fAu_c at h
  split at h
  · rename_i hd
    obtain ⟨h1, h2⟩ := dec2_enc hd
    rw [← h1, ← h2]
    exact rowC (fAu_ok _ _ _ _ _) h
  · cases h
def fBm_F : Fi := { nv := 0, nc := 0, m := 0, vt := [], kl := [(0, ([2, 3, 4, 6, 7, 8, 9, 10, 11, 12, 13, 14, 15, 16, 17, 18, 19, 20, 21, 22, 23, 24, 25, 26, 27, 28, 29, 30, 31, 32, 33, 34, 35, 36, 37, 38, 39], [0, 1, 2, 3, 4, 5, 6, 7, 8, 9, 10, 11, 12, 13, 14, 15, 16, 17, 18, 19, 20, 21, 22, 23, 24, 25, 26, 27, 28, 29, 30, 31, 32, 33, 34, 35, 36, 37, 38, 39], [0, 1, 2, 3, 5, 6, 7, 8, 9, 10, 11, 12, 13, 14, 15, 16, 17, 18, 19, 20, 21, 22, 23, 24, 25, 26, 27, 28, 29, 30, 31, 32, 33, 34, 35, 36, 37, 38, 39]))], sk := [], mvs := [], fz := [] }
def fBm_a (a0 b1 : List Sc) : List AV := enc [.p .sl, .p .sl] [.l a0, .l b1]
def fBm_i (a0 b1 : List Sc) : List AV := enc [] []
def fBm_en (r : Bool) : List AV × List AV := (enc [.p .boo] [.b r], enc [] [])
def fBm_M : Calling := noC
theorem fBm_Mt : CallOk Tryz.prog (fBm_M) := noC_true
theorem fBm_o : loopsOnce Tryz.f46 = true := by kernel_rfl
def fBm_h0 : List Sh := [.p .sl, .p .sl, .u, .u, .u, .p (.int .i64), .u, .u, .u, .u, .u, .u, .u, .u, .u, .u, .u, .u, .u, .u, .u, .u, .u, .u, .u, .u, .u, .u, .u, .u, .u, .u, .u, .u, .u, .u, .u, .u, .u, .u]
def fBm_fr0 (a0 b1 : List Sc) (s : Int) : List AV := enc fBm_h0 [.l a0, .l b1, .i s]
def fBm_g0_1 : List Sh := [.u, .u, .u, .u, .u, .u, .u, .u, .u, .u, .u, .u, .u, .u, .u, .u, .u, .u, .u, .u, .u, .u, .u, .u, .u, .u, .u, .u, .u, .u, .u, .u, .u, .u, .u, .u, .u, .u, .u, .u]
def fBm_x0_1 (a0 b1 : List Sc) (e : Unit) : X × List AV := (.out 0, enc fBm_g0_1 [])
def fBm_g0_2 : List Sh := [.u, .u, .u, .u, .p .boo, .u, .u, .u, .u, .u, .u, .u, .u, .u, .u, .u, .u, .u, .u, .u, .u, .u, .u, .u, .u, .u, .u, .u, .u, .u, .u, .u, .u, .u, .u, .u, .u, .u, .u, .u]
def fBm_x0_2 (a0 b1 : List Sc) (e : Bool) : X × List AV := (.ret, enc fBm_g0_2 [.b e])
theorem fBm_p0 {R : Type} (a0 b1 : List Sc) (s : Int) (kN : Int → Option R) (kA : Unit → Option R) (kB : Bool → Option R) : fBm_k0 a0 b1 s kN kA kB = (fBm_r0 a0 b1 s).bind (Ro.el kN kA kB) := by
  simp only [fBm_k0, fBm_r0, brB, someB, noneB, Ro.el]
theorem fBm_e0 (a0 b1 : List Sc) (s : Int) : EC E0 fBm_M H0 fBm_F (asL (noL)) 0 (bodyOf Tryz.f46 0) (fBm_fr0 a0 b1 s) (done (klOf fBm_F 0)) = fBm_k0 a0 b1 s (fun s => some (.norm, fBm_fr0 a0 b1 s)) (fun e => some (fBm_x0_1 a0 b1 e)) (fun e => some (fBm_x0_2 a0 b1 e)) := by kernel_rfl
theorem fBm_l0 (a0 b1 : List Sc) : ∀ s r, loopL (fBm_r0 a0 b1) s = some r → LS Tryz.prog fBm_F (bodyOf Tryz.f46 0) (fBm_fr0 a0 b1 s) (enX (fBm_x0_1 a0 b1) (fBm_x0_2 a0 b1) r) :=
  loop_true E0ok fBm_Mt (noL_true) fBm_o (fun _ h => by cases h) (fun _ h => by cases h) (fun _ h => by cases h) (fun _ h => by cases h) (fun s => (fBm_e0 a0 b1 s).trans (fBm_p0 a0 b1 s _ _ (fun e => some (fBm_x0_2 a0 b1 e))))
def fBm_t0 (σ : List AV) : Option (Bool × Bool × (X × List AV) × (X × List AV)) := match dec fBm_h0 σ with | some [.l a0, .l b1, .i i5] => some ((loopL (fBm_r0 a0 b1) i5).isSome, isOne (loopL (fBm_r0 a0 b1) i5), fBm_x0_1 a0 b1 (getOne () (loopL (fBm_r0 a0 b1) i5)), fBm_x0_2 a0 b1 (getTwo false (loopL (fBm_r0 a0 b1) i5))) | _ => none
theorem fBm_tt0 : TTrue Tryz.prog fBm_F Tryz.f46 0 (fBm_t0) := by
  intro σ p r r' h
  unfold fBm_t0 at h
  split at h
  · rename_i hd
    rw [← dec_enc hd]
    exact row2 (fBm_l0 _ _ _) h
  · cases h
theorem fBm_p {R : Type} (a0 b1 : List Sc) (kR : Bool → Option R) : fBm_k a0 b1 kR = (fBm_k a0 b1 some).bind kR := by
  simp only [fBm_k, brB, blB, someB]
theorem fBm_e (a0 b1 : List Sc) : runFn E0 fBm_M H0 fBm_F (asL (addL 0 (fBm_t0) (noL))) Tryz.f46 (fBm_a a0 b1) (fBm_i a0 b1) = fBm_k a0 b1 (fun r => some (fBm_en r)) := by kernel_rfl
theorem fBm_ok (a0 b1 : List Sc) (r : Bool) (h : fBm a0 b1 = some r) : CS Tryz.prog 46 (fBm_a a0 b1) (fBm_i a0 b1) (fBm_en r).1 (fBm_en r).2 :=
  fn_true (Gk := fun k => fBm_k a0 b1 k) (en := fBm_en) Tryz.func46 E0ok fBm_Mt (addL_true (fBm_tt0) (noL_true)) fBm_o (fBm_e a0 b1) (fBm_p a0 b1) h
def fBm_c : CRow := fun args inh => match dec2 [.p .sl, .p .sl] [] args inh with | some ([.l a0, .l b1], []) => some ((fBm a0 b1).isSome, (fBm_en ((fBm a0 b1).getD false)).1, (fBm_en ((fBm a0 b1).getD false)).2) | _ => none
theorem fBm_cc : CTrue Tryz.prog 46 fBm_c := by
  intro args inh rs out h
  unfold fBm_c at h
  split at h
  · rename_i hd
    obtain ⟨h1, h2⟩ := dec2_enc hd
    rw [← h1, ← h2]
    exact rowC (fBm_ok _ _) h
  · cases h
def fCc_F : Fi := { nv := 0, nc := 0, m := 0, vt := [], kl := [(2, ([0, 1, 2, 3, 8, 9, 10, 11, 12, 13, 14, 15, 16, 17, 18, 19, 20, 21, 22, 23, 24, 25, 26, 27, 28, 29, 30, 31, 32, 33, 34, 35, 36, 37, 38, 39, 40, 41, 42, 43, 44, 45, 46, 47, 48, 49, 50, 51, 52, 53, 54, 55, 56, 57, 58, 59, 60, 61], [0, 1, 2, 3, 8, 9, 10, 11, 12, 13, 14, 15, 16, 17, 18, 19, 20, 21, 22, 23, 24, 25, 26, 27, 28, 29, 30, 31, 32, 33, 34, 35, 36, 37, 38, 39, 40, 41, 42, 43, 44, 45, 46, 47, 48, 49, 50, 51, 52, 53, 54, 55, 56, 57, 58, 59, 60, 61], [0, 1, 4, 5, 6, 7, 8, 9, 10, 11, 12, 13, 14, 15, 16, 17, 18, 19, 20, 21, 22, 23, 24, 25, 26, 27, 28, 29, 30, 31, 32, 33, 34, 35, 36, 37, 38, 39, 40, 41, 42, 43, 44, 45, 46, 47, 48, 49, 50, 51, 52, 53, 54, 55, 56, 57, 58, 59, 60, 61])), (0, ([0, 1, 2, 3, 7, 8, 9, 10, 11, 12, 13, 14, 15, 16, 17, 18, 19, 20, 21, 22, 23, 24, 25, 26, 27, 28, 29, 30, 31, 32, 33, 34, 35, 36, 37, 38, 39, 40, 41, 42, 43, 44, 45, 46, 47, 48, 49, 50, 51, 52, 53, 54, 55, 56, 57, 58, 59, 60, 61], [0, 1, 2, 3, 8, 9, 10, 11, 12, 13, 14, 15, 16, 17, 18, 19, 20, 21, 22, 23, 24, 25, 26, 27, 28, 29, 30, 31, 32, 33, 34, 35, 36, 37, 38, 39, 40, 41, 42, 43, 44, 45, 46, 47, 48, 49, 50, 51, 52, 53, 54, 55, 56, 57, 58, 59, 60, 61], [0, 1, 4, 5, 6, 7, 8, 9, 10, 11, 12, 13, 14, 15, 16, 17, 18, 19, 20, 21, 22, 23, 24, 25, 26, 27, 28, 29, 30, 31, 32, 33, 34, 35, 36, 37, 38, 39, 40, 41, 42, 43, 44, 45, 46, 47, 48, 49, 50, 51, 52, 53, 54, 55, 56, 57, 58, 59, 60, 61]))], sk := [], mvs := [], fz := [], so := true, fa := [4] }
def fCc_a (g0 : List Sc) : List AV := enc [.p .gr] [.l g0]
def fCc_i (g0 : List Sc) : List AV := enc [] []
def fCc_en (r : List Sc × Bool) : List AV × List AV := (enc [.p (.nl 1), .p .boo] [.l r.1, .b r.2], enc [] [])
def fCc_M : Calling := addC 43 fCd_c (addC 44 fCh_c (addC 45 fAu_c (addC 46 fBm_c (noC))))
theorem fCc_Mt : CallOk Tryz.prog (fCc_M) := addC_true fCd_cc (addC_true fCh_cc (addC_true fAu_cc (addC_true fBm_cc (noC_true))))
theorem fCc_o : loopsOnce Tryz.f7 = true := by kernel_rfl
def fCc_h2 : List Sh := [.u, .u, .u, .u, .fr 1000024, .own 1000024, .p (.int .i64), .p (.int .i64), .u, .u, .u, .u, .u, .u, .u, .u, .u, .u, .u, .u, .u, .u, .u, .u, .u, .u, .u, .u, .u, .u, .u, .u, .u, .u, .u, .u, .u, .u, .u, .u, .u, .u, .u, .u, .u, .u, .u, .u, .u, .u, .u, .u, .u, .u, .u, .u, .u, .u, .u, .u, .u, .u]
def fCc_fr2 (out4 : List Sc) (i6 : Int) (s : List Sc × Int) : List AV := enc fCc_h2 [.l out4, .l s.1, .i i6, .i s.2]
def fCc_g2_1 : List Sh := [.u, .u, .u, .u, .fr 1000024, .own 1000024, .p (.int .i64), .p (.int .i64), .u, .u, .u, .u, .u, .u, .u, .u, .u, .u, .u, .u, .u, .u, .u, .u, .u, .u, .u, .u, .u, .u, .u, .u, .u, .u, .u, .u, .u, .u, .u, .u, .u, .u, .u, .u, .u, .u, .u, .u, .u, .u, .u, .u, .u, .u, .u, .u, .u, .u, .u, .u, .u, .u]
def fCc_x2_1 (out4 : List Sc) (i6 : Int) (e : List Sc × Int) : X × List AV := (.out 2, enc fCc_g2_1 [.l out4, .l e.1, .i i6, .i e.2])
def fCc_x2_2 (out4 : List Sc) (i6 : Int) (_e : Unit) : X × List AV := (.ret, [])
theorem fCc_p2 {R : Type} (out4 : List Sc) (i6 : Int) (s : List Sc × Int) (kN kA : List Sc × Int → Option R) (kB : Unit → Option R) : fCc_k2 out4 i6 s.1 s.2 kN kA = (fCc_r2 out4 i6 s).bind (Ro.el kN kA kB) := by
  simp only [fCc_k2, fCc_r2, brB, boB, someB, noneB, Ro.el]
theorem fCc_e2 (out4 : List Sc) (i6 : Int) (s : List Sc × Int) : EC E0 fCc_M H0 fCc_F (asL (noL)) 2 (bodyOf Tryz.f7 2) (fCc_fr2 out4 i6 s) (done (klOf fCc_F 2)) = fCc_k2 out4 i6 s.1 s.2 (fun s => some (.norm, fCc_fr2 out4 i6 s)) (fun e => some (fCc_x2_1 out4 i6 e)) := by kernel_rfl
theorem fCc_l2 (out4 : List Sc) (i6 : Int) : ∀ s r, loopL (fCc_r2 out4 i6) s = some r → LS Tryz.prog fCc_F (bodyOf Tryz.f7 2) (fCc_fr2 out4 i6 s) (enX (fCc_x2_1 out4 i6) (fCc_x2_2 out4 i6) r) :=
  loop_true E0ok fCc_Mt (noL_true) fCc_o (fun _ h => by cases h) (fun _ h => by cases h) (fun _ h => by cases h) (fun _ h => by cases h) (fun s => (fCc_e2 out4 i6 s).trans (fCc_p2 out4 i6 s _ _ (fun e => some (fCc_x2_2 out4 i6 e))))
def fCc_t2 (σ : List AV) : Option (Bool × Bool × (X × List AV) × (X × List AV)) := match dec fCc_h2 σ with | some [.l out4, .l l5, .i i6, .i k7] => some (isOne (loopL (fCc_r2 out4 i6) (l5, k7)), true, fCc_x2_1 out4 i6 (getOne ([], 0) (loopL (fCc_r2 out4 i6) (l5, k7))), (.ret, [])) | _ => none
theorem fCc_tt2 : TTrue Tryz.prog fCc_F Tryz.f7 2 (fCc_t2) := by
  intro σ p r r' h
  unfold fCc_t2 at h
  split at h
  · rename_i hd
    rw [← dec_enc hd]
    exact row1 (fCc_l2 _ _ _) h
  · cases h
def fCc_h0 : List Sh := [.u, .u, .u, .u, .fr 1000024, .own 1000024, .p (.int .i64), .u, .u, .u, .u, .u, .u, .u, .u, .u, .u, .u, .u, .u, .u, .u, .u, .u, .u, .u, .u, .u, .u, .u, .u, .u, .u, .u, .u, .u, .u, .u, .u, .u, .u, .u, .u, .u, .u, .u, .u, .u, .u, .u, .u, .u, .u, .u, .u, .u, .u, .u, .u, .u, .u, .u]
def fCc_fr0 (s : List Sc × List Sc × Int) : List AV := enc fCc_h0 [.l s.1, .l s.2.1, .i s.2.2]
def fCc_g0_1 : List Sh := [.u, .u, .u, .u, .fr 1000024, .own 1000024, .p (.int .i64), .u, .u, .u, .u, .u, .u, .u, .u, .u, .u, .u, .u, .u, .u, .u, .u, .u, .u, .u, .u, .u, .u, .u, .u, .u, .u, .u, .u, .u, .u, .u, .u, .u, .u, .u, .u, .u, .u, .u, .u, .u, .u, .u, .u, .u, .u, .u, .u, .u, .u, .u, .u, .u, .u, .u]
def fCc_x0_1 (e : List Sc × List Sc × Int) : X × List AV := (.out 0, enc fCc_g0_1 [.l e.1, .l e.2.1, .i e.2.2])
def fCc_x0_2 (_e : Unit) : X × List AV := (.ret, [])
theorem fCc_p0 {R : Type} (s : List Sc × List Sc × Int) (kN kA : List Sc × List Sc × Int → Option R) (kB : Unit → Option R) : fCc_k0 s.1 s.2.1 s.2.2 kN kA = (fCc_r0 s).bind (Ro.el kN kA kB) := by
  simp only [fCc_k0, fCc_r0, brB, bl1B, someB, noneB, Ro.el]
theorem fCc_e0 (s : List Sc × List Sc × Int) : EC E0 fCc_M H0 fCc_F (asL (addL 2 (fCc_t2) (noL))) 0 (bodyOf Tryz.f7 0) (fCc_fr0 s) (done (klOf fCc_F 0)) = fCc_k0 s.1 s.2.1 s.2.2 (fun s => some (.norm, fCc_fr0 s)) (fun e => some (fCc_x0_1 e)) := by kernel_rfl
theorem fCc_l0 : ∀ s r, loopL (fCc_r0) s = some r → LS Tryz.prog fCc_F (bodyOf Tryz.f7 0) (fCc_fr0 s) (enX (fCc_x0_1) (fCc_x0_2) r) :=
  loop_true E0ok fCc_Mt (addL_true (fCc_tt2) (noL_true)) fCc_o (fun _ h => by cases h) (fun _ h => by cases h) (fun _ h => by cases h) (fun _ h => by cases h) (fun s => (fCc_e0 s).trans (fCc_p0 s _ _ (fun e => some (fCc_x0_2 e))))
def fCc_t0 (σ : List AV) : Option (Bool × Bool × (X × List AV) × (X × List AV)) := match dec fCc_h0 σ with | some [.l out4, .l l5, .i i6] => some (isOne (loopL (fCc_r0) (out4, l5, i6)), true, fCc_x0_1 (getOne ([], [], 0) (loopL (fCc_r0) (out4, l5, i6))), (.ret, [])) | _ => none
theorem fCc_tt0 : TTrue Tryz.prog fCc_F Tryz.f7 0 (fCc_t0) := by
  intro σ p r r' h
  unfold fCc_t0 at h
  split at h
  · rename_i hd
    rw [← dec_enc hd]
    exact row1 (fCc_l0 _) h
  · cases h
theorem fCc_p {R : Type} (g0 : List Sc) (kR : List Sc × Bool → Option R) : fCc_k g0 kR = (fCc_k g0 some).bind kR := by
  simp only [fCc_k, brB, boB, bl1B, someB]
theorem fCc_e (g0 : List Sc) : runFn E0 fCc_M H0 fCc_F (asL (addL 0 (fCc_t0) (addL 2 (fCc_t2) (noL)))) Tryz.f7 (fCc_a g0) (fCc_i g0) = fCc_k g0 (fun r => some (fCc_en r)) := by kernel_rfl
theorem fCc_ok (g0 : List Sc) (r : List Sc × Bool) (h : fCc g0 = some r) : CS Tryz.prog 7 (fCc_a g0) (fCc_i g0) (fCc_en r).1 (fCc_en r).2 :=
  fn_true (Gk := fun k => fCc_k g0 k) (en := fCc_en) Tryz.func7 E0ok fCc_Mt (addL_true (fCc_tt0) (addL_true (fCc_tt2) (noL_true))) fCc_o (fCc_e g0) (fCc_p g0) h
def fCc_c : CRow := fun args inh => match dec2 [.p .gr] [] args inh with | some ([.l g0], []) => some ((fCc g0).isSome, (fCc_en ((fCc g0).getD ([], false))).1, (fCc_en ((fCc g0).getD ([], false))).2) | _ => none
theorem fCc_cc : CTrue Tryz.prog 7 fCc_c := by
  intro args inh rs out h
  unfold fCc_c at h
  split at h
  · rename_i hd
    obtain ⟨h1, h2⟩ := dec2_enc hd
    rw [← h1, ← h2]
    exact rowC (fCc_ok _) h
  · cases h
def fBt_F : Fi := { nv := 0, nc := 0, m := 0, vt := [], kl := [(0, ([2, 3, 4, 6, 7, 8, 9, 10, 11, 12, 13, 14, 15, 16, 17, 18, 19, 20, 21, 22, 23, 24, 25], [0, 1, 2, 3, 4, 5, 6, 7, 8, 9, 10, 11, 12, 13, 14, 15, 16, 17, 18, 19, 20, 21, 22, 23, 24, 25], [0, 1, 2, 3, 5, 6, 7, 8, 9, 10, 11, 12, 13, 14, 15, 16, 17, 18, 19, 20, 21, 22, 23, 24, 25]))], sk := [], mvs := [], fz := [] }
def fBt_a (a0 b1 : List Sc) : List AV := enc [.p .sl, .p .sl] [.l a0, .l b1]
def fBt_i (a0 b1 : List Sc) : List AV := enc [] []
def fBt_en (r : Bool) : List AV × List AV := (enc [.p .boo] [.b r], enc [] [])
def fBt_M : Calling := noC
theorem fBt_Mt : CallOk Tryz.prog (fBt_M) := noC_true
theorem fBt_o : loopsOnce Tryz.f18 = true := by kernel_rfl
def fBt_h0 : List Sh := [.p .sl, .p .sl, .u, .u, .u, .p (.int .i64), .u, .u, .u, .u, .u, .u, .u, .u, .u, .u, .u, .u, .u, .u, .u, .u, .u, .u, .u, .u]
def fBt_fr0 (a0 b1 : List Sc) (s : Int) : List AV := enc fBt_h0 [.l a0, .l b1, .i s]
def fBt_g0_1 : List Sh := [.u, .u, .u, .u, .u, .u, .u, .u, .u, .u, .u, .u, .u, .u, .u, .u, .u, .u, .u, .u, .u, .u, .u, .u, .u, .u]
def fBt_x0_1 (a0 b1 : List Sc) (e : Unit) : X × List AV := (.out 0, enc fBt_g0_1 [])
def fBt_g0_2 : List Sh := [.u, .u, .u, .u, .p .boo, .u, .u, .u, .u, .u, .u, .u, .u, .u, .u, .u, .u, .u, .u, .u, .u, .u, .u, .u, .u, .u]
def fBt_x0_2 (a0 b1 : List Sc) (e : Unit) : X × List AV := (.ret, enc fBt_g0_2 [.b false])
theorem fBt_p0 {R : Type} (a0 b1 : List Sc) (s : Int) (kN : Int → Option R) (kA kB : Unit → Option R) : fBt_k0 a0 b1 s kN kA kB = (fBt_r0 a0 b1 s).bind (Ro.el kN kA kB) := by
  simp only [fBt_k0, fBt_r0, brB, someB, noneB, Ro.el]
theorem fBt_e0 (a0 b1 : List Sc) (s : Int) : EC E0 fBt_M H0 fBt_F (asL (noL)) 0 (bodyOf Tryz.f18 0) (fBt_fr0 a0 b1 s) (done (klOf fBt_F 0)) = fBt_k0 a0 b1 s (fun s => some (.norm, fBt_fr0 a0 b1 s)) (fun e => some (fBt_x0_1 a0 b1 e)) (fun e => some (fBt_x0_2 a0 b1 e)) := by kernel_rfl
theorem fBt_l0 (a0 b1 : List Sc) : ∀ s r, loopL (fBt_r0 a0 b1) s = some r → LS Tryz.prog fBt_F (bodyOf Tryz.f18 0) (fBt_fr0 a0 b1 s) (enX (fBt_x0_1 a0 b1) (fBt_x0_2 a0 b1) r) :=
  loop_true E0ok fBt_Mt (noL_true) fBt_o (fun _ h => by cases h) (fun _ h => by cases h) (fun _ h => by cases h) (fun _ h => by cases h) (fun s => (fBt_e0 a0 b1 s).trans (fBt_p0 a0 b1 s _ _ (fun e => some (fBt_x0_2 a0 b1 e))))
def fBt_t0 (σ : List AV) : Option (Bool × Bool × (X × List AV) × (X × List AV)) := match dec fBt_h0 σ with | some [.l a0, .l b1, .i i5] => some ((loopL (fBt_r0 a0 b1) i5).isSome, isOne (loopL (fBt_r0 a0 b1) i5), fBt_x0_1 a0 b1 (getOne () (loopL (fBt_r0 a0 b1) i5)), fBt_x0_2 a0 b1 (getTwo () (loopL (fBt_r0 a0 b1) i5))) | _ => none
theorem fBt_tt0 : TTrue Tryz.prog fBt_F Tryz.f18 0 (fBt_t0) := by
  intro σ p r r' h
  unfold fBt_t0 at h
  split at h
  · rename_i hd
    rw [← dec_enc hd]
    exact row2 (fBt_l0 _ _ _) h
  · cases h
theorem fBt_p {R : Type} (a0 b1 : List Sc) (kR : Bool → Option R) : fBt_k a0 b1 kR = (fBt_k a0 b1 some).bind kR := by
  simp only [fBt_k, brB, blB, someB]
theorem fBt_e (a0 b1 : List Sc) : runFn E0 fBt_M H0 fBt_F (asL (addL 0 (fBt_t0) (noL))) Tryz.f18 (fBt_a a0 b1) (fBt_i a0 b1) = fBt_k a0 b1 (fun r => some (fBt_en r)) := by kernel_rfl
theorem fBt_ok (a0 b1 : List Sc) (r : Bool) (h : fBt a0 b1 = some r) : CS Tryz.prog 18 (fBt_a a0 b1) (fBt_i a0 b1) (fBt_en r).1 (fBt_en r).2 :=
  fn_true (Gk := fun k => fBt_k a0 b1 k) (en := fBt_en) Tryz.func18 E0ok fBt_Mt (addL_true (fBt_tt0) (noL_true)) fBt_o (fBt_e a0 b1) (fBt_p a0 b1) h
def fBt_c : CRow := fun args inh => match dec2 [.p .sl, .p .sl] [] args inh with | some ([.l a0, .l b1], []) => some ((fBt a0 b1).isSome, (fBt_en ((fBt a0 b1).getD false)).1, (fBt_en ((fBt a0 b1).getD false)).2) | _ => none
theorem fBt_cc : CTrue Tryz.prog 18 fBt_c := by
  intro args inh rs out h
  unfold fBt_c at h
  split at h
  · rename_i hd
    obtain ⟨h1, h2⟩ := dec2_enc hd
    rw [← h1, ← h2]
    exact rowC (fBt_ok _ _) h
  · cases h
def fBj_F : Fi := { nv := 0, nc := 0, m := 0, vt := [], kl := [(0, ([2, 3, 4, 6, 7, 8, 9, 10, 11, 12, 13, 14, 15, 16, 17, 18, 19, 20, 21, 22, 23, 24, 25, 26], [0, 1, 2, 3, 4, 5, 6, 7, 8, 9, 10, 11, 12, 13, 14, 15, 16, 17, 18, 19, 20, 21, 22, 23, 24, 25, 26], [0, 1, 2, 3, 5, 6, 7, 8, 9, 10, 11, 12, 13, 14, 15, 16, 17, 18, 19, 20, 21, 22, 23, 24, 25, 26]))], sk := [], mvs := [], fz := [] }
def fBj_a (a0 b1 : List Sc) : List AV := enc [.p (.nl 1), .p (.nl 1)] [.l a0, .l b1]
def fBj_i (a0 b1 : List Sc) : List AV := enc [] []
def fBj_en (r : Bool) : List AV × List AV := (enc [.p .boo] [.b r], enc [] [])
def fBj_M : Calling := addC 18 fBt_c (noC)
theorem fBj_Mt : CallOk Tryz.prog (fBj_M) := addC_true fBt_cc (noC_true)
theorem fBj_o : loopsOnce Tryz.f8 = true := by kernel_rfl
def fBj_h0 : List Sh := [.p (.nl 1), .p (.nl 1), .u, .u, .u, .p (.int .i64), .u, .u, .u, .u, .u, .u, .u, .u, .u, .u, .u, .u, .u, .u, .u, .u, .u, .u, .u, .u, .u]
def fBj_fr0 (a0 b1 : List Sc) (s : Int) : List AV := enc fBj_h0 [.l a0, .l b1, .i s]
def fBj_g0_1 : List Sh := [.u, .u, .u, .u, .u, .u, .u, .u, .u, .u, .u, .u, .u, .u, .u, .u, .u, .u, .u, .u, .u, .u, .u, .u, .u, .u, .u]
def fBj_x0_1 (a0 b1 : List Sc) (e : Unit) : X × List AV := (.out 0, enc fBj_g0_1 [])
def fBj_g0_2 : List Sh := [.u, .u, .u, .u, .p .boo, .u, .u, .u, .u, .u, .u, .u, .u, .u, .u, .u, .u, .u, .u, .u, .u, .u, .u, .u, .u, .u, .u]
def fBj_x0_2 (a0 b1 : List Sc) (e : Unit) : X × List AV := (.ret, enc fBj_g0_2 [.b false])
theorem fBj_p0 {R : Type} (a0 b1 : List Sc) (s : Int) (kN : Int → Option R) (kA kB : Unit → Option R) : fBj_k0 a0 b1 s kN kA kB = (fBj_r0 a0 b1 s).bind (Ro.el kN kA kB) := by
  simp only [fBj_k0, fBj_r0, brB, boB, someB, noneB, Ro.el]
theorem fBj_e0 (a0 b1 : List Sc) (s : Int) : EC E0 fBj_M H0 fBj_F (asL (noL)) 0 (bodyOf Tryz.f8 0) (fBj_fr0 a0 b1 s) (done (klOf fBj_F 0)) = fBj_k0 a0 b1 s (fun s => some (.norm, fBj_fr0 a0 b1 s)) (fun e => some (fBj_x0_1 a0 b1 e)) (fun e => some (fBj_x0_2 a0 b1 e)) := by kernel_rfl
theorem fBj_l0 (a0 b1 : List Sc) : ∀ s r, loopL (fBj_r0 a0 b1) s = some r → LS Tryz.prog fBj_F (bodyOf Tryz.f8 0) (fBj_fr0 a0 b1 s) (enX (fBj_x0_1 a0 b1) (fBj_x0_2 a0 b1) r) :=
  loop_true E0ok fBj_Mt (noL_true) fBj_o (fun _ h => by cases h) (fun _ h => by cases h) (fun _ h => by cases h) (fun _ h => by cases h) (fun s => (fBj_e0 a0 b1 s).trans (fBj_p0 a0 b1 s _ _ (fun e => some (fBj_x0_2 a0 b1 e))))
def fBj_t0 (σ : List AV) : Option (Bool × Bool × (X × List AV) × (X × List AV)) := match dec fBj_h0 σ with | some [.l a0, .l b1, .i i5] => some ((loopL (fBj_r0 a0 b1) i5).isSome, isOne (loopL (fBj_r0 a0 b1) i5), fBj_x0_1 a0 b1 (getOne () (loopL (fBj_r0 a0 b1) i5)), fBj_x0_2 a0 b1 (getTwo () (loopL (fBj_r0 a0 b1) i5))) | _ => none
theorem fBj_tt0 : TTrue Tryz.prog fBj_F Tryz.f8 0 (fBj_t0) := by
  intro σ p r r' h
  unfold fBj_t0 at h
  split at h
  · rename_i hd
    rw [← dec_enc hd]
    exact row2 (fBj_l0 _ _ _) h
  · cases h
theorem fBj_p {R : Type} (a0 b1 : List Sc) (kR : Bool → Option R) : fBj_k a0 b1 kR = (fBj_k a0 b1 some).bind kR := by
  simp only [fBj_k, brB, blB, someB]
theorem fBj_e (a0 b1 : List Sc) : runFn E0 fBj_M H0 fBj_F (asL (addL 0 (fBj_t0) (noL))) Tryz.f8 (fBj_a a0 b1) (fBj_i a0 b1) = fBj_k a0 b1 (fun r => some (fBj_en r)) := by kernel_rfl
theorem fBj_ok (a0 b1 : List Sc) (r : Bool) (h : fBj a0 b1 = some r) : CS Tryz.prog 8 (fBj_a a0 b1) (fBj_i a0 b1) (fBj_en r).1 (fBj_en r).2 :=
  fn_true (Gk := fun k => fBj_k a0 b1 k) (en := fBj_en) Tryz.func8 E0ok fBj_Mt (addL_true (fBj_tt0) (noL_true)) fBj_o (fBj_e a0 b1) (fBj_p a0 b1) h
def fBj_c : CRow := fun args inh => match dec2 [.p (.nl 1), .p (.nl 1)] [] args inh with | some ([.l a0, .l b1], []) => some ((fBj a0 b1).isSome, (fBj_en ((fBj a0 b1).getD false)).1, (fBj_en ((fBj a0 b1).getD false)).2) | _ => none
theorem fBj_cc : CTrue Tryz.prog 8 fBj_c := by
  intro args inh rs out h
  unfold fBj_c at h
  split at h
  · rename_i hd
    obtain ⟨h1, h2⟩ := dec2_enc hd
    rw [← h1, ← h2]
    exact rowC (fBj_ok _ _) h
  · cases h
def fCw_F : Fi := { nv := 0, nc := 0, m := 0, vt := [], kl := [(0, ([2, 3, 4, 5, 6, 7, 8, 9, 10, 11], [1, 2, 3, 4, 5, 6, 7, 8, 9, 10, 11], [0, 1, 2, 3, 5, 6, 7, 8, 9, 10, 11]))], sk := [], mvs := [], fz := [] }
def fCw_a (a0 b1 : Int) : List AV := enc [.p (.int .i64), .p (.int .i64)] [.i a0, .i b1]
def fCw_i (a0 b1 : Int) : List AV := enc [] []
def fCw_en (r : Int) : List AV × List AV := (enc [.p (.int .i64)] [.i r], enc [] [])
def fCw_M : Calling := noC
theorem fCw_Mt : CallOk Tryz.prog (fCw_M) := noC_true
theorem fCw_o : loopsOnce Tryz.f48 = true := by kernel_rfl
def fCw_h0 : List Sh := [.p (.int .i64), .p (.int .i64), .u, .u, .u, .u, .u, .u, .u, .u, .u, .u]
def fCw_fr0 (s : Int × Int) : List AV := enc fCw_h0 [.i s.1, .i s.2]
def fCw_g0_1 : List Sh := [.p (.int .i64), .u, .u, .u, .u, .u, .u, .u, .u, .u, .u, .u]
def fCw_x0_1 (e : Int) : X × List AV := (.out 0, enc fCw_g0_1 [.i e])
def fCw_x0_2 (_e : Unit) : X × List AV := (.ret, [])
theorem fCw_p0 {R : Type} (s : Int × Int) (kN : Int × Int → Option R) (kA : Int → Option R) (kB : Unit → Option R) : fCw_k0 s.1 s.2 kN kA = (fCw_r0 s).bind (Ro.el kN kA kB) := by
  simp only [fCw_k0, fCw_r0, brB, someB, noneB, Ro.el]
theorem fCw_e0 (s : Int × Int) : EC E0 fCw_M H0 fCw_F (asL (noL)) 0 (bodyOf Tryz.f48 0) (fCw_fr0 s) (done (klOf fCw_F 0)) = fCw_k0 s.1 s.2 (fun s => some (.norm, fCw_fr0 s)) (fun e => some (fCw_x0_1 e)) := by kernel_rfl
theorem fCw_l0 : ∀ s r, loopL (fCw_r0) s = some r → LS Tryz.prog fCw_F (bodyOf Tryz.f48 0) (fCw_fr0 s) (enX (fCw_x0_1) (fCw_x0_2) r) :=
  loop_true E0ok fCw_Mt (noL_true) fCw_o (fun _ h => by cases h) (fun _ h => by cases h) (fun _ h => by cases h) (fun _ h => by cases h) (fun s => (fCw_e0 s).trans (fCw_p0 s _ _ (fun e => some (fCw_x0_2 e))))
def fCw_t0 (σ : List AV) : Option (Bool × Bool × (X × List AV) × (X × List AV)) := match dec fCw_h0 σ with | some [.i a0, .i b1] => some (isOne (loopL (fCw_r0) (a0, b1)), true, fCw_x0_1 (getOne 0 (loopL (fCw_r0) (a0, b1))), (.ret, [])) | _ => none
theorem fCw_tt0 : TTrue Tryz.prog fCw_F Tryz.f48 0 (fCw_t0) := by
  intro σ p r r' h
  unfold fCw_t0 at h
  split at h
  · rename_i hd
    rw [← dec_enc hd]
    exact row1 (fCw_l0 _) h
  · cases h
theorem fCw_p {R : Type} (a0 b1 : Int) (kR : Int → Option R) : fCw_k a0 b1 kR = (fCw_k a0 b1 some).bind kR := by
  simp only [fCw_k, bl1B, someB]
theorem fCw_e (a0 b1 : Int) : runFn E0 fCw_M H0 fCw_F (asL (addL 0 (fCw_t0) (noL))) Tryz.f48 (fCw_a a0 b1) (fCw_i a0 b1) = fCw_k a0 b1 (fun r => some (fCw_en r)) := by kernel_rfl
theorem fCw_ok (a0 b1 r : Int) (h : fCw a0 b1 = some r) : CS Tryz.prog 48 (fCw_a a0 b1) (fCw_i a0 b1) (fCw_en r).1 (fCw_en r).2 :=
  fn_true (Gk := fun k => fCw_k a0 b1 k) (en := fCw_en) Tryz.func48 E0ok fCw_Mt (addL_true (fCw_tt0) (noL_true)) fCw_o (fCw_e a0 b1) (fCw_p a0 b1) h
def fCw_c : CRow := fun args inh => match dec2 [.p (.int .i64), .p (.int .i64)] [] args inh with | some ([.i a0, .i b1], []) => some ((fCw a0 b1).isSome, (fCw_en ((fCw a0 b1).getD 0)).1, (fCw_en ((fCw a0 b1).getD 0)).2) | _ => none
theorem fCw_cc : CTrue Tryz.prog 48 fCw_c := by
  intro args inh rs out h
  unfold fCw_c at h
  split at h
  · rename_i hd
    obtain ⟨h1, h2⟩ := dec2_enc hd
    rw [← h1, ← h2]
    exact rowC (fCw_ok _ _) h
  · cases h
end
end Go.Proofs.YtlnhommmmajllaaGreat
