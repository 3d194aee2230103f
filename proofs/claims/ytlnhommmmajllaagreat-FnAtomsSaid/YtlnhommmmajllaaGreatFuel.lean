/-
  The same functions with a bound on all rounds (printed by gen2.py): what they come to the functions come to.
-/
import Derived.Test.YtlnhommmmajllaaGreatVFuel
import Derived.Test.YtlnhommmmajllaaGreatShal
set_option linter.unusedVariables false
set_option linter.unusedSimpArgs false
namespace Go.Proofs.YtlnhommmmajllaaGreat
open Go Ev
def fCm_k_Q (q : Nat) {R : Type} (x0 lo1 hi2 : Int) (kR : Bool → Option R) : Option R := br ((decide (x0 ≥ lo1)) == true) (kR (decide (x0 ≤ hi2))) (kR false)
def fCm_Q (q : Nat) (x0 lo1 hi2 : Int) : Option (Bool) := fCm_k_Q q x0 lo1 hi2 some
theorem fCm_k_le (q : Nat) {R : Type} (x0 lo1 hi2 : Int) (kR : Bool → Option R) : Le (fCm_k_Q q x0 lo1 hi2 kR) (fCm_k x0 lo1 hi2 kR) := by
  unfold fCm_k_Q fCm_k
  exact (Le.br (Le.refl _) (Le.refl _))
theorem fCm_le (q : Nat) (x0 lo1 hi2 : Int) : Le (fCm_Q q x0 lo1 hi2) (fCm x0 lo1 hi2) := fCm_k_le q ..
def fBz_k0_Q (q : Nat) {R : Type} (t11 : List Sc) (t12 n3 t13 : Int) (kN : Int × Int → Option R) (kA : Int → Option R) (kB : Unit → Option R) : Option R := br ((decide (t13 < t12))) (br (okAt t11 t13) (bo (fCm_Q q (atI t11 t13) 2 24) false fun r1 => br ((!r1)) (kB ()) (kN ((w64 (n3 * (atI t11 t13))), (w64 (t13 + 1))))) none) (kA n3)
def fBz_r0_Q (q : Nat) (t11 : List Sc) (t12 : Int) : (Int × Int) → Option (Ro (Int × Int) (Int) (Unit)) := fun s => fBz_k0_Q q t11 t12 s.1 s.2 (fun s => some (.again s)) (fun e => some (.one e)) (fun e => some (.two e))
def fBz_k_Q (q : Nat) {R : Type} (g0 : List Sc) (kR : Bool → Option R) : Option R := br ((decide ((g0.length : Int) > 3))) (kR false) (bl (loopQ q (fBz_r0_Q q g0 (g0.length : Int)) (1, 0)) 0 () (fun e2 => kR (decide (e2 ≤ 24))) (fun e2 => kR false))
def fBz_Q (q : Nat) (g0 : List Sc) : Option (Bool) := fBz_k_Q q g0 some
theorem fBz_k0_le (q : Nat) {R : Type} (t11 : List Sc) (t12 n3 t13 : Int) (kN : Int × Int → Option R) (kA : Int → Option R) (kB : Unit → Option R) : Le (fBz_k0_Q q t11 t12 n3 t13 kN kA kB) (fBz_k0 t11 t12 n3 t13 kN kA kB) := by
  unfold fBz_k0_Q fBz_k0
  exact (Le.br (Le.br (Le.bo (fCm_le q ..) fun _ => (Le.br (Le.refl _) (Le.refl _))) (Le.none _)) (Le.refl _))
theorem fBz_r0_le (q : Nat) (t11 : List Sc) (t12 : Int) (s : Int × Int) : Le (fBz_r0_Q q t11 t12 s) (fBz_r0 t11 t12 s) := fBz_k0_le q ..
theorem fBz_k_le (q : Nat) {R : Type} (g0 : List Sc) (kR : Bool → Option R) : Le (fBz_k_Q q g0 kR) (fBz_k g0 kR) := by
  unfold fBz_k_Q fBz_k
  exact (Le.br (Le.refl _) (Le.bl (Le.loop fun _ => fBz_r0_le q ..) (fun _ => (Le.refl _)) fun _ => (Le.refl _)))
theorem fBz_le (q : Nat) (g0 : List Sc) : Le (fBz_Q q g0) (fBz g0) := fBz_k_le q ..
def fCa_k0_Q (q : Nat) {R : Type} (t10 : List Sc) (t11 n3 t12 : Int) (kN : Int × Int → Option R) (kA : Int → Option R) : Option R := br ((decide (t12 < t11))) (br (okAt t10 t12) (kN ((w64 (n3 * (atI t10 t12))), (w64 (t12 + 1)))) none) (kA n3)
def fCa_r0_Q (q : Nat) (t10 : List Sc) (t11 : Int) : (Int × Int) → Option (Ro (Int × Int) (Int) (Unit)) := fun s => fCa_k0_Q q t10 t11 s.1 s.2 (fun s => some (.again s)) (fun e => some (.one e))
def fCa_k_Q (q : Nat) {R : Type} (g0 : List Sc) (kR : Int → Option R) : Option R := bo (fBz_Q q g0) false fun r1 => br ((!r1)) (kR 0) (bl1 (loopQ q (fCa_r0_Q q g0 (g0.length : Int)) (1, 0)) 0 fun e2 => kR e2)
def fCa_Q (q : Nat) (g0 : List Sc) : Option (Int) := fCa_k_Q q g0 some
theorem fCa_k0_le (q : Nat) {R : Type} (t10 : List Sc) (t11 n3 t12 : Int) (kN : Int × Int → Option R) (kA : Int → Option R) : Le (fCa_k0_Q q t10 t11 n3 t12 kN kA) (fCa_k0 t10 t11 n3 t12 kN kA) := by
  unfold fCa_k0_Q fCa_k0
  exact (Le.br (Le.br (Le.refl _) (Le.none _)) (Le.refl _))
theorem fCa_r0_le (q : Nat) (t10 : List Sc) (t11 : Int) (s : Int × Int) : Le (fCa_r0_Q q t10 t11 s) (fCa_r0 t10 t11 s) := fCa_k0_le q ..
theorem fCa_k_le (q : Nat) {R : Type} (g0 : List Sc) (kR : Int → Option R) : Le (fCa_k_Q q g0 kR) (fCa_k g0 kR) := by
  unfold fCa_k_Q fCa_k
  exact (Le.bo (fBz_le q ..) fun _ => (Le.br (Le.refl _) (Le.bl1 (Le.loop fun _ => fCa_r0_le q ..) fun _ => (Le.refl _))))
theorem fCa_le (q : Nat) (g0 : List Sc) : Le (fCa_Q q g0) (fCa g0) := fCa_k_le q ..
def fBf_k0_Q (q : Nat) {R : Type} (t12 : List Sc) (t13 x1 y2 sum7 unit8 t14 : Int) (kN : Int × Int × Int × Int × Int → Option R) (kA : Int → Option R) : Option R := br ((decide (t14 < t13))) (br (okAt t12 t14) (br ((atI t12 t14) == 0) none (br ((atI t12 t14) == 0) none (br ((atI t12 t14) == 0) none (br ((atI t12 t14) == 0) none (br ((atI t12 t14) == 0) none (kN ((w64 (x1.tdiv (atI t12 t14))), (w64 (y2.tdiv (atI t12 t14))), (w64 (sum7 + (w64 (((w64 ((x1.tmod (atI t12 t14)) + (y2.tmod (atI t12 t14)))).tmod (atI t12 t14)) * unit8)))), (w64 (unit8 * (atI t12 t14))), (w64 (t14 + 1))))))))) none) (kA sum7)
def fBf_r0_Q (q : Nat) (t12 : List Sc) (t13 : Int) : (Int × Int × Int × Int × Int) → Option (Ro (Int × Int × Int × Int × Int) (Int) (Unit)) := fun s => fBf_k0_Q q t12 t13 s.1 s.2.1 s.2.2.1 s.2.2.2.1 s.2.2.2.2 (fun s => some (.again s)) (fun e => some (.one e))
def fBf_k_Q (q : Nat) {R : Type} (g0 : List Sc) (x1 y2 : Int) (kR : Int → Option R) : Option R := bl1 (loopQ q (fBf_r0_Q q g0 (g0.length : Int)) (x1, y2, 0, 1, 0)) 0 fun e1 => kR e1
def fBf_Q (q : Nat) (g0 : List Sc) (x1 y2 : Int) : Option (Int) := fBf_k_Q q g0 x1 y2 some
theorem fBf_k0_le (q : Nat) {R : Type} (t12 : List Sc) (t13 x1 y2 sum7 unit8 t14 : Int) (kN : Int × Int × Int × Int × Int → Option R) (kA : Int → Option R) : Le (fBf_k0_Q q t12 t13 x1 y2 sum7 unit8 t14 kN kA) (fBf_k0 t12 t13 x1 y2 sum7 unit8 t14 kN kA) := by
  unfold fBf_k0_Q fBf_k0
  exact (Le.br (Le.br (Le.br (Le.none _) (Le.br (Le.none _) (Le.br (Le.none _) (Le.br (Le.none _) (Le.br (Le.none _) (Le.refl _)))))) (Le.none _)) (Le.refl _))
theorem fBf_r0_le (q : Nat) (t12 : List Sc) (t13 : Int) (s : Int × Int × Int × Int × Int) : Le (fBf_r0_Q q t12 t13 s) (fBf_r0 t12 t13 s) := fBf_k0_le q ..
theorem fBf_k_le (q : Nat) {R : Type} (g0 : List Sc) (x1 y2 : Int) (kR : Int → Option R) : Le (fBf_k_Q q g0 x1 y2 kR) (fBf_k g0 x1 y2 kR) := by
  unfold fBf_k_Q fBf_k
  exact (Le.bl1 (Le.loop fun _ => fBf_r0_le q ..) fun _ => (Le.refl _))
theorem fBf_le (q : Nat) (g0 : List Sc) (x1 y2 : Int) : Le (fBf_Q q g0 x1 y2) (fBf g0 x1 y2) := fBf_k_le q ..
def fAs_k0_Q (q : Nat) {R : Type} (g2 t8 : List Sc) (t9 s5 t10 : Int) (kN : Int × Int → Option R) (kA : Int → Option R) : Option R := br ((decide (t10 < t9))) (br (okAt t8 t10) (bo (fBf_Q q g2 s5 (atI t8 t10)) 0 fun r1 => kN (r1, (w64 (t10 + 1)))) none) (kA s5)
def fAs_r0_Q (q : Nat) (g2 t8 : List Sc) (t9 : Int) : (Int × Int) → Option (Ro (Int × Int) (Int) (Unit)) := fun s => fAs_k0_Q q g2 t8 t9 s.1 s.2 (fun s => some (.again s)) (fun e => some (.one e))
def fAs_k_Q (q : Nat) {R : Type} (g0 l1 : List Sc) (kR : Int → Option R) : Option R := bl1 (loopQ q (fAs_r0_Q q g0 l1 (l1.length : Int)) (0, 0)) 0 fun e2 => kR e2
def fAs_Q (q : Nat) (g0 l1 : List Sc) : Option (Int) := fAs_k_Q q g0 l1 some
theorem fAs_k0_le (q : Nat) {R : Type} (g2 t8 : List Sc) (t9 s5 t10 : Int) (kN : Int × Int → Option R) (kA : Int → Option R) : Le (fAs_k0_Q q g2 t8 t9 s5 t10 kN kA) (fAs_k0 g2 t8 t9 s5 t10 kN kA) := by
  unfold fAs_k0_Q fAs_k0
  exact (Le.br (Le.br (Le.bo (fBf_le q ..) fun _ => (Le.refl _)) (Le.none _)) (Le.refl _))
theorem fAs_r0_le (q : Nat) (g2 t8 : List Sc) (t9 : Int) (s : Int × Int) : Le (fAs_r0_Q q g2 t8 t9 s) (fAs_r0 g2 t8 t9 s) := fAs_k0_le q ..
theorem fAs_k_le (q : Nat) {R : Type} (g0 l1 : List Sc) (kR : Int → Option R) : Le (fAs_k_Q q g0 l1 kR) (fAs_k g0 l1 kR) := by
  unfold fAs_k_Q fAs_k
  exact (Le.bl1 (Le.loop fun _ => fAs_r0_le q ..) fun _ => (Le.refl _))
theorem fAs_le (q : Nat) (g0 l1 : List Sc) : Le (fAs_Q q g0 l1) (fAs g0 l1) := fAs_k_le q ..
def fAm_k0_Q (q : Nat) {R : Type} (t10 : List Sc) (t11 x1 sum5 unit6 t12 : Int) (kN : Int × Int × Int × Int → Option R) (kA : Int → Option R) : Option R := br ((decide (t12 < t11))) (br (okAt t10 t12) (br ((atI t10 t12) == 0) none (br ((atI t10 t12) == 0) none (br ((atI t10 t12) == 0) none (kN ((w64 (x1.tdiv (atI t10 t12))), (w64 (sum5 + (w64 (((w64 ((atI t10 t12) - (x1.tmod (atI t10 t12)))).tmod (atI t10 t12)) * unit6)))), (w64 (unit6 * (atI t10 t12))), (w64 (t12 + 1))))))) none) (kA sum5)
def fAm_r0_Q (q : Nat) (t10 : List Sc) (t11 : Int) : (Int × Int × Int × Int) → Option (Ro (Int × Int × Int × Int) (Int) (Unit)) := fun s => fAm_k0_Q q t10 t11 s.1 s.2.1 s.2.2.1 s.2.2.2 (fun s => some (.again s)) (fun e => some (.one e))
def fAm_k_Q (q : Nat) {R : Type} (g0 : List Sc) (x1 : Int) (kR : Int → Option R) : Option R := bl1 (loopQ q (fAm_r0_Q q g0 (g0.length : Int)) (x1, 0, 1, 0)) 0 fun e1 => kR e1
def fAm_Q (q : Nat) (g0 : List Sc) (x1 : Int) : Option (Int) := fAm_k_Q q g0 x1 some
theorem fAm_k0_le (q : Nat) {R : Type} (t10 : List Sc) (t11 x1 sum5 unit6 t12 : Int) (kN : Int × Int × Int × Int → Option R) (kA : Int → Option R) : Le (fAm_k0_Q q t10 t11 x1 sum5 unit6 t12 kN kA) (fAm_k0 t10 t11 x1 sum5 unit6 t12 kN kA) := by
  unfold fAm_k0_Q fAm_k0
  exact (Le.br (Le.br (Le.br (Le.none _) (Le.br (Le.none _) (Le.br (Le.none _) (Le.refl _)))) (Le.none _)) (Le.refl _))
theorem fAm_r0_le (q : Nat) (t10 : List Sc) (t11 : Int) (s : Int × Int × Int × Int) : Le (fAm_r0_Q q t10 t11 s) (fAm_r0 t10 t11 s) := fAm_k0_le q ..
theorem fAm_k_le (q : Nat) {R : Type} (g0 : List Sc) (x1 : Int) (kR : Int → Option R) : Le (fAm_k_Q q g0 x1 kR) (fAm_k g0 x1 kR) := by
  unfold fAm_k_Q fAm_k
  exact (Le.bl1 (Le.loop fun _ => fAm_r0_le q ..) fun _ => (Le.refl _))
theorem fAm_le (q : Nat) (g0 : List Sc) (x1 : Int) : Le (fAm_Q q g0 x1) (fAm g0 x1) := fAm_k_le q ..
def fBs_k_Q (q : Nat) {R : Type} (l0 : List Sc) (kR : List Sc → Option R) : Option R := br (decide (([] : List Sc).length + l0.length ≤ lim)) (kR ([] ++ l0)) none
def fBs_Q (q : Nat) (l0 : List Sc) : Option (List Sc) := fBs_k_Q q l0 some
theorem fBs_k_le (q : Nat) {R : Type} (l0 : List Sc) (kR : List Sc → Option R) : Le (fBs_k_Q q l0 kR) (fBs_k l0 kR) := by
  unfold fBs_k_Q fBs_k
  exact (Le.br (Le.refl _) (Le.none _))
theorem fBs_le (q : Nat) (l0 : List Sc) : Le (fBs_Q q l0) (fBs l0) := fBs_k_le q ..
def fBg_k_Q (q : Nat) {R : Type} (g0 : List Sc) (x1 : Int) (kR : Bool → Option R) : Option R := bo (fCa_Q q g0) 0 fun r1 => bo (fCm_Q q x1 0 (w64 (r1 - 1))) false fun r2 => kR r2
def fBg_Q (q : Nat) (g0 : List Sc) (x1 : Int) : Option (Bool) := fBg_k_Q q g0 x1 some
theorem fBg_k_le (q : Nat) {R : Type} (g0 : List Sc) (x1 : Int) (kR : Bool → Option R) : Le (fBg_k_Q q g0 x1 kR) (fBg_k g0 x1 kR) := by
  unfold fBg_k_Q fBg_k
  exact (Le.bo (fCa_le q ..) fun _ => (Le.bo (fCm_le q ..) fun _ => (Le.refl _)))
theorem fBg_le (q : Nat) (g0 : List Sc) (x1 : Int) : Le (fBg_Q q g0 x1) (fBg g0 x1) := fBg_k_le q ..
def fBx_k_Q (q : Nat) {R : Type} (x0 : Int) (kR : Bool → Option R) : Option R := kR (x0 != x0)
def fBx_Q (q : Nat) (x0 : Int) : Option (Bool) := fBx_k_Q q x0 some
theorem fBx_k_le (q : Nat) {R : Type} (x0 : Int) (kR : Bool → Option R) : Le (fBx_k_Q q x0 kR) (fBx_k x0 kR) := by
  unfold fBx_k_Q fBx_k
  exact (Le.refl _)
theorem fBx_le (q : Nat) (x0 : Int) : Le (fBx_Q q x0) (fBx x0) := fBx_k_le q ..
def fCj_k_Q (q : Nat) {R : Type} (x0 y1 : Int) (kR : Bool → Option R) : Option R := bo (fBx_Q q x0) false fun r1 => br (r1 == true) (bo (fBx_Q q y1) false fun r2 => br ((!r2) == false) (kR (decide (x0 < y1))) (kR true)) (kR (decide (x0 < y1)))
def fCj_Q (q : Nat) (x0 y1 : Int) : Option (Bool) := fCj_k_Q q x0 y1 some
theorem fCj_k_le (q : Nat) {R : Type} (x0 y1 : Int) (kR : Bool → Option R) : Le (fCj_k_Q q x0 y1 kR) (fCj_k x0 y1 kR) := by
  unfold fCj_k_Q fCj_k
  exact (Le.bo (fBx_le q ..) fun _ => (Le.br (Le.bo (fBx_le q ..) fun _ => (Le.br (Le.refl _) (Le.refl _))) (Le.refl _)))
theorem fCj_le (q : Nat) (x0 y1 : Int) : Le (fCj_Q q x0 y1) (fCj x0 y1) := fCj_k_le q ..
def fAj_k0_Q (q : Nat) {R : Type} (x0 : List Sc) (i3 : Int) (kN : Int → Option R) (kA kB : Unit → Option R) : Option R := br ((decide (i3 > 0))) (br (okAt x0 i3) (br (okAt x0 (w64 (i3 - 1))) (bo (fCj_Q q (atI x0 i3) (atI x0 (w64 (i3 - 1)))) false fun r1 => br (r1) (kB ()) (kN (w64 (i3 - 1)))) none) none) (kA ())
def fAj_r0_Q (q : Nat) (x0 : List Sc) : Int → Option (Ro (Int) (Unit) (Unit)) := fun s => fAj_k0_Q q x0 s (fun s => some (.again s)) (fun e => some (.one e)) (fun e => some (.two e))
def fAj_k_Q (q : Nat) {R : Type} (x0 : List Sc) (kR : Bool → Option R) : Option R := bl (loopQ q (fAj_r0_Q q x0) (w64 ((x0.length : Int) - 1))) () () (fun e2 => kR true) (fun e2 => kR false)
def fAj_Q (q : Nat) (x0 : List Sc) : Option (Bool) := fAj_k_Q q x0 some
theorem fAj_k0_le (q : Nat) {R : Type} (x0 : List Sc) (i3 : Int) (kN : Int → Option R) (kA kB : Unit → Option R) : Le (fAj_k0_Q q x0 i3 kN kA kB) (fAj_k0 x0 i3 kN kA kB) := by
  unfold fAj_k0_Q fAj_k0
  exact (Le.br (Le.br (Le.br (Le.bo (fCj_le q ..) fun _ => (Le.br (Le.refl _) (Le.refl _))) (Le.none _)) (Le.none _)) (Le.refl _))
theorem fAj_r0_le (q : Nat) (x0 : List Sc) (s : Int) : Le (fAj_r0_Q q x0 s) (fAj_r0 x0 s) := fAj_k0_le q ..
theorem fAj_k_le (q : Nat) {R : Type} (x0 : List Sc) (kR : Bool → Option R) : Le (fAj_k_Q q x0 kR) (fAj_k x0 kR) := by
  unfold fAj_k_Q fAj_k
  exact (Le.bl (Le.loop fun _ => fAj_r0_le q ..) (fun _ => (Le.refl _)) fun _ => (Le.refl _))
theorem fAj_le (q : Nat) (x0 : List Sc) : Le (fAj_Q q x0) (fAj x0) := fAj_k_le q ..
def fAw_k0_Q (q : Nat) {R : Type} (l1 g2 t7 : List Sc) (t8 t9 : Int) (kN : Int → Option R) (kA kB : Unit → Option R) : Option R := br ((decide (t9 < t8))) (br (okAt t7 t9) (bo (fBg_Q q g2 (atI t7 t9)) false fun r1 => br ((!r1)) (kB ()) (kN (w64 (t9 + 1)))) none) (kA ())
def fAw_r0_Q (q : Nat) (l1 g2 t7 : List Sc) (t8 : Int) : Int → Option (Ro (Int) (Unit) (Unit)) := fun s => fAw_k0_Q q l1 g2 t7 t8 s (fun s => some (.again s)) (fun e => some (.one e)) (fun e => some (.two e))
def fAw_k_Q (q : Nat) {R : Type} (g0 l1 : List Sc) (kR : Bool → Option R) : Option R := bl (loopQ q (fAw_r0_Q q l1 g0 l1 (l1.length : Int)) 0) () () (fun e2 => bo (fBz_Q q g0) false fun r3 => br (r3 == true) (br ((decide ((l1.length : Int) ≤ 12)) == true) (bo (fAj_Q q l1) false fun r4 => kR r4) (kR false)) (kR false)) (fun e2 => kR false)
def fAw_Q (q : Nat) (g0 l1 : List Sc) : Option (Bool) := fAw_k_Q q g0 l1 some
theorem fAw_k0_le (q : Nat) {R : Type} (l1 g2 t7 : List Sc) (t8 t9 : Int) (kN : Int → Option R) (kA kB : Unit → Option R) : Le (fAw_k0_Q q l1 g2 t7 t8 t9 kN kA kB) (fAw_k0 l1 g2 t7 t8 t9 kN kA kB) := by
  unfold fAw_k0_Q fAw_k0
  exact (Le.br (Le.br (Le.bo (fBg_le q ..) fun _ => (Le.br (Le.refl _) (Le.refl _))) (Le.none _)) (Le.refl _))
theorem fAw_r0_le (q : Nat) (l1 g2 t7 : List Sc) (t8 s : Int) : Le (fAw_r0_Q q l1 g2 t7 t8 s) (fAw_r0 l1 g2 t7 t8 s) := fAw_k0_le q ..
theorem fAw_k_le (q : Nat) {R : Type} (g0 l1 : List Sc) (kR : Bool → Option R) : Le (fAw_k_Q q g0 l1 kR) (fAw_k g0 l1 kR) := by
  unfold fAw_k_Q fAw_k
  exact (Le.bl (Le.loop fun _ => fAw_r0_le q ..) (fun _ => (Le.bo (fBz_le q ..) fun _ => (Le.br (Le.br (Le.bo (fAj_le q ..) fun _ => (Le.refl _)) (Le.refl _)) (Le.refl _)))) fun _ => (Le.refl _))
theorem fAw_le (q : Nat) (g0 l1 : List Sc) : Le (fAw_Q q g0 l1) (fAw g0 l1) := fAw_k_le q ..
def fBh_k_Q (q : Nat) {R : Type} (g0 l1 : List Sc) (kR : Bool → Option R) : Option R := bo (fAw_Q q g0 l1) false fun r1 => br (r1 == true) (bo (fAs_Q q g0 l1) 0 fun r2 => kR (r2 == 0)) (kR false)
def fBh_Q (q : Nat) (g0 l1 : List Sc) : Option (Bool) := fBh_k_Q q g0 l1 some
theorem fBh_k_le (q : Nat) {R : Type} (g0 l1 : List Sc) (kR : Bool → Option R) : Le (fBh_k_Q q g0 l1 kR) (fBh_k g0 l1 kR) := by
  unfold fBh_k_Q fBh_k
  exact (Le.bo (fAw_le q ..) fun _ => (Le.br (Le.bo (fAs_le q ..) fun _ => (Le.refl _)) (Le.refl _)))
theorem fBh_le (q : Nat) (g0 l1 : List Sc) : Le (fBh_Q q g0 l1) (fBh g0 l1) := fBh_k_le q ..
def fCz_k_Q (q : Nat) {R : Type} (a0 x1 : Int) (kR : Bool → Option R) : Option R := br (decide (x1 < 0)) none (kR ((and64 (shr64 a0 x1) 1) == 1))
def fCz_Q (q : Nat) (a0 x1 : Int) : Option (Bool) := fCz_k_Q q a0 x1 some
theorem fCz_k_le (q : Nat) {R : Type} (a0 x1 : Int) (kR : Bool → Option R) : Le (fCz_k_Q q a0 x1 kR) (fCz_k a0 x1 kR) := by
  unfold fCz_k_Q fCz_k
  exact (Le.br (Le.none _) (Le.refl _))
theorem fCz_le (q : Nat) (a0 x1 : Int) : Le (fCz_Q q a0 x1) (fCz a0 x1) := fCz_k_le q ..
def fCt_k0_Q (q : Nat) {R : Type} (mask1 : Int) (t9 : List Sc) (t10 : Int) (out5 : List Sc) (t11 : Int) (kN : List Sc × Int → Option R) (kA : List Sc → Option R) : Option R := br ((decide (t11 < t10))) (br (okAt t9 t11) (bo (fCz_Q q mask1 t11) false fun r1 => br (r1) (br (decide (out5.length + [(Sc.n .i64 (atI t9 t11))].length ≤ lim)) (kN ((out5 ++ [(Sc.n .i64 (atI t9 t11))]), (w64 (t11 + 1)))) none) (kN (out5, (w64 (t11 + 1))))) none) (kA out5)
def fCt_r0_Q (q : Nat) (mask1 : Int) (t9 : List Sc) (t10 : Int) : (List Sc × Int) → Option (Ro (List Sc × Int) (List Sc) (Unit)) := fun s => fCt_k0_Q q mask1 t9 t10 s.1 s.2 (fun s => some (.again s)) (fun e => some (.one e))
def fCt_k_Q (q : Nat) {R : Type} (l0 : List Sc) (mask1 : Int) (kR : List Sc → Option R) : Option R := bl1 (loopQ q (fCt_r0_Q q mask1 l0 (l0.length : Int)) ([], 0)) [] fun e2 => kR e2
def fCt_Q (q : Nat) (l0 : List Sc) (mask1 : Int) : Option (List Sc) := fCt_k_Q q l0 mask1 some
theorem fCt_k0_le (q : Nat) {R : Type} (mask1 : Int) (t9 : List Sc) (t10 : Int) (out5 : List Sc) (t11 : Int) (kN : List Sc × Int → Option R) (kA : List Sc → Option R) : Le (fCt_k0_Q q mask1 t9 t10 out5 t11 kN kA) (fCt_k0 mask1 t9 t10 out5 t11 kN kA) := by
  unfold fCt_k0_Q fCt_k0
  exact (Le.br (Le.br (Le.bo (fCz_le q ..) fun _ => (Le.br (Le.br (Le.refl _) (Le.none _)) (Le.refl _))) (Le.none _)) (Le.refl _))
theorem fCt_r0_le (q : Nat) (mask1 : Int) (t9 : List Sc) (t10 : Int) (s : List Sc × Int) : Le (fCt_r0_Q q mask1 t9 t10 s) (fCt_r0 mask1 t9 t10 s) := fCt_k0_le q ..
theorem fCt_k_le (q : Nat) {R : Type} (l0 : List Sc) (mask1 : Int) (kR : List Sc → Option R) : Le (fCt_k_Q q l0 mask1 kR) (fCt_k l0 mask1 kR) := by
  unfold fCt_k_Q fCt_k
  exact (Le.bl1 (Le.loop fun _ => fCt_r0_le q ..) fun _ => (Le.refl _))
theorem fCt_le (q : Nat) (l0 : List Sc) (mask1 : Int) : Le (fCt_Q q l0 mask1) (fCt l0 mask1) := fCt_k_le q ..
def fCk_k0_Q (q : Nat) {R : Type} (l1 g2 : List Sc) (mask5 : Int) (kN : Int → Option R) (kA kB : Unit → Option R) : Option R := br (decide ((l1.length : Int) < 0)) none (br ((decide (mask5 < (w64 ((shl64 1 (l1.length : Int)) - 1))))) (bo (fCt_Q q l1 mask5) [] fun r2 => bo (fAs_Q q g2 r2) 0 fun r3 => br ((r3 == 0)) (kB ()) (kN (w64 (mask5 + 1)))) (kA ()))
def fCk_r0_Q (q : Nat) (l1 g2 : List Sc) : Int → Option (Ro (Int) (Unit) (Unit)) := fun s => fCk_k0_Q q l1 g2 s (fun s => some (.again s)) (fun e => some (.one e)) (fun e => some (.two e))
def fCk_k_Q (q : Nat) {R : Type} (g0 l1 : List Sc) (kR : Bool → Option R) : Option R := bo (fBh_Q q g0 l1) false fun r1 => br ((!r1) == false) (br (((l1.length : Int) == 0)) (kR false) (bl (loopQ q (fCk_r0_Q q l1 g0) 1) () () (fun e4 => kR true) (fun e4 => kR false))) (kR false)
def fCk_Q (q : Nat) (g0 l1 : List Sc) : Option (Bool) := fCk_k_Q q g0 l1 some
theorem fCk_k0_le (q : Nat) {R : Type} (l1 g2 : List Sc) (mask5 : Int) (kN : Int → Option R) (kA kB : Unit → Option R) : Le (fCk_k0_Q q l1 g2 mask5 kN kA kB) (fCk_k0 l1 g2 mask5 kN kA kB) := by
  unfold fCk_k0_Q fCk_k0
  exact (Le.br (Le.none _) (Le.br (Le.bo (fCt_le q ..) fun _ => (Le.bo (fAs_le q ..) fun _ => (Le.br (Le.refl _) (Le.refl _)))) (Le.refl _)))
theorem fCk_r0_le (q : Nat) (l1 g2 : List Sc) (s : Int) : Le (fCk_r0_Q q l1 g2 s) (fCk_r0 l1 g2 s) := fCk_k0_le q ..
theorem fCk_k_le (q : Nat) {R : Type} (g0 l1 : List Sc) (kR : Bool → Option R) : Le (fCk_k_Q q g0 l1 kR) (fCk_k g0 l1 kR) := by
  unfold fCk_k_Q fCk_k
  exact (Le.bo (fBh_le q ..) fun _ => (Le.br (Le.br (Le.refl _) (Le.bl (Le.loop fun _ => fCk_r0_le q ..) (fun _ => (Le.refl _)) fun _ => (Le.refl _))) (Le.refl _)))
theorem fCk_le (q : Nat) (g0 l1 : List Sc) : Le (fCk_Q q g0 l1) (fCk g0 l1) := fCk_k_le q ..
def fBe_k_Q (q : Nat) {R : Type} (l0 : List Sc) (sums1 : Int) (p2 h0 : List Sc) (kR : List Sc → Option R) : Option R := bo (fAs_Q q p2 l0) 0 fun r1 => bo (fAm_Q q p2 r1) 0 fun r2 => br (((l0.length : Int) == 0) == false) (br (okAt l0 (w64 ((l0.length : Int) - 1))) (br ((decide (r2 ≥ (atI l0 (w64 ((l0.length : Int) - 1)))))) (bo (fBs_Q q l0) [] fun r3 => br (decide (r3.length + [(Sc.n .i64 r2)].length ≤ lim)) (bo (fCk_Q q p2 (r3 ++ [(Sc.n .i64 r2)])) false fun r4 => br (r4) (br (decide (h0.length + [Sc.l (r3 ++ [(Sc.n .i64 r2)])].length ≤ lim)) (kR (h0 ++ [Sc.l (r3 ++ [(Sc.n .i64 r2)])])) none) (kR h0)) none) (kR h0)) none) (bo (fBs_Q q l0) [] fun r5 => br (decide (r5.length + [(Sc.n .i64 r2)].length ≤ lim)) (bo (fCk_Q q p2 (r5 ++ [(Sc.n .i64 r2)])) false fun r6 => br (r6) (br (decide (h0.length + [Sc.l (r5 ++ [(Sc.n .i64 r2)])].length ≤ lim)) (kR (h0 ++ [Sc.l (r5 ++ [(Sc.n .i64 r2)])])) none) (kR h0)) none)
def fBe_Q (q : Nat) (l0 : List Sc) (sums1 : Int) (p2 h0 : List Sc) : Option (List Sc) := fBe_k_Q q l0 sums1 p2 h0 some
theorem fBe_k_le (q : Nat) {R : Type} (l0 : List Sc) (sums1 : Int) (p2 h0 : List Sc) (kR : List Sc → Option R) : Le (fBe_k_Q q l0 sums1 p2 h0 kR) (fBe_k l0 sums1 p2 h0 kR) := by
  unfold fBe_k_Q fBe_k
  exact (Le.bo (fAs_le q ..) fun _ => (Le.bo (fAm_le q ..) fun _ => (Le.br (Le.br (Le.br (Le.bo (fBs_le q ..) fun _ => (Le.br (Le.bo (fCk_le q ..) fun _ => (Le.br (Le.br (Le.refl _) (Le.none _)) (Le.refl _))) (Le.none _))) (Le.refl _)) (Le.none _)) (Le.bo (fBs_le q ..) fun _ => (Le.br (Le.bo (fCk_le q ..) fun _ => (Le.br (Le.br (Le.refl _) (Le.none _)) (Le.refl _))) (Le.none _))))))
theorem fBe_le (q : Nat) (l0 : List Sc) (sums1 : Int) (p2 h0 : List Sc) : Le (fBe_Q q l0 sums1 p2 h0) (fBe l0 sums1 p2 h0) := fBe_k_le q ..
def fAr_k0_Q (q : Nat) {R : Type} (a1 x2 : Int) (g3 : List Sc) (out7 y8 : Int) (kN : Int × Int → Option R) (kA : Int → Option R) : Option R := br (decide (y8 < 0)) none (br (((shr64 a1 y8) != 0)) (br (decide (y8 < 0)) none (br (((and64 (shr64 a1 y8) 1) == 1)) (bo (fBf_Q q g3 x2 y8) 0 fun r1 => br (decide (r1 < 0)) none (kN ((or64 out7 (shl64 1 r1)), (w64 (y8 + 1))))) (kN (out7, (w64 (y8 + 1)))))) (kA out7))
def fAr_r0_Q (q : Nat) (a1 x2 : Int) (g3 : List Sc) : (Int × Int) → Option (Ro (Int × Int) (Int) (Unit)) := fun s => fAr_k0_Q q a1 x2 g3 s.1 s.2 (fun s => some (.again s)) (fun e => some (.one e))
def fAr_k_Q (q : Nat) {R : Type} (g0 : List Sc) (a1 x2 : Int) (kR : Int → Option R) : Option R := bl1 (loopQ q (fAr_r0_Q q a1 x2 g0) (0, 0)) 0 fun e2 => kR e2
def fAr_Q (q : Nat) (g0 : List Sc) (a1 x2 : Int) : Option (Int) := fAr_k_Q q g0 a1 x2 some
theorem fAr_k0_le (q : Nat) {R : Type} (a1 x2 : Int) (g3 : List Sc) (out7 y8 : Int) (kN : Int × Int → Option R) (kA : Int → Option R) : Le (fAr_k0_Q q a1 x2 g3 out7 y8 kN kA) (fAr_k0 a1 x2 g3 out7 y8 kN kA) := by
  unfold fAr_k0_Q fAr_k0
  exact (Le.br (Le.none _) (Le.br (Le.br (Le.none _) (Le.br (Le.bo (fBf_le q ..) fun _ => (Le.br (Le.none _) (Le.refl _))) (Le.refl _))) (Le.refl _)))
theorem fAr_r0_le (q : Nat) (a1 x2 : Int) (g3 : List Sc) (s : Int × Int) : Le (fAr_r0_Q q a1 x2 g3 s) (fAr_r0 a1 x2 g3 s) := fAr_k0_le q ..
theorem fAr_k_le (q : Nat) {R : Type} (g0 : List Sc) (a1 x2 : Int) (kR : Int → Option R) : Le (fAr_k_Q q g0 a1 x2 kR) (fAr_k g0 a1 x2 kR) := by
  unfold fAr_k_Q fAr_k
  exact (Le.bl1 (Le.loop fun _ => fAr_r0_le q ..) fun _ => (Le.refl _))
theorem fAr_le (q : Nat) (g0 : List Sc) (a1 x2 : Int) : Le (fAr_Q q g0 a1 x2) (fAr g0 a1 x2) := fAr_k_le q ..
def fAd_k0_Q (q : Nat) {R : Type} (self : (List Sc × List Sc × Int × List Sc × List Sc) → Option (List Sc)) (l1 : List Sc) (sums2 : Int) (visit3 g4 v0 : List Sc) (x9 : Int) (kN : List Sc × Int → Option R) (kA : List Sc → Option R) : Option R := bo (fCa_Q q g4) 0 fun r2 => br ((decide (x9 < r2))) (bo (fAr_Q q g4 sums2 x9) 0 fun r3 => br (decide (x9 < 0)) none (bo (fCz_Q q (or64 (or64 sums2 r3) (shl64 1 x9)) 0) false fun r4 => br ((!r4)) (bo (fBs_Q q l1) [] fun r5 => br (decide (r5.length + [(Sc.n .i64 x9)].length ≤ lim)) (bo (self (g4, (r5 ++ [(Sc.n .i64 x9)]), (or64 (or64 sums2 r3) (shl64 1 x9)), visit3, v0)) [] fun r6 => kN (r6, (w64 (x9 + 1)))) none) (kN (v0, (w64 (x9 + 1)))))) (kA v0)
def fAd_r0_Q (q : Nat) (self : (List Sc × List Sc × Int × List Sc × List Sc) → Option (List Sc)) (l1 : List Sc) (sums2 : Int) (visit3 g4 : List Sc) : (List Sc × Int) → Option (Ro (List Sc × Int) (List Sc) (Unit)) := fun s => fAd_k0_Q q self l1 sums2 visit3 g4 s.1 s.2 (fun s => some (.again s)) (fun e => some (.one e))
def fAd_k_Q (q : Nat) {R : Type} (self : (List Sc × List Sc × Int × List Sc × List Sc) → Option (List Sc)) (g0 l1 : List Sc) (sums2 : Int) (visit3 h0 : List Sc) (kR : List Sc → Option R) : Option R := bo (fBe_Q q l1 sums2 visit3 h0) [] fun r1 => br ((decide ((l1.length : Int) > 0))) (br (okAt l1 (w64 ((l1.length : Int) - 1))) (bl1 (loopQ q (fAd_r0_Q q self l1 sums2 visit3 g0) (r1, (atI l1 (w64 ((l1.length : Int) - 1))))) [] fun e7 => kR e7) none) (bl1 (loopQ q (fAd_r0_Q q self l1 sums2 visit3 g0) (r1, 1)) [] fun e8 => kR e8)
def fAd_n_Q (q : Nat) : Nat → (List Sc × List Sc × Int × List Sc × List Sc) → Option (List Sc) | 0, _ => none | n + 1, a => fAd_k_Q q (fAd_n_Q q n) a.1 a.2.1 a.2.2.1 a.2.2.2.1 a.2.2.2.2 some
def fAd_Q (q : Nat) (g0 l1 : List Sc) (sums2 : Int) (visit3 h0 : List Sc) : Option (List Sc) := limQ q (fAd_n_Q q) (g0, l1, sums2, visit3, h0)
theorem fAd_k0_le (q : Nat) {R : Type} {s1 s2 : (List Sc × List Sc × Int × List Sc × List Sc) → Option (List Sc)} (hs : ∀ a, Le (s1 a) (s2 a)) (l1 : List Sc) (sums2 : Int) (visit3 g4 v0 : List Sc) (x9 : Int) (kN : List Sc × Int → Option R) (kA : List Sc → Option R) : Le (fAd_k0_Q q s1 l1 sums2 visit3 g4 v0 x9 kN kA) (fAd_k0 s2 l1 sums2 visit3 g4 v0 x9 kN kA) := by
  unfold fAd_k0_Q fAd_k0
  exact (Le.bo (fCa_le q ..) fun _ => (Le.br (Le.bo (fAr_le q ..) fun _ => (Le.br (Le.none _) (Le.bo (fCz_le q ..) fun _ => (Le.br (Le.bo (fBs_le q ..) fun _ => (Le.br (Le.bo (hs _) fun _ => (Le.refl _)) (Le.none _))) (Le.refl _))))) (Le.refl _)))
theorem fAd_r0_le (q : Nat) {s1 s2 : (List Sc × List Sc × Int × List Sc × List Sc) → Option (List Sc)} (hs : ∀ a, Le (s1 a) (s2 a)) (l1 : List Sc) (sums2 : Int) (visit3 g4 : List Sc) (s : List Sc × Int) : Le (fAd_r0_Q q s1 l1 sums2 visit3 g4 s) (fAd_r0 s2 l1 sums2 visit3 g4 s) := fAd_k0_le q hs ..
theorem fAd_k_le (q : Nat) {R : Type} {s1 s2 : (List Sc × List Sc × Int × List Sc × List Sc) → Option (List Sc)} (hs : ∀ a, Le (s1 a) (s2 a)) (g0 l1 : List Sc) (sums2 : Int) (visit3 h0 : List Sc) (kR : List Sc → Option R) : Le (fAd_k_Q q s1 g0 l1 sums2 visit3 h0 kR) (fAd_k s2 g0 l1 sums2 visit3 h0 kR) := by
  unfold fAd_k_Q fAd_k
  exact (Le.bo (fBe_le q ..) fun _ => (Le.br (Le.br (Le.bl1 (Le.loop fun _ => fAd_r0_le q hs ..) fun _ => (Le.refl _)) (Le.none _)) (Le.bl1 (Le.loop fun _ => fAd_r0_le q hs ..) fun _ => (Le.refl _))))
theorem fAd_n_le (q : Nat) : ∀ n a, Le (fAd_n_Q q n a) (fAd_n n a)
  | 0, _ => Le.none _
  | n + 1, a => fAd_k_le q (fAd_n_le q n) ..
theorem fAd_k0_up {R : Type} {s1 s2 : (List Sc × List Sc × Int × List Sc × List Sc) → Option (List Sc)} (hs : ∀ a, Le (s1 a) (s2 a)) (l1 : List Sc) (sums2 : Int) (visit3 g4 v0 : List Sc) (x9 : Int) (kN : List Sc × Int → Option R) (kA : List Sc → Option R) : Le (fAd_k0 s1 l1 sums2 visit3 g4 v0 x9 kN kA) (fAd_k0 s2 l1 sums2 visit3 g4 v0 x9 kN kA) := by
  unfold fAd_k0
  exact (Le.bo (Le.refl _) fun _ => (Le.br (Le.bo (Le.refl _) fun _ => (Le.br (Le.none _) (Le.bo (Le.refl _) fun _ => (Le.br (Le.bo (Le.refl _) fun _ => (Le.br (Le.bo (hs _) fun _ => (Le.refl _)) (Le.none _))) (Le.refl _))))) (Le.refl _)))
theorem fAd_r0_up {s1 s2 : (List Sc × List Sc × Int × List Sc × List Sc) → Option (List Sc)} (hs : ∀ a, Le (s1 a) (s2 a)) (l1 : List Sc) (sums2 : Int) (visit3 g4 : List Sc) (s : List Sc × Int) : Le (fAd_r0 s1 l1 sums2 visit3 g4 s) (fAd_r0 s2 l1 sums2 visit3 g4 s) := fAd_k0_up hs ..
theorem fAd_k_up {R : Type} {s1 s2 : (List Sc × List Sc × Int × List Sc × List Sc) → Option (List Sc)} (hs : ∀ a, Le (s1 a) (s2 a)) (g0 l1 : List Sc) (sums2 : Int) (visit3 h0 : List Sc) (kR : List Sc → Option R) : Le (fAd_k s1 g0 l1 sums2 visit3 h0 kR) (fAd_k s2 g0 l1 sums2 visit3 h0 kR) := by
  unfold fAd_k
  exact (Le.bo (Le.refl _) fun _ => (Le.br (Le.br (Le.bl1 (Le.loopU fun _ => fAd_r0_up hs ..) fun _ => (Le.refl _)) (Le.none _)) (Le.bl1 (Le.loopU fun _ => fAd_r0_up hs ..) fun _ => (Le.refl _))))
theorem fAd_n_up : ∀ n a, Le (fAd_n n a) (fAd_n (n + 1) a)
  | 0, _ => Le.none _
  | n + 1, a => fAd_k_up (fAd_n_up n) ..
theorem fAd_le (q : Nat) (g0 l1 : List Sc) (sums2 : Int) (visit3 h0 : List Sc) : Le (fAd_Q q g0 l1 sums2 visit3 h0) (fAd g0 l1 sums2 visit3 h0) := Le.lim fAd_n_up (fAd_n_le q)
def fAk_Q (_q : Nat) (h0 : List Sc) : Option (List Sc) := sortF h0
theorem fAk_le (q : Nat) (h0 : List Sc) : Le (fAk_Q q h0) (fAk h0) := Le.refl _
def fBy_k_Q (q : Nat) {R : Type} (g0 : List Sc) (kR : List Sc × Bool → Option R) : Option R := bo (fBz_Q q g0) false fun r1 => br ((!r1) == false) (bo (fCa_Q q g0) 0 fun r2 => br ((decide (r2 > 7))) (kR ([], false)) (bo (fAd_Q q g0 [] 0 g0 []) [] fun r3 => bo (fAk_Q q r3) [] fun r4 => kR (r4, true))) (kR ([], false))
def fBy_Q (q : Nat) (g0 : List Sc) : Option (List Sc × Bool) := fBy_k_Q q g0 some
theorem fBy_k_le (q : Nat) {R : Type} (g0 : List Sc) (kR : List Sc × Bool → Option R) : Le (fBy_k_Q q g0 kR) (fBy_k g0 kR) := by
  unfold fBy_k_Q fBy_k
  exact (Le.bo (fBz_le q ..) fun _ => (Le.br (Le.bo (fCa_le q ..) fun _ => (Le.br (Le.refl _) (Le.bo (fAd_le q ..) fun _ => (Le.bo (fAk_le q ..) fun _ => (Le.refl _))))) (Le.refl _)))
theorem fBy_le (q : Nat) (g0 : List Sc) : Le (fBy_Q q g0) (fBy g0) := fBy_k_le q ..
def fCu_k_Q (q : Nat) {R : Type} (x0 low1 high2 : Int) (kR : Bool → Option R) : Option R := br ((decide (x0 ≥ low1)) == true) (kR (decide (x0 ≤ high2))) (kR false)
def fCu_Q (q : Nat) (x0 low1 high2 : Int) : Option (Bool) := fCu_k_Q q x0 low1 high2 some
theorem fCu_k_le (q : Nat) {R : Type} (x0 low1 high2 : Int) (kR : Bool → Option R) : Le (fCu_k_Q q x0 low1 high2 kR) (fCu_k x0 low1 high2 kR) := by
  unfold fCu_k_Q fCu_k
  exact (Le.br (Le.refl _) (Le.refl _))
theorem fCu_le (q : Nat) (x0 low1 high2 : Int) : Le (fCu_Q q x0 low1 high2) (fCu x0 low1 high2) := fCu_k_le q ..
def fCd_k0_Q (q : Nat) {R : Type} (g1 : List Sc) (n3 i4 : Int) (kN : Int × Int → Option R) (kA : Int → Option R) (kB : Unit → Option R) : Option R := br ((decide (i4 < (g1.length : Int)))) (br (okAt g1 i4) (bo (fCu_Q q (atI g1 i4) 2 24) false fun r1 => br ((!r1) == false) (br ((decide (i4 > 2))) (kB ()) (br (okAt g1 i4) (kN ((w64 (n3 * (atI g1 i4))), (w64 (i4 + 1)))) none)) (kB ())) none) (kA n3)
def fCd_r0_Q (q : Nat) (g1 : List Sc) : (Int × Int) → Option (Ro (Int × Int) (Int) (Unit)) := fun s => fCd_k0_Q q g1 s.1 s.2 (fun s => some (.again s)) (fun e => some (.one e)) (fun e => some (.two e))
def fCd_k_Q (q : Nat) {R : Type} (g0 : List Sc) (kR : Bool → Option R) : Option R := bl (loopQ q (fCd_r0_Q q g0) (1, 0)) 0 () (fun e2 => kR (decide (e2 ≤ 24))) (fun e2 => kR false)
def fCd_Q (q : Nat) (g0 : List Sc) : Option (Bool) := fCd_k_Q q g0 some
theorem fCd_k0_le (q : Nat) {R : Type} (g1 : List Sc) (n3 i4 : Int) (kN : Int × Int → Option R) (kA : Int → Option R) (kB : Unit → Option R) : Le (fCd_k0_Q q g1 n3 i4 kN kA kB) (fCd_k0 g1 n3 i4 kN kA kB) := by
  unfold fCd_k0_Q fCd_k0
  exact (Le.br (Le.br (Le.bo (fCu_le q ..) fun _ => (Le.br (Le.br (Le.refl _) (Le.br (Le.refl _) (Le.none _))) (Le.refl _))) (Le.none _)) (Le.refl _))
theorem fCd_r0_le (q : Nat) (g1 : List Sc) (s : Int × Int) : Le (fCd_r0_Q q g1 s) (fCd_r0 g1 s) := fCd_k0_le q ..
theorem fCd_k_le (q : Nat) {R : Type} (g0 : List Sc) (kR : Bool → Option R) : Le (fCd_k_Q q g0 kR) (fCd_k g0 kR) := by
  unfold fCd_k_Q fCd_k
  exact (Le.bl (Le.loop fun _ => fCd_r0_le q ..) (fun _ => (Le.refl _)) fun _ => (Le.refl _))
theorem fCd_le (q : Nat) (g0 : List Sc) : Le (fCd_Q q g0) (fCd g0) := fCd_k_le q ..
def fCh_k0_Q (q : Nat) {R : Type} (g1 : List Sc) (n3 i4 : Int) (kN : Int × Int → Option R) (kA : Int → Option R) : Option R := br ((decide (i4 < (g1.length : Int)))) (br (okAt g1 i4) (kN ((w64 (n3 * (atI g1 i4))), (w64 (i4 + 1)))) none) (kA n3)
def fCh_r0_Q (q : Nat) (g1 : List Sc) : (Int × Int) → Option (Ro (Int × Int) (Int) (Unit)) := fun s => fCh_k0_Q q g1 s.1 s.2 (fun s => some (.again s)) (fun e => some (.one e))
def fCh_k_Q (q : Nat) {R : Type} (g0 : List Sc) (kR : Int → Option R) : Option R := bl1 (loopQ q (fCh_r0_Q q g0) (1, 0)) 0 fun e1 => kR e1
def fCh_Q (q : Nat) (g0 : List Sc) : Option (Int) := fCh_k_Q q g0 some
theorem fCh_k0_le (q : Nat) {R : Type} (g1 : List Sc) (n3 i4 : Int) (kN : Int × Int → Option R) (kA : Int → Option R) : Le (fCh_k0_Q q g1 n3 i4 kN kA) (fCh_k0 g1 n3 i4 kN kA) := by
  unfold fCh_k0_Q fCh_k0
  exact (Le.br (Le.br (Le.refl _) (Le.none _)) (Le.refl _))
theorem fCh_r0_le (q : Nat) (g1 : List Sc) (s : Int × Int) : Le (fCh_r0_Q q g1 s) (fCh_r0 g1 s) := fCh_k0_le q ..
theorem fCh_k_le (q : Nat) {R : Type} (g0 : List Sc) (kR : Int → Option R) : Le (fCh_k_Q q g0 kR) (fCh_k g0 kR) := by
  unfold fCh_k_Q fCh_k
  exact (Le.bl1 (Le.loop fun _ => fCh_r0_le q ..) fun _ => (Le.refl _))
theorem fCh_le (q : Nat) (g0 : List Sc) : Le (fCh_Q q g0) (fCh g0) := fCh_k_le q ..
def fCr_k0_Q (q : Nat) {R : Type} (g3 : List Sc) (x1 y2 z7 step8 i9 : Int) (kN : Int × Int × Int × Int × Int → Option R) (kA : Int → Option R) : Option R := br ((decide (i9 < (g3.length : Int)))) (br (okAt g3 i9) (br ((atI g3 i9) == 0) none (br ((atI g3 i9) == 0) none (br ((atI g3 i9) == 0) none (br ((atI g3 i9) == 0) none (br ((atI g3 i9) == 0) none (kN ((w64 (x1.tdiv (atI g3 i9))), (w64 (y2.tdiv (atI g3 i9))), (w64 (z7 + (w64 (((w64 ((x1.tmod (atI g3 i9)) + (y2.tmod (atI g3 i9)))).tmod (atI g3 i9)) * step8)))), (w64 (step8 * (atI g3 i9))), (w64 (i9 + 1))))))))) none) (kA z7)
def fCr_r0_Q (q : Nat) (g3 : List Sc) : (Int × Int × Int × Int × Int) → Option (Ro (Int × Int × Int × Int × Int) (Int) (Unit)) := fun s => fCr_k0_Q q g3 s.1 s.2.1 s.2.2.1 s.2.2.2.1 s.2.2.2.2 (fun s => some (.again s)) (fun e => some (.one e))
def fCr_k_Q (q : Nat) {R : Type} (g0 : List Sc) (x1 y2 : Int) (kR : Int → Option R) : Option R := bl1 (loopQ q (fCr_r0_Q q g0) (x1, y2, 0, 1, 0)) 0 fun e1 => kR e1
def fCr_Q (q : Nat) (g0 : List Sc) (x1 y2 : Int) : Option (Int) := fCr_k_Q q g0 x1 y2 some
theorem fCr_k0_le (q : Nat) {R : Type} (g3 : List Sc) (x1 y2 z7 step8 i9 : Int) (kN : Int × Int × Int × Int × Int → Option R) (kA : Int → Option R) : Le (fCr_k0_Q q g3 x1 y2 z7 step8 i9 kN kA) (fCr_k0 g3 x1 y2 z7 step8 i9 kN kA) := by
  unfold fCr_k0_Q fCr_k0
  exact (Le.br (Le.br (Le.br (Le.none _) (Le.br (Le.none _) (Le.br (Le.none _) (Le.br (Le.none _) (Le.br (Le.none _) (Le.refl _)))))) (Le.none _)) (Le.refl _))
theorem fCr_r0_le (q : Nat) (g3 : List Sc) (s : Int × Int × Int × Int × Int) : Le (fCr_r0_Q q g3 s) (fCr_r0 g3 s) := fCr_k0_le q ..
theorem fCr_k_le (q : Nat) {R : Type} (g0 : List Sc) (x1 y2 : Int) (kR : Int → Option R) : Le (fCr_k_Q q g0 x1 y2 kR) (fCr_k g0 x1 y2 kR) := by
  unfold fCr_k_Q fCr_k
  exact (Le.bl1 (Le.loop fun _ => fCr_r0_le q ..) fun _ => (Le.refl _))
theorem fCr_le (q : Nat) (g0 : List Sc) (x1 y2 : Int) : Le (fCr_Q q g0 x1 y2) (fCr g0 x1 y2) := fCr_k_le q ..
def fCo_k0_Q (q : Nat) {R : Type} (l1 g2 : List Sc) (z5 i6 : Int) (kN : Int × Int → Option R) (kA : Int → Option R) : Option R := br ((decide (i6 < (l1.length : Int)))) (br (okAt l1 i6) (bo (fCr_Q q g2 z5 (atI l1 i6)) 0 fun r1 => kN (r1, (w64 (i6 + 1)))) none) (kA z5)
def fCo_r0_Q (q : Nat) (l1 g2 : List Sc) : (Int × Int) → Option (Ro (Int × Int) (Int) (Unit)) := fun s => fCo_k0_Q q l1 g2 s.1 s.2 (fun s => some (.again s)) (fun e => some (.one e))
def fCo_k_Q (q : Nat) {R : Type} (g0 l1 : List Sc) (kR : Int → Option R) : Option R := bl1 (loopQ q (fCo_r0_Q q l1 g0) (0, 0)) 0 fun e2 => kR e2
def fCo_Q (q : Nat) (g0 l1 : List Sc) : Option (Int) := fCo_k_Q q g0 l1 some
theorem fCo_k0_le (q : Nat) {R : Type} (l1 g2 : List Sc) (z5 i6 : Int) (kN : Int × Int → Option R) (kA : Int → Option R) : Le (fCo_k0_Q q l1 g2 z5 i6 kN kA) (fCo_k0 l1 g2 z5 i6 kN kA) := by
  unfold fCo_k0_Q fCo_k0
  exact (Le.br (Le.br (Le.bo (fCr_le q ..) fun _ => (Le.refl _)) (Le.none _)) (Le.refl _))
theorem fCo_r0_le (q : Nat) (l1 g2 : List Sc) (s : Int × Int) : Le (fCo_r0_Q q l1 g2 s) (fCo_r0 l1 g2 s) := fCo_k0_le q ..
theorem fCo_k_le (q : Nat) {R : Type} (g0 l1 : List Sc) (kR : Int → Option R) : Le (fCo_k_Q q g0 l1 kR) (fCo_k g0 l1 kR) := by
  unfold fCo_k_Q fCo_k
  exact (Le.bl1 (Le.loop fun _ => fCo_r0_le q ..) fun _ => (Le.refl _))
theorem fCo_le (q : Nat) (g0 l1 : List Sc) : Le (fCo_Q q g0 l1) (fCo g0 l1) := fCo_k_le q ..
def fBw_k0_Q (q : Nat) {R : Type} (g2 : List Sc) (x1 z5 step6 i7 : Int) (kN : Int × Int × Int × Int → Option R) (kA : Int → Option R) : Option R := br ((decide (i7 < (g2.length : Int)))) (br (okAt g2 i7) (br ((atI g2 i7) == 0) none (br ((atI g2 i7) == 0) none (br ((atI g2 i7) == 0) none (kN ((w64 (x1.tdiv (atI g2 i7))), (w64 (z5 + (w64 (((w64 ((atI g2 i7) - (x1.tmod (atI g2 i7)))).tmod (atI g2 i7)) * step6)))), (w64 (step6 * (atI g2 i7))), (w64 (i7 + 1))))))) none) (kA z5)
def fBw_r0_Q (q : Nat) (g2 : List Sc) : (Int × Int × Int × Int) → Option (Ro (Int × Int × Int × Int) (Int) (Unit)) := fun s => fBw_k0_Q q g2 s.1 s.2.1 s.2.2.1 s.2.2.2 (fun s => some (.again s)) (fun e => some (.one e))
def fBw_k_Q (q : Nat) {R : Type} (g0 : List Sc) (x1 : Int) (kR : Int → Option R) : Option R := bl1 (loopQ q (fBw_r0_Q q g0) (x1, 0, 1, 0)) 0 fun e1 => kR e1
def fBw_Q (q : Nat) (g0 : List Sc) (x1 : Int) : Option (Int) := fBw_k_Q q g0 x1 some
theorem fBw_k0_le (q : Nat) {R : Type} (g2 : List Sc) (x1 z5 step6 i7 : Int) (kN : Int × Int × Int × Int → Option R) (kA : Int → Option R) : Le (fBw_k0_Q q g2 x1 z5 step6 i7 kN kA) (fBw_k0 g2 x1 z5 step6 i7 kN kA) := by
  unfold fBw_k0_Q fBw_k0
  exact (Le.br (Le.br (Le.br (Le.none _) (Le.br (Le.none _) (Le.br (Le.none _) (Le.refl _)))) (Le.none _)) (Le.refl _))
theorem fBw_r0_le (q : Nat) (g2 : List Sc) (s : Int × Int × Int × Int) : Le (fBw_r0_Q q g2 s) (fBw_r0 g2 s) := fBw_k0_le q ..
theorem fBw_k_le (q : Nat) {R : Type} (g0 : List Sc) (x1 : Int) (kR : Int → Option R) : Le (fBw_k_Q q g0 x1 kR) (fBw_k g0 x1 kR) := by
  unfold fBw_k_Q fBw_k
  exact (Le.bl1 (Le.loop fun _ => fBw_r0_le q ..) fun _ => (Le.refl _))
theorem fBw_le (q : Nat) (g0 : List Sc) (x1 : Int) : Le (fBw_Q q g0 x1) (fBw g0 x1) := fBw_k_le q ..
def fCp_k0_Q (q : Nat) {R : Type} (out3 : List Sc) (i4 x5 : Int) (kN : List Sc × Int × Int → Option R) (kA : List Sc → Option R) : Option R := br ((decide (x5 > 0))) (br (((and64 x5 1) == 1)) (br (decide (out3.length + [(Sc.n .i64 i4)].length ≤ lim)) (kN ((out3 ++ [(Sc.n .i64 i4)]), (w64 (i4 + 1)), (shr64 x5 1))) none) (kN (out3, (w64 (i4 + 1)), (shr64 x5 1)))) (kA out3)
def fCp_r0_Q (q : Nat) : (List Sc × Int × Int) → Option (Ro (List Sc × Int × Int) (List Sc) (Unit)) := fun s => fCp_k0_Q q s.1 s.2.1 s.2.2 (fun s => some (.again s)) (fun e => some (.one e))
def fCp_k_Q (q : Nat) {R : Type} (a0 : Int) (kR : List Sc → Option R) : Option R := bl1 (loopQ q (fCp_r0_Q q) ([], 0, a0)) [] fun e1 => kR e1
def fCp_Q (q : Nat) (a0 : Int) : Option (List Sc) := fCp_k_Q q a0 some
theorem fCp_k0_le (q : Nat) {R : Type} (out3 : List Sc) (i4 x5 : Int) (kN : List Sc × Int × Int → Option R) (kA : List Sc → Option R) : Le (fCp_k0_Q q out3 i4 x5 kN kA) (fCp_k0 out3 i4 x5 kN kA) := by
  unfold fCp_k0_Q fCp_k0
  exact (Le.br (Le.br (Le.br (Le.refl _) (Le.none _)) (Le.refl _)) (Le.refl _))
theorem fCp_r0_le (q : Nat) (s : List Sc × Int × Int) : Le (fCp_r0_Q q s) (fCp_r0 s) := fCp_k0_le q ..
theorem fCp_k_le (q : Nat) {R : Type} (a0 : Int) (kR : List Sc → Option R) : Le (fCp_k_Q q a0 kR) (fCp_k a0 kR) := by
  unfold fCp_k_Q fCp_k
  exact (Le.bl1 (Le.loop fun _ => fCp_r0_le q ..) fun _ => (Le.refl _))
theorem fCp_le (q : Nat) (a0 : Int) : Le (fCp_Q q a0) (fCp a0) := fCp_k_le q ..
def fCi_k0_Q (q : Nat) {R : Type} (x2 : Int) (g3 : List Sc) (out7 : Int) (l8 : List Sc) (i9 : Int) (kN : Int × List Sc × Int → Option R) (kA : Int → Option R) : Option R := br ((decide (i9 < (l8.length : Int)))) (br (inRange i9 (l8).length) (br (kAt l8 i9.toNat) (bo (fCr_Q q g3 (atN l8 i9.toNat) x2) 0 fun r2 => br (decide (r2 < 0)) none (kN ((or64 out7 (shl64 1 r2)), l8, (w64 (i9 + 1))))) none) none) (kA out7)
def fCi_r0_Q (q : Nat) (x2 : Int) (g3 : List Sc) : (Int × List Sc × Int) → Option (Ro (Int × List Sc × Int) (Int) (Unit)) := fun s => fCi_k0_Q q x2 g3 s.1 s.2.1 s.2.2 (fun s => some (.again s)) (fun e => some (.one e))
def fCi_k_Q (q : Nat) {R : Type} (g0 : List Sc) (a1 x2 : Int) (kR : Int → Option R) : Option R := bo (fCp_Q q a1) [] fun r1 => bl1 (loopQ q (fCi_r0_Q q x2 g0) (0, r1, 0)) 0 fun e3 => kR e3
def fCi_Q (q : Nat) (g0 : List Sc) (a1 x2 : Int) : Option (Int) := fCi_k_Q q g0 a1 x2 some
theorem fCi_k0_le (q : Nat) {R : Type} (x2 : Int) (g3 : List Sc) (out7 : Int) (l8 : List Sc) (i9 : Int) (kN : Int × List Sc × Int → Option R) (kA : Int → Option R) : Le (fCi_k0_Q q x2 g3 out7 l8 i9 kN kA) (fCi_k0 x2 g3 out7 l8 i9 kN kA) := by
  unfold fCi_k0_Q fCi_k0
  exact (Le.br (Le.br (Le.br (Le.bo (fCr_le q ..) fun _ => (Le.br (Le.none _) (Le.refl _))) (Le.none _)) (Le.none _)) (Le.refl _))
theorem fCi_r0_le (q : Nat) (x2 : Int) (g3 : List Sc) (s : Int × List Sc × Int) : Le (fCi_r0_Q q x2 g3 s) (fCi_r0 x2 g3 s) := fCi_k0_le q ..
theorem fCi_k_le (q : Nat) {R : Type} (g0 : List Sc) (a1 x2 : Int) (kR : Int → Option R) : Le (fCi_k_Q q g0 a1 x2 kR) (fCi_k g0 a1 x2 kR) := by
  unfold fCi_k_Q fCi_k
  exact (Le.bo (fCp_le q ..) fun _ => (Le.bl1 (Le.loop fun _ => fCi_r0_le q ..) fun _ => (Le.refl _)))
theorem fCi_le (q : Nat) (g0 : List Sc) (a1 x2 : Int) : Le (fCi_Q q g0 a1 x2) (fCi g0 a1 x2) := fCi_k_le q ..
def fBb_k0_Q (q : Nat) {R : Type} (l1 g2 : List Sc) (out5 i6 : Int) (kN : Int × Int → Option R) (kA : Int → Option R) : Option R := br ((decide (i6 < (l1.length : Int)))) (br (okAt l1 i6) (bo (fCi_Q q g2 out5 (atI l1 i6)) 0 fun r1 => br (okAt l1 i6) (br (decide ((atI l1 i6) < 0)) none (kN ((or64 (or64 out5 r1) (shl64 1 (atI l1 i6))), (w64 (i6 + 1))))) none) none) (kA out5)
def fBb_r0_Q (q : Nat) (l1 g2 : List Sc) : (Int × Int) → Option (Ro (Int × Int) (Int) (Unit)) := fun s => fBb_k0_Q q l1 g2 s.1 s.2 (fun s => some (.again s)) (fun e => some (.one e))
def fBb_k_Q (q : Nat) {R : Type} (g0 l1 : List Sc) (kR : Int → Option R) : Option R := bl1 (loopQ q (fBb_r0_Q q l1 g0) (0, 0)) 0 fun e2 => kR e2
def fBb_Q (q : Nat) (g0 l1 : List Sc) : Option (Int) := fBb_k_Q q g0 l1 some
theorem fBb_k0_le (q : Nat) {R : Type} (l1 g2 : List Sc) (out5 i6 : Int) (kN : Int × Int → Option R) (kA : Int → Option R) : Le (fBb_k0_Q q l1 g2 out5 i6 kN kA) (fBb_k0 l1 g2 out5 i6 kN kA) := by
  unfold fBb_k0_Q fBb_k0
  exact (Le.br (Le.br (Le.bo (fCi_le q ..) fun _ => (Le.br (Le.br (Le.none _) (Le.refl _)) (Le.none _))) (Le.none _)) (Le.refl _))
theorem fBb_r0_le (q : Nat) (l1 g2 : List Sc) (s : Int × Int) : Le (fBb_r0_Q q l1 g2 s) (fBb_r0 l1 g2 s) := fBb_k0_le q ..
theorem fBb_k_le (q : Nat) {R : Type} (g0 l1 : List Sc) (kR : Int → Option R) : Le (fBb_k_Q q g0 l1 kR) (fBb_k g0 l1 kR) := by
  unfold fBb_k_Q fBb_k
  exact (Le.bl1 (Le.loop fun _ => fBb_r0_le q ..) fun _ => (Le.refl _))
theorem fBb_le (q : Nat) (g0 l1 : List Sc) : Le (fBb_Q q g0 l1) (fBb g0 l1) := fBb_k_le q ..
def fBc_k0_Q (q : Nat) {R : Type} (l1 g2 : List Sc) (i5 : Int) (kN : Int → Option R) (kA kB : Unit → Option R) : Option R := br ((decide (i5 < (l1.length : Int)))) (br (decide (0 ≤ (0 : Int)) && (decide ((0 : Int) ≤ i5) && decide (i5 ≤ (l1.length : Int)))) (br (decide (([] : List Sc).length + (sliceA l1 0 i5).length ≤ lim)) (br (decide (0 ≤ (w64 (i5 + 1))) && (decide ((w64 (i5 + 1)) ≤ (l1.length : Int)) && decide ((l1.length : Int) ≤ (l1.length : Int)))) (br (decide (([] ++ (sliceA l1 0 i5)).length + (sliceA l1 (w64 (i5 + 1)) (l1.length : Int)).length ≤ lim)) (bo (fBb_Q q g2 (([] ++ (sliceA l1 0 i5)) ++ (sliceA l1 (w64 (i5 + 1)) (l1.length : Int)))) 0 fun r1 => br (((and64 r1 1) == 1)) (kB ()) (kN (w64 (i5 + 1)))) none) none) none) none) (kA ())
def fBc_r0_Q (q : Nat) (l1 g2 : List Sc) : Int → Option (Ro (Int) (Unit) (Unit)) := fun s => fBc_k0_Q q l1 g2 s (fun s => some (.again s)) (fun e => some (.one e)) (fun e => some (.two e))
def fBc_k_Q (q : Nat) {R : Type} (g0 l1 : List Sc) (kR : Bool → Option R) : Option R := bl (loopQ q (fBc_r0_Q q l1 g0) 0) () () (fun e2 => kR true) (fun e2 => kR false)
def fBc_Q (q : Nat) (g0 l1 : List Sc) : Option (Bool) := fBc_k_Q q g0 l1 some
theorem fBc_k0_le (q : Nat) {R : Type} (l1 g2 : List Sc) (i5 : Int) (kN : Int → Option R) (kA kB : Unit → Option R) : Le (fBc_k0_Q q l1 g2 i5 kN kA kB) (fBc_k0 l1 g2 i5 kN kA kB) := by
  unfold fBc_k0_Q fBc_k0
  exact (Le.br (Le.br (Le.br (Le.br (Le.br (Le.bo (fBb_le q ..) fun _ => (Le.br (Le.refl _) (Le.refl _))) (Le.none _)) (Le.none _)) (Le.none _)) (Le.none _)) (Le.refl _))
theorem fBc_r0_le (q : Nat) (l1 g2 : List Sc) (s : Int) : Le (fBc_r0_Q q l1 g2 s) (fBc_r0 l1 g2 s) := fBc_k0_le q ..
theorem fBc_k_le (q : Nat) {R : Type} (g0 l1 : List Sc) (kR : Bool → Option R) : Le (fBc_k_Q q g0 l1 kR) (fBc_k g0 l1 kR) := by
  unfold fBc_k_Q fBc_k
  exact (Le.bl (Le.loop fun _ => fBc_r0_le q ..) (fun _ => (Le.refl _)) fun _ => (Le.refl _))
theorem fBc_le (q : Nat) (g0 l1 : List Sc) : Le (fBc_Q q g0 l1) (fBc g0 l1) := fBc_k_le q ..
def fAu_k0_Q (q : Nat) {R : Type} (self : (List Sc × List Sc × Int × Int × List Sc) → Option (List Sc)) (t1 : List Sc) (t2 : Int) (t5 t4 : List Sc) (t13 : Int) (kN : List Sc × Int → Option R) (kA : List Sc → Option R) : Option R := bo (fCh_Q q t5) 0 fun r4 => br ((decide (t13 < r4))) (bo (fCi_Q q t5 t2 t13) 0 fun r5 => br (decide (t13 < 0)) none (br (((and64 (or64 (or64 t2 r5) (shl64 1 t13)) 1) == 0)) (br (decide (([] : List Sc).length + t1.length ≤ lim)) (br (decide (([] ++ t1).length + [(Sc.n .i64 t13)].length ≤ lim)) (bo (self (t5, (([] ++ t1) ++ [(Sc.n .i64 t13)]), (or64 (or64 t2 r5) (shl64 1 t13)), t13, t4)) [] fun r6 => kN (r6, (w64 (t13 + 1)))) none) none) (kN (t4, (w64 (t13 + 1)))))) (kA t4)
def fAu_r0_Q (q : Nat) (self : (List Sc × List Sc × Int × Int × List Sc) → Option (List Sc)) (t1 : List Sc) (t2 : Int) (t5 : List Sc) : (List Sc × Int) → Option (Ro (List Sc × Int) (List Sc) (Unit)) := fun s => fAu_k0_Q q self t1 t2 t5 s.1 s.2 (fun s => some (.again s)) (fun e => some (.one e))
def fAu_k_Q (q : Nat) {R : Type} (self : (List Sc × List Sc × Int × Int × List Sc) → Option (List Sc)) (L0 p1 : List Sc) (p2 p3 : Int) (h0 : List Sc) (kR : List Sc → Option R) : Option R := bo (fCo_Q q L0 p1) 0 fun r1 => bo (fBw_Q q L0 r1) 0 fun r2 => br ((decide (r2 ≥ p3)) == true) (br ((decide ((p1.length : Int) > 0)) == false) (br ((r2 == 0)) (br (decide (([] : List Sc).length + p1.length ≤ lim)) (br (decide (([] ++ p1).length + [(Sc.n .i64 r2)].length ≤ lim)) (bo (fBc_Q q L0 (([] ++ p1) ++ [(Sc.n .i64 r2)])) false fun r3 => br (r3) (br (decide (h0.length + [Sc.l (([] ++ p1) ++ [(Sc.n .i64 r2)])].length ≤ lim)) (bl1 (loopQ q (fAu_r0_Q q self p1 p2 L0) ((h0 ++ [Sc.l (([] ++ p1) ++ [(Sc.n .i64 r2)])]), (if p3 > 1 then p3 else 1))) [] fun e7 => kR e7) none) (bl1 (loopQ q (fAu_r0_Q q self p1 p2 L0) (h0, (if p3 > 1 then p3 else 1))) [] fun e8 => kR e8)) none) none) (bl1 (loopQ q (fAu_r0_Q q self p1 p2 L0) (h0, (if p3 > 1 then p3 else 1))) [] fun e9 => kR e9)) (br (decide (([] : List Sc).length + p1.length ≤ lim)) (br (decide (([] ++ p1).length + [(Sc.n .i64 r2)].length ≤ lim)) (bo (fBc_Q q L0 (([] ++ p1) ++ [(Sc.n .i64 r2)])) false fun r10 => br (r10) (br (decide (h0.length + [Sc.l (([] ++ p1) ++ [(Sc.n .i64 r2)])].length ≤ lim)) (bl1 (loopQ q (fAu_r0_Q q self p1 p2 L0) ((h0 ++ [Sc.l (([] ++ p1) ++ [(Sc.n .i64 r2)])]), (if p3 > 1 then p3 else 1))) [] fun e11 => kR e11) none) (bl1 (loopQ q (fAu_r0_Q q self p1 p2 L0) (h0, (if p3 > 1 then p3 else 1))) [] fun e12 => kR e12)) none) none)) (bl1 (loopQ q (fAu_r0_Q q self p1 p2 L0) (h0, (if p3 > 1 then p3 else 1))) [] fun e13 => kR e13)
def fAu_n_Q (q : Nat) : Nat → (List Sc × List Sc × Int × Int × List Sc) → Option (List Sc) | 0, _ => none | n + 1, a => fAu_k_Q q (fAu_n_Q q n) a.1 a.2.1 a.2.2.1 a.2.2.2.1 a.2.2.2.2 some
def fAu_Q (q : Nat) (L0 p1 : List Sc) (p2 p3 : Int) (h0 : List Sc) : Option (List Sc) := limQ q (fAu_n_Q q) (L0, p1, p2, p3, h0)
theorem fAu_k0_le (q : Nat) {R : Type} {s1 s2 : (List Sc × List Sc × Int × Int × List Sc) → Option (List Sc)} (hs : ∀ a, Le (s1 a) (s2 a)) (t1 : List Sc) (t2 : Int) (t5 t4 : List Sc) (t13 : Int) (kN : List Sc × Int → Option R) (kA : List Sc → Option R) : Le (fAu_k0_Q q s1 t1 t2 t5 t4 t13 kN kA) (fAu_k0 s2 t1 t2 t5 t4 t13 kN kA) := by
  unfold fAu_k0_Q fAu_k0
  exact (Le.bo (fCh_le q ..) fun _ => (Le.br (Le.bo (fCi_le q ..) fun _ => (Le.br (Le.none _) (Le.br (Le.br (Le.br (Le.bo (hs _) fun _ => (Le.refl _)) (Le.none _)) (Le.none _)) (Le.refl _)))) (Le.refl _)))
theorem fAu_r0_le (q : Nat) {s1 s2 : (List Sc × List Sc × Int × Int × List Sc) → Option (List Sc)} (hs : ∀ a, Le (s1 a) (s2 a)) (t1 : List Sc) (t2 : Int) (t5 : List Sc) (s : List Sc × Int) : Le (fAu_r0_Q q s1 t1 t2 t5 s) (fAu_r0 s2 t1 t2 t5 s) := fAu_k0_le q hs ..
theorem fAu_k_le (q : Nat) {R : Type} {s1 s2 : (List Sc × List Sc × Int × Int × List Sc) → Option (List Sc)} (hs : ∀ a, Le (s1 a) (s2 a)) (L0 p1 : List Sc) (p2 p3 : Int) (h0 : List Sc) (kR : List Sc → Option R) : Le (fAu_k_Q q s1 L0 p1 p2 p3 h0 kR) (fAu_k s2 L0 p1 p2 p3 h0 kR) := by
  unfold fAu_k_Q fAu_k
  exact (Le.bo (fCo_le q ..) fun _ => (Le.bo (fBw_le q ..) fun _ => (Le.br (Le.br (Le.br (Le.br (Le.br (Le.bo (fBc_le q ..) fun _ => (Le.br (Le.br (Le.bl1 (Le.loop fun _ => fAu_r0_le q hs ..) fun _ => (Le.refl _)) (Le.none _)) (Le.bl1 (Le.loop fun _ => fAu_r0_le q hs ..) fun _ => (Le.refl _)))) (Le.none _)) (Le.none _)) (Le.bl1 (Le.loop fun _ => fAu_r0_le q hs ..) fun _ => (Le.refl _))) (Le.br (Le.br (Le.bo (fBc_le q ..) fun _ => (Le.br (Le.br (Le.bl1 (Le.loop fun _ => fAu_r0_le q hs ..) fun _ => (Le.refl _)) (Le.none _)) (Le.bl1 (Le.loop fun _ => fAu_r0_le q hs ..) fun _ => (Le.refl _)))) (Le.none _)) (Le.none _))) (Le.bl1 (Le.loop fun _ => fAu_r0_le q hs ..) fun _ => (Le.refl _)))))
theorem fAu_n_le (q : Nat) : ∀ n a, Le (fAu_n_Q q n a) (fAu_n n a)
  | 0, _ => Le.none _
  | n + 1, a => fAu_k_le q (fAu_n_le q n) ..
theorem fAu_k0_up {R : Type} {s1 s2 : (List Sc × List Sc × Int × Int × List Sc) → Option (List Sc)} (hs : ∀ a, Le (s1 a) (s2 a)) (t1 : List Sc) (t2 : Int) (t5 t4 : List Sc) (t13 : Int) (kN : List Sc × Int → Option R) (kA : List Sc → Option R) : Le (fAu_k0 s1 t1 t2 t5 t4 t13 kN kA) (fAu_k0 s2 t1 t2 t5 t4 t13 kN kA) := by
  unfold fAu_k0
  exact (Le.bo (Le.refl _) fun _ => (Le.br (Le.bo (Le.refl _) fun _ => (Le.br (Le.none _) (Le.br (Le.br (Le.br (Le.bo (hs _) fun _ => (Le.refl _)) (Le.none _)) (Le.none _)) (Le.refl _)))) (Le.refl _)))
theorem fAu_r0_up {s1 s2 : (List Sc × List Sc × Int × Int × List Sc) → Option (List Sc)} (hs : ∀ a, Le (s1 a) (s2 a)) (t1 : List Sc) (t2 : Int) (t5 : List Sc) (s : List Sc × Int) : Le (fAu_r0 s1 t1 t2 t5 s) (fAu_r0 s2 t1 t2 t5 s) := fAu_k0_up hs ..
theorem fAu_k_up {R : Type} {s1 s2 : (List Sc × List Sc × Int × Int × List Sc) → Option (List Sc)} (hs : ∀ a, Le (s1 a) (s2 a)) (L0 p1 : List Sc) (p2 p3 : Int) (h0 : List Sc) (kR : List Sc → Option R) : Le (fAu_k s1 L0 p1 p2 p3 h0 kR) (fAu_k s2 L0 p1 p2 p3 h0 kR) := by
  unfold fAu_k
  exact (Le.bo (Le.refl _) fun _ => (Le.bo (Le.refl _) fun _ => (Le.br (Le.br (Le.br (Le.br (Le.br (Le.bo (Le.refl _) fun _ => (Le.br (Le.br (Le.bl1 (Le.loopU fun _ => fAu_r0_up hs ..) fun _ => (Le.refl _)) (Le.none _)) (Le.bl1 (Le.loopU fun _ => fAu_r0_up hs ..) fun _ => (Le.refl _)))) (Le.none _)) (Le.none _)) (Le.bl1 (Le.loopU fun _ => fAu_r0_up hs ..) fun _ => (Le.refl _))) (Le.br (Le.br (Le.bo (Le.refl _) fun _ => (Le.br (Le.br (Le.bl1 (Le.loopU fun _ => fAu_r0_up hs ..) fun _ => (Le.refl _)) (Le.none _)) (Le.bl1 (Le.loopU fun _ => fAu_r0_up hs ..) fun _ => (Le.refl _)))) (Le.none _)) (Le.none _))) (Le.bl1 (Le.loopU fun _ => fAu_r0_up hs ..) fun _ => (Le.refl _)))))
theorem fAu_n_up : ∀ n a, Le (fAu_n n a) (fAu_n (n + 1) a)
  | 0, _ => Le.none _
  | n + 1, a => fAu_k_up (fAu_n_up n) ..
theorem fAu_le (q : Nat) (L0 p1 : List Sc) (p2 p3 : Int) (h0 : List Sc) : Le (fAu_Q q L0 p1 p2 p3 h0) (fAu L0 p1 p2 p3 h0) := Le.lim fAu_n_up (fAu_n_le q)
def fBm_k0_Q (q : Nat) {R : Type} (a0 b1 : List Sc) (i5 : Int) (kN : Int → Option R) (kA : Unit → Option R) (kB : Bool → Option R) : Option R := br ((decide (i5 < (a0.length : Int)))) (br (okAt a0 i5) (br (okAt b1 i5) (br (((atI a0 i5) != (atI b1 i5))) (br (okAt a0 i5) (br (okAt b1 i5) (kB (decide ((atI a0 i5) < (atI b1 i5)))) none) none) (kN (w64 (i5 + 1)))) none) none) (kA ())
def fBm_r0_Q (q : Nat) (a0 b1 : List Sc) : Int → Option (Ro (Int) (Unit) (Bool)) := fun s => fBm_k0_Q q a0 b1 s (fun s => some (.again s)) (fun e => some (.one e)) (fun e => some (.two e))
def fBm_k_Q (q : Nat) {R : Type} (a0 b1 : List Sc) (kR : Bool → Option R) : Option R := br (((a0.length : Int) != (b1.length : Int))) (kR (decide ((a0.length : Int) < (b1.length : Int)))) (bl (loopQ q (fBm_r0_Q q a0 b1) 0) () false (fun e1 => kR false) (fun e1 => kR e1))
def fBm_Q (q : Nat) (a0 b1 : List Sc) : Option (Bool) := fBm_k_Q q a0 b1 some
theorem fBm_k0_le (q : Nat) {R : Type} (a0 b1 : List Sc) (i5 : Int) (kN : Int → Option R) (kA : Unit → Option R) (kB : Bool → Option R) : Le (fBm_k0_Q q a0 b1 i5 kN kA kB) (fBm_k0 a0 b1 i5 kN kA kB) := by
  unfold fBm_k0_Q fBm_k0
  exact (Le.br (Le.br (Le.br (Le.br (Le.br (Le.br (Le.refl _) (Le.none _)) (Le.none _)) (Le.refl _)) (Le.none _)) (Le.none _)) (Le.refl _))
theorem fBm_r0_le (q : Nat) (a0 b1 : List Sc) (s : Int) : Le (fBm_r0_Q q a0 b1 s) (fBm_r0 a0 b1 s) := fBm_k0_le q ..
theorem fBm_k_le (q : Nat) {R : Type} (a0 b1 : List Sc) (kR : Bool → Option R) : Le (fBm_k_Q q a0 b1 kR) (fBm_k a0 b1 kR) := by
  unfold fBm_k_Q fBm_k
  exact (Le.br (Le.refl _) (Le.bl (Le.loop fun _ => fBm_r0_le q ..) (fun _ => (Le.refl _)) fun _ => (Le.refl _)))
theorem fBm_le (q : Nat) (a0 b1 : List Sc) : Le (fBm_Q q a0 b1) (fBm a0 b1) := fBm_k_le q ..
def fCc_k2_Q (q : Nat) {R : Type} (out4 : List Sc) (i6 : Int) (l5 : List Sc) (k7 : Int) (kN kA : List Sc × Int → Option R) : Option R := br ((decide (k7 > 0)) == true) (br (inRange i6 (l5).length) (br (inRange (w64 (k7 - 1)) (out4).length) (bo (fBm_Q q (lsN l5 i6.toNat) (lsI out4 (w64 (k7 - 1)))) false fun r4 => br (r4) (kN (l5, (w64 (k7 - 1)))) (kA (l5, k7))) none) none) (kA (l5, k7))
def fCc_r2_Q (q : Nat) (out4 : List Sc) (i6 : Int) : (List Sc × Int) → Option (Ro (List Sc × Int) (List Sc × Int) (Unit)) := fun s => fCc_k2_Q q out4 i6 s.1 s.2 (fun s => some (.again s)) (fun e => some (.one e))
def fCc_k0_Q (q : Nat) {R : Type} (out4 l5 : List Sc) (i6 : Int) (kN kA : List Sc × List Sc × Int → Option R) : Option R := br ((decide (i6 < (l5.length : Int)))) (bl1 (loopQ q (fCc_r2_Q q out4 i6) (l5, (out4.length : Int))) ([], 0) fun e5 => br (decide (0 ≤ (0 : Int)) && (decide ((0 : Int) ≤ e5.2) && decide (e5.2 ≤ (out4.length : Int)))) (br (decide (([] : List Sc).length + (sliceA out4 0 e5.2).length ≤ lim)) (br (inRange i6 (e5.1).length) (br (decide (([] ++ (sliceA out4 0 e5.2)).length + [Sc.l (lsN e5.1 i6.toNat)].length ≤ lim)) (br (decide (0 ≤ e5.2) && (decide (e5.2 ≤ (out4.length : Int)) && decide ((out4.length : Int) ≤ (out4.length : Int)))) (br (decide ((([] ++ (sliceA out4 0 e5.2)) ++ [Sc.l (lsN e5.1 i6.toNat)]).length + (sliceA out4 e5.2 (out4.length : Int)).length ≤ lim)) (kN (((([] ++ (sliceA out4 0 e5.2)) ++ [Sc.l (lsN e5.1 i6.toNat)]) ++ (sliceA out4 e5.2 (out4.length : Int))), e5.1, (w64 (i6 + 1)))) none) none) none) none) none) none) (kA (out4, l5, i6))
def fCc_r0_Q (q : Nat) : (List Sc × List Sc × Int) → Option (Ro (List Sc × List Sc × Int) (List Sc × List Sc × Int) (Unit)) := fun s => fCc_k0_Q q s.1 s.2.1 s.2.2 (fun s => some (.again s)) (fun e => some (.one e))
def fCc_k_Q (q : Nat) {R : Type} (g0 : List Sc) (kR : List Sc × Bool → Option R) : Option R := bo (fCd_Q q g0) false fun r1 => br ((!r1) == false) (bo (fCh_Q q g0) 0 fun r2 => br ((decide (r2 > 7))) (kR ([], false)) (bo (fAu_Q q g0 [] 0 0 []) [] fun r3 => bl1 (loopQ q (fCc_r0_Q q) ([], r3, 0)) ([], [], 0) fun e6 => kR (e6.1, true))) (kR ([], false))
def fCc_Q (q : Nat) (g0 : List Sc) : Option (List Sc × Bool) := fCc_k_Q q g0 some
theorem fCc_k2_le (q : Nat) {R : Type} (out4 : List Sc) (i6 : Int) (l5 : List Sc) (k7 : Int) (kN kA : List Sc × Int → Option R) : Le (fCc_k2_Q q out4 i6 l5 k7 kN kA) (fCc_k2 out4 i6 l5 k7 kN kA) := by
  unfold fCc_k2_Q fCc_k2
  exact (Le.br (Le.br (Le.br (Le.bo (fBm_le q ..) fun _ => (Le.br (Le.refl _) (Le.refl _))) (Le.none _)) (Le.none _)) (Le.refl _))
theorem fCc_r2_le (q : Nat) (out4 : List Sc) (i6 : Int) (s : List Sc × Int) : Le (fCc_r2_Q q out4 i6 s) (fCc_r2 out4 i6 s) := fCc_k2_le q ..
theorem fCc_k0_le (q : Nat) {R : Type} (out4 l5 : List Sc) (i6 : Int) (kN kA : List Sc × List Sc × Int → Option R) : Le (fCc_k0_Q q out4 l5 i6 kN kA) (fCc_k0 out4 l5 i6 kN kA) := by
  unfold fCc_k0_Q fCc_k0
  exact (Le.br (Le.bl1 (Le.loop fun _ => fCc_r2_le q ..) fun _ => (Le.br (Le.br (Le.br (Le.br (Le.br (Le.br (Le.refl _) (Le.none _)) (Le.none _)) (Le.none _)) (Le.none _)) (Le.none _)) (Le.none _))) (Le.refl _))
theorem fCc_r0_le (q : Nat) (s : List Sc × List Sc × Int) : Le (fCc_r0_Q q s) (fCc_r0 s) := fCc_k0_le q ..
theorem fCc_k_le (q : Nat) {R : Type} (g0 : List Sc) (kR : List Sc × Bool → Option R) : Le (fCc_k_Q q g0 kR) (fCc_k g0 kR) := by
  unfold fCc_k_Q fCc_k
  exact (Le.bo (fCd_le q ..) fun _ => (Le.br (Le.bo (fCh_le q ..) fun _ => (Le.br (Le.refl _) (Le.bo (fAu_le q ..) fun _ => (Le.bl1 (Le.loop fun _ => fCc_r0_le q ..) fun _ => (Le.refl _))))) (Le.refl _)))
theorem fCc_le (q : Nat) (g0 : List Sc) : Le (fCc_Q q g0) (fCc g0) := fCc_k_le q ..
theorem fAc_k0_up {R : Type} {s1 s2 : (Int × Int × List Sc × List Sc × List Sc × List Sc) → Option (List Sc × List Sc × List Sc)} (hs : ∀ a, Le (s1 a) (s2 a)) (t17 : List Sc) (t18 : Int) (v0 v1 v4 t10 : List Sc) (t19 : Int) (kN : List Sc × List Sc × List Sc × List Sc × Int → Option R) (kA : List Sc × List Sc × List Sc × List Sc → Option R) : Le (fAc_k0 s1 t17 t18 v0 v1 v4 t10 t19 kN kA) (fAc_k0 s2 t17 t18 v0 v1 v4 t10 t19 kN kA) := by
  unfold fAc_k0
  exact (Le.br (Le.br (Le.br (Le.bo (Le.refl _) fun _ => (Le.br (Le.refl _) (Le.none _))) (Le.none _)) (Le.none _)) (Le.refl _))
theorem fAc_r0_up {s1 s2 : (Int × Int × List Sc × List Sc × List Sc × List Sc) → Option (List Sc × List Sc × List Sc)} (hs : ∀ a, Le (s1 a) (s2 a)) (t17 : List Sc) (t18 : Int) (s : List Sc × List Sc × List Sc × List Sc × Int) : Le (fAc_r0 s1 t17 t18 s) (fAc_r0 s2 t17 t18 s) := fAc_k0_up hs ..
theorem fAc_k2_up {R : Type} {s1 s2 : (Int × Int × List Sc × List Sc × List Sc × List Sc) → Option (List Sc × List Sc × List Sc)} (hs : ∀ a, Le (s1 a) (s2 a)) (t1 : Int) (t2 v0 v1 v4 : List Sc) (t13 : Int) (kN : List Sc × List Sc × List Sc × Int → Option R) (kA : List Sc × List Sc × List Sc → Option R) : Le (fAc_k2 s1 t1 t2 v0 v1 v4 t13 kN kA) (fAc_k2 s2 t1 t2 v0 v1 v4 t13 kN kA) := by
  unfold fAc_k2
  exact (Le.br (Le.br (Le.bo (Le.refl _) fun _ => (Le.br (Le.br (Le.bo (Le.refl _) fun _ => (Le.br (Le.bo (hs _) fun _ => (Le.br (Le.bo (Le.refl _) fun _ => (Le.refl _)) (Le.none _))) (Le.none _))) (Le.none _)) (Le.br (Le.bo (Le.refl _) fun _ => (Le.refl _)) (Le.none _)))) (Le.none _)) (Le.refl _))
theorem fAc_r2_up {s1 s2 : (Int × Int × List Sc × List Sc × List Sc × List Sc) → Option (List Sc × List Sc × List Sc)} (hs : ∀ a, Le (s1 a) (s2 a)) (t1 : Int) (t2 : List Sc) (s : List Sc × List Sc × List Sc × Int) : Le (fAc_r2 s1 t1 t2 s) (fAc_r2 s2 t1 t2 s) := fAc_k2_up hs ..
theorem fAc_k_up {R : Type} {s1 s2 : (Int × Int × List Sc × List Sc × List Sc × List Sc) → Option (List Sc × List Sc × List Sc)} (hs : ∀ a, Le (s1 a) (s2 a)) (L0 p1 : Int) (p2 h0 h1 h4 : List Sc) (kR : List Sc × List Sc × List Sc → Option R) : Le (fAc_k s1 L0 p1 p2 h0 h1 h4 kR) (fAc_k s2 L0 p1 p2 h0 h1 h4 kR) := by
  unfold fAc_k
  exact (Le.br (Le.bl1 (Le.loopU fun _ => fAc_r0_up hs ..) fun _ => (Le.br (Le.refl _) (Le.none _))) (Le.bl1 (Le.loopU fun _ => fAc_r2_up hs ..) fun _ => (Le.refl _)))
theorem fAc_n_up : ∀ n a, Le (fAc_n n a) (fAc_n (n + 1) a)
  | 0, _ => Le.none _
  | n + 1, a => fAc_k_up (fAc_n_up n) ..
theorem fBn_k2_up {R : Type} {s1 s2 : (List Sc × List Sc × Int) → Option (List Sc)} (hs : ∀ a, Le (s1 a) (s2 a)) (L0 t1 : List Sc) (t8 : Int) (t7 t11 : List Sc) (t12 : Int) (kN : List Sc × List Sc × Int → Option R) (kA : List Sc → Option R) : Le (fBn_k2 s1 L0 t1 t8 t7 t11 t12 kN kA) (fBn_k2 s2 L0 t1 t8 t7 t11 t12 kN kA) := by
  unfold fBn_k2
  exact (Le.br (Le.br (Le.br (Le.br (Le.br (Le.br (Le.refl _) (Le.none _)) (Le.none _)) (Le.none _)) (Le.none _)) (Le.none _)) (Le.refl _))
theorem fBn_r2_up {s1 s2 : (List Sc × List Sc × Int) → Option (List Sc)} (hs : ∀ a, Le (s1 a) (s2 a)) (L0 t1 : List Sc) (t8 : Int) (s : List Sc × List Sc × Int) : Le (fBn_r2 s1 L0 t1 t8 s) (fBn_r2 s2 L0 t1 t8 s) := fBn_k2_up hs ..
theorem fBn_k0_up {R : Type} {s1 s2 : (List Sc × List Sc × Int) → Option (List Sc)} (hs : ∀ a, Le (s1 a) (s2 a)) (L0 t1 t7 : List Sc) (t8 : Int) (kN kA : List Sc × Int → Option R) : Le (fBn_k0 s1 L0 t1 t7 t8 kN kA) (fBn_k0 s2 L0 t1 t7 t8 kN kA) := by
  unfold fBn_k0
  exact (Le.br (Le.br (Le.bo (Le.refl _) fun _ => (Le.br (Le.refl _) (Le.bo (hs _) fun _ => (Le.bl1 (Le.loopU fun _ => fBn_r2_up hs ..) fun _ => (Le.refl _))))) (Le.none _)) (Le.refl _))
theorem fBn_r0_up {s1 s2 : (List Sc × List Sc × Int) → Option (List Sc)} (hs : ∀ a, Le (s1 a) (s2 a)) (L0 t1 : List Sc) (s : List Sc × Int) : Le (fBn_r0 s1 L0 t1 s) (fBn_r0 s2 L0 t1 s) := fBn_k0_up hs ..
theorem fBn_k_up {R : Type} {s1 s2 : (List Sc × List Sc × Int) → Option (List Sc)} (hs : ∀ a, Le (s1 a) (s2 a)) (L0 p1 : List Sc) (p2 : Int) (kR : List Sc → Option R) : Le (fBn_k s1 L0 p1 p2 kR) (fBn_k s2 L0 p1 p2 kR) := by
  unfold fBn_k
  exact (Le.br (Le.refl _) (Le.bl1 (Le.loopU fun _ => fBn_r0_up hs ..) fun _ => (Le.refl _)))
theorem fBn_n_up : ∀ n a, Le (fBn_n n a) (fBn_n (n + 1) a)
  | 0, _ => Le.none _
  | n + 1, a => fBn_k_up (fBn_n_up n) ..
end Go.Proofs.YtlnhommmmajllaaGreat
