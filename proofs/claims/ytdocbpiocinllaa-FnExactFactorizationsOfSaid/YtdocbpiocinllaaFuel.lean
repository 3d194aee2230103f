/-
  The same functions with a bound on all rounds (printed by gen2.py): what they come to the functions come to.
-/
import Derived.Test.YtdocbpiocinllaaVFuel
import Derived.Test.YtdocbpiocinllaaShal
set_option linter.unusedVariables false
set_option linter.unusedSimpArgs false
namespace Go.Proofs.Ytdocbpiocinllaa
open Go Ev
def f_s_l1In_k_Q (q : Nat) {R : Type} (x0 : Int) (low1 : Int) (high2 : Int) (kR : Bool → Option R) : Option R :=
  br ((decide (x0 ≥ low1)) == true)
    (kR (decide (x0 ≤ high2)))
    (kR false)
def f_s_l1In_Q (q : Nat) (x0 : Int) (low1 : Int) (high2 : Int) : Option (Bool) := f_s_l1In_k_Q q x0 low1 high2 some
theorem f_s_l1In_k_le (q : Nat) {R : Type} (x0 : Int) (low1 : Int) (high2 : Int) (kR : Bool → Option R) : Le (f_s_l1In_k_Q q x0 low1 high2 kR) (f_s_l1In_k x0 low1 high2 kR) := by
  unfold f_s_l1In_k_Q f_s_l1In_k
  exact (Le.br (Le.refl _) (Le.refl _))
theorem f_s_l1In_le (q : Nat) (x0 : Int) (low1 : Int) (high2 : Int) : Le (f_s_l1In_Q q x0 low1 high2) (f_s_l1In x0 low1 high2) := f_s_l1In_k_le q ..

def f_s_IsGroup_k0_Q (q : Nat) {R : Type} (g1 : List Sc) (n3 : Int) (i4 : Int) (kN : Int × Int → Option R) (kA : Int → Option R) (kB : Unit → Option R) : Option R :=
  br ((decide (i4 < (g1.length : Int))))
    (br (okAt g1 i4)
      (bo (f_s_l1In_Q q (atI g1 i4) 2 24) false fun r1 =>
      br ((!r1) == false)
        (br ((decide (i4 > 2)))
          (kB ())
          (br (okAt g1 i4)
            (kN ((w64 (n3 * (atI g1 i4))), (w64 (i4 + 1))))
            none))
        (kB ()))
      none)
    (kA n3)
def f_s_IsGroup_r0_Q (q : Nat) (g1 : List Sc) : (Int × Int) → Option (Ro (Int × Int) (Int) (Unit)) := fun s => f_s_IsGroup_k0_Q q g1 s.1 s.2 (fun s => some (.again s)) (fun e => some (.one e)) (fun e => some (.two e))
def f_s_IsGroup_k_Q (q : Nat) {R : Type} (g0 : List Sc) (kR : Bool → Option R) : Option R :=
  bl (loopQ q (f_s_IsGroup_r0_Q q g0) (1, 0)) 0 ()
    (fun e2 =>
      kR (decide (e2 ≤ 24)))
    (fun e2 =>
      kR false)
def f_s_IsGroup_Q (q : Nat) (g0 : List Sc) : Option (Bool) := f_s_IsGroup_k_Q q g0 some
theorem f_s_IsGroup_k0_le (q : Nat) {R : Type} (g1 : List Sc) (n3 : Int) (i4 : Int) (kN : Int × Int → Option R) (kA : Int → Option R) (kB : Unit → Option R) : Le (f_s_IsGroup_k0_Q q g1 n3 i4 kN kA kB) (f_s_IsGroup_k0 g1 n3 i4 kN kA kB) := by
  unfold f_s_IsGroup_k0_Q f_s_IsGroup_k0
  exact (Le.br (Le.br (Le.bo (f_s_l1In_le q ..) fun _ => (Le.br (Le.br (Le.refl _) (Le.br (Le.refl _) (Le.none _))) (Le.refl _))) (Le.none _)) (Le.refl _))
theorem f_s_IsGroup_r0_le (q : Nat) (g1 : List Sc) (s : Int × Int) : Le (f_s_IsGroup_r0_Q q g1 s) (f_s_IsGroup_r0 g1 s) := f_s_IsGroup_k0_le q ..
theorem f_s_IsGroup_k_le (q : Nat) {R : Type} (g0 : List Sc) (kR : Bool → Option R) : Le (f_s_IsGroup_k_Q q g0 kR) (f_s_IsGroup_k g0 kR) := by
  unfold f_s_IsGroup_k_Q f_s_IsGroup_k
  exact (Le.bl (Le.loop fun _ => f_s_IsGroup_r0_le q ..) (fun _ => (Le.refl _)) fun _ => (Le.refl _))
theorem f_s_IsGroup_le (q : Nat) (g0 : List Sc) : Le (f_s_IsGroup_Q q g0) (f_s_IsGroup g0) := f_s_IsGroup_k_le q ..

def f_s_l2Order_k0_Q (q : Nat) {R : Type} (g1 : List Sc) (n3 : Int) (i4 : Int) (kN : Int × Int → Option R) (kA : Int → Option R) : Option R :=
  br ((decide (i4 < (g1.length : Int))))
    (br (okAt g1 i4)
      (kN ((w64 (n3 * (atI g1 i4))), (w64 (i4 + 1))))
      none)
    (kA n3)
def f_s_l2Order_r0_Q (q : Nat) (g1 : List Sc) : (Int × Int) → Option (Ro (Int × Int) (Int) (Unit)) := fun s => f_s_l2Order_k0_Q q g1 s.1 s.2 (fun s => some (.again s)) (fun e => some (.one e))
def f_s_l2Order_k_Q (q : Nat) {R : Type} (g0 : List Sc) (kR : Int → Option R) : Option R :=
  bl1 (loopQ q (f_s_l2Order_r0_Q q g0) (1, 0)) 0 fun e1 =>
  kR e1
def f_s_l2Order_Q (q : Nat) (g0 : List Sc) : Option (Int) := f_s_l2Order_k_Q q g0 some
theorem f_s_l2Order_k0_le (q : Nat) {R : Type} (g1 : List Sc) (n3 : Int) (i4 : Int) (kN : Int × Int → Option R) (kA : Int → Option R) : Le (f_s_l2Order_k0_Q q g1 n3 i4 kN kA) (f_s_l2Order_k0 g1 n3 i4 kN kA) := by
  unfold f_s_l2Order_k0_Q f_s_l2Order_k0
  exact (Le.br (Le.br (Le.refl _) (Le.none _)) (Le.refl _))
theorem f_s_l2Order_r0_le (q : Nat) (g1 : List Sc) (s : Int × Int) : Le (f_s_l2Order_r0_Q q g1 s) (f_s_l2Order_r0 g1 s) := f_s_l2Order_k0_le q ..
theorem f_s_l2Order_k_le (q : Nat) {R : Type} (g0 : List Sc) (kR : Int → Option R) : Le (f_s_l2Order_k_Q q g0 kR) (f_s_l2Order_k g0 kR) := by
  unfold f_s_l2Order_k_Q f_s_l2Order_k
  exact (Le.bl1 (Le.loop fun _ => f_s_l2Order_r0_le q ..) fun _ => (Le.refl _))
theorem f_s_l2Order_le (q : Nat) (g0 : List Sc) : Le (f_s_l2Order_Q q g0) (f_s_l2Order g0) := f_s_l2Order_k_le q ..

def f_s_l2Add_k0_Q (q : Nat) {R : Type} (g3 : List Sc) (x1 : Int) (y2 : Int) (z7 : Int) (step8 : Int) (i9 : Int) (kN : Int × Int × Int × Int × Int → Option R) (kA : Int → Option R) : Option R :=
  br ((decide (i9 < (g3.length : Int))))
    (br (okAt g3 i9)
      (br ((atI g3 i9) == 0)
        none
        (br ((atI g3 i9) == 0)
          none
          (br ((atI g3 i9) == 0)
            none
            (br ((atI g3 i9) == 0)
              none
              (br ((atI g3 i9) == 0)
                none
                (kN ((w64 (x1.tdiv (atI g3 i9))), (w64 (y2.tdiv (atI g3 i9))), (w64 (z7 + (w64 (((w64 ((x1.tmod (atI g3 i9)) + (y2.tmod (atI g3 i9)))).tmod (atI g3 i9)) * step8)))), (w64 (step8 * (atI g3 i9))), (w64 (i9 + 1)))))))))
      none)
    (kA z7)
def f_s_l2Add_r0_Q (q : Nat) (g3 : List Sc) : (Int × Int × Int × Int × Int) → Option (Ro (Int × Int × Int × Int × Int) (Int) (Unit)) := fun s => f_s_l2Add_k0_Q q g3 s.1 s.2.1 s.2.2.1 s.2.2.2.1 s.2.2.2.2 (fun s => some (.again s)) (fun e => some (.one e))
def f_s_l2Add_k_Q (q : Nat) {R : Type} (g0 : List Sc) (x1 : Int) (y2 : Int) (kR : Int → Option R) : Option R :=
  bl1 (loopQ q (f_s_l2Add_r0_Q q g0) (x1, y2, 0, 1, 0)) 0 fun e1 =>
  kR e1
def f_s_l2Add_Q (q : Nat) (g0 : List Sc) (x1 : Int) (y2 : Int) : Option (Int) := f_s_l2Add_k_Q q g0 x1 y2 some
theorem f_s_l2Add_k0_le (q : Nat) {R : Type} (g3 : List Sc) (x1 : Int) (y2 : Int) (z7 : Int) (step8 : Int) (i9 : Int) (kN : Int × Int × Int × Int × Int → Option R) (kA : Int → Option R) : Le (f_s_l2Add_k0_Q q g3 x1 y2 z7 step8 i9 kN kA) (f_s_l2Add_k0 g3 x1 y2 z7 step8 i9 kN kA) := by
  unfold f_s_l2Add_k0_Q f_s_l2Add_k0
  exact (Le.br (Le.br (Le.br (Le.none _) (Le.br (Le.none _) (Le.br (Le.none _) (Le.br (Le.none _) (Le.br (Le.none _) (Le.refl _)))))) (Le.none _)) (Le.refl _))
theorem f_s_l2Add_r0_le (q : Nat) (g3 : List Sc) (s : Int × Int × Int × Int × Int) : Le (f_s_l2Add_r0_Q q g3 s) (f_s_l2Add_r0 g3 s) := f_s_l2Add_k0_le q ..
theorem f_s_l2Add_k_le (q : Nat) {R : Type} (g0 : List Sc) (x1 : Int) (y2 : Int) (kR : Int → Option R) : Le (f_s_l2Add_k_Q q g0 x1 y2 kR) (f_s_l2Add_k g0 x1 y2 kR) := by
  unfold f_s_l2Add_k_Q f_s_l2Add_k
  exact (Le.bl1 (Le.loop fun _ => f_s_l2Add_r0_le q ..) fun _ => (Le.refl _))
theorem f_s_l2Add_le (q : Nat) (g0 : List Sc) (x1 : Int) (y2 : Int) : Le (f_s_l2Add_Q q g0 x1 y2) (f_s_l2Add g0 x1 y2) := f_s_l2Add_k_le q ..

def f_s_l16Sum_k0_Q (q : Nat) {R : Type} (l1 : List Sc) (g2 : List Sc) (z5 : Int) (i6 : Int) (kN : Int × Int → Option R) (kA : Int → Option R) : Option R :=
  br ((decide (i6 < (l1.length : Int))))
    (br (okAt l1 i6)
      (bo (f_s_l2Add_Q q g2 z5 (atI l1 i6)) 0 fun r1 =>
      kN (r1, (w64 (i6 + 1))))
      none)
    (kA z5)
def f_s_l16Sum_r0_Q (q : Nat) (l1 : List Sc) (g2 : List Sc) : (Int × Int) → Option (Ro (Int × Int) (Int) (Unit)) := fun s => f_s_l16Sum_k0_Q q l1 g2 s.1 s.2 (fun s => some (.again s)) (fun e => some (.one e))
def f_s_l16Sum_k_Q (q : Nat) {R : Type} (g0 : List Sc) (l1 : List Sc) (kR : Int → Option R) : Option R :=
  bl1 (loopQ q (f_s_l16Sum_r0_Q q l1 g0) (0, 0)) 0 fun e2 =>
  kR e2
def f_s_l16Sum_Q (q : Nat) (g0 : List Sc) (l1 : List Sc) : Option (Int) := f_s_l16Sum_k_Q q g0 l1 some
theorem f_s_l16Sum_k0_le (q : Nat) {R : Type} (l1 : List Sc) (g2 : List Sc) (z5 : Int) (i6 : Int) (kN : Int × Int → Option R) (kA : Int → Option R) : Le (f_s_l16Sum_k0_Q q l1 g2 z5 i6 kN kA) (f_s_l16Sum_k0 l1 g2 z5 i6 kN kA) := by
  unfold f_s_l16Sum_k0_Q f_s_l16Sum_k0
  exact (Le.br (Le.br (Le.bo (f_s_l2Add_le q ..) fun _ => (Le.refl _)) (Le.none _)) (Le.refl _))
theorem f_s_l16Sum_r0_le (q : Nat) (l1 : List Sc) (g2 : List Sc) (s : Int × Int) : Le (f_s_l16Sum_r0_Q q l1 g2 s) (f_s_l16Sum_r0 l1 g2 s) := f_s_l16Sum_k0_le q ..
theorem f_s_l16Sum_k_le (q : Nat) {R : Type} (g0 : List Sc) (l1 : List Sc) (kR : Int → Option R) : Le (f_s_l16Sum_k_Q q g0 l1 kR) (f_s_l16Sum_k g0 l1 kR) := by
  unfold f_s_l16Sum_k_Q f_s_l16Sum_k
  exact (Le.bl1 (Le.loop fun _ => f_s_l16Sum_r0_le q ..) fun _ => (Le.refl _))
theorem f_s_l16Sum_le (q : Nat) (g0 : List Sc) (l1 : List Sc) : Le (f_s_l16Sum_Q q g0 l1) (f_s_l16Sum g0 l1) := f_s_l16Sum_k_le q ..

def f_s_l2Negate_k0_Q (q : Nat) {R : Type} (g2 : List Sc) (x1 : Int) (z5 : Int) (step6 : Int) (i7 : Int) (kN : Int × Int × Int × Int → Option R) (kA : Int → Option R) : Option R :=
  br ((decide (i7 < (g2.length : Int))))
    (br (okAt g2 i7)
      (br ((atI g2 i7) == 0)
        none
        (br ((atI g2 i7) == 0)
          none
          (br ((atI g2 i7) == 0)
            none
            (kN ((w64 (x1.tdiv (atI g2 i7))), (w64 (z5 + (w64 (((w64 ((atI g2 i7) - (x1.tmod (atI g2 i7)))).tmod (atI g2 i7)) * step6)))), (w64 (step6 * (atI g2 i7))), (w64 (i7 + 1)))))))
      none)
    (kA z5)
def f_s_l2Negate_r0_Q (q : Nat) (g2 : List Sc) : (Int × Int × Int × Int) → Option (Ro (Int × Int × Int × Int) (Int) (Unit)) := fun s => f_s_l2Negate_k0_Q q g2 s.1 s.2.1 s.2.2.1 s.2.2.2 (fun s => some (.again s)) (fun e => some (.one e))
def f_s_l2Negate_k_Q (q : Nat) {R : Type} (g0 : List Sc) (x1 : Int) (kR : Int → Option R) : Option R :=
  bl1 (loopQ q (f_s_l2Negate_r0_Q q g0) (x1, 0, 1, 0)) 0 fun e1 =>
  kR e1
def f_s_l2Negate_Q (q : Nat) (g0 : List Sc) (x1 : Int) : Option (Int) := f_s_l2Negate_k_Q q g0 x1 some
theorem f_s_l2Negate_k0_le (q : Nat) {R : Type} (g2 : List Sc) (x1 : Int) (z5 : Int) (step6 : Int) (i7 : Int) (kN : Int × Int × Int × Int → Option R) (kA : Int → Option R) : Le (f_s_l2Negate_k0_Q q g2 x1 z5 step6 i7 kN kA) (f_s_l2Negate_k0 g2 x1 z5 step6 i7 kN kA) := by
  unfold f_s_l2Negate_k0_Q f_s_l2Negate_k0
  exact (Le.br (Le.br (Le.br (Le.none _) (Le.br (Le.none _) (Le.br (Le.none _) (Le.refl _)))) (Le.none _)) (Le.refl _))
theorem f_s_l2Negate_r0_le (q : Nat) (g2 : List Sc) (s : Int × Int × Int × Int) : Le (f_s_l2Negate_r0_Q q g2 s) (f_s_l2Negate_r0 g2 s) := f_s_l2Negate_k0_le q ..
theorem f_s_l2Negate_k_le (q : Nat) {R : Type} (g0 : List Sc) (x1 : Int) (kR : Int → Option R) : Le (f_s_l2Negate_k_Q q g0 x1 kR) (f_s_l2Negate_k g0 x1 kR) := by
  unfold f_s_l2Negate_k_Q f_s_l2Negate_k
  exact (Le.bl1 (Le.loop fun _ => f_s_l2Negate_r0_le q ..) fun _ => (Le.refl _))
theorem f_s_l2Negate_le (q : Nat) (g0 : List Sc) (x1 : Int) : Le (f_s_l2Negate_Q q g0 x1) (f_s_l2Negate g0 x1) := f_s_l2Negate_k_le q ..

def f_s_l3List_k0_Q (q : Nat) {R : Type} (out3 : List Sc) (i4 : Int) (x5 : Int) (kN : List Sc × Int × Int → Option R) (kA : List Sc → Option R) : Option R :=
  br ((decide (x5 > 0)))
    (br (((and64 x5 1) == 1))
      (br (decide (out3.length + [(Sc.n .i64 i4)].length ≤ lim))
        (kN ((out3 ++ [(Sc.n .i64 i4)]), (w64 (i4 + 1)), (shr64 x5 1)))
        none)
      (kN (out3, (w64 (i4 + 1)), (shr64 x5 1))))
    (kA out3)
def f_s_l3List_r0_Q (q : Nat) : (List Sc × Int × Int) → Option (Ro (List Sc × Int × Int) (List Sc) (Unit)) := fun s => f_s_l3List_k0_Q q s.1 s.2.1 s.2.2 (fun s => some (.again s)) (fun e => some (.one e))
def f_s_l3List_k_Q (q : Nat) {R : Type} (a0 : Int) (kR : List Sc → Option R) : Option R :=
  bl1 (loopQ q (f_s_l3List_r0_Q q) ([], 0, a0)) [] fun e1 =>
  kR e1
def f_s_l3List_Q (q : Nat) (a0 : Int) : Option (List Sc) := f_s_l3List_k_Q q a0 some
theorem f_s_l3List_k0_le (q : Nat) {R : Type} (out3 : List Sc) (i4 : Int) (x5 : Int) (kN : List Sc × Int × Int → Option R) (kA : List Sc → Option R) : Le (f_s_l3List_k0_Q q out3 i4 x5 kN kA) (f_s_l3List_k0 out3 i4 x5 kN kA) := by
  unfold f_s_l3List_k0_Q f_s_l3List_k0
  exact (Le.br (Le.br (Le.br (Le.refl _) (Le.none _)) (Le.refl _)) (Le.refl _))
theorem f_s_l3List_r0_le (q : Nat) (s : List Sc × Int × Int) : Le (f_s_l3List_r0_Q q s) (f_s_l3List_r0 s) := f_s_l3List_k0_le q ..
theorem f_s_l3List_k_le (q : Nat) {R : Type} (a0 : Int) (kR : List Sc → Option R) : Le (f_s_l3List_k_Q q a0 kR) (f_s_l3List_k a0 kR) := by
  unfold f_s_l3List_k_Q f_s_l3List_k
  exact (Le.bl1 (Le.loop fun _ => f_s_l3List_r0_le q ..) fun _ => (Le.refl _))
theorem f_s_l3List_le (q : Nat) (a0 : Int) : Le (f_s_l3List_Q q a0) (f_s_l3List a0) := f_s_l3List_k_le q ..

def f_s_l3Shift_k0_Q (q : Nat) {R : Type} (x2 : Int) (g3 : List Sc) (out7 : Int) (l8 : List Sc) (i9 : Int) (kN : Int × List Sc × Int → Option R) (kA : Int → Option R) : Option R :=
  br ((decide (i9 < (l8.length : Int))))
    (br (inRange i9 (l8).length)
      (br (kAt l8 i9.toNat)
        (bo (f_s_l2Add_Q q g3 (atN l8 i9.toNat) x2) 0 fun r2 =>
        br (decide (r2 < 0))
          none
          (kN ((or64 out7 (shl64 1 r2)), l8, (w64 (i9 + 1)))))
        none)
      none)
    (kA out7)
def f_s_l3Shift_r0_Q (q : Nat) (x2 : Int) (g3 : List Sc) : (Int × List Sc × Int) → Option (Ro (Int × List Sc × Int) (Int) (Unit)) := fun s => f_s_l3Shift_k0_Q q x2 g3 s.1 s.2.1 s.2.2 (fun s => some (.again s)) (fun e => some (.one e))
def f_s_l3Shift_k_Q (q : Nat) {R : Type} (g0 : List Sc) (a1 : Int) (x2 : Int) (kR : Int → Option R) : Option R :=
  bo (f_s_l3List_Q q a1) [] fun r1 =>
  bl1 (loopQ q (f_s_l3Shift_r0_Q q x2 g0) (0, r1, 0)) 0 fun e3 =>
  kR e3
def f_s_l3Shift_Q (q : Nat) (g0 : List Sc) (a1 : Int) (x2 : Int) : Option (Int) := f_s_l3Shift_k_Q q g0 a1 x2 some
theorem f_s_l3Shift_k0_le (q : Nat) {R : Type} (x2 : Int) (g3 : List Sc) (out7 : Int) (l8 : List Sc) (i9 : Int) (kN : Int × List Sc × Int → Option R) (kA : Int → Option R) : Le (f_s_l3Shift_k0_Q q x2 g3 out7 l8 i9 kN kA) (f_s_l3Shift_k0 x2 g3 out7 l8 i9 kN kA) := by
  unfold f_s_l3Shift_k0_Q f_s_l3Shift_k0
  exact (Le.br (Le.br (Le.br (Le.bo (f_s_l2Add_le q ..) fun _ => (Le.br (Le.none _) (Le.refl _))) (Le.none _)) (Le.none _)) (Le.refl _))
theorem f_s_l3Shift_r0_le (q : Nat) (x2 : Int) (g3 : List Sc) (s : Int × List Sc × Int) : Le (f_s_l3Shift_r0_Q q x2 g3 s) (f_s_l3Shift_r0 x2 g3 s) := f_s_l3Shift_k0_le q ..
theorem f_s_l3Shift_k_le (q : Nat) {R : Type} (g0 : List Sc) (a1 : Int) (x2 : Int) (kR : Int → Option R) : Le (f_s_l3Shift_k_Q q g0 a1 x2 kR) (f_s_l3Shift_k g0 a1 x2 kR) := by
  unfold f_s_l3Shift_k_Q f_s_l3Shift_k
  exact (Le.bo (f_s_l3List_le q ..) fun _ => (Le.bl1 (Le.loop fun _ => f_s_l3Shift_r0_le q ..) fun _ => (Le.refl _)))
theorem f_s_l3Shift_le (q : Nat) (g0 : List Sc) (a1 : Int) (x2 : Int) : Le (f_s_l3Shift_Q q g0 a1 x2) (f_s_l3Shift g0 a1 x2) := f_s_l3Shift_k_le q ..

def f_s_l16Subsums_k0_Q (q : Nat) {R : Type} (l1 : List Sc) (g2 : List Sc) (out5 : Int) (i6 : Int) (kN : Int × Int → Option R) (kA : Int → Option R) : Option R :=
  br ((decide (i6 < (l1.length : Int))))
    (br (okAt l1 i6)
      (bo (f_s_l3Shift_Q q g2 out5 (atI l1 i6)) 0 fun r1 =>
      br (okAt l1 i6)
        (br (decide ((atI l1 i6) < 0))
          none
          (kN ((or64 (or64 out5 r1) (shl64 1 (atI l1 i6))), (w64 (i6 + 1)))))
        none)
      none)
    (kA out5)
def f_s_l16Subsums_r0_Q (q : Nat) (l1 : List Sc) (g2 : List Sc) : (Int × Int) → Option (Ro (Int × Int) (Int) (Unit)) := fun s => f_s_l16Subsums_k0_Q q l1 g2 s.1 s.2 (fun s => some (.again s)) (fun e => some (.one e))
def f_s_l16Subsums_k_Q (q : Nat) {R : Type} (g0 : List Sc) (l1 : List Sc) (kR : Int → Option R) : Option R :=
  bl1 (loopQ q (f_s_l16Subsums_r0_Q q l1 g0) (0, 0)) 0 fun e2 =>
  kR e2
def f_s_l16Subsums_Q (q : Nat) (g0 : List Sc) (l1 : List Sc) : Option (Int) := f_s_l16Subsums_k_Q q g0 l1 some
theorem f_s_l16Subsums_k0_le (q : Nat) {R : Type} (l1 : List Sc) (g2 : List Sc) (out5 : Int) (i6 : Int) (kN : Int × Int → Option R) (kA : Int → Option R) : Le (f_s_l16Subsums_k0_Q q l1 g2 out5 i6 kN kA) (f_s_l16Subsums_k0 l1 g2 out5 i6 kN kA) := by
  unfold f_s_l16Subsums_k0_Q f_s_l16Subsums_k0
  exact (Le.br (Le.br (Le.bo (f_s_l3Shift_le q ..) fun _ => (Le.br (Le.br (Le.none _) (Le.refl _)) (Le.none _))) (Le.none _)) (Le.refl _))
theorem f_s_l16Subsums_r0_le (q : Nat) (l1 : List Sc) (g2 : List Sc) (s : Int × Int) : Le (f_s_l16Subsums_r0_Q q l1 g2 s) (f_s_l16Subsums_r0 l1 g2 s) := f_s_l16Subsums_k0_le q ..
theorem f_s_l16Subsums_k_le (q : Nat) {R : Type} (g0 : List Sc) (l1 : List Sc) (kR : Int → Option R) : Le (f_s_l16Subsums_k_Q q g0 l1 kR) (f_s_l16Subsums_k g0 l1 kR) := by
  unfold f_s_l16Subsums_k_Q f_s_l16Subsums_k
  exact (Le.bl1 (Le.loop fun _ => f_s_l16Subsums_r0_le q ..) fun _ => (Le.refl _))
theorem f_s_l16Subsums_le (q : Nat) (g0 : List Sc) (l1 : List Sc) : Le (f_s_l16Subsums_Q q g0 l1) (f_s_l16Subsums g0 l1) := f_s_l16Subsums_k_le q ..

def f_s_l19Minimal_k0_Q (q : Nat) {R : Type} (l1 : List Sc) (g2 : List Sc) (i5 : Int) (kN : Int → Option R) (kA : Unit → Option R) (kB : Unit → Option R) : Option R :=
  br ((decide (i5 < (l1.length : Int))))
    (br (decide (0 ≤ (0 : Int)) && (decide ((0 : Int) ≤ i5) && decide (i5 ≤ (l1.length : Int))))
      (br (decide (([] : List Sc).length + (sliceA l1 0 i5).length ≤ lim))
        (br (decide (0 ≤ (w64 (i5 + 1))) && (decide ((w64 (i5 + 1)) ≤ (l1.length : Int)) && decide ((l1.length : Int) ≤ (l1.length : Int))))
          (br (decide (([] ++ (sliceA l1 0 i5)).length + (sliceA l1 (w64 (i5 + 1)) (l1.length : Int)).length ≤ lim))
            (bo (f_s_l16Subsums_Q q g2 (([] ++ (sliceA l1 0 i5)) ++ (sliceA l1 (w64 (i5 + 1)) (l1.length : Int)))) 0 fun r1 =>
            br (((and64 r1 1) == 1))
              (kB ())
              (kN (w64 (i5 + 1))))
            none)
          none)
        none)
      none)
    (kA ())
def f_s_l19Minimal_r0_Q (q : Nat) (l1 : List Sc) (g2 : List Sc) : Int → Option (Ro (Int) (Unit) (Unit)) := fun s => f_s_l19Minimal_k0_Q q l1 g2 s (fun s => some (.again s)) (fun e => some (.one e)) (fun e => some (.two e))
def f_s_l19Minimal_k_Q (q : Nat) {R : Type} (g0 : List Sc) (l1 : List Sc) (kR : Bool → Option R) : Option R :=
  bl (loopQ q (f_s_l19Minimal_r0_Q q l1 g0) 0) () ()
    (fun e2 =>
      kR true)
    (fun e2 =>
      kR false)
def f_s_l19Minimal_Q (q : Nat) (g0 : List Sc) (l1 : List Sc) : Option (Bool) := f_s_l19Minimal_k_Q q g0 l1 some
theorem f_s_l19Minimal_k0_le (q : Nat) {R : Type} (l1 : List Sc) (g2 : List Sc) (i5 : Int) (kN : Int → Option R) (kA : Unit → Option R) (kB : Unit → Option R) : Le (f_s_l19Minimal_k0_Q q l1 g2 i5 kN kA kB) (f_s_l19Minimal_k0 l1 g2 i5 kN kA kB) := by
  unfold f_s_l19Minimal_k0_Q f_s_l19Minimal_k0
  exact (Le.br (Le.br (Le.br (Le.br (Le.br (Le.bo (f_s_l16Subsums_le q ..) fun _ => (Le.br (Le.refl _) (Le.refl _))) (Le.none _)) (Le.none _)) (Le.none _)) (Le.none _)) (Le.refl _))
theorem f_s_l19Minimal_r0_le (q : Nat) (l1 : List Sc) (g2 : List Sc) (s : Int) : Le (f_s_l19Minimal_r0_Q q l1 g2 s) (f_s_l19Minimal_r0 l1 g2 s) := f_s_l19Minimal_k0_le q ..
theorem f_s_l19Minimal_k_le (q : Nat) {R : Type} (g0 : List Sc) (l1 : List Sc) (kR : Bool → Option R) : Le (f_s_l19Minimal_k_Q q g0 l1 kR) (f_s_l19Minimal_k g0 l1 kR) := by
  unfold f_s_l19Minimal_k_Q f_s_l19Minimal_k
  exact (Le.bl (Le.loop fun _ => f_s_l19Minimal_r0_le q ..) (fun _ => (Le.refl _)) fun _ => (Le.refl _))
theorem f_s_l19Minimal_le (q : Nat) (g0 : List Sc) (l1 : List Sc) : Le (f_s_l19Minimal_Q q g0 l1) (f_s_l19Minimal g0 l1) := f_s_l19Minimal_k_le q ..

def f_s_l19Atoms_io_k0_Q (q : Nat) {R : Type} (self : (List Sc × List Sc × Int × Int × List Sc) → Option (List Sc)) (t1 : List Sc) (t2 : Int) (t5 : List Sc) (t4 : List Sc) (t13 : Int) (kN : List Sc × Int → Option R) (kA : List Sc → Option R) : Option R :=
  bo (f_s_l2Order_Q q t5) 0 fun r4 =>
  br ((decide (t13 < r4)))
    (bo (f_s_l3Shift_Q q t5 t2 t13) 0 fun r5 =>
    br (decide (t13 < 0))
      none
      (br (((and64 (or64 (or64 t2 r5) (shl64 1 t13)) 1) == 0))
        (br (decide (([] : List Sc).length + t1.length ≤ lim))
          (br (decide (([] ++ t1).length + [(Sc.n .i64 t13)].length ≤ lim))
            (bo (self (t5, (([] ++ t1) ++ [(Sc.n .i64 t13)]), (or64 (or64 t2 r5) (shl64 1 t13)), t13, t4)) [] fun r6 =>
            kN (r6, (w64 (t13 + 1))))
            none)
          none)
        (kN (t4, (w64 (t13 + 1))))))
    (kA t4)
def f_s_l19Atoms_io_r0_Q (q : Nat) (self : (List Sc × List Sc × Int × Int × List Sc) → Option (List Sc)) (t1 : List Sc) (t2 : Int) (t5 : List Sc) : (List Sc × Int) → Option (Ro (List Sc × Int) (List Sc) (Unit)) := fun s => f_s_l19Atoms_io_k0_Q q self t1 t2 t5 s.1 s.2 (fun s => some (.again s)) (fun e => some (.one e))
def f_s_l19Atoms_io_k_Q (q : Nat) {R : Type} (self : (List Sc × List Sc × Int × Int × List Sc) → Option (List Sc)) (L0 : List Sc) (p1 : List Sc) (p2 : Int) (p3 : Int) (h0 : List Sc) (kR : List Sc → Option R) : Option R :=
  bo (f_s_l16Sum_Q q L0 p1) 0 fun r1 =>
  bo (f_s_l2Negate_Q q L0 r1) 0 fun r2 =>
  br ((decide (r2 ≥ p3)) == true)
    (br ((decide ((p1.length : Int) > 0)) == false)
      (br ((r2 == 0))
        (br (decide (([] : List Sc).length + p1.length ≤ lim))
          (br (decide (([] ++ p1).length + [(Sc.n .i64 r2)].length ≤ lim))
            (bo (f_s_l19Minimal_Q q L0 (([] ++ p1) ++ [(Sc.n .i64 r2)])) false fun r3 =>
            br (r3)
              (br (decide (h0.length + [Sc.l (([] ++ p1) ++ [(Sc.n .i64 r2)])].length ≤ lim))
                (bl1 (loopQ q (f_s_l19Atoms_io_r0_Q q self p1 p2 L0) ((h0 ++ [Sc.l (([] ++ p1) ++ [(Sc.n .i64 r2)])]), (if p3 > 1 then p3 else 1))) [] fun e7 =>
                kR e7)
                none)
              (bl1 (loopQ q (f_s_l19Atoms_io_r0_Q q self p1 p2 L0) (h0, (if p3 > 1 then p3 else 1))) [] fun e8 =>
              kR e8))
            none)
          none)
        (bl1 (loopQ q (f_s_l19Atoms_io_r0_Q q self p1 p2 L0) (h0, (if p3 > 1 then p3 else 1))) [] fun e9 =>
        kR e9))
      (br (decide (([] : List Sc).length + p1.length ≤ lim))
        (br (decide (([] ++ p1).length + [(Sc.n .i64 r2)].length ≤ lim))
          (bo (f_s_l19Minimal_Q q L0 (([] ++ p1) ++ [(Sc.n .i64 r2)])) false fun r10 =>
          br (r10)
            (br (decide (h0.length + [Sc.l (([] ++ p1) ++ [(Sc.n .i64 r2)])].length ≤ lim))
              (bl1 (loopQ q (f_s_l19Atoms_io_r0_Q q self p1 p2 L0) ((h0 ++ [Sc.l (([] ++ p1) ++ [(Sc.n .i64 r2)])]), (if p3 > 1 then p3 else 1))) [] fun e11 =>
              kR e11)
              none)
            (bl1 (loopQ q (f_s_l19Atoms_io_r0_Q q self p1 p2 L0) (h0, (if p3 > 1 then p3 else 1))) [] fun e12 =>
            kR e12))
          none)
        none))
    (bl1 (loopQ q (f_s_l19Atoms_io_r0_Q q self p1 p2 L0) (h0, (if p3 > 1 then p3 else 1))) [] fun e13 =>
    kR e13)
def f_s_l19Atoms_io_n_Q (q : Nat) : Nat → (List Sc × List Sc × Int × Int × List Sc) → Option (List Sc)
  | 0, _ => none
  | n + 1, a => f_s_l19Atoms_io_k_Q q (f_s_l19Atoms_io_n_Q q n) a.1 a.2.1 a.2.2.1 a.2.2.2.1 a.2.2.2.2 some
def f_s_l19Atoms_io_Q (q : Nat) (L0 : List Sc) (p1 : List Sc) (p2 : Int) (p3 : Int) (h0 : List Sc) : Option (List Sc) := limQ q (f_s_l19Atoms_io_n_Q q) (L0, p1, p2, p3, h0)
theorem f_s_l19Atoms_io_k0_le (q : Nat) {R : Type} {s1 s2 : (List Sc × List Sc × Int × Int × List Sc) → Option (List Sc)} (hs : ∀ a, Le (s1 a) (s2 a)) (t1 : List Sc) (t2 : Int) (t5 : List Sc) (t4 : List Sc) (t13 : Int) (kN : List Sc × Int → Option R) (kA : List Sc → Option R) : Le (f_s_l19Atoms_io_k0_Q q s1 t1 t2 t5 t4 t13 kN kA) (f_s_l19Atoms_io_k0 s2 t1 t2 t5 t4 t13 kN kA) := by
  unfold f_s_l19Atoms_io_k0_Q f_s_l19Atoms_io_k0
  exact (Le.bo (f_s_l2Order_le q ..) fun _ => (Le.br (Le.bo (f_s_l3Shift_le q ..) fun _ => (Le.br (Le.none _) (Le.br (Le.br (Le.br (Le.bo (hs _) fun _ => (Le.refl _)) (Le.none _)) (Le.none _)) (Le.refl _)))) (Le.refl _)))
theorem f_s_l19Atoms_io_r0_le (q : Nat) {s1 s2 : (List Sc × List Sc × Int × Int × List Sc) → Option (List Sc)} (hs : ∀ a, Le (s1 a) (s2 a)) (t1 : List Sc) (t2 : Int) (t5 : List Sc) (s : List Sc × Int) : Le (f_s_l19Atoms_io_r0_Q q s1 t1 t2 t5 s) (f_s_l19Atoms_io_r0 s2 t1 t2 t5 s) := f_s_l19Atoms_io_k0_le q hs ..
theorem f_s_l19Atoms_io_k_le (q : Nat) {R : Type} {s1 s2 : (List Sc × List Sc × Int × Int × List Sc) → Option (List Sc)} (hs : ∀ a, Le (s1 a) (s2 a)) (L0 : List Sc) (p1 : List Sc) (p2 : Int) (p3 : Int) (h0 : List Sc) (kR : List Sc → Option R) : Le (f_s_l19Atoms_io_k_Q q s1 L0 p1 p2 p3 h0 kR) (f_s_l19Atoms_io_k s2 L0 p1 p2 p3 h0 kR) := by
  unfold f_s_l19Atoms_io_k_Q f_s_l19Atoms_io_k
  exact (Le.bo (f_s_l16Sum_le q ..) fun _ => (Le.bo (f_s_l2Negate_le q ..) fun _ => (Le.br (Le.br (Le.br (Le.br (Le.br (Le.bo (f_s_l19Minimal_le q ..) fun _ => (Le.br (Le.br (Le.bl1 (Le.loop fun _ => f_s_l19Atoms_io_r0_le q hs ..) fun _ => (Le.refl _)) (Le.none _)) (Le.bl1 (Le.loop fun _ => f_s_l19Atoms_io_r0_le q hs ..) fun _ => (Le.refl _)))) (Le.none _)) (Le.none _)) (Le.bl1 (Le.loop fun _ => f_s_l19Atoms_io_r0_le q hs ..) fun _ => (Le.refl _))) (Le.br (Le.br (Le.bo (f_s_l19Minimal_le q ..) fun _ => (Le.br (Le.br (Le.bl1 (Le.loop fun _ => f_s_l19Atoms_io_r0_le q hs ..) fun _ => (Le.refl _)) (Le.none _)) (Le.bl1 (Le.loop fun _ => f_s_l19Atoms_io_r0_le q hs ..) fun _ => (Le.refl _)))) (Le.none _)) (Le.none _))) (Le.bl1 (Le.loop fun _ => f_s_l19Atoms_io_r0_le q hs ..) fun _ => (Le.refl _)))))
theorem f_s_l19Atoms_io_n_le (q : Nat) : ∀ n a, Le (f_s_l19Atoms_io_n_Q q n a) (f_s_l19Atoms_io_n n a)
  | 0, _ => Le.none _
  | n + 1, a => f_s_l19Atoms_io_k_le q (f_s_l19Atoms_io_n_le q n) ..
theorem f_s_l19Atoms_io_k0_up {R : Type} {s1 s2 : (List Sc × List Sc × Int × Int × List Sc) → Option (List Sc)} (hs : ∀ a, Le (s1 a) (s2 a)) (t1 : List Sc) (t2 : Int) (t5 : List Sc) (t4 : List Sc) (t13 : Int) (kN : List Sc × Int → Option R) (kA : List Sc → Option R) : Le (f_s_l19Atoms_io_k0 s1 t1 t2 t5 t4 t13 kN kA) (f_s_l19Atoms_io_k0 s2 t1 t2 t5 t4 t13 kN kA) := by
  unfold f_s_l19Atoms_io_k0
  exact (Le.bo (Le.refl _) fun _ => (Le.br (Le.bo (Le.refl _) fun _ => (Le.br (Le.none _) (Le.br (Le.br (Le.br (Le.bo (hs _) fun _ => (Le.refl _)) (Le.none _)) (Le.none _)) (Le.refl _)))) (Le.refl _)))
theorem f_s_l19Atoms_io_r0_up {s1 s2 : (List Sc × List Sc × Int × Int × List Sc) → Option (List Sc)} (hs : ∀ a, Le (s1 a) (s2 a)) (t1 : List Sc) (t2 : Int) (t5 : List Sc) (s : List Sc × Int) : Le (f_s_l19Atoms_io_r0 s1 t1 t2 t5 s) (f_s_l19Atoms_io_r0 s2 t1 t2 t5 s) := f_s_l19Atoms_io_k0_up hs ..
theorem f_s_l19Atoms_io_k_up {R : Type} {s1 s2 : (List Sc × List Sc × Int × Int × List Sc) → Option (List Sc)} (hs : ∀ a, Le (s1 a) (s2 a)) (L0 : List Sc) (p1 : List Sc) (p2 : Int) (p3 : Int) (h0 : List Sc) (kR : List Sc → Option R) : Le (f_s_l19Atoms_io_k s1 L0 p1 p2 p3 h0 kR) (f_s_l19Atoms_io_k s2 L0 p1 p2 p3 h0 kR) := by
  unfold f_s_l19Atoms_io_k
  exact (Le.bo (Le.refl _) fun _ => (Le.bo (Le.refl _) fun _ => (Le.br (Le.br (Le.br (Le.br (Le.br (Le.bo (Le.refl _) fun _ => (Le.br (Le.br (Le.bl1 (Le.loopU fun _ => f_s_l19Atoms_io_r0_up hs ..) fun _ => (Le.refl _)) (Le.none _)) (Le.bl1 (Le.loopU fun _ => f_s_l19Atoms_io_r0_up hs ..) fun _ => (Le.refl _)))) (Le.none _)) (Le.none _)) (Le.bl1 (Le.loopU fun _ => f_s_l19Atoms_io_r0_up hs ..) fun _ => (Le.refl _))) (Le.br (Le.br (Le.bo (Le.refl _) fun _ => (Le.br (Le.br (Le.bl1 (Le.loopU fun _ => f_s_l19Atoms_io_r0_up hs ..) fun _ => (Le.refl _)) (Le.none _)) (Le.bl1 (Le.loopU fun _ => f_s_l19Atoms_io_r0_up hs ..) fun _ => (Le.refl _)))) (Le.none _)) (Le.none _))) (Le.bl1 (Le.loopU fun _ => f_s_l19Atoms_io_r0_up hs ..) fun _ => (Le.refl _)))))
theorem f_s_l19Atoms_io_n_up : ∀ n a, Le (f_s_l19Atoms_io_n n a) (f_s_l19Atoms_io_n (n + 1) a)
  | 0, _ => Le.none _
  | n + 1, a => f_s_l19Atoms_io_k_up (f_s_l19Atoms_io_n_up n) ..
theorem f_s_l19Atoms_io_le (q : Nat) (L0 : List Sc) (p1 : List Sc) (p2 : Int) (p3 : Int) (h0 : List Sc) : Le (f_s_l19Atoms_io_Q q L0 p1 p2 p3 h0) (f_s_l19Atoms_io L0 p1 p2 p3 h0) := Le.lim f_s_l19Atoms_io_n_up (f_s_l19Atoms_io_n_le q)

def f_s_l19Before_k0_Q (q : Nat) {R : Type} (a0 : List Sc) (b1 : List Sc) (i5 : Int) (kN : Int → Option R) (kA : Unit → Option R) (kB : Bool → Option R) : Option R :=
  br ((decide (i5 < (a0.length : Int))))
    (br (okAt a0 i5)
      (br (okAt b1 i5)
        (br (((atI a0 i5) != (atI b1 i5)))
          (br (okAt a0 i5)
            (br (okAt b1 i5)
              (kB (decide ((atI a0 i5) < (atI b1 i5))))
              none)
            none)
          (kN (w64 (i5 + 1))))
        none)
      none)
    (kA ())
def f_s_l19Before_r0_Q (q : Nat) (a0 : List Sc) (b1 : List Sc) : Int → Option (Ro (Int) (Unit) (Bool)) := fun s => f_s_l19Before_k0_Q q a0 b1 s (fun s => some (.again s)) (fun e => some (.one e)) (fun e => some (.two e))
def f_s_l19Before_k_Q (q : Nat) {R : Type} (a0 : List Sc) (b1 : List Sc) (kR : Bool → Option R) : Option R :=
  br (((a0.length : Int) != (b1.length : Int)))
    (kR (decide ((a0.length : Int) < (b1.length : Int))))
    (bl (loopQ q (f_s_l19Before_r0_Q q a0 b1) 0) () false
      (fun e1 =>
        kR false)
      (fun e1 =>
        kR e1))
def f_s_l19Before_Q (q : Nat) (a0 : List Sc) (b1 : List Sc) : Option (Bool) := f_s_l19Before_k_Q q a0 b1 some
theorem f_s_l19Before_k0_le (q : Nat) {R : Type} (a0 : List Sc) (b1 : List Sc) (i5 : Int) (kN : Int → Option R) (kA : Unit → Option R) (kB : Bool → Option R) : Le (f_s_l19Before_k0_Q q a0 b1 i5 kN kA kB) (f_s_l19Before_k0 a0 b1 i5 kN kA kB) := by
  unfold f_s_l19Before_k0_Q f_s_l19Before_k0
  exact (Le.br (Le.br (Le.br (Le.br (Le.br (Le.br (Le.refl _) (Le.none _)) (Le.none _)) (Le.refl _)) (Le.none _)) (Le.none _)) (Le.refl _))
theorem f_s_l19Before_r0_le (q : Nat) (a0 : List Sc) (b1 : List Sc) (s : Int) : Le (f_s_l19Before_r0_Q q a0 b1 s) (f_s_l19Before_r0 a0 b1 s) := f_s_l19Before_k0_le q ..
theorem f_s_l19Before_k_le (q : Nat) {R : Type} (a0 : List Sc) (b1 : List Sc) (kR : Bool → Option R) : Le (f_s_l19Before_k_Q q a0 b1 kR) (f_s_l19Before_k a0 b1 kR) := by
  unfold f_s_l19Before_k_Q f_s_l19Before_k
  exact (Le.br (Le.refl _) (Le.bl (Le.loop fun _ => f_s_l19Before_r0_le q ..) (fun _ => (Le.refl _)) fun _ => (Le.refl _)))
theorem f_s_l19Before_le (q : Nat) (a0 : List Sc) (b1 : List Sc) : Le (f_s_l19Before_Q q a0 b1) (f_s_l19Before a0 b1) := f_s_l19Before_k_le q ..

def f_s_AtomsOf_k2_Q (q : Nat) {R : Type} (out4 : List Sc) (i6 : Int) (l5 : List Sc) (k7 : Int) (kN : List Sc × Int → Option R) (kA : List Sc × Int → Option R) : Option R :=
  br ((decide (k7 > 0)) == true)
    (br (inRange i6 (l5).length)
      (br (inRange (w64 (k7 - 1)) (out4).length)
        (bo (f_s_l19Before_Q q (lsN l5 i6.toNat) (lsI out4 (w64 (k7 - 1)))) false fun r4 =>
        br (r4)
          (kN (l5, (w64 (k7 - 1))))
          (kA (l5, k7)))
        none)
      none)
    (kA (l5, k7))
def f_s_AtomsOf_r2_Q (q : Nat) (out4 : List Sc) (i6 : Int) : (List Sc × Int) → Option (Ro (List Sc × Int) (List Sc × Int) (Unit)) := fun s => f_s_AtomsOf_k2_Q q out4 i6 s.1 s.2 (fun s => some (.again s)) (fun e => some (.one e))
def f_s_AtomsOf_k0_Q (q : Nat) {R : Type} (out4 : List Sc) (l5 : List Sc) (i6 : Int) (kN : List Sc × List Sc × Int → Option R) (kA : List Sc × List Sc × Int → Option R) : Option R :=
  br ((decide (i6 < (l5.length : Int))))
    (bl1 (loopQ q (f_s_AtomsOf_r2_Q q out4 i6) (l5, (out4.length : Int))) ([], 0) fun e5 =>
    br (decide (0 ≤ (0 : Int)) && (decide ((0 : Int) ≤ e5.2) && decide (e5.2 ≤ (out4.length : Int))))
      (br (decide (([] : List Sc).length + (sliceA out4 0 e5.2).length ≤ lim))
        (br (inRange i6 (e5.1).length)
          (br (decide (([] ++ (sliceA out4 0 e5.2)).length + [Sc.l (lsN e5.1 i6.toNat)].length ≤ lim))
            (br (decide (0 ≤ e5.2) && (decide (e5.2 ≤ (out4.length : Int)) && decide ((out4.length : Int) ≤ (out4.length : Int))))
              (br (decide ((([] ++ (sliceA out4 0 e5.2)) ++ [Sc.l (lsN e5.1 i6.toNat)]).length + (sliceA out4 e5.2 (out4.length : Int)).length ≤ lim))
                (kN (((([] ++ (sliceA out4 0 e5.2)) ++ [Sc.l (lsN e5.1 i6.toNat)]) ++ (sliceA out4 e5.2 (out4.length : Int))), e5.1, (w64 (i6 + 1))))
                none)
              none)
            none)
          none)
        none)
      none)
    (kA (out4, l5, i6))
def f_s_AtomsOf_r0_Q (q : Nat) : (List Sc × List Sc × Int) → Option (Ro (List Sc × List Sc × Int) (List Sc × List Sc × Int) (Unit)) := fun s => f_s_AtomsOf_k0_Q q s.1 s.2.1 s.2.2 (fun s => some (.again s)) (fun e => some (.one e))
def f_s_AtomsOf_k_Q (q : Nat) {R : Type} (g0 : List Sc) (kR : List Sc × Bool → Option R) : Option R :=
  bo (f_s_IsGroup_Q q g0) false fun r1 =>
  br ((!r1) == false)
    (bo (f_s_l2Order_Q q g0) 0 fun r2 =>
    br ((decide (r2 > 7)))
      (kR ([], false))
      (bo (f_s_l19Atoms_io_Q q g0 [] 0 0 []) [] fun r3 =>
      bl1 (loopQ q (f_s_AtomsOf_r0_Q q) ([], r3, 0)) ([], [], 0) fun e6 =>
      kR (e6.1, true)))
    (kR ([], false))
def f_s_AtomsOf_Q (q : Nat) (g0 : List Sc) : Option (List Sc × Bool) := f_s_AtomsOf_k_Q q g0 some
theorem f_s_AtomsOf_k2_le (q : Nat) {R : Type} (out4 : List Sc) (i6 : Int) (l5 : List Sc) (k7 : Int) (kN : List Sc × Int → Option R) (kA : List Sc × Int → Option R) : Le (f_s_AtomsOf_k2_Q q out4 i6 l5 k7 kN kA) (f_s_AtomsOf_k2 out4 i6 l5 k7 kN kA) := by
  unfold f_s_AtomsOf_k2_Q f_s_AtomsOf_k2
  exact (Le.br (Le.br (Le.br (Le.bo (f_s_l19Before_le q ..) fun _ => (Le.br (Le.refl _) (Le.refl _))) (Le.none _)) (Le.none _)) (Le.refl _))
theorem f_s_AtomsOf_r2_le (q : Nat) (out4 : List Sc) (i6 : Int) (s : List Sc × Int) : Le (f_s_AtomsOf_r2_Q q out4 i6 s) (f_s_AtomsOf_r2 out4 i6 s) := f_s_AtomsOf_k2_le q ..
theorem f_s_AtomsOf_k0_le (q : Nat) {R : Type} (out4 : List Sc) (l5 : List Sc) (i6 : Int) (kN : List Sc × List Sc × Int → Option R) (kA : List Sc × List Sc × Int → Option R) : Le (f_s_AtomsOf_k0_Q q out4 l5 i6 kN kA) (f_s_AtomsOf_k0 out4 l5 i6 kN kA) := by
  unfold f_s_AtomsOf_k0_Q f_s_AtomsOf_k0
  exact (Le.br (Le.bl1 (Le.loop fun _ => f_s_AtomsOf_r2_le q ..) fun _ => (Le.br (Le.br (Le.br (Le.br (Le.br (Le.br (Le.refl _) (Le.none _)) (Le.none _)) (Le.none _)) (Le.none _)) (Le.none _)) (Le.none _))) (Le.refl _))
theorem f_s_AtomsOf_r0_le (q : Nat) (s : List Sc × List Sc × Int) : Le (f_s_AtomsOf_r0_Q q s) (f_s_AtomsOf_r0 s) := f_s_AtomsOf_k0_le q ..
theorem f_s_AtomsOf_k_le (q : Nat) {R : Type} (g0 : List Sc) (kR : List Sc × Bool → Option R) : Le (f_s_AtomsOf_k_Q q g0 kR) (f_s_AtomsOf_k g0 kR) := by
  unfold f_s_AtomsOf_k_Q f_s_AtomsOf_k
  exact (Le.bo (f_s_IsGroup_le q ..) fun _ => (Le.br (Le.bo (f_s_l2Order_le q ..) fun _ => (Le.br (Le.refl _) (Le.bo (f_s_l19Atoms_io_le q ..) fun _ => (Le.bl1 (Le.loop fun _ => f_s_AtomsOf_r0_le q ..) fun _ => (Le.refl _))))) (Le.refl _)))
theorem f_s_AtomsOf_le (q : Nat) (g0 : List Sc) : Le (f_s_AtomsOf_Q q g0) (f_s_AtomsOf g0) := f_s_AtomsOf_k_le q ..

def f_s_l19Minus_k2_Q (q : Nat) {R : Type} (part1 : List Sc) (out6 : List Sc) (i7 : Int) (at8 : Int) (k9 : Int) (kN : Int × Int → Option R) (kA : Int → Option R) : Option R :=
  br ((decide (k9 < (out6.length : Int))))
    (br (okAt out6 k9)
      (br (okAt part1 i7)
        (br (((atI out6 k9) == (atI part1 i7)))
          (kN (k9, (w64 (k9 + 1))))
          (kN (at8, (w64 (k9 + 1)))))
        none)
      none)
    (kA at8)
def f_s_l19Minus_r2_Q (q : Nat) (part1 : List Sc) (out6 : List Sc) (i7 : Int) : (Int × Int) → Option (Ro (Int × Int) (Int) (Unit)) := fun s => f_s_l19Minus_k2_Q q part1 out6 i7 s.1 s.2 (fun s => some (.again s)) (fun e => some (.one e))
def f_s_l19Minus_k0_Q (q : Nat) {R : Type} (part1 : List Sc) (out6 : List Sc) (i7 : Int) (kN : List Sc × Int → Option R) (kA : List Sc × Int → Option R) (kB : List Sc → Option R) : Option R :=
  br ((decide (i7 < (part1.length : Int))))
    (bl1 (loopQ q (f_s_l19Minus_r2_Q q part1 out6 i7) ((-1), 0)) 0 fun e1 =>
    br ((decide (e1 < 0)))
      (kB [])
      (br (decide (0 ≤ (0 : Int)) && (decide ((0 : Int) ≤ e1) && decide (e1 ≤ (out6.length : Int))))
        (br (decide (([] : List Sc).length + (sliceA out6 0 e1).length ≤ lim))
          (br (decide (0 ≤ (w64 (e1 + 1))) && (decide ((w64 (e1 + 1)) ≤ (out6.length : Int)) && decide ((out6.length : Int) ≤ (out6.length : Int))))
            (br (decide (([] ++ (sliceA out6 0 e1)).length + (sliceA out6 (w64 (e1 + 1)) (out6.length : Int)).length ≤ lim))
              (kN ((([] ++ (sliceA out6 0 e1)) ++ (sliceA out6 (w64 (e1 + 1)) (out6.length : Int))), (w64 (i7 + 1))))
              none)
            none)
          none)
        none))
    (kA (out6, i7))
def f_s_l19Minus_r0_Q (q : Nat) (part1 : List Sc) : (List Sc × Int) → Option (Ro (List Sc × Int) (List Sc × Int) (List Sc)) := fun s => f_s_l19Minus_k0_Q q part1 s.1 s.2 (fun s => some (.again s)) (fun e => some (.one e)) (fun e => some (.two e))
def f_s_l19Minus_k_Q (q : Nat) {R : Type} (l0 : List Sc) (part1 : List Sc) (kR : List Sc × Bool → Option R) : Option R :=
  br (decide (([] : List Sc).length + l0.length ≤ lim))
    (bl (loopQ q (f_s_l19Minus_r0_Q q part1) (([] ++ l0), 0)) ([], 0) []
      (fun e2 =>
        kR (e2.1, true))
      (fun e2 =>
        kR (e2, false)))
    none
def f_s_l19Minus_Q (q : Nat) (l0 : List Sc) (part1 : List Sc) : Option (List Sc × Bool) := f_s_l19Minus_k_Q q l0 part1 some
theorem f_s_l19Minus_k2_le (q : Nat) {R : Type} (part1 : List Sc) (out6 : List Sc) (i7 : Int) (at8 : Int) (k9 : Int) (kN : Int × Int → Option R) (kA : Int → Option R) : Le (f_s_l19Minus_k2_Q q part1 out6 i7 at8 k9 kN kA) (f_s_l19Minus_k2 part1 out6 i7 at8 k9 kN kA) := by
  unfold f_s_l19Minus_k2_Q f_s_l19Minus_k2
  exact (Le.br (Le.br (Le.br (Le.br (Le.refl _) (Le.refl _)) (Le.none _)) (Le.none _)) (Le.refl _))
theorem f_s_l19Minus_r2_le (q : Nat) (part1 : List Sc) (out6 : List Sc) (i7 : Int) (s : Int × Int) : Le (f_s_l19Minus_r2_Q q part1 out6 i7 s) (f_s_l19Minus_r2 part1 out6 i7 s) := f_s_l19Minus_k2_le q ..
theorem f_s_l19Minus_k0_le (q : Nat) {R : Type} (part1 : List Sc) (out6 : List Sc) (i7 : Int) (kN : List Sc × Int → Option R) (kA : List Sc × Int → Option R) (kB : List Sc → Option R) : Le (f_s_l19Minus_k0_Q q part1 out6 i7 kN kA kB) (f_s_l19Minus_k0 part1 out6 i7 kN kA kB) := by
  unfold f_s_l19Minus_k0_Q f_s_l19Minus_k0
  exact (Le.br (Le.bl1 (Le.loop fun _ => f_s_l19Minus_r2_le q ..) fun _ => (Le.br (Le.refl _) (Le.br (Le.br (Le.br (Le.br (Le.refl _) (Le.none _)) (Le.none _)) (Le.none _)) (Le.none _)))) (Le.refl _))
theorem f_s_l19Minus_r0_le (q : Nat) (part1 : List Sc) (s : List Sc × Int) : Le (f_s_l19Minus_r0_Q q part1 s) (f_s_l19Minus_r0 part1 s) := f_s_l19Minus_k0_le q ..
theorem f_s_l19Minus_k_le (q : Nat) {R : Type} (l0 : List Sc) (part1 : List Sc) (kR : List Sc × Bool → Option R) : Le (f_s_l19Minus_k_Q q l0 part1 kR) (f_s_l19Minus_k l0 part1 kR) := by
  unfold f_s_l19Minus_k_Q f_s_l19Minus_k
  exact (Le.br (Le.bl (Le.loop fun _ => f_s_l19Minus_r0_le q ..) (fun _ => (Le.refl _)) fun _ => (Le.refl _)) (Le.none _))
theorem f_s_l19Minus_le (q : Nat) (l0 : List Sc) (part1 : List Sc) : Le (f_s_l19Minus_Q q l0 part1) (f_s_l19Minus l0 part1) := f_s_l19Minus_k_le q ..

def f_s_l19Factor_k2_Q (q : Nat) {R : Type} (self : (List Sc × List Sc × Int) → Option (List Sc)) (L0 : List Sc) (t1 : List Sc) (t8 : Int) (t7 : List Sc) (t11 : List Sc) (t12 : Int) (kN : List Sc × List Sc × Int → Option R) (kA : List Sc → Option R) : Option R :=
  br ((decide (t12 < (t11.length : Int))))
    (br (inRange t8 (L0).length)
      (br (decide (([] : List Sc).length + (lsI L0 t8).length ≤ lim))
        (br (inRange t12 (t11).length)
          (br (decide ([Sc.l ([] ++ (lsI L0 t8))].length + (lsN t11 t12.toNat).length ≤ lim))
            (br (decide (t7.length + [Sc.l ([Sc.l ([] ++ (lsI L0 t8))] ++ (lsN t11 t12.toNat))].length ≤ lim))
              (kN ((t7 ++ [Sc.l ([Sc.l ([] ++ (lsI L0 t8))] ++ (lsN t11 t12.toNat))]), t11, (w64 (t12 + 1))))
              none)
            none)
          none)
        none)
      none)
    (kA t7)
def f_s_l19Factor_r2_Q (q : Nat) (self : (List Sc × List Sc × Int) → Option (List Sc)) (L0 : List Sc) (t1 : List Sc) (t8 : Int) : (List Sc × List Sc × Int) → Option (Ro (List Sc × List Sc × Int) (List Sc) (Unit)) := fun s => f_s_l19Factor_k2_Q q self L0 t1 t8 s.1 s.2.1 s.2.2 (fun s => some (.again s)) (fun e => some (.one e))
def f_s_l19Factor_k0_Q (q : Nat) {R : Type} (self : (List Sc × List Sc × Int) → Option (List Sc)) (L0 : List Sc) (t1 : List Sc) (t7 : List Sc) (t8 : Int) (kN : List Sc × Int → Option R) (kA : List Sc × Int → Option R) : Option R :=
  br ((decide (t8 < (L0.length : Int))))
    (br (inRange t8 (L0).length)
      (bo (f_s_l19Minus_Q q t1 (lsI L0 t8)) ([], false) fun r1 =>
      br ((!r1.2))
        (kN (t7, (w64 (t8 + 1))))
        (bo (self (L0, r1.1, t8)) [] fun r2 =>
        bl1 (loopQ q (f_s_l19Factor_r2_Q q self L0 t1 t8) (t7, r2, 0)) [] fun e3 =>
        kN (e3, (w64 (t8 + 1)))))
      none)
    (kA (t7, t8))
def f_s_l19Factor_r0_Q (q : Nat) (self : (List Sc × List Sc × Int) → Option (List Sc)) (L0 : List Sc) (t1 : List Sc) : (List Sc × Int) → Option (Ro (List Sc × Int) (List Sc × Int) (Unit)) := fun s => f_s_l19Factor_k0_Q q self L0 t1 s.1 s.2 (fun s => some (.again s)) (fun e => some (.one e))
def f_s_l19Factor_k_Q (q : Nat) {R : Type} (self : (List Sc × List Sc × Int) → Option (List Sc)) (L0 : List Sc) (p1 : List Sc) (p2 : Int) (kR : List Sc → Option R) : Option R :=
  br (((p1.length : Int) == 0))
    (kR [Sc.l []])
    (bl1 (loopQ q (f_s_l19Factor_r0_Q q self L0 p1) ([], p2)) ([], 0) fun e4 =>
    kR e4.1)
def f_s_l19Factor_n_Q (q : Nat) : Nat → (List Sc × List Sc × Int) → Option (List Sc)
  | 0, _ => none
  | n + 1, a => f_s_l19Factor_k_Q q (f_s_l19Factor_n_Q q n) a.1 a.2.1 a.2.2 some
def f_s_l19Factor_Q (q : Nat) (L0 : List Sc) (p1 : List Sc) (p2 : Int) : Option (List Sc) := limQ q (f_s_l19Factor_n_Q q) (L0, p1, p2)
theorem f_s_l19Factor_k2_le (q : Nat) {R : Type} {s1 s2 : (List Sc × List Sc × Int) → Option (List Sc)} (hs : ∀ a, Le (s1 a) (s2 a)) (L0 : List Sc) (t1 : List Sc) (t8 : Int) (t7 : List Sc) (t11 : List Sc) (t12 : Int) (kN : List Sc × List Sc × Int → Option R) (kA : List Sc → Option R) : Le (f_s_l19Factor_k2_Q q s1 L0 t1 t8 t7 t11 t12 kN kA) (f_s_l19Factor_k2 s2 L0 t1 t8 t7 t11 t12 kN kA) := by
  unfold f_s_l19Factor_k2_Q f_s_l19Factor_k2
  exact (Le.br (Le.br (Le.br (Le.br (Le.br (Le.br (Le.refl _) (Le.none _)) (Le.none _)) (Le.none _)) (Le.none _)) (Le.none _)) (Le.refl _))
theorem f_s_l19Factor_r2_le (q : Nat) {s1 s2 : (List Sc × List Sc × Int) → Option (List Sc)} (hs : ∀ a, Le (s1 a) (s2 a)) (L0 : List Sc) (t1 : List Sc) (t8 : Int) (s : List Sc × List Sc × Int) : Le (f_s_l19Factor_r2_Q q s1 L0 t1 t8 s) (f_s_l19Factor_r2 s2 L0 t1 t8 s) := f_s_l19Factor_k2_le q hs ..
theorem f_s_l19Factor_k0_le (q : Nat) {R : Type} {s1 s2 : (List Sc × List Sc × Int) → Option (List Sc)} (hs : ∀ a, Le (s1 a) (s2 a)) (L0 : List Sc) (t1 : List Sc) (t7 : List Sc) (t8 : Int) (kN : List Sc × Int → Option R) (kA : List Sc × Int → Option R) : Le (f_s_l19Factor_k0_Q q s1 L0 t1 t7 t8 kN kA) (f_s_l19Factor_k0 s2 L0 t1 t7 t8 kN kA) := by
  unfold f_s_l19Factor_k0_Q f_s_l19Factor_k0
  exact (Le.br (Le.br (Le.bo (f_s_l19Minus_le q ..) fun _ => (Le.br (Le.refl _) (Le.bo (hs _) fun _ => (Le.bl1 (Le.loop fun _ => f_s_l19Factor_r2_le q hs ..) fun _ => (Le.refl _))))) (Le.none _)) (Le.refl _))
theorem f_s_l19Factor_r0_le (q : Nat) {s1 s2 : (List Sc × List Sc × Int) → Option (List Sc)} (hs : ∀ a, Le (s1 a) (s2 a)) (L0 : List Sc) (t1 : List Sc) (s : List Sc × Int) : Le (f_s_l19Factor_r0_Q q s1 L0 t1 s) (f_s_l19Factor_r0 s2 L0 t1 s) := f_s_l19Factor_k0_le q hs ..
theorem f_s_l19Factor_k_le (q : Nat) {R : Type} {s1 s2 : (List Sc × List Sc × Int) → Option (List Sc)} (hs : ∀ a, Le (s1 a) (s2 a)) (L0 : List Sc) (p1 : List Sc) (p2 : Int) (kR : List Sc → Option R) : Le (f_s_l19Factor_k_Q q s1 L0 p1 p2 kR) (f_s_l19Factor_k s2 L0 p1 p2 kR) := by
  unfold f_s_l19Factor_k_Q f_s_l19Factor_k
  exact (Le.br (Le.refl _) (Le.bl1 (Le.loop fun _ => f_s_l19Factor_r0_le q hs ..) fun _ => (Le.refl _)))
theorem f_s_l19Factor_n_le (q : Nat) : ∀ n a, Le (f_s_l19Factor_n_Q q n a) (f_s_l19Factor_n n a)
  | 0, _ => Le.none _
  | n + 1, a => f_s_l19Factor_k_le q (f_s_l19Factor_n_le q n) ..
theorem f_s_l19Factor_k2_up {R : Type} {s1 s2 : (List Sc × List Sc × Int) → Option (List Sc)} (hs : ∀ a, Le (s1 a) (s2 a)) (L0 : List Sc) (t1 : List Sc) (t8 : Int) (t7 : List Sc) (t11 : List Sc) (t12 : Int) (kN : List Sc × List Sc × Int → Option R) (kA : List Sc → Option R) : Le (f_s_l19Factor_k2 s1 L0 t1 t8 t7 t11 t12 kN kA) (f_s_l19Factor_k2 s2 L0 t1 t8 t7 t11 t12 kN kA) := by
  unfold f_s_l19Factor_k2
  exact (Le.br (Le.br (Le.br (Le.br (Le.br (Le.br (Le.refl _) (Le.none _)) (Le.none _)) (Le.none _)) (Le.none _)) (Le.none _)) (Le.refl _))
theorem f_s_l19Factor_r2_up {s1 s2 : (List Sc × List Sc × Int) → Option (List Sc)} (hs : ∀ a, Le (s1 a) (s2 a)) (L0 : List Sc) (t1 : List Sc) (t8 : Int) (s : List Sc × List Sc × Int) : Le (f_s_l19Factor_r2 s1 L0 t1 t8 s) (f_s_l19Factor_r2 s2 L0 t1 t8 s) := f_s_l19Factor_k2_up hs ..
theorem f_s_l19Factor_k0_up {R : Type} {s1 s2 : (List Sc × List Sc × Int) → Option (List Sc)} (hs : ∀ a, Le (s1 a) (s2 a)) (L0 : List Sc) (t1 : List Sc) (t7 : List Sc) (t8 : Int) (kN : List Sc × Int → Option R) (kA : List Sc × Int → Option R) : Le (f_s_l19Factor_k0 s1 L0 t1 t7 t8 kN kA) (f_s_l19Factor_k0 s2 L0 t1 t7 t8 kN kA) := by
  unfold f_s_l19Factor_k0
  exact (Le.br (Le.br (Le.bo (Le.refl _) fun _ => (Le.br (Le.refl _) (Le.bo (hs _) fun _ => (Le.bl1 (Le.loopU fun _ => f_s_l19Factor_r2_up hs ..) fun _ => (Le.refl _))))) (Le.none _)) (Le.refl _))
theorem f_s_l19Factor_r0_up {s1 s2 : (List Sc × List Sc × Int) → Option (List Sc)} (hs : ∀ a, Le (s1 a) (s2 a)) (L0 : List Sc) (t1 : List Sc) (s : List Sc × Int) : Le (f_s_l19Factor_r0 s1 L0 t1 s) (f_s_l19Factor_r0 s2 L0 t1 s) := f_s_l19Factor_k0_up hs ..
theorem f_s_l19Factor_k_up {R : Type} {s1 s2 : (List Sc × List Sc × Int) → Option (List Sc)} (hs : ∀ a, Le (s1 a) (s2 a)) (L0 : List Sc) (p1 : List Sc) (p2 : Int) (kR : List Sc → Option R) : Le (f_s_l19Factor_k s1 L0 p1 p2 kR) (f_s_l19Factor_k s2 L0 p1 p2 kR) := by
  unfold f_s_l19Factor_k
  exact (Le.br (Le.refl _) (Le.bl1 (Le.loopU fun _ => f_s_l19Factor_r0_up hs ..) fun _ => (Le.refl _)))
theorem f_s_l19Factor_n_up : ∀ n a, Le (f_s_l19Factor_n n a) (f_s_l19Factor_n (n + 1) a)
  | 0, _ => Le.none _
  | n + 1, a => f_s_l19Factor_k_up (f_s_l19Factor_n_up n) ..
theorem f_s_l19Factor_le (q : Nat) (L0 : List Sc) (p1 : List Sc) (p2 : Int) : Le (f_s_l19Factor_Q q L0 p1 p2) (f_s_l19Factor L0 p1 p2) := Le.lim f_s_l19Factor_n_up (f_s_l19Factor_n_le q)

def f_i_within_k_Q (q : Nat) {R : Type} (x0 : Int) (lo1 : Int) (hi2 : Int) (kR : Bool → Option R) : Option R :=
  br ((decide (x0 ≥ lo1)) == true)
    (kR (decide (x0 ≤ hi2)))
    (kR false)
def f_i_within_Q (q : Nat) (x0 : Int) (lo1 : Int) (hi2 : Int) : Option (Bool) := f_i_within_k_Q q x0 lo1 hi2 some
theorem f_i_within_k_le (q : Nat) {R : Type} (x0 : Int) (lo1 : Int) (hi2 : Int) (kR : Bool → Option R) : Le (f_i_within_k_Q q x0 lo1 hi2 kR) (f_i_within_k x0 lo1 hi2 kR) := by
  unfold f_i_within_k_Q f_i_within_k
  exact (Le.br (Le.refl _) (Le.refl _))
theorem f_i_within_le (q : Nat) (x0 : Int) (lo1 : Int) (hi2 : Int) : Le (f_i_within_Q q x0 lo1 hi2) (f_i_within x0 lo1 hi2) := f_i_within_k_le q ..

def f_i_IsGroup_k0_Q (q : Nat) {R : Type} (t11 : List Sc) (t12 : Int) (n3 : Int) (t13 : Int) (kN : Int × Int → Option R) (kA : Int → Option R) (kB : Unit → Option R) : Option R :=
  br ((decide (t13 < t12)))
    (br (okAt t11 t13)
      (bo (f_i_within_Q q (atI t11 t13) 2 24) false fun r1 =>
      br ((!r1))
        (kB ())
        (kN ((w64 (n3 * (atI t11 t13))), (w64 (t13 + 1)))))
      none)
    (kA n3)
def f_i_IsGroup_r0_Q (q : Nat) (t11 : List Sc) (t12 : Int) : (Int × Int) → Option (Ro (Int × Int) (Int) (Unit)) := fun s => f_i_IsGroup_k0_Q q t11 t12 s.1 s.2 (fun s => some (.again s)) (fun e => some (.one e)) (fun e => some (.two e))
def f_i_IsGroup_k_Q (q : Nat) {R : Type} (g0 : List Sc) (kR : Bool → Option R) : Option R :=
  br ((decide ((g0.length : Int) > 3)))
    (kR false)
    (bl (loopQ q (f_i_IsGroup_r0_Q q g0 (g0.length : Int)) (1, 0)) 0 ()
      (fun e2 =>
        kR (decide (e2 ≤ 24)))
      (fun e2 =>
        kR false))
def f_i_IsGroup_Q (q : Nat) (g0 : List Sc) : Option (Bool) := f_i_IsGroup_k_Q q g0 some
theorem f_i_IsGroup_k0_le (q : Nat) {R : Type} (t11 : List Sc) (t12 : Int) (n3 : Int) (t13 : Int) (kN : Int × Int → Option R) (kA : Int → Option R) (kB : Unit → Option R) : Le (f_i_IsGroup_k0_Q q t11 t12 n3 t13 kN kA kB) (f_i_IsGroup_k0 t11 t12 n3 t13 kN kA kB) := by
  unfold f_i_IsGroup_k0_Q f_i_IsGroup_k0
  exact (Le.br (Le.br (Le.bo (f_i_within_le q ..) fun _ => (Le.br (Le.refl _) (Le.refl _))) (Le.none _)) (Le.refl _))
theorem f_i_IsGroup_r0_le (q : Nat) (t11 : List Sc) (t12 : Int) (s : Int × Int) : Le (f_i_IsGroup_r0_Q q t11 t12 s) (f_i_IsGroup_r0 t11 t12 s) := f_i_IsGroup_k0_le q ..
theorem f_i_IsGroup_k_le (q : Nat) {R : Type} (g0 : List Sc) (kR : Bool → Option R) : Le (f_i_IsGroup_k_Q q g0 kR) (f_i_IsGroup_k g0 kR) := by
  unfold f_i_IsGroup_k_Q f_i_IsGroup_k
  exact (Le.br (Le.refl _) (Le.bl (Le.loop fun _ => f_i_IsGroup_r0_le q ..) (fun _ => (Le.refl _)) fun _ => (Le.refl _)))
theorem f_i_IsGroup_le (q : Nat) (g0 : List Sc) : Le (f_i_IsGroup_Q q g0) (f_i_IsGroup g0) := f_i_IsGroup_k_le q ..

def f_i_OrderOf_k0_Q (q : Nat) {R : Type} (t10 : List Sc) (t11 : Int) (n3 : Int) (t12 : Int) (kN : Int × Int → Option R) (kA : Int → Option R) : Option R :=
  br ((decide (t12 < t11)))
    (br (okAt t10 t12)
      (kN ((w64 (n3 * (atI t10 t12))), (w64 (t12 + 1))))
      none)
    (kA n3)
def f_i_OrderOf_r0_Q (q : Nat) (t10 : List Sc) (t11 : Int) : (Int × Int) → Option (Ro (Int × Int) (Int) (Unit)) := fun s => f_i_OrderOf_k0_Q q t10 t11 s.1 s.2 (fun s => some (.again s)) (fun e => some (.one e))
def f_i_OrderOf_k_Q (q : Nat) {R : Type} (g0 : List Sc) (kR : Int → Option R) : Option R :=
  bo (f_i_IsGroup_Q q g0) false fun r1 =>
  br ((!r1))
    (kR 0)
    (bl1 (loopQ q (f_i_OrderOf_r0_Q q g0 (g0.length : Int)) (1, 0)) 0 fun e2 =>
    kR e2)
def f_i_OrderOf_Q (q : Nat) (g0 : List Sc) : Option (Int) := f_i_OrderOf_k_Q q g0 some
theorem f_i_OrderOf_k0_le (q : Nat) {R : Type} (t10 : List Sc) (t11 : Int) (n3 : Int) (t12 : Int) (kN : Int × Int → Option R) (kA : Int → Option R) : Le (f_i_OrderOf_k0_Q q t10 t11 n3 t12 kN kA) (f_i_OrderOf_k0 t10 t11 n3 t12 kN kA) := by
  unfold f_i_OrderOf_k0_Q f_i_OrderOf_k0
  exact (Le.br (Le.br (Le.refl _) (Le.none _)) (Le.refl _))
theorem f_i_OrderOf_r0_le (q : Nat) (t10 : List Sc) (t11 : Int) (s : Int × Int) : Le (f_i_OrderOf_r0_Q q t10 t11 s) (f_i_OrderOf_r0 t10 t11 s) := f_i_OrderOf_k0_le q ..
theorem f_i_OrderOf_k_le (q : Nat) {R : Type} (g0 : List Sc) (kR : Int → Option R) : Le (f_i_OrderOf_k_Q q g0 kR) (f_i_OrderOf_k g0 kR) := by
  unfold f_i_OrderOf_k_Q f_i_OrderOf_k
  exact (Le.bo (f_i_IsGroup_le q ..) fun _ => (Le.br (Le.refl _) (Le.bl1 (Le.loop fun _ => f_i_OrderOf_r0_le q ..) fun _ => (Le.refl _))))
theorem f_i_OrderOf_le (q : Nat) (g0 : List Sc) : Le (f_i_OrderOf_Q q g0) (f_i_OrderOf g0) := f_i_OrderOf_k_le q ..

def f_i_Group_add_k0_Q (q : Nat) {R : Type} (t12 : List Sc) (t13 : Int) (x1 : Int) (y2 : Int) (sum7 : Int) (unit8 : Int) (t14 : Int) (kN : Int × Int × Int × Int × Int → Option R) (kA : Int → Option R) : Option R :=
  br ((decide (t14 < t13)))
    (br (okAt t12 t14)
      (br ((atI t12 t14) == 0)
        none
        (br ((atI t12 t14) == 0)
          none
          (br ((atI t12 t14) == 0)
            none
            (br ((atI t12 t14) == 0)
              none
              (br ((atI t12 t14) == 0)
                none
                (kN ((w64 (x1.tdiv (atI t12 t14))), (w64 (y2.tdiv (atI t12 t14))), (w64 (sum7 + (w64 (((w64 ((x1.tmod (atI t12 t14)) + (y2.tmod (atI t12 t14)))).tmod (atI t12 t14)) * unit8)))), (w64 (unit8 * (atI t12 t14))), (w64 (t14 + 1)))))))))
      none)
    (kA sum7)
def f_i_Group_add_r0_Q (q : Nat) (t12 : List Sc) (t13 : Int) : (Int × Int × Int × Int × Int) → Option (Ro (Int × Int × Int × Int × Int) (Int) (Unit)) := fun s => f_i_Group_add_k0_Q q t12 t13 s.1 s.2.1 s.2.2.1 s.2.2.2.1 s.2.2.2.2 (fun s => some (.again s)) (fun e => some (.one e))
def f_i_Group_add_k_Q (q : Nat) {R : Type} (g0 : List Sc) (x1 : Int) (y2 : Int) (kR : Int → Option R) : Option R :=
  bl1 (loopQ q (f_i_Group_add_r0_Q q g0 (g0.length : Int)) (x1, y2, 0, 1, 0)) 0 fun e1 =>
  kR e1
def f_i_Group_add_Q (q : Nat) (g0 : List Sc) (x1 : Int) (y2 : Int) : Option (Int) := f_i_Group_add_k_Q q g0 x1 y2 some
theorem f_i_Group_add_k0_le (q : Nat) {R : Type} (t12 : List Sc) (t13 : Int) (x1 : Int) (y2 : Int) (sum7 : Int) (unit8 : Int) (t14 : Int) (kN : Int × Int × Int × Int × Int → Option R) (kA : Int → Option R) : Le (f_i_Group_add_k0_Q q t12 t13 x1 y2 sum7 unit8 t14 kN kA) (f_i_Group_add_k0 t12 t13 x1 y2 sum7 unit8 t14 kN kA) := by
  unfold f_i_Group_add_k0_Q f_i_Group_add_k0
  exact (Le.br (Le.br (Le.br (Le.none _) (Le.br (Le.none _) (Le.br (Le.none _) (Le.br (Le.none _) (Le.br (Le.none _) (Le.refl _)))))) (Le.none _)) (Le.refl _))
theorem f_i_Group_add_r0_le (q : Nat) (t12 : List Sc) (t13 : Int) (s : Int × Int × Int × Int × Int) : Le (f_i_Group_add_r0_Q q t12 t13 s) (f_i_Group_add_r0 t12 t13 s) := f_i_Group_add_k0_le q ..
theorem f_i_Group_add_k_le (q : Nat) {R : Type} (g0 : List Sc) (x1 : Int) (y2 : Int) (kR : Int → Option R) : Le (f_i_Group_add_k_Q q g0 x1 y2 kR) (f_i_Group_add_k g0 x1 y2 kR) := by
  unfold f_i_Group_add_k_Q f_i_Group_add_k
  exact (Le.bl1 (Le.loop fun _ => f_i_Group_add_r0_le q ..) fun _ => (Le.refl _))
theorem f_i_Group_add_le (q : Nat) (g0 : List Sc) (x1 : Int) (y2 : Int) : Le (f_i_Group_add_Q q g0 x1 y2) (f_i_Group_add g0 x1 y2) := f_i_Group_add_k_le q ..

def f_i_Group_total_k0_Q (q : Nat) {R : Type} (g2 : List Sc) (t8 : List Sc) (t9 : Int) (s5 : Int) (t10 : Int) (kN : Int × Int → Option R) (kA : Int → Option R) : Option R :=
  br ((decide (t10 < t9)))
    (br (okAt t8 t10)
      (bo (f_i_Group_add_Q q g2 s5 (atI t8 t10)) 0 fun r1 =>
      kN (r1, (w64 (t10 + 1))))
      none)
    (kA s5)
def f_i_Group_total_r0_Q (q : Nat) (g2 : List Sc) (t8 : List Sc) (t9 : Int) : (Int × Int) → Option (Ro (Int × Int) (Int) (Unit)) := fun s => f_i_Group_total_k0_Q q g2 t8 t9 s.1 s.2 (fun s => some (.again s)) (fun e => some (.one e))
def f_i_Group_total_k_Q (q : Nat) {R : Type} (g0 : List Sc) (l1 : List Sc) (kR : Int → Option R) : Option R :=
  bl1 (loopQ q (f_i_Group_total_r0_Q q g0 l1 (l1.length : Int)) (0, 0)) 0 fun e2 =>
  kR e2
def f_i_Group_total_Q (q : Nat) (g0 : List Sc) (l1 : List Sc) : Option (Int) := f_i_Group_total_k_Q q g0 l1 some
theorem f_i_Group_total_k0_le (q : Nat) {R : Type} (g2 : List Sc) (t8 : List Sc) (t9 : Int) (s5 : Int) (t10 : Int) (kN : Int × Int → Option R) (kA : Int → Option R) : Le (f_i_Group_total_k0_Q q g2 t8 t9 s5 t10 kN kA) (f_i_Group_total_k0 g2 t8 t9 s5 t10 kN kA) := by
  unfold f_i_Group_total_k0_Q f_i_Group_total_k0
  exact (Le.br (Le.br (Le.bo (f_i_Group_add_le q ..) fun _ => (Le.refl _)) (Le.none _)) (Le.refl _))
theorem f_i_Group_total_r0_le (q : Nat) (g2 : List Sc) (t8 : List Sc) (t9 : Int) (s : Int × Int) : Le (f_i_Group_total_r0_Q q g2 t8 t9 s) (f_i_Group_total_r0 g2 t8 t9 s) := f_i_Group_total_k0_le q ..
theorem f_i_Group_total_k_le (q : Nat) {R : Type} (g0 : List Sc) (l1 : List Sc) (kR : Int → Option R) : Le (f_i_Group_total_k_Q q g0 l1 kR) (f_i_Group_total_k g0 l1 kR) := by
  unfold f_i_Group_total_k_Q f_i_Group_total_k
  exact (Le.bl1 (Le.loop fun _ => f_i_Group_total_r0_le q ..) fun _ => (Le.refl _))
theorem f_i_Group_total_le (q : Nat) (g0 : List Sc) (l1 : List Sc) : Le (f_i_Group_total_Q q g0 l1) (f_i_Group_total g0 l1) := f_i_Group_total_k_le q ..

def f_i_Group_negate_k0_Q (q : Nat) {R : Type} (t10 : List Sc) (t11 : Int) (x1 : Int) (sum5 : Int) (unit6 : Int) (t12 : Int) (kN : Int × Int × Int × Int → Option R) (kA : Int → Option R) : Option R :=
  br ((decide (t12 < t11)))
    (br (okAt t10 t12)
      (br ((atI t10 t12) == 0)
        none
        (br ((atI t10 t12) == 0)
          none
          (br ((atI t10 t12) == 0)
            none
            (kN ((w64 (x1.tdiv (atI t10 t12))), (w64 (sum5 + (w64 (((w64 ((atI t10 t12) - (x1.tmod (atI t10 t12)))).tmod (atI t10 t12)) * unit6)))), (w64 (unit6 * (atI t10 t12))), (w64 (t12 + 1)))))))
      none)
    (kA sum5)
def f_i_Group_negate_r0_Q (q : Nat) (t10 : List Sc) (t11 : Int) : (Int × Int × Int × Int) → Option (Ro (Int × Int × Int × Int) (Int) (Unit)) := fun s => f_i_Group_negate_k0_Q q t10 t11 s.1 s.2.1 s.2.2.1 s.2.2.2 (fun s => some (.again s)) (fun e => some (.one e))
def f_i_Group_negate_k_Q (q : Nat) {R : Type} (g0 : List Sc) (x1 : Int) (kR : Int → Option R) : Option R :=
  bl1 (loopQ q (f_i_Group_negate_r0_Q q g0 (g0.length : Int)) (x1, 0, 1, 0)) 0 fun e1 =>
  kR e1
def f_i_Group_negate_Q (q : Nat) (g0 : List Sc) (x1 : Int) : Option (Int) := f_i_Group_negate_k_Q q g0 x1 some
theorem f_i_Group_negate_k0_le (q : Nat) {R : Type} (t10 : List Sc) (t11 : Int) (x1 : Int) (sum5 : Int) (unit6 : Int) (t12 : Int) (kN : Int × Int × Int × Int → Option R) (kA : Int → Option R) : Le (f_i_Group_negate_k0_Q q t10 t11 x1 sum5 unit6 t12 kN kA) (f_i_Group_negate_k0 t10 t11 x1 sum5 unit6 t12 kN kA) := by
  unfold f_i_Group_negate_k0_Q f_i_Group_negate_k0
  exact (Le.br (Le.br (Le.br (Le.none _) (Le.br (Le.none _) (Le.br (Le.none _) (Le.refl _)))) (Le.none _)) (Le.refl _))
theorem f_i_Group_negate_r0_le (q : Nat) (t10 : List Sc) (t11 : Int) (s : Int × Int × Int × Int) : Le (f_i_Group_negate_r0_Q q t10 t11 s) (f_i_Group_negate_r0 t10 t11 s) := f_i_Group_negate_k0_le q ..
theorem f_i_Group_negate_k_le (q : Nat) {R : Type} (g0 : List Sc) (x1 : Int) (kR : Int → Option R) : Le (f_i_Group_negate_k_Q q g0 x1 kR) (f_i_Group_negate_k g0 x1 kR) := by
  unfold f_i_Group_negate_k_Q f_i_Group_negate_k
  exact (Le.bl1 (Le.loop fun _ => f_i_Group_negate_r0_le q ..) fun _ => (Le.refl _))
theorem f_i_Group_negate_le (q : Nat) (g0 : List Sc) (x1 : Int) : Le (f_i_Group_negate_Q q g0 x1) (f_i_Group_negate g0 x1) := f_i_Group_negate_k_le q ..

def f_i_copyInts_k_Q (q : Nat) {R : Type} (l0 : List Sc) (kR : List Sc → Option R) : Option R :=
  br (decide (([] : List Sc).length + l0.length ≤ lim))
    (kR ([] ++ l0))
    none
def f_i_copyInts_Q (q : Nat) (l0 : List Sc) : Option (List Sc) := f_i_copyInts_k_Q q l0 some
theorem f_i_copyInts_k_le (q : Nat) {R : Type} (l0 : List Sc) (kR : List Sc → Option R) : Le (f_i_copyInts_k_Q q l0 kR) (f_i_copyInts_k l0 kR) := by
  unfold f_i_copyInts_k_Q f_i_copyInts_k
  exact (Le.br (Le.refl _) (Le.none _))
theorem f_i_copyInts_le (q : Nat) (l0 : List Sc) : Le (f_i_copyInts_Q q l0) (f_i_copyInts l0) := f_i_copyInts_k_le q ..

def f_i_Group_has_k_Q (q : Nat) {R : Type} (g0 : List Sc) (x1 : Int) (kR : Bool → Option R) : Option R :=
  bo (f_i_OrderOf_Q q g0) 0 fun r1 =>
  bo (f_i_within_Q q x1 0 (w64 (r1 - 1))) false fun r2 =>
  kR r2
def f_i_Group_has_Q (q : Nat) (g0 : List Sc) (x1 : Int) : Option (Bool) := f_i_Group_has_k_Q q g0 x1 some
theorem f_i_Group_has_k_le (q : Nat) {R : Type} (g0 : List Sc) (x1 : Int) (kR : Bool → Option R) : Le (f_i_Group_has_k_Q q g0 x1 kR) (f_i_Group_has_k g0 x1 kR) := by
  unfold f_i_Group_has_k_Q f_i_Group_has_k
  exact (Le.bo (f_i_OrderOf_le q ..) fun _ => (Le.bo (f_i_within_le q ..) fun _ => (Le.refl _)))
theorem f_i_Group_has_le (q : Nat) (g0 : List Sc) (x1 : Int) : Le (f_i_Group_has_Q q g0 x1) (f_i_Group_has g0 x1) := f_i_Group_has_k_le q ..

def f_cmp_isNaN_k_Q (q : Nat) {R : Type} (x0 : Int) (kR : Bool → Option R) : Option R :=
  kR (x0 != x0)
def f_cmp_isNaN_Q (q : Nat) (x0 : Int) : Option (Bool) := f_cmp_isNaN_k_Q q x0 some
theorem f_cmp_isNaN_k_le (q : Nat) {R : Type} (x0 : Int) (kR : Bool → Option R) : Le (f_cmp_isNaN_k_Q q x0 kR) (f_cmp_isNaN_k x0 kR) := by
  unfold f_cmp_isNaN_k_Q f_cmp_isNaN_k
  exact (Le.refl _)
theorem f_cmp_isNaN_le (q : Nat) (x0 : Int) : Le (f_cmp_isNaN_Q q x0) (f_cmp_isNaN x0) := f_cmp_isNaN_k_le q ..

def f_cmp_Less_k_Q (q : Nat) {R : Type} (x0 : Int) (y1 : Int) (kR : Bool → Option R) : Option R :=
  bo (f_cmp_isNaN_Q q x0) false fun r1 =>
  br (r1 == true)
    (bo (f_cmp_isNaN_Q q y1) false fun r2 =>
    br ((!r2) == false)
      (kR (decide (x0 < y1)))
      (kR true))
    (kR (decide (x0 < y1)))
def f_cmp_Less_Q (q : Nat) (x0 : Int) (y1 : Int) : Option (Bool) := f_cmp_Less_k_Q q x0 y1 some
theorem f_cmp_Less_k_le (q : Nat) {R : Type} (x0 : Int) (y1 : Int) (kR : Bool → Option R) : Le (f_cmp_Less_k_Q q x0 y1 kR) (f_cmp_Less_k x0 y1 kR) := by
  unfold f_cmp_Less_k_Q f_cmp_Less_k
  exact (Le.bo (f_cmp_isNaN_le q ..) fun _ => (Le.br (Le.bo (f_cmp_isNaN_le q ..) fun _ => (Le.br (Le.refl _) (Le.refl _))) (Le.refl _)))
theorem f_cmp_Less_le (q : Nat) (x0 : Int) (y1 : Int) : Le (f_cmp_Less_Q q x0 y1) (f_cmp_Less x0 y1) := f_cmp_Less_k_le q ..

def f_slices_IsSorted_k0_Q (q : Nat) {R : Type} (x0 : List Sc) (i3 : Int) (kN : Int → Option R) (kA : Unit → Option R) (kB : Unit → Option R) : Option R :=
  br ((decide (i3 > 0)))
    (br (okAt x0 i3)
      (br (okAt x0 (w64 (i3 - 1)))
        (bo (f_cmp_Less_Q q (atI x0 i3) (atI x0 (w64 (i3 - 1)))) false fun r1 =>
        br (r1)
          (kB ())
          (kN (w64 (i3 - 1))))
        none)
      none)
    (kA ())
def f_slices_IsSorted_r0_Q (q : Nat) (x0 : List Sc) : Int → Option (Ro (Int) (Unit) (Unit)) := fun s => f_slices_IsSorted_k0_Q q x0 s (fun s => some (.again s)) (fun e => some (.one e)) (fun e => some (.two e))
def f_slices_IsSorted_k_Q (q : Nat) {R : Type} (x0 : List Sc) (kR : Bool → Option R) : Option R :=
  bl (loopQ q (f_slices_IsSorted_r0_Q q x0) (w64 ((x0.length : Int) - 1))) () ()
    (fun e2 =>
      kR true)
    (fun e2 =>
      kR false)
def f_slices_IsSorted_Q (q : Nat) (x0 : List Sc) : Option (Bool) := f_slices_IsSorted_k_Q q x0 some
theorem f_slices_IsSorted_k0_le (q : Nat) {R : Type} (x0 : List Sc) (i3 : Int) (kN : Int → Option R) (kA : Unit → Option R) (kB : Unit → Option R) : Le (f_slices_IsSorted_k0_Q q x0 i3 kN kA kB) (f_slices_IsSorted_k0 x0 i3 kN kA kB) := by
  unfold f_slices_IsSorted_k0_Q f_slices_IsSorted_k0
  exact (Le.br (Le.br (Le.br (Le.bo (f_cmp_Less_le q ..) fun _ => (Le.br (Le.refl _) (Le.refl _))) (Le.none _)) (Le.none _)) (Le.refl _))
theorem f_slices_IsSorted_r0_le (q : Nat) (x0 : List Sc) (s : Int) : Le (f_slices_IsSorted_r0_Q q x0 s) (f_slices_IsSorted_r0 x0 s) := f_slices_IsSorted_k0_le q ..
theorem f_slices_IsSorted_k_le (q : Nat) {R : Type} (x0 : List Sc) (kR : Bool → Option R) : Le (f_slices_IsSorted_k_Q q x0 kR) (f_slices_IsSorted_k x0 kR) := by
  unfold f_slices_IsSorted_k_Q f_slices_IsSorted_k
  exact (Le.bl (Le.loop fun _ => f_slices_IsSorted_r0_le q ..) (fun _ => (Le.refl _)) fun _ => (Le.refl _))
theorem f_slices_IsSorted_le (q : Nat) (x0 : List Sc) : Le (f_slices_IsSorted_Q q x0) (f_slices_IsSorted x0) := f_slices_IsSorted_k_le q ..

def f_i_IsSequence_k0_Q (q : Nat) {R : Type} (l1 : List Sc) (g2 : List Sc) (t7 : List Sc) (t8 : Int) (t9 : Int) (kN : Int → Option R) (kA : Unit → Option R) (kB : Unit → Option R) : Option R :=
  br ((decide (t9 < t8)))
    (br (okAt t7 t9)
      (bo (f_i_Group_has_Q q g2 (atI t7 t9)) false fun r1 =>
      br ((!r1))
        (kB ())
        (kN (w64 (t9 + 1))))
      none)
    (kA ())
def f_i_IsSequence_r0_Q (q : Nat) (l1 : List Sc) (g2 : List Sc) (t7 : List Sc) (t8 : Int) : Int → Option (Ro (Int) (Unit) (Unit)) := fun s => f_i_IsSequence_k0_Q q l1 g2 t7 t8 s (fun s => some (.again s)) (fun e => some (.one e)) (fun e => some (.two e))
def f_i_IsSequence_k_Q (q : Nat) {R : Type} (g0 : List Sc) (l1 : List Sc) (kR : Bool → Option R) : Option R :=
  bl (loopQ q (f_i_IsSequence_r0_Q q l1 g0 l1 (l1.length : Int)) 0) () ()
    (fun e2 =>
      bo (f_i_IsGroup_Q q g0) false fun r3 =>
      br (r3 == true)
        (br ((decide ((l1.length : Int) ≤ 12)) == true)
          (bo (f_slices_IsSorted_Q q l1) false fun r4 =>
          kR r4)
          (kR false))
        (kR false))
    (fun e2 =>
      kR false)
def f_i_IsSequence_Q (q : Nat) (g0 : List Sc) (l1 : List Sc) : Option (Bool) := f_i_IsSequence_k_Q q g0 l1 some
theorem f_i_IsSequence_k0_le (q : Nat) {R : Type} (l1 : List Sc) (g2 : List Sc) (t7 : List Sc) (t8 : Int) (t9 : Int) (kN : Int → Option R) (kA : Unit → Option R) (kB : Unit → Option R) : Le (f_i_IsSequence_k0_Q q l1 g2 t7 t8 t9 kN kA kB) (f_i_IsSequence_k0 l1 g2 t7 t8 t9 kN kA kB) := by
  unfold f_i_IsSequence_k0_Q f_i_IsSequence_k0
  exact (Le.br (Le.br (Le.bo (f_i_Group_has_le q ..) fun _ => (Le.br (Le.refl _) (Le.refl _))) (Le.none _)) (Le.refl _))
theorem f_i_IsSequence_r0_le (q : Nat) (l1 : List Sc) (g2 : List Sc) (t7 : List Sc) (t8 : Int) (s : Int) : Le (f_i_IsSequence_r0_Q q l1 g2 t7 t8 s) (f_i_IsSequence_r0 l1 g2 t7 t8 s) := f_i_IsSequence_k0_le q ..
theorem f_i_IsSequence_k_le (q : Nat) {R : Type} (g0 : List Sc) (l1 : List Sc) (kR : Bool → Option R) : Le (f_i_IsSequence_k_Q q g0 l1 kR) (f_i_IsSequence_k g0 l1 kR) := by
  unfold f_i_IsSequence_k_Q f_i_IsSequence_k
  exact (Le.bl (Le.loop fun _ => f_i_IsSequence_r0_le q ..) (fun _ => (Le.bo (f_i_IsGroup_le q ..) fun _ => (Le.br (Le.br (Le.bo (f_slices_IsSorted_le q ..) fun _ => (Le.refl _)) (Le.refl _)) (Le.refl _)))) fun _ => (Le.refl _))
theorem f_i_IsSequence_le (q : Nat) (g0 : List Sc) (l1 : List Sc) : Le (f_i_IsSequence_Q q g0 l1) (f_i_IsSequence g0 l1) := f_i_IsSequence_k_le q ..

def f_i_IsZeroSum_k_Q (q : Nat) {R : Type} (g0 : List Sc) (l1 : List Sc) (kR : Bool → Option R) : Option R :=
  bo (f_i_IsSequence_Q q g0 l1) false fun r1 =>
  br (r1 == true)
    (bo (f_i_Group_total_Q q g0 l1) 0 fun r2 =>
    kR (r2 == 0))
    (kR false)
def f_i_IsZeroSum_Q (q : Nat) (g0 : List Sc) (l1 : List Sc) : Option (Bool) := f_i_IsZeroSum_k_Q q g0 l1 some
theorem f_i_IsZeroSum_k_le (q : Nat) {R : Type} (g0 : List Sc) (l1 : List Sc) (kR : Bool → Option R) : Le (f_i_IsZeroSum_k_Q q g0 l1 kR) (f_i_IsZeroSum_k g0 l1 kR) := by
  unfold f_i_IsZeroSum_k_Q f_i_IsZeroSum_k
  exact (Le.bo (f_i_IsSequence_le q ..) fun _ => (Le.br (Le.bo (f_i_Group_total_le q ..) fun _ => (Le.refl _)) (Le.refl _)))
theorem f_i_IsZeroSum_le (q : Nat) (g0 : List Sc) (l1 : List Sc) : Le (f_i_IsZeroSum_Q q g0 l1) (f_i_IsZeroSum g0 l1) := f_i_IsZeroSum_k_le q ..

def f_i_in_k_Q (q : Nat) {R : Type} (a0 : Int) (x1 : Int) (kR : Bool → Option R) : Option R :=
  br (decide (x1 < 0))
    none
    (kR ((and64 (shr64 a0 x1) 1) == 1))
def f_i_in_Q (q : Nat) (a0 : Int) (x1 : Int) : Option (Bool) := f_i_in_k_Q q a0 x1 some
theorem f_i_in_k_le (q : Nat) {R : Type} (a0 : Int) (x1 : Int) (kR : Bool → Option R) : Le (f_i_in_k_Q q a0 x1 kR) (f_i_in_k a0 x1 kR) := by
  unfold f_i_in_k_Q f_i_in_k
  exact (Le.br (Le.none _) (Le.refl _))
theorem f_i_in_le (q : Nat) (a0 : Int) (x1 : Int) : Le (f_i_in_Q q a0 x1) (f_i_in a0 x1) := f_i_in_k_le q ..

def f_i_part_k0_Q (q : Nat) {R : Type} (mask1 : Int) (t9 : List Sc) (t10 : Int) (out5 : List Sc) (t11 : Int) (kN : List Sc × Int → Option R) (kA : List Sc → Option R) : Option R :=
  br ((decide (t11 < t10)))
    (br (okAt t9 t11)
      (bo (f_i_in_Q q mask1 t11) false fun r1 =>
      br (r1)
        (br (decide (out5.length + [(Sc.n .i64 (atI t9 t11))].length ≤ lim))
          (kN ((out5 ++ [(Sc.n .i64 (atI t9 t11))]), (w64 (t11 + 1))))
          none)
        (kN (out5, (w64 (t11 + 1)))))
      none)
    (kA out5)
def f_i_part_r0_Q (q : Nat) (mask1 : Int) (t9 : List Sc) (t10 : Int) : (List Sc × Int) → Option (Ro (List Sc × Int) (List Sc) (Unit)) := fun s => f_i_part_k0_Q q mask1 t9 t10 s.1 s.2 (fun s => some (.again s)) (fun e => some (.one e))
def f_i_part_k_Q (q : Nat) {R : Type} (l0 : List Sc) (mask1 : Int) (kR : List Sc → Option R) : Option R :=
  bl1 (loopQ q (f_i_part_r0_Q q mask1 l0 (l0.length : Int)) ([], 0)) [] fun e2 =>
  kR e2
def f_i_part_Q (q : Nat) (l0 : List Sc) (mask1 : Int) : Option (List Sc) := f_i_part_k_Q q l0 mask1 some
theorem f_i_part_k0_le (q : Nat) {R : Type} (mask1 : Int) (t9 : List Sc) (t10 : Int) (out5 : List Sc) (t11 : Int) (kN : List Sc × Int → Option R) (kA : List Sc → Option R) : Le (f_i_part_k0_Q q mask1 t9 t10 out5 t11 kN kA) (f_i_part_k0 mask1 t9 t10 out5 t11 kN kA) := by
  unfold f_i_part_k0_Q f_i_part_k0
  exact (Le.br (Le.br (Le.bo (f_i_in_le q ..) fun _ => (Le.br (Le.br (Le.refl _) (Le.none _)) (Le.refl _))) (Le.none _)) (Le.refl _))
theorem f_i_part_r0_le (q : Nat) (mask1 : Int) (t9 : List Sc) (t10 : Int) (s : List Sc × Int) : Le (f_i_part_r0_Q q mask1 t9 t10 s) (f_i_part_r0 mask1 t9 t10 s) := f_i_part_k0_le q ..
theorem f_i_part_k_le (q : Nat) {R : Type} (l0 : List Sc) (mask1 : Int) (kR : List Sc → Option R) : Le (f_i_part_k_Q q l0 mask1 kR) (f_i_part_k l0 mask1 kR) := by
  unfold f_i_part_k_Q f_i_part_k
  exact (Le.bl1 (Le.loop fun _ => f_i_part_r0_le q ..) fun _ => (Le.refl _))
theorem f_i_part_le (q : Nat) (l0 : List Sc) (mask1 : Int) : Le (f_i_part_Q q l0 mask1) (f_i_part l0 mask1) := f_i_part_k_le q ..

def f_i_IsAtom_k0_Q (q : Nat) {R : Type} (l1 : List Sc) (g2 : List Sc) (mask5 : Int) (kN : Int → Option R) (kA : Unit → Option R) (kB : Unit → Option R) : Option R :=
  br (decide ((l1.length : Int) < 0))
    none
    (br ((decide (mask5 < (w64 ((shl64 1 (l1.length : Int)) - 1)))))
      (bo (f_i_part_Q q l1 mask5) [] fun r2 =>
      bo (f_i_Group_total_Q q g2 r2) 0 fun r3 =>
      br ((r3 == 0))
        (kB ())
        (kN (w64 (mask5 + 1))))
      (kA ()))
def f_i_IsAtom_r0_Q (q : Nat) (l1 : List Sc) (g2 : List Sc) : Int → Option (Ro (Int) (Unit) (Unit)) := fun s => f_i_IsAtom_k0_Q q l1 g2 s (fun s => some (.again s)) (fun e => some (.one e)) (fun e => some (.two e))
def f_i_IsAtom_k_Q (q : Nat) {R : Type} (g0 : List Sc) (l1 : List Sc) (kR : Bool → Option R) : Option R :=
  bo (f_i_IsZeroSum_Q q g0 l1) false fun r1 =>
  br ((!r1) == false)
    (br (((l1.length : Int) == 0))
      (kR false)
      (bl (loopQ q (f_i_IsAtom_r0_Q q l1 g0) 1) () ()
        (fun e4 =>
          kR true)
        (fun e4 =>
          kR false)))
    (kR false)
def f_i_IsAtom_Q (q : Nat) (g0 : List Sc) (l1 : List Sc) : Option (Bool) := f_i_IsAtom_k_Q q g0 l1 some
theorem f_i_IsAtom_k0_le (q : Nat) {R : Type} (l1 : List Sc) (g2 : List Sc) (mask5 : Int) (kN : Int → Option R) (kA : Unit → Option R) (kB : Unit → Option R) : Le (f_i_IsAtom_k0_Q q l1 g2 mask5 kN kA kB) (f_i_IsAtom_k0 l1 g2 mask5 kN kA kB) := by
  unfold f_i_IsAtom_k0_Q f_i_IsAtom_k0
  exact (Le.br (Le.none _) (Le.br (Le.bo (f_i_part_le q ..) fun _ => (Le.bo (f_i_Group_total_le q ..) fun _ => (Le.br (Le.refl _) (Le.refl _)))) (Le.refl _)))
theorem f_i_IsAtom_r0_le (q : Nat) (l1 : List Sc) (g2 : List Sc) (s : Int) : Le (f_i_IsAtom_r0_Q q l1 g2 s) (f_i_IsAtom_r0 l1 g2 s) := f_i_IsAtom_k0_le q ..
theorem f_i_IsAtom_k_le (q : Nat) {R : Type} (g0 : List Sc) (l1 : List Sc) (kR : Bool → Option R) : Le (f_i_IsAtom_k_Q q g0 l1 kR) (f_i_IsAtom_k g0 l1 kR) := by
  unfold f_i_IsAtom_k_Q f_i_IsAtom_k
  exact (Le.bo (f_i_IsZeroSum_le q ..) fun _ => (Le.br (Le.br (Le.refl _) (Le.bl (Le.loop fun _ => f_i_IsAtom_r0_le q ..) (fun _ => (Le.refl _)) fun _ => (Le.refl _))) (Le.refl _)))
theorem f_i_IsAtom_le (q : Nat) (g0 : List Sc) (l1 : List Sc) : Le (f_i_IsAtom_Q q g0 l1) (f_i_IsAtom g0 l1) := f_i_IsAtom_k_le q ..

def f_i_AtomsOf_1_k_Q (q : Nat) {R : Type} (l0 : List Sc) (sums1 : Int) (p2 : List Sc) (h0 : List Sc) (kR : List Sc → Option R) : Option R :=
  bo (f_i_Group_total_Q q p2 l0) 0 fun r1 =>
  bo (f_i_Group_negate_Q q p2 r1) 0 fun r2 =>
  br (((l0.length : Int) == 0) == false)
    (br (okAt l0 (w64 ((l0.length : Int) - 1)))
      (br ((decide (r2 ≥ (atI l0 (w64 ((l0.length : Int) - 1))))))
        (bo (f_i_copyInts_Q q l0) [] fun r3 =>
        br (decide (r3.length + [(Sc.n .i64 r2)].length ≤ lim))
          (bo (f_i_IsAtom_Q q p2 (r3 ++ [(Sc.n .i64 r2)])) false fun r4 =>
          br (r4)
            (br (decide (h0.length + [Sc.l (r3 ++ [(Sc.n .i64 r2)])].length ≤ lim))
              (kR (h0 ++ [Sc.l (r3 ++ [(Sc.n .i64 r2)])]))
              none)
            (kR h0))
          none)
        (kR h0))
      none)
    (bo (f_i_copyInts_Q q l0) [] fun r5 =>
    br (decide (r5.length + [(Sc.n .i64 r2)].length ≤ lim))
      (bo (f_i_IsAtom_Q q p2 (r5 ++ [(Sc.n .i64 r2)])) false fun r6 =>
      br (r6)
        (br (decide (h0.length + [Sc.l (r5 ++ [(Sc.n .i64 r2)])].length ≤ lim))
          (kR (h0 ++ [Sc.l (r5 ++ [(Sc.n .i64 r2)])]))
          none)
        (kR h0))
      none)
def f_i_AtomsOf_1_Q (q : Nat) (l0 : List Sc) (sums1 : Int) (p2 : List Sc) (h0 : List Sc) : Option (List Sc) := f_i_AtomsOf_1_k_Q q l0 sums1 p2 h0 some
theorem f_i_AtomsOf_1_k_le (q : Nat) {R : Type} (l0 : List Sc) (sums1 : Int) (p2 : List Sc) (h0 : List Sc) (kR : List Sc → Option R) : Le (f_i_AtomsOf_1_k_Q q l0 sums1 p2 h0 kR) (f_i_AtomsOf_1_k l0 sums1 p2 h0 kR) := by
  unfold f_i_AtomsOf_1_k_Q f_i_AtomsOf_1_k
  exact (Le.bo (f_i_Group_total_le q ..) fun _ => (Le.bo (f_i_Group_negate_le q ..) fun _ => (Le.br (Le.br (Le.br (Le.bo (f_i_copyInts_le q ..) fun _ => (Le.br (Le.bo (f_i_IsAtom_le q ..) fun _ => (Le.br (Le.br (Le.refl _) (Le.none _)) (Le.refl _))) (Le.none _))) (Le.refl _)) (Le.none _)) (Le.bo (f_i_copyInts_le q ..) fun _ => (Le.br (Le.bo (f_i_IsAtom_le q ..) fun _ => (Le.br (Le.br (Le.refl _) (Le.none _)) (Le.refl _))) (Le.none _))))))
theorem f_i_AtomsOf_1_le (q : Nat) (l0 : List Sc) (sums1 : Int) (p2 : List Sc) (h0 : List Sc) : Le (f_i_AtomsOf_1_Q q l0 sums1 p2 h0) (f_i_AtomsOf_1 l0 sums1 p2 h0) := f_i_AtomsOf_1_k_le q ..

def f_i_Group_shift_k0_Q (q : Nat) {R : Type} (a1 : Int) (x2 : Int) (g3 : List Sc) (out7 : Int) (y8 : Int) (kN : Int × Int → Option R) (kA : Int → Option R) : Option R :=
  br (decide (y8 < 0))
    none
    (br (((shr64 a1 y8) != 0))
      (br (decide (y8 < 0))
        none
        (br (((and64 (shr64 a1 y8) 1) == 1))
          (bo (f_i_Group_add_Q q g3 x2 y8) 0 fun r1 =>
          br (decide (r1 < 0))
            none
            (kN ((or64 out7 (shl64 1 r1)), (w64 (y8 + 1)))))
          (kN (out7, (w64 (y8 + 1))))))
      (kA out7))
def f_i_Group_shift_r0_Q (q : Nat) (a1 : Int) (x2 : Int) (g3 : List Sc) : (Int × Int) → Option (Ro (Int × Int) (Int) (Unit)) := fun s => f_i_Group_shift_k0_Q q a1 x2 g3 s.1 s.2 (fun s => some (.again s)) (fun e => some (.one e))
def f_i_Group_shift_k_Q (q : Nat) {R : Type} (g0 : List Sc) (a1 : Int) (x2 : Int) (kR : Int → Option R) : Option R :=
  bl1 (loopQ q (f_i_Group_shift_r0_Q q a1 x2 g0) (0, 0)) 0 fun e2 =>
  kR e2
def f_i_Group_shift_Q (q : Nat) (g0 : List Sc) (a1 : Int) (x2 : Int) : Option (Int) := f_i_Group_shift_k_Q q g0 a1 x2 some
theorem f_i_Group_shift_k0_le (q : Nat) {R : Type} (a1 : Int) (x2 : Int) (g3 : List Sc) (out7 : Int) (y8 : Int) (kN : Int × Int → Option R) (kA : Int → Option R) : Le (f_i_Group_shift_k0_Q q a1 x2 g3 out7 y8 kN kA) (f_i_Group_shift_k0 a1 x2 g3 out7 y8 kN kA) := by
  unfold f_i_Group_shift_k0_Q f_i_Group_shift_k0
  exact (Le.br (Le.none _) (Le.br (Le.br (Le.none _) (Le.br (Le.bo (f_i_Group_add_le q ..) fun _ => (Le.br (Le.none _) (Le.refl _))) (Le.refl _))) (Le.refl _)))
theorem f_i_Group_shift_r0_le (q : Nat) (a1 : Int) (x2 : Int) (g3 : List Sc) (s : Int × Int) : Le (f_i_Group_shift_r0_Q q a1 x2 g3 s) (f_i_Group_shift_r0 a1 x2 g3 s) := f_i_Group_shift_k0_le q ..
theorem f_i_Group_shift_k_le (q : Nat) {R : Type} (g0 : List Sc) (a1 : Int) (x2 : Int) (kR : Int → Option R) : Le (f_i_Group_shift_k_Q q g0 a1 x2 kR) (f_i_Group_shift_k g0 a1 x2 kR) := by
  unfold f_i_Group_shift_k_Q f_i_Group_shift_k
  exact (Le.bl1 (Le.loop fun _ => f_i_Group_shift_r0_le q ..) fun _ => (Le.refl _))
theorem f_i_Group_shift_le (q : Nat) (g0 : List Sc) (a1 : Int) (x2 : Int) : Le (f_i_Group_shift_Q q g0 a1 x2) (f_i_Group_shift g0 a1 x2) := f_i_Group_shift_k_le q ..

def f_i_zeroFree_AtomsOf_1_k0_Q (q : Nat) {R : Type} (self : (List Sc × List Sc × Int × List Sc × List Sc) → Option (List Sc)) (l1 : List Sc) (sums2 : Int) (visit3 : List Sc) (g4 : List Sc) (v0 : List Sc) (x9 : Int) (kN : List Sc × Int → Option R) (kA : List Sc → Option R) : Option R :=
  bo (f_i_OrderOf_Q q g4) 0 fun r2 =>
  br ((decide (x9 < r2)))
    (bo (f_i_Group_shift_Q q g4 sums2 x9) 0 fun r3 =>
    br (decide (x9 < 0))
      none
      (bo (f_i_in_Q q (or64 (or64 sums2 r3) (shl64 1 x9)) 0) false fun r4 =>
      br ((!r4))
        (bo (f_i_copyInts_Q q l1) [] fun r5 =>
        br (decide (r5.length + [(Sc.n .i64 x9)].length ≤ lim))
          (bo (self (g4, (r5 ++ [(Sc.n .i64 x9)]), (or64 (or64 sums2 r3) (shl64 1 x9)), visit3, v0)) [] fun r6 =>
          kN (r6, (w64 (x9 + 1))))
          none)
        (kN (v0, (w64 (x9 + 1))))))
    (kA v0)
def f_i_zeroFree_AtomsOf_1_r0_Q (q : Nat) (self : (List Sc × List Sc × Int × List Sc × List Sc) → Option (List Sc)) (l1 : List Sc) (sums2 : Int) (visit3 : List Sc) (g4 : List Sc) : (List Sc × Int) → Option (Ro (List Sc × Int) (List Sc) (Unit)) := fun s => f_i_zeroFree_AtomsOf_1_k0_Q q self l1 sums2 visit3 g4 s.1 s.2 (fun s => some (.again s)) (fun e => some (.one e))
def f_i_zeroFree_AtomsOf_1_k_Q (q : Nat) {R : Type} (self : (List Sc × List Sc × Int × List Sc × List Sc) → Option (List Sc)) (g0 : List Sc) (l1 : List Sc) (sums2 : Int) (visit3 : List Sc) (h0 : List Sc) (kR : List Sc → Option R) : Option R :=
  bo (f_i_AtomsOf_1_Q q l1 sums2 visit3 h0) [] fun r1 =>
  br ((decide ((l1.length : Int) > 0)))
    (br (okAt l1 (w64 ((l1.length : Int) - 1)))
      (bl1 (loopQ q (f_i_zeroFree_AtomsOf_1_r0_Q q self l1 sums2 visit3 g0) (r1, (atI l1 (w64 ((l1.length : Int) - 1))))) [] fun e7 =>
      kR e7)
      none)
    (bl1 (loopQ q (f_i_zeroFree_AtomsOf_1_r0_Q q self l1 sums2 visit3 g0) (r1, 1)) [] fun e8 =>
    kR e8)
def f_i_zeroFree_AtomsOf_1_n_Q (q : Nat) : Nat → (List Sc × List Sc × Int × List Sc × List Sc) → Option (List Sc)
  | 0, _ => none
  | n + 1, a => f_i_zeroFree_AtomsOf_1_k_Q q (f_i_zeroFree_AtomsOf_1_n_Q q n) a.1 a.2.1 a.2.2.1 a.2.2.2.1 a.2.2.2.2 some
def f_i_zeroFree_AtomsOf_1_Q (q : Nat) (g0 : List Sc) (l1 : List Sc) (sums2 : Int) (visit3 : List Sc) (h0 : List Sc) : Option (List Sc) := limQ q (f_i_zeroFree_AtomsOf_1_n_Q q) (g0, l1, sums2, visit3, h0)
theorem f_i_zeroFree_AtomsOf_1_k0_le (q : Nat) {R : Type} {s1 s2 : (List Sc × List Sc × Int × List Sc × List Sc) → Option (List Sc)} (hs : ∀ a, Le (s1 a) (s2 a)) (l1 : List Sc) (sums2 : Int) (visit3 : List Sc) (g4 : List Sc) (v0 : List Sc) (x9 : Int) (kN : List Sc × Int → Option R) (kA : List Sc → Option R) : Le (f_i_zeroFree_AtomsOf_1_k0_Q q s1 l1 sums2 visit3 g4 v0 x9 kN kA) (f_i_zeroFree_AtomsOf_1_k0 s2 l1 sums2 visit3 g4 v0 x9 kN kA) := by
  unfold f_i_zeroFree_AtomsOf_1_k0_Q f_i_zeroFree_AtomsOf_1_k0
  exact (Le.bo (f_i_OrderOf_le q ..) fun _ => (Le.br (Le.bo (f_i_Group_shift_le q ..) fun _ => (Le.br (Le.none _) (Le.bo (f_i_in_le q ..) fun _ => (Le.br (Le.bo (f_i_copyInts_le q ..) fun _ => (Le.br (Le.bo (hs _) fun _ => (Le.refl _)) (Le.none _))) (Le.refl _))))) (Le.refl _)))
theorem f_i_zeroFree_AtomsOf_1_r0_le (q : Nat) {s1 s2 : (List Sc × List Sc × Int × List Sc × List Sc) → Option (List Sc)} (hs : ∀ a, Le (s1 a) (s2 a)) (l1 : List Sc) (sums2 : Int) (visit3 : List Sc) (g4 : List Sc) (s : List Sc × Int) : Le (f_i_zeroFree_AtomsOf_1_r0_Q q s1 l1 sums2 visit3 g4 s) (f_i_zeroFree_AtomsOf_1_r0 s2 l1 sums2 visit3 g4 s) := f_i_zeroFree_AtomsOf_1_k0_le q hs ..
theorem f_i_zeroFree_AtomsOf_1_k_le (q : Nat) {R : Type} {s1 s2 : (List Sc × List Sc × Int × List Sc × List Sc) → Option (List Sc)} (hs : ∀ a, Le (s1 a) (s2 a)) (g0 : List Sc) (l1 : List Sc) (sums2 : Int) (visit3 : List Sc) (h0 : List Sc) (kR : List Sc → Option R) : Le (f_i_zeroFree_AtomsOf_1_k_Q q s1 g0 l1 sums2 visit3 h0 kR) (f_i_zeroFree_AtomsOf_1_k s2 g0 l1 sums2 visit3 h0 kR) := by
  unfold f_i_zeroFree_AtomsOf_1_k_Q f_i_zeroFree_AtomsOf_1_k
  exact (Le.bo (f_i_AtomsOf_1_le q ..) fun _ => (Le.br (Le.br (Le.bl1 (Le.loop fun _ => f_i_zeroFree_AtomsOf_1_r0_le q hs ..) fun _ => (Le.refl _)) (Le.none _)) (Le.bl1 (Le.loop fun _ => f_i_zeroFree_AtomsOf_1_r0_le q hs ..) fun _ => (Le.refl _))))
theorem f_i_zeroFree_AtomsOf_1_n_le (q : Nat) : ∀ n a, Le (f_i_zeroFree_AtomsOf_1_n_Q q n a) (f_i_zeroFree_AtomsOf_1_n n a)
  | 0, _ => Le.none _
  | n + 1, a => f_i_zeroFree_AtomsOf_1_k_le q (f_i_zeroFree_AtomsOf_1_n_le q n) ..
theorem f_i_zeroFree_AtomsOf_1_k0_up {R : Type} {s1 s2 : (List Sc × List Sc × Int × List Sc × List Sc) → Option (List Sc)} (hs : ∀ a, Le (s1 a) (s2 a)) (l1 : List Sc) (sums2 : Int) (visit3 : List Sc) (g4 : List Sc) (v0 : List Sc) (x9 : Int) (kN : List Sc × Int → Option R) (kA : List Sc → Option R) : Le (f_i_zeroFree_AtomsOf_1_k0 s1 l1 sums2 visit3 g4 v0 x9 kN kA) (f_i_zeroFree_AtomsOf_1_k0 s2 l1 sums2 visit3 g4 v0 x9 kN kA) := by
  unfold f_i_zeroFree_AtomsOf_1_k0
  exact (Le.bo (Le.refl _) fun _ => (Le.br (Le.bo (Le.refl _) fun _ => (Le.br (Le.none _) (Le.bo (Le.refl _) fun _ => (Le.br (Le.bo (Le.refl _) fun _ => (Le.br (Le.bo (hs _) fun _ => (Le.refl _)) (Le.none _))) (Le.refl _))))) (Le.refl _)))
theorem f_i_zeroFree_AtomsOf_1_r0_up {s1 s2 : (List Sc × List Sc × Int × List Sc × List Sc) → Option (List Sc)} (hs : ∀ a, Le (s1 a) (s2 a)) (l1 : List Sc) (sums2 : Int) (visit3 : List Sc) (g4 : List Sc) (s : List Sc × Int) : Le (f_i_zeroFree_AtomsOf_1_r0 s1 l1 sums2 visit3 g4 s) (f_i_zeroFree_AtomsOf_1_r0 s2 l1 sums2 visit3 g4 s) := f_i_zeroFree_AtomsOf_1_k0_up hs ..
theorem f_i_zeroFree_AtomsOf_1_k_up {R : Type} {s1 s2 : (List Sc × List Sc × Int × List Sc × List Sc) → Option (List Sc)} (hs : ∀ a, Le (s1 a) (s2 a)) (g0 : List Sc) (l1 : List Sc) (sums2 : Int) (visit3 : List Sc) (h0 : List Sc) (kR : List Sc → Option R) : Le (f_i_zeroFree_AtomsOf_1_k s1 g0 l1 sums2 visit3 h0 kR) (f_i_zeroFree_AtomsOf_1_k s2 g0 l1 sums2 visit3 h0 kR) := by
  unfold f_i_zeroFree_AtomsOf_1_k
  exact (Le.bo (Le.refl _) fun _ => (Le.br (Le.br (Le.bl1 (Le.loopU fun _ => f_i_zeroFree_AtomsOf_1_r0_up hs ..) fun _ => (Le.refl _)) (Le.none _)) (Le.bl1 (Le.loopU fun _ => f_i_zeroFree_AtomsOf_1_r0_up hs ..) fun _ => (Le.refl _))))
theorem f_i_zeroFree_AtomsOf_1_n_up : ∀ n a, Le (f_i_zeroFree_AtomsOf_1_n n a) (f_i_zeroFree_AtomsOf_1_n (n + 1) a)
  | 0, _ => Le.none _
  | n + 1, a => f_i_zeroFree_AtomsOf_1_k_up (f_i_zeroFree_AtomsOf_1_n_up n) ..
theorem f_i_zeroFree_AtomsOf_1_le (q : Nat) (g0 : List Sc) (l1 : List Sc) (sums2 : Int) (visit3 : List Sc) (h0 : List Sc) : Le (f_i_zeroFree_AtomsOf_1_Q q g0 l1 sums2 visit3 h0) (f_i_zeroFree_AtomsOf_1 g0 l1 sums2 visit3 h0) := Le.lim f_i_zeroFree_AtomsOf_1_n_up (f_i_zeroFree_AtomsOf_1_n_le q)

def f_slices_SortFunc_Q (_q : Nat) (h0 : List Sc) : Option (List Sc) := sortF h0
theorem f_slices_SortFunc_le (q : Nat) (h0 : List Sc) : Le (f_slices_SortFunc_Q q h0) (f_slices_SortFunc h0) := Le.refl _

def f_i_AtomsOf_k_Q (q : Nat) {R : Type} (g0 : List Sc) (kR : List Sc × Bool → Option R) : Option R :=
  bo (f_i_IsGroup_Q q g0) false fun r1 =>
  br ((!r1) == false)
    (bo (f_i_OrderOf_Q q g0) 0 fun r2 =>
    br ((decide (r2 > 7)))
      (kR ([], false))
      (bo (f_i_zeroFree_AtomsOf_1_Q q g0 [] 0 g0 []) [] fun r3 =>
      bo (f_slices_SortFunc_Q q r3) [] fun r4 =>
      kR (r4, true)))
    (kR ([], false))
def f_i_AtomsOf_Q (q : Nat) (g0 : List Sc) : Option (List Sc × Bool) := f_i_AtomsOf_k_Q q g0 some
theorem f_i_AtomsOf_k_le (q : Nat) {R : Type} (g0 : List Sc) (kR : List Sc × Bool → Option R) : Le (f_i_AtomsOf_k_Q q g0 kR) (f_i_AtomsOf_k g0 kR) := by
  unfold f_i_AtomsOf_k_Q f_i_AtomsOf_k
  exact (Le.bo (f_i_IsGroup_le q ..) fun _ => (Le.br (Le.bo (f_i_OrderOf_le q ..) fun _ => (Le.br (Le.refl _) (Le.bo (f_i_zeroFree_AtomsOf_1_le q ..) fun _ => (Le.bo (f_slices_SortFunc_le q ..) fun _ => (Le.refl _))))) (Le.refl _)))
theorem f_i_AtomsOf_le (q : Nat) (g0 : List Sc) : Le (f_i_AtomsOf_Q q g0) (f_i_AtomsOf g0) := f_i_AtomsOf_k_le q ..

def f_i_FactorizationsOf_1_k0_Q (q : Nat) {R : Type} (k1 : Int) (t9 : List Sc) (t10 : Int) (v0 : List Sc) (fits6 : Bool) (t11 : Int) (kN : List Sc × Bool × Int → Option R) (kA : List Sc × Bool → Option R) : Option R :=
  br ((decide (t11 < t10)))
    (br (okAt t9 t11)
      (br (inRange (atI t9 t11) (v0).length)
        (br (kAt v0 (atI t9 t11).toNat)
          (br (inRange (atI t9 t11) (v0).length)
            (br (fits6 == true)
              (br (inRange (atI t9 t11) ((v0.set ((atI t9 t11).toNat) (Sc.n .i64 (w64 ((atN v0 (atI t9 t11).toNat) - k1))))).length)
                (br (kAt (v0.set ((atI t9 t11).toNat) (Sc.n .i64 (w64 ((atN v0 (atI t9 t11).toNat) - k1)))) (atI t9 t11).toNat)
                  (kN ((v0.set ((atI t9 t11).toNat) (Sc.n .i64 (w64 ((atN v0 (atI t9 t11).toNat) - k1)))), (decide ((atN (v0.set ((atI t9 t11).toNat) (Sc.n .i64 (w64 ((atN v0 (atI t9 t11).toNat) - k1)))) (atI t9 t11).toNat) ≥ 0)), (w64 (t11 + 1))))
                  none)
                none)
              (kN ((v0.set ((atI t9 t11).toNat) (Sc.n .i64 (w64 ((atN v0 (atI t9 t11).toNat) - k1)))), false, (w64 (t11 + 1)))))
            none)
          none)
        none)
      none)
    (kA (v0, fits6))
def f_i_FactorizationsOf_1_r0_Q (q : Nat) (k1 : Int) (t9 : List Sc) (t10 : Int) : (List Sc × Bool × Int) → Option (Ro (List Sc × Bool × Int) (List Sc × Bool) (Unit)) := fun s => f_i_FactorizationsOf_1_k0_Q q k1 t9 t10 s.1 s.2.1 s.2.2 (fun s => some (.again s)) (fun e => some (.one e))
def f_i_FactorizationsOf_1_k_Q (q : Nat) {R : Type} (a0 : List Sc) (k1 : Int) (h0 : List Sc) (kR : Bool × List Sc → Option R) : Option R :=
  bl1 (loopQ q (f_i_FactorizationsOf_1_r0_Q q k1 a0 (a0.length : Int)) (h0, true, 0)) ([], false) fun e1 =>
  kR (e1.2, e1.1)
def f_i_FactorizationsOf_1_Q (q : Nat) (a0 : List Sc) (k1 : Int) (h0 : List Sc) : Option (Bool × List Sc) := f_i_FactorizationsOf_1_k_Q q a0 k1 h0 some
theorem f_i_FactorizationsOf_1_k0_le (q : Nat) {R : Type} (k1 : Int) (t9 : List Sc) (t10 : Int) (v0 : List Sc) (fits6 : Bool) (t11 : Int) (kN : List Sc × Bool × Int → Option R) (kA : List Sc × Bool → Option R) : Le (f_i_FactorizationsOf_1_k0_Q q k1 t9 t10 v0 fits6 t11 kN kA) (f_i_FactorizationsOf_1_k0 k1 t9 t10 v0 fits6 t11 kN kA) := by
  unfold f_i_FactorizationsOf_1_k0_Q f_i_FactorizationsOf_1_k0
  exact (Le.br (Le.br (Le.br (Le.br (Le.br (Le.br (Le.br (Le.br (Le.refl _) (Le.none _)) (Le.none _)) (Le.refl _)) (Le.none _)) (Le.none _)) (Le.none _)) (Le.none _)) (Le.refl _))
theorem f_i_FactorizationsOf_1_r0_le (q : Nat) (k1 : Int) (t9 : List Sc) (t10 : Int) (s : List Sc × Bool × Int) : Le (f_i_FactorizationsOf_1_r0_Q q k1 t9 t10 s) (f_i_FactorizationsOf_1_r0 k1 t9 t10 s) := f_i_FactorizationsOf_1_k0_le q ..
theorem f_i_FactorizationsOf_1_k_le (q : Nat) {R : Type} (a0 : List Sc) (k1 : Int) (h0 : List Sc) (kR : Bool × List Sc → Option R) : Le (f_i_FactorizationsOf_1_k_Q q a0 k1 h0 kR) (f_i_FactorizationsOf_1_k a0 k1 h0 kR) := by
  unfold f_i_FactorizationsOf_1_k_Q f_i_FactorizationsOf_1_k
  exact (Le.bl1 (Le.loop fun _ => f_i_FactorizationsOf_1_r0_le q ..) fun _ => (Le.refl _))
theorem f_i_FactorizationsOf_1_le (q : Nat) (a0 : List Sc) (k1 : Int) (h0 : List Sc) : Le (f_i_FactorizationsOf_1_Q q a0 k1 h0) (f_i_FactorizationsOf_1 a0 k1 h0) := f_i_FactorizationsOf_1_k_le q ..

def f_i_FactorizationsOf_2_k0_Q (q : Nat) {R : Type} (self : (Int × Int × List Sc × List Sc × List Sc × List Sc) → Option (List Sc × List Sc × List Sc)) (t17 : List Sc) (t18 : Int) (v0 : List Sc) (v1 : List Sc) (v4 : List Sc) (t10 : List Sc) (t19 : Int) (kN : List Sc × List Sc × List Sc × List Sc × Int → Option R) (kA : List Sc × List Sc × List Sc × List Sc → Option R) : Option R :=
  br ((decide (t19 < t18)))
    (br (okAt t17 t19)
      (br (inRange (atI t17 t19) (v0).length)
        (bo (f_i_copyInts_Q q (lsN v0 ((atI t17 t19).toNat))) [] fun r1 =>
        br (decide (t10.length + [Sc.l r1].length ≤ lim))
          (kN (v0, v1, v4, (t10 ++ [Sc.l r1]), (w64 (t19 + 1))))
          none)
        none)
      none)
    (kA (v0, v1, v4, t10))
def f_i_FactorizationsOf_2_r0_Q (q : Nat) (self : (Int × Int × List Sc × List Sc × List Sc × List Sc) → Option (List Sc × List Sc × List Sc)) (t17 : List Sc) (t18 : Int) : (List Sc × List Sc × List Sc × List Sc × Int) → Option (Ro (List Sc × List Sc × List Sc × List Sc × Int) (List Sc × List Sc × List Sc × List Sc) (Unit)) := fun s => f_i_FactorizationsOf_2_k0_Q q self t17 t18 s.1 s.2.1 s.2.2.1 s.2.2.2.1 s.2.2.2.2 (fun s => some (.again s)) (fun e => some (.one e))
def f_i_FactorizationsOf_2_k2_Q (q : Nat) {R : Type} (self : (Int × Int × List Sc × List Sc × List Sc × List Sc) → Option (List Sc × List Sc × List Sc)) (t1 : Int) (t2 : List Sc) (v0 : List Sc) (v1 : List Sc) (v4 : List Sc) (t13 : Int) (kN : List Sc × List Sc × List Sc × Int → Option R) (kA : List Sc × List Sc × List Sc → Option R) : Option R :=
  br ((decide (t13 < (v0.length : Int))))
    (br (inRange t13 (v0).length)
      (bo (f_i_FactorizationsOf_1_Q q (lsN v0 t13.toNat) 1 v4) (false, []) fun r3 =>
      br (r3.1)
        (br (inRange t13 (v0).length)
          (bo (f_i_copyInts_Q q t2) [] fun r4 =>
          br (decide (r4.length + [(Sc.n .i64 t13)].length ≤ lim))
            (bo (self (t13, (w64 (t1 - ((lsN v0 t13.toNat).length : Int))), (r4 ++ [(Sc.n .i64 t13)]), v0, v1, r3.2)) ([], [], []) fun r5 =>
            br (inRange t13 (r5.1).length)
              (bo (f_i_FactorizationsOf_1_Q q (lsN r5.1 t13.toNat) (-1) r5.2.2) (false, []) fun r6 =>
              kN (r5.1, r5.2.1, r6.2, (w64 (t13 + 1))))
              none)
            none)
          none)
        (br (inRange t13 (v0).length)
          (bo (f_i_FactorizationsOf_1_Q q (lsN v0 t13.toNat) (-1) r3.2) (false, []) fun r7 =>
          kN (v0, v1, r7.2, (w64 (t13 + 1))))
          none))
      none)
    (kA (v0, v1, v4))
def f_i_FactorizationsOf_2_r2_Q (q : Nat) (self : (Int × Int × List Sc × List Sc × List Sc × List Sc) → Option (List Sc × List Sc × List Sc)) (t1 : Int) (t2 : List Sc) : (List Sc × List Sc × List Sc × Int) → Option (Ro (List Sc × List Sc × List Sc × Int) (List Sc × List Sc × List Sc) (Unit)) := fun s => f_i_FactorizationsOf_2_k2_Q q self t1 t2 s.1 s.2.1 s.2.2.1 s.2.2.2 (fun s => some (.again s)) (fun e => some (.one e))
def f_i_FactorizationsOf_2_k_Q (q : Nat) {R : Type} (self : (Int × Int × List Sc × List Sc × List Sc × List Sc) → Option (List Sc × List Sc × List Sc)) (L0 : Int) (p1 : Int) (p2 : List Sc) (h0 : List Sc) (h1 : List Sc) (h4 : List Sc) (kR : List Sc × List Sc × List Sc → Option R) : Option R :=
  br ((p1 == 0))
    (bl1 (loopQ q (f_i_FactorizationsOf_2_r0_Q q self p2 (p2.length : Int)) (h0, h1, h4, [], 0)) ([], [], [], []) fun e2 =>
    br (decide (e2.2.1.length + [Sc.l e2.2.2.2].length ≤ lim))
      (kR (e2.1, (e2.2.1 ++ [Sc.l e2.2.2.2]), e2.2.2.1))
      none)
    (bl1 (loopQ q (f_i_FactorizationsOf_2_r2_Q q self p1 p2) (h0, h1, h4, L0)) ([], [], []) fun e8 =>
    kR (e8.1, e8.2.1, e8.2.2))
def f_i_FactorizationsOf_2_n_Q (q : Nat) : Nat → (Int × Int × List Sc × List Sc × List Sc × List Sc) → Option (List Sc × List Sc × List Sc)
  | 0, _ => none
  | n + 1, a => f_i_FactorizationsOf_2_k_Q q (f_i_FactorizationsOf_2_n_Q q n) a.1 a.2.1 a.2.2.1 a.2.2.2.1 a.2.2.2.2.1 a.2.2.2.2.2 some
def f_i_FactorizationsOf_2_Q (q : Nat) (L0 : Int) (p1 : Int) (p2 : List Sc) (h0 : List Sc) (h1 : List Sc) (h4 : List Sc) : Option (List Sc × List Sc × List Sc) := limQ q (f_i_FactorizationsOf_2_n_Q q) (L0, p1, p2, h0, h1, h4)
theorem f_i_FactorizationsOf_2_k0_le (q : Nat) {R : Type} {s1 s2 : (Int × Int × List Sc × List Sc × List Sc × List Sc) → Option (List Sc × List Sc × List Sc)} (hs : ∀ a, Le (s1 a) (s2 a)) (t17 : List Sc) (t18 : Int) (v0 : List Sc) (v1 : List Sc) (v4 : List Sc) (t10 : List Sc) (t19 : Int) (kN : List Sc × List Sc × List Sc × List Sc × Int → Option R) (kA : List Sc × List Sc × List Sc × List Sc → Option R) : Le (f_i_FactorizationsOf_2_k0_Q q s1 t17 t18 v0 v1 v4 t10 t19 kN kA) (f_i_FactorizationsOf_2_k0 s2 t17 t18 v0 v1 v4 t10 t19 kN kA) := by
  unfold f_i_FactorizationsOf_2_k0_Q f_i_FactorizationsOf_2_k0
  exact (Le.br (Le.br (Le.br (Le.bo (f_i_copyInts_le q ..) fun _ => (Le.br (Le.refl _) (Le.none _))) (Le.none _)) (Le.none _)) (Le.refl _))
theorem f_i_FactorizationsOf_2_r0_le (q : Nat) {s1 s2 : (Int × Int × List Sc × List Sc × List Sc × List Sc) → Option (List Sc × List Sc × List Sc)} (hs : ∀ a, Le (s1 a) (s2 a)) (t17 : List Sc) (t18 : Int) (s : List Sc × List Sc × List Sc × List Sc × Int) : Le (f_i_FactorizationsOf_2_r0_Q q s1 t17 t18 s) (f_i_FactorizationsOf_2_r0 s2 t17 t18 s) := f_i_FactorizationsOf_2_k0_le q hs ..
theorem f_i_FactorizationsOf_2_k2_le (q : Nat) {R : Type} {s1 s2 : (Int × Int × List Sc × List Sc × List Sc × List Sc) → Option (List Sc × List Sc × List Sc)} (hs : ∀ a, Le (s1 a) (s2 a)) (t1 : Int) (t2 : List Sc) (v0 : List Sc) (v1 : List Sc) (v4 : List Sc) (t13 : Int) (kN : List Sc × List Sc × List Sc × Int → Option R) (kA : List Sc × List Sc × List Sc → Option R) : Le (f_i_FactorizationsOf_2_k2_Q q s1 t1 t2 v0 v1 v4 t13 kN kA) (f_i_FactorizationsOf_2_k2 s2 t1 t2 v0 v1 v4 t13 kN kA) := by
  unfold f_i_FactorizationsOf_2_k2_Q f_i_FactorizationsOf_2_k2
  exact (Le.br (Le.br (Le.bo (f_i_FactorizationsOf_1_le q ..) fun _ => (Le.br (Le.br (Le.bo (f_i_copyInts_le q ..) fun _ => (Le.br (Le.bo (hs _) fun _ => (Le.br (Le.bo (f_i_FactorizationsOf_1_le q ..) fun _ => (Le.refl _)) (Le.none _))) (Le.none _))) (Le.none _)) (Le.br (Le.bo (f_i_FactorizationsOf_1_le q ..) fun _ => (Le.refl _)) (Le.none _)))) (Le.none _)) (Le.refl _))
theorem f_i_FactorizationsOf_2_r2_le (q : Nat) {s1 s2 : (Int × Int × List Sc × List Sc × List Sc × List Sc) → Option (List Sc × List Sc × List Sc)} (hs : ∀ a, Le (s1 a) (s2 a)) (t1 : Int) (t2 : List Sc) (s : List Sc × List Sc × List Sc × Int) : Le (f_i_FactorizationsOf_2_r2_Q q s1 t1 t2 s) (f_i_FactorizationsOf_2_r2 s2 t1 t2 s) := f_i_FactorizationsOf_2_k2_le q hs ..
theorem f_i_FactorizationsOf_2_k_le (q : Nat) {R : Type} {s1 s2 : (Int × Int × List Sc × List Sc × List Sc × List Sc) → Option (List Sc × List Sc × List Sc)} (hs : ∀ a, Le (s1 a) (s2 a)) (L0 : Int) (p1 : Int) (p2 : List Sc) (h0 : List Sc) (h1 : List Sc) (h4 : List Sc) (kR : List Sc × List Sc × List Sc → Option R) : Le (f_i_FactorizationsOf_2_k_Q q s1 L0 p1 p2 h0 h1 h4 kR) (f_i_FactorizationsOf_2_k s2 L0 p1 p2 h0 h1 h4 kR) := by
  unfold f_i_FactorizationsOf_2_k_Q f_i_FactorizationsOf_2_k
  exact (Le.br (Le.bl1 (Le.loop fun _ => f_i_FactorizationsOf_2_r0_le q hs ..) fun _ => (Le.br (Le.refl _) (Le.none _))) (Le.bl1 (Le.loop fun _ => f_i_FactorizationsOf_2_r2_le q hs ..) fun _ => (Le.refl _)))
theorem f_i_FactorizationsOf_2_n_le (q : Nat) : ∀ n a, Le (f_i_FactorizationsOf_2_n_Q q n a) (f_i_FactorizationsOf_2_n n a)
  | 0, _ => Le.none _
  | n + 1, a => f_i_FactorizationsOf_2_k_le q (f_i_FactorizationsOf_2_n_le q n) ..
theorem f_i_FactorizationsOf_2_k0_up {R : Type} {s1 s2 : (Int × Int × List Sc × List Sc × List Sc × List Sc) → Option (List Sc × List Sc × List Sc)} (hs : ∀ a, Le (s1 a) (s2 a)) (t17 : List Sc) (t18 : Int) (v0 : List Sc) (v1 : List Sc) (v4 : List Sc) (t10 : List Sc) (t19 : Int) (kN : List Sc × List Sc × List Sc × List Sc × Int → Option R) (kA : List Sc × List Sc × List Sc × List Sc → Option R) : Le (f_i_FactorizationsOf_2_k0 s1 t17 t18 v0 v1 v4 t10 t19 kN kA) (f_i_FactorizationsOf_2_k0 s2 t17 t18 v0 v1 v4 t10 t19 kN kA) := by
  unfold f_i_FactorizationsOf_2_k0
  exact (Le.br (Le.br (Le.br (Le.bo (Le.refl _) fun _ => (Le.br (Le.refl _) (Le.none _))) (Le.none _)) (Le.none _)) (Le.refl _))
theorem f_i_FactorizationsOf_2_r0_up {s1 s2 : (Int × Int × List Sc × List Sc × List Sc × List Sc) → Option (List Sc × List Sc × List Sc)} (hs : ∀ a, Le (s1 a) (s2 a)) (t17 : List Sc) (t18 : Int) (s : List Sc × List Sc × List Sc × List Sc × Int) : Le (f_i_FactorizationsOf_2_r0 s1 t17 t18 s) (f_i_FactorizationsOf_2_r0 s2 t17 t18 s) := f_i_FactorizationsOf_2_k0_up hs ..
theorem f_i_FactorizationsOf_2_k2_up {R : Type} {s1 s2 : (Int × Int × List Sc × List Sc × List Sc × List Sc) → Option (List Sc × List Sc × List Sc)} (hs : ∀ a, Le (s1 a) (s2 a)) (t1 : Int) (t2 : List Sc) (v0 : List Sc) (v1 : List Sc) (v4 : List Sc) (t13 : Int) (kN : List Sc × List Sc × List Sc × Int → Option R) (kA : List Sc × List Sc × List Sc → Option R) : Le (f_i_FactorizationsOf_2_k2 s1 t1 t2 v0 v1 v4 t13 kN kA) (f_i_FactorizationsOf_2_k2 s2 t1 t2 v0 v1 v4 t13 kN kA) := by
  unfold f_i_FactorizationsOf_2_k2
  exact (Le.br (Le.br (Le.bo (Le.refl _) fun _ => (Le.br (Le.br (Le.bo (Le.refl _) fun _ => (Le.br (Le.bo (hs _) fun _ => (Le.br (Le.bo (Le.refl _) fun _ => (Le.refl _)) (Le.none _))) (Le.none _))) (Le.none _)) (Le.br (Le.bo (Le.refl _) fun _ => (Le.refl _)) (Le.none _)))) (Le.none _)) (Le.refl _))
theorem f_i_FactorizationsOf_2_r2_up {s1 s2 : (Int × Int × List Sc × List Sc × List Sc × List Sc) → Option (List Sc × List Sc × List Sc)} (hs : ∀ a, Le (s1 a) (s2 a)) (t1 : Int) (t2 : List Sc) (s : List Sc × List Sc × List Sc × Int) : Le (f_i_FactorizationsOf_2_r2 s1 t1 t2 s) (f_i_FactorizationsOf_2_r2 s2 t1 t2 s) := f_i_FactorizationsOf_2_k2_up hs ..
theorem f_i_FactorizationsOf_2_k_up {R : Type} {s1 s2 : (Int × Int × List Sc × List Sc × List Sc × List Sc) → Option (List Sc × List Sc × List Sc)} (hs : ∀ a, Le (s1 a) (s2 a)) (L0 : Int) (p1 : Int) (p2 : List Sc) (h0 : List Sc) (h1 : List Sc) (h4 : List Sc) (kR : List Sc × List Sc × List Sc → Option R) : Le (f_i_FactorizationsOf_2_k s1 L0 p1 p2 h0 h1 h4 kR) (f_i_FactorizationsOf_2_k s2 L0 p1 p2 h0 h1 h4 kR) := by
  unfold f_i_FactorizationsOf_2_k
  exact (Le.br (Le.bl1 (Le.loopU fun _ => f_i_FactorizationsOf_2_r0_up hs ..) fun _ => (Le.br (Le.refl _) (Le.none _))) (Le.bl1 (Le.loopU fun _ => f_i_FactorizationsOf_2_r2_up hs ..) fun _ => (Le.refl _)))
theorem f_i_FactorizationsOf_2_n_up : ∀ n a, Le (f_i_FactorizationsOf_2_n n a) (f_i_FactorizationsOf_2_n (n + 1) a)
  | 0, _ => Le.none _
  | n + 1, a => f_i_FactorizationsOf_2_k_up (f_i_FactorizationsOf_2_n_up n) ..
theorem f_i_FactorizationsOf_2_le (q : Nat) (L0 : Int) (p1 : Int) (p2 : List Sc) (h0 : List Sc) (h1 : List Sc) (h4 : List Sc) : Le (f_i_FactorizationsOf_2_Q q L0 p1 p2 h0 h1 h4) (f_i_FactorizationsOf_2 L0 p1 p2 h0 h1 h4) := Le.lim f_i_FactorizationsOf_2_n_up (f_i_FactorizationsOf_2_n_le q)
end Go.Proofs.Ytdocbpiocinllaa
