/-
  What the functions compute, as plain functions (printed by gen2.py).
-/
import Derived.Test.YtppgjmdncffecaaVGen
set_option linter.unusedVariables false
namespace Go.Proofs.Ytppgjmdncffecaa
open Go Ev
noncomputable section
def f_l_toIntS_k0 {R : Type} (a0 : List Sc) (out3 : List Sc) (i4 : Int) (kN : List Sc × Int → Option R) (kA : List Sc → Option R) : Option R :=
  br ((decide (i4 < (a0.length : Int))))
    (br (okAt a0 i4)
      (br (inRange i4 (out3).length)
        (kN ((out3.set i4.toNat (Sc.n .i64 (atI a0 i4))), (w64 (i4 + 1))))
        none)
      none)
    (kA out3)
def f_l_toIntS_r0 (a0 : List Sc) : (List Sc × Int) → Option (Ro (List Sc × Int) (List Sc) (Unit)) := fun s => f_l_toIntS_k0 a0 s.1 s.2 (fun s => some (.again s)) (fun e => some (.one e))
def f_l_toIntS_k {R : Type} (a0 : List Sc) (kR : List Sc → Option R) : Option R :=
  br (decide (0 ≤ (a0.length : Int)) && (decide ((a0.length : Int) ≤ (a0.length : Int)) && decide ((a0.length : Int) ≤ (lim : Int))))
    (bl1 (loopL (f_l_toIntS_r0 a0) ((List.replicate (a0.length : Int).toNat (Sc.n .i64 0)), 0)) [] fun e1 =>
    kR e1)
    none
def f_l_toIntS (a0 : List Sc) : Option (List Sc) := f_l_toIntS_k a0 some

def f_s_MultiplicityIn_k0 {R : Type} (l0 : List Sc) (x1 : Int) (n5 : Int) (i6 : Int) (kN : Int × Int → Option R) (kA : Int → Option R) : Option R :=
  br ((decide (i6 < (l0.length : Int))))
    (br (okAt l0 i6)
      (br (((atI l0 i6) == x1))
        (kN ((w64 (n5 + 1)), (w64 (i6 + 1))))
        (kN (n5, (w64 (i6 + 1)))))
      none)
    (kA n5)
def f_s_MultiplicityIn_r0 (l0 : List Sc) (x1 : Int) : (Int × Int) → Option (Ro (Int × Int) (Int) (Unit)) := fun s => f_s_MultiplicityIn_k0 l0 x1 s.1 s.2 (fun s => some (.again s)) (fun e => some (.one e))
def f_s_MultiplicityIn_k {R : Type} (l0 : List Sc) (x1 : Int) (kR : Int → Option R) : Option R :=
  bl1 (loopL (f_s_MultiplicityIn_r0 l0 x1) (0, 0)) 0 fun e1 =>
  kR e1
def f_s_MultiplicityIn (l0 : List Sc) (x1 : Int) : Option (Int) := f_s_MultiplicityIn_k l0 x1 some

def f_i_MultiplicityIn_k0 {R : Type} (x1 : Int) (t8 : List Sc) (t9 : Int) (n5 : Int) (t10 : Int) (kN : Int × Int → Option R) (kA : Int → Option R) : Option R :=
  br ((decide (t10 < t9)))
    (br (okAt t8 t10)
      (br ((x1 == (atI t8 t10)))
        (kN ((w64 (n5 + 1)), (w64 (t10 + 1))))
        (kN (n5, (w64 (t10 + 1)))))
      none)
    (kA n5)
def f_i_MultiplicityIn_r0 (x1 : Int) (t8 : List Sc) (t9 : Int) : (Int × Int) → Option (Ro (Int × Int) (Int) (Unit)) := fun s => f_i_MultiplicityIn_k0 x1 t8 t9 s.1 s.2 (fun s => some (.again s)) (fun e => some (.one e))
def f_i_MultiplicityIn_k {R : Type} (l0 : List Sc) (x1 : Int) (kR : Int → Option R) : Option R :=
  bl1 (loopL (f_i_MultiplicityIn_r0 x1 l0 (l0.length : Int)) (0, 0)) 0 fun e1 =>
  kR e1
def f_i_MultiplicityIn (l0 : List Sc) (x1 : Int) : Option (Int) := f_i_MultiplicityIn_k l0 x1 some

def f_l_eqIntS_k0 {R : Type} (a0 : List Sc) (b1 : List Sc) (i5 : Int) (kN : Int → Option R) (kA : Unit → Option R) (kB : Unit → Option R) : Option R :=
  br ((decide (i5 < (a0.length : Int))))
    (br (okAt a0 i5)
      (br (okAt b1 i5)
        (br (((atI a0 i5) != (atI b1 i5)))
          (kB ())
          (kN (w64 (i5 + 1))))
        none)
      none)
    (kA ())
def f_l_eqIntS_r0 (a0 : List Sc) (b1 : List Sc) : Int → Option (Ro (Int) (Unit) (Unit)) := fun s => f_l_eqIntS_k0 a0 b1 s (fun s => some (.again s)) (fun e => some (.one e)) (fun e => some (.two e))
def f_l_eqIntS_k {R : Type} (a0 : List Sc) (b1 : List Sc) (kR : Bool → Option R) : Option R :=
  br (((a0.length : Int) != (b1.length : Int)))
    (kR false)
    (bl (loopL (f_l_eqIntS_r0 a0 b1) 0) () ()
      (fun e1 =>
        kR true)
      (fun e1 =>
        kR false))
def f_l_eqIntS (a0 : List Sc) (b1 : List Sc) : Option (Bool) := f_l_eqIntS_k a0 b1 some

def f_l_FnExactMultiplicityIn_k {R : Type} (aL0 : List Sc) (aX1 : Int) (kR : Bool → Option R) : Option R :=
  br ((decide ((aL0.length : Int) > 1048576)))
    (kR true)
    (bo (f_l_toIntS aL0) [] fun r1 =>
    bo (f_s_MultiplicityIn r1 aX1) 0 fun r2 =>
    bo (f_l_toIntS aL0) [] fun r3 =>
    bo (f_i_MultiplicityIn r3 aX1) 0 fun r4 =>
    br ((r4 != r2))
      (kR false)
      (bo (f_l_toIntS aL0) [] fun r5 =>
      bo (f_l_eqIntS r3 r5) false fun r6 =>
      br ((!r6))
        (kR false)
        (kR true)))
def f_l_FnExactMultiplicityIn (aL0 : List Sc) (aX1 : Int) : Option (Bool) := f_l_FnExactMultiplicityIn_k aL0 aX1 some

def f_l_szIntS_k {R : Type} (a0 : List Sc) (left1 : Int) (kR : Int → Option R) : Option R :=
  br ((decide ((w64 (left1 - (a0.length : Int))) < 0)))
    (kR (-1))
    (kR (w64 (left1 - (a0.length : Int))))
def f_l_szIntS (a0 : List Sc) (left1 : Int) : Option (Int) := f_l_szIntS_k a0 left1 some

def f_l_szGroup_k {R : Type} (a0 : List Sc) (left1 : Int) (kR : Int → Option R) : Option R :=
  bo (f_l_szIntS a0 left1) 0 fun r1 =>
  br ((decide (r1 < 0)))
    (kR (-1))
    (kR r1)
def f_l_szGroup (a0 : List Sc) (left1 : Int) : Option (Int) := f_l_szGroup_k a0 left1 some

def f_l_toGroup_k {R : Type} (a0 : List Sc) (kR : List Sc → Option R) : Option R :=
  bo (f_l_toIntS a0) [] fun r1 =>
  kR r1
def f_l_toGroup (a0 : List Sc) : Option (List Sc) := f_l_toGroup_k a0 some

def f_s_l1In_k {R : Type} (x0 : Int) (low1 : Int) (high2 : Int) (kR : Bool → Option R) : Option R :=
  br ((decide (x0 ≥ low1)) == true)
    (kR (decide (x0 ≤ high2)))
    (kR false)
def f_s_l1In (x0 : Int) (low1 : Int) (high2 : Int) : Option (Bool) := f_s_l1In_k x0 low1 high2 some

def f_s_IsGroup_k0 {R : Type} (g1 : List Sc) (n3 : Int) (i4 : Int) (kN : Int × Int → Option R) (kA : Int → Option R) (kB : Unit → Option R) : Option R :=
  br ((decide (i4 < (g1.length : Int))))
    (br (okAt g1 i4)
      (bo (f_s_l1In (atI g1 i4) 2 24) false fun r1 =>
      br ((!r1) == false)
        (br ((decide (i4 > 2)))
          (kB ())
          (br (okAt g1 i4)
            (kN ((w64 (n3 * (atI g1 i4))), (w64 (i4 + 1))))
            none))
        (kB ()))
      none)
    (kA n3)
def f_s_IsGroup_r0 (g1 : List Sc) : (Int × Int) → Option (Ro (Int × Int) (Int) (Unit)) := fun s => f_s_IsGroup_k0 g1 s.1 s.2 (fun s => some (.again s)) (fun e => some (.one e)) (fun e => some (.two e))
def f_s_IsGroup_k {R : Type} (g0 : List Sc) (kR : Bool → Option R) : Option R :=
  bl (loopL (f_s_IsGroup_r0 g0) (1, 0)) 0 ()
    (fun e2 =>
      kR (decide (e2 ≤ 24)))
    (fun e2 =>
      kR false)
def f_s_IsGroup (g0 : List Sc) : Option (Bool) := f_s_IsGroup_k g0 some

def f_s_l2Order_k0 {R : Type} (g1 : List Sc) (n3 : Int) (i4 : Int) (kN : Int × Int → Option R) (kA : Int → Option R) : Option R :=
  br ((decide (i4 < (g1.length : Int))))
    (br (okAt g1 i4)
      (kN ((w64 (n3 * (atI g1 i4))), (w64 (i4 + 1))))
      none)
    (kA n3)
def f_s_l2Order_r0 (g1 : List Sc) : (Int × Int) → Option (Ro (Int × Int) (Int) (Unit)) := fun s => f_s_l2Order_k0 g1 s.1 s.2 (fun s => some (.again s)) (fun e => some (.one e))
def f_s_l2Order_k {R : Type} (g0 : List Sc) (kR : Int → Option R) : Option R :=
  bl1 (loopL (f_s_l2Order_r0 g0) (1, 0)) 0 fun e1 =>
  kR e1
def f_s_l2Order (g0 : List Sc) : Option (Int) := f_s_l2Order_k g0 some

def f_s_MiddleThird_k0 {R : Type} (g1 : List Sc) (n3 : Int) (a4 : Int) (x5 : Int) (kN : Int × Int → Option R) (kA : Int → Option R) : Option R :=
  br ((decide (x5 < n3)) == true)
    (br (((g1.length : Int) == 1))
      (br ((decide ((w64 (3 * x5)) > n3)) == true)
        (br ((decide ((w64 (3 * x5)) ≤ (w64 (2 * n3)))))
          (br (decide (x5 < 0))
            none
            (kN ((or64 a4 (shl64 1 x5)), (w64 (x5 + 1)))))
          (kN (a4, (w64 (x5 + 1)))))
        (kN (a4, (w64 (x5 + 1)))))
      (kA a4))
    (kA a4)
def f_s_MiddleThird_r0 (g1 : List Sc) (n3 : Int) : (Int × Int) → Option (Ro (Int × Int) (Int) (Unit)) := fun s => f_s_MiddleThird_k0 g1 n3 s.1 s.2 (fun s => some (.again s)) (fun e => some (.one e))
def f_s_MiddleThird_k {R : Type} (g0 : List Sc) (kR : Int → Option R) : Option R :=
  bo (f_s_IsGroup g0) false fun r1 =>
  br ((!r1))
    (kR (-1))
    (bo (f_s_l2Order g0) 0 fun r2 =>
    bl1 (loopL (f_s_MiddleThird_r0 g0 r2) (0, 0)) 0 fun e3 =>
    kR e3)
def f_s_MiddleThird (g0 : List Sc) : Option (Int) := f_s_MiddleThird_k g0 some

def f_i_within_k {R : Type} (x0 : Int) (lo1 : Int) (hi2 : Int) (kR : Bool → Option R) : Option R :=
  br ((decide (x0 ≥ lo1)) == true)
    (kR (decide (x0 ≤ hi2)))
    (kR false)
def f_i_within (x0 : Int) (lo1 : Int) (hi2 : Int) : Option (Bool) := f_i_within_k x0 lo1 hi2 some

def f_i_IsGroup_k0 {R : Type} (t11 : List Sc) (t12 : Int) (n3 : Int) (t13 : Int) (kN : Int × Int → Option R) (kA : Int → Option R) (kB : Unit → Option R) : Option R :=
  br ((decide (t13 < t12)))
    (br (okAt t11 t13)
      (bo (f_i_within (atI t11 t13) 2 24) false fun r1 =>
      br ((!r1))
        (kB ())
        (kN ((w64 (n3 * (atI t11 t13))), (w64 (t13 + 1)))))
      none)
    (kA n3)
def f_i_IsGroup_r0 (t11 : List Sc) (t12 : Int) : (Int × Int) → Option (Ro (Int × Int) (Int) (Unit)) := fun s => f_i_IsGroup_k0 t11 t12 s.1 s.2 (fun s => some (.again s)) (fun e => some (.one e)) (fun e => some (.two e))
def f_i_IsGroup_k {R : Type} (g0 : List Sc) (kR : Bool → Option R) : Option R :=
  br ((decide ((g0.length : Int) > 3)))
    (kR false)
    (bl (loopL (f_i_IsGroup_r0 g0 (g0.length : Int)) (1, 0)) 0 ()
      (fun e2 =>
        kR (decide (e2 ≤ 24)))
      (fun e2 =>
        kR false))
def f_i_IsGroup (g0 : List Sc) : Option (Bool) := f_i_IsGroup_k g0 some

def f_i_MiddleThird_k0 {R : Type} (n4 : Int) (t17 : Int) (out3 : Int) (t18 : Int) (kN : Int × Int → Option R) (kA : Int → Option R) : Option R :=
  br ((decide (t18 < t17)))
    (br ((decide (n4 < (w64 (3 * t18)))) == true)
      (br ((decide ((w64 (3 * t18)) ≤ (w64 (2 * n4)))))
        (br (decide (t18 < 0))
          none
          (kN ((or64 out3 (shl64 1 t18)), (w64 (t18 + 1)))))
        (kN (out3, (w64 (t18 + 1)))))
      (kN (out3, (w64 (t18 + 1)))))
    (kA out3)
def f_i_MiddleThird_r0 (n4 : Int) (t17 : Int) : (Int × Int) → Option (Ro (Int × Int) (Int) (Unit)) := fun s => f_i_MiddleThird_k0 n4 t17 s.1 s.2 (fun s => some (.again s)) (fun e => some (.one e))
def f_i_MiddleThird_k {R : Type} (g0 : List Sc) (kR : Int → Option R) : Option R :=
  bo (f_i_IsGroup g0) false fun r1 =>
  br ((!r1))
    (kR (-1))
    (br (((g0.length : Int) == 1))
      (br (okAt g0 0)
        (bl1 (loopL (f_i_MiddleThird_r0 (atI g0 0) (atI g0 0)) (0, 0)) 0 fun e2 =>
        kR e2)
        none)
      (kR 0))
def f_i_MiddleThird (g0 : List Sc) : Option (Int) := f_i_MiddleThird_k g0 some

def f_l_eqGroup_k {R : Type} (a0 : List Sc) (b1 : List Sc) (kR : Bool → Option R) : Option R :=
  bo (f_l_eqIntS a0 b1) false fun r1 =>
  br ((!r1))
    (kR false)
    (kR true)
def f_l_eqGroup (a0 : List Sc) (b1 : List Sc) : Option (Bool) := f_l_eqGroup_k a0 b1 some

def f_l_FnExactMiddleThird_k {R : Type} (aG0 : List Sc) (kR : Bool → Option R) : Option R :=
  bo (f_l_szGroup aG0 1048576) 0 fun r1 =>
  br ((decide (r1 < 0)))
    (kR true)
    (bo (f_l_toGroup aG0) [] fun r2 =>
    bo (f_s_MiddleThird r2) 0 fun r3 =>
    bo (f_l_toGroup aG0) [] fun r4 =>
    bo (f_i_MiddleThird r4) 0 fun r5 =>
    br ((r5 != r3))
      (kR false)
      (bo (f_l_toGroup aG0) [] fun r6 =>
      bo (f_l_eqGroup r4 r6) false fun r7 =>
      br ((!r7))
        (kR false)
        (kR true)))
def f_l_FnExactMiddleThird (aG0 : List Sc) : Option (Bool) := f_l_FnExactMiddleThird_k aG0 some

def f_s_l16Part_k0 {R : Type} (l0 : List Sc) (code1 : Int) (out5 : List Sc) (i6 : Int) (kN : List Sc × Int → Option R) (kA : List Sc → Option R) : Option R :=
  br ((decide (i6 < (l0.length : Int))))
    (br (decide (i6 < 0))
      none
      (br (((and64 (shr64 code1 i6) 1) == 1))
        (br (okAt l0 i6)
          (br (decide (out5.length + [(Sc.n .i64 (atI l0 i6))].length ≤ lim))
            (kN ((out5 ++ [(Sc.n .i64 (atI l0 i6))]), (w64 (i6 + 1))))
            none)
          none)
        (kN (out5, (w64 (i6 + 1))))))
    (kA out5)
def f_s_l16Part_r0 (l0 : List Sc) (code1 : Int) : (List Sc × Int) → Option (Ro (List Sc × Int) (List Sc) (Unit)) := fun s => f_s_l16Part_k0 l0 code1 s.1 s.2 (fun s => some (.again s)) (fun e => some (.one e))
def f_s_l16Part_k {R : Type} (l0 : List Sc) (code1 : Int) (kR : List Sc → Option R) : Option R :=
  bl1 (loopL (f_s_l16Part_r0 l0 code1) ([], 0)) [] fun e1 =>
  kR e1
def f_s_l16Part (l0 : List Sc) (code1 : Int) : Option (List Sc) := f_s_l16Part_k l0 code1 some

def f_s_EgzPart_k0 {R : Type} (L0 : List Sc) (t1 : Int) (t6 : Int) (kN : Int → Option R) (kA : Unit → Option R) (kB : List Sc → Option R) : Option R :=
  br ((decide (t6 < (L0.length : Int))))
    (br (okAt L0 t6)
      (bo (f_s_l1In (atI L0 t6) (-1000000) 1000000) false fun r3 =>
      br ((!r3))
        (kB [])
        (kN (w64 (t6 + 1))))
      none)
    (kA ())
def f_s_EgzPart_r0 (L0 : List Sc) (t1 : Int) : Int → Option (Ro (Int) (Unit) (List Sc)) := fun s => f_s_EgzPart_k0 L0 t1 s (fun s => some (.again s)) (fun e => some (.one e)) (fun e => some (.two e))
def f_s_EgzPart_k4 {R : Type} (L0 : List Sc) (t1 : Int) (t7 : Int) (t8 : Int) (t9 : List Sc) (t10 : Int) (kN : Int × List Sc × Int → Option R) (kA : Int × List Sc → Option R) : Option R :=
  br ((decide (t10 < (t9.length : Int))))
    (br (inRange t10 (t9).length)
      (br (kAt t9 t10.toNat)
        (kN ((w64 (t8 + (atN t9 t10.toNat))), t9, (w64 (t10 + 1))))
        none)
      none)
    (kA (t8, t9))
def f_s_EgzPart_r4 (L0 : List Sc) (t1 : Int) (t7 : Int) : (Int × List Sc × Int) → Option (Ro (Int × List Sc × Int) (Int × List Sc) (Unit)) := fun s => f_s_EgzPart_k4 L0 t1 t7 s.1 s.2.1 s.2.2 (fun s => some (.again s)) (fun e => some (.one e))
def f_s_EgzPart_k2 {R : Type} (L0 : List Sc) (t1 : Int) (t7 : Int) (kN : Int → Option R) (kA : Int → Option R) (kB : List Sc → Option R) : Option R :=
  br (decide ((L0.length : Int) < 0))
    none
    (br ((decide (t7 < (shl64 1 (L0.length : Int)))))
      (bo (f_s_l16Part L0 t7) [] fun r5 =>
      bl1 (loopL (f_s_EgzPart_r4 L0 t1 t7) (0, r5, 0)) (0, []) fun e6 =>
      br (((e6.2.length : Int) == t1) == true)
        (br (t1 == 0)
          none
          (br (((e6.1.tmod t1) == 0))
            (kB e6.2)
            (kN (w64 (t7 + 1)))))
        (kN (w64 (t7 + 1))))
      (kA t7))
def f_s_EgzPart_r2 (L0 : List Sc) (t1 : Int) : Int → Option (Ro (Int) (Int) (List Sc)) := fun s => f_s_EgzPart_k2 L0 t1 s (fun s => some (.again s)) (fun e => some (.one e)) (fun e => some (.two e))
def f_s_EgzPart_k {R : Type} (L0 : List Sc) (p1 : Int) (kR : List Sc × Bool → Option R) : Option R :=
  bo (f_s_l1In p1 1 6) false fun r1 =>
  br ((!r1) == false)
    (bo (f_s_l1In (L0.length : Int) (w64 ((w64 (2 * p1)) - 1)) 12) false fun r2 =>
    br ((!r2))
      (kR ([], false))
      (bl (loopL (f_s_EgzPart_r0 L0 p1) 0) () []
        (fun e4 =>
          bl (loopL (f_s_EgzPart_r2 L0 p1) 1) 0 []
            (fun e7 =>
              kR ([], false))
            (fun e7 =>
              kR (e7, true)))
        (fun e4 =>
          kR (e4, false))))
    (kR ([], false))
def f_s_EgzPart (L0 : List Sc) (p1 : Int) : Option (List Sc × Bool) := f_s_EgzPart_k L0 p1 some

def f_i_bits_k0 {R : Type} (a0 : Int) (n3 : Int) (kN : Int × Int → Option R) (kA : Int → Option R) : Option R :=
  br ((a0 != 0))
    (kN ((and64 a0 (w64 (a0 - 1))), (w64 (n3 + 1))))
    (kA n3)
def f_i_bits_r0 : (Int × Int) → Option (Ro (Int × Int) (Int) (Unit)) := fun s => f_i_bits_k0 s.1 s.2 (fun s => some (.again s)) (fun e => some (.one e))
def f_i_bits_k {R : Type} (a0 : Int) (kR : Int → Option R) : Option R :=
  bl1 (loopL (f_i_bits_r0) (a0, 0)) 0 fun e1 =>
  kR e1
def f_i_bits (a0 : Int) : Option (Int) := f_i_bits_k a0 some

def f_i_in_k {R : Type} (a0 : Int) (x1 : Int) (kR : Bool → Option R) : Option R :=
  br (decide (x1 < 0))
    none
    (kR ((and64 (shr64 a0 x1) 1) == 1))
def f_i_in (a0 : Int) (x1 : Int) : Option (Bool) := f_i_in_k a0 x1 some

def f_i_part_k0 {R : Type} (mask1 : Int) (t9 : List Sc) (t10 : Int) (out5 : List Sc) (t11 : Int) (kN : List Sc × Int → Option R) (kA : List Sc → Option R) : Option R :=
  br ((decide (t11 < t10)))
    (br (okAt t9 t11)
      (bo (f_i_in mask1 t11) false fun r1 =>
      br (r1)
        (br (decide (out5.length + [(Sc.n .i64 (atI t9 t11))].length ≤ lim))
          (kN ((out5 ++ [(Sc.n .i64 (atI t9 t11))]), (w64 (t11 + 1))))
          none)
        (kN (out5, (w64 (t11 + 1)))))
      none)
    (kA out5)
def f_i_part_r0 (mask1 : Int) (t9 : List Sc) (t10 : Int) : (List Sc × Int) → Option (Ro (List Sc × Int) (List Sc) (Unit)) := fun s => f_i_part_k0 mask1 t9 t10 s.1 s.2 (fun s => some (.again s)) (fun e => some (.one e))
def f_i_part_k {R : Type} (l0 : List Sc) (mask1 : Int) (kR : List Sc → Option R) : Option R :=
  bl1 (loopL (f_i_part_r0 mask1 l0 (l0.length : Int)) ([], 0)) [] fun e2 =>
  kR e2
def f_i_part (l0 : List Sc) (mask1 : Int) : Option (List Sc) := f_i_part_k l0 mask1 some

def f_i_EgzPart_k0 {R : Type} (L0 : List Sc) (t1 : Int) (t25 : List Sc) (t26 : Int) (t27 : Int) (kN : Int → Option R) (kA : Unit → Option R) (kB : List Sc → Option R) : Option R :=
  br ((decide (t27 < t26)))
    (br (okAt t25 t27)
      (bo (f_i_within (atI t25 t27) (-1000000) 1000000) false fun r3 =>
      br ((!r3))
        (kB [])
        (kN (w64 (t27 + 1))))
      none)
    (kA ())
def f_i_EgzPart_r0 (L0 : List Sc) (t1 : Int) (t25 : List Sc) (t26 : Int) : Int → Option (Ro (Int) (Unit) (List Sc)) := fun s => f_i_EgzPart_k0 L0 t1 t25 t26 s (fun s => some (.again s)) (fun e => some (.one e)) (fun e => some (.two e))
def f_i_EgzPart_k4 {R : Type} (L0 : List Sc) (t1 : Int) (t8 : Int) (t38 : Int) (t39 : Int) (t49 : Int) (t9 : Int) (t48 : List Sc) (t50 : Int) (kN : Int × List Sc × Int → Option R) (kA : Int → Option R) : Option R :=
  br ((decide (t50 < t49)))
    (br (inRange t50 (t48).length)
      (br (kAt t48 t50.toNat)
        (kN ((w64 (t9 + (atN t48 t50.toNat))), t48, (w64 (t50 + 1))))
        none)
      none)
    (kA t9)
def f_i_EgzPart_r4 (L0 : List Sc) (t1 : Int) (t8 : Int) (t38 : Int) (t39 : Int) (t49 : Int) : (Int × List Sc × Int) → Option (Ro (Int × List Sc × Int) (Int) (Unit)) := fun s => f_i_EgzPart_k4 L0 t1 t8 t38 t39 t49 s.1 s.2.1 s.2.2 (fun s => some (.again s)) (fun e => some (.one e))
def f_i_EgzPart_k2 {R : Type} (L0 : List Sc) (t1 : Int) (t38 : Int) (t39 : Int) (kN : Int → Option R) (kA : Int → Option R) (kB : List Sc → Option R) : Option R :=
  br ((decide (t39 < t38)))
    (bo (f_i_bits t39) 0 fun r5 =>
    br ((r5 != t1))
      (kN (w64 (t39 + 1)))
      (bo (f_i_part L0 t39) [] fun r6 =>
      bl1 (loopL (f_i_EgzPart_r4 L0 t1 t39 t38 t39 (r6.length : Int)) (0, r6, 0)) 0 fun e7 =>
      br (t1 == 0)
        none
        (br (((e7.tmod t1) == 0))
          (bo (f_i_part L0 t39) [] fun r8 =>
          kB r8)
          (kN (w64 (t39 + 1))))))
    (kA t39)
def f_i_EgzPart_r2 (L0 : List Sc) (t1 : Int) (t38 : Int) : Int → Option (Ro (Int) (Int) (List Sc)) := fun s => f_i_EgzPart_k2 L0 t1 t38 s (fun s => some (.again s)) (fun e => some (.one e)) (fun e => some (.two e))
def f_i_EgzPart_k {R : Type} (L0 : List Sc) (p1 : Int) (kR : List Sc × Bool → Option R) : Option R :=
  bo (f_i_within p1 1 6) false fun r1 =>
  br ((!r1) == false)
    (bo (f_i_within (L0.length : Int) (w64 ((w64 (2 * p1)) - 1)) 12) false fun r2 =>
    br ((!r2))
      (kR ([], false))
      (bl (loopL (f_i_EgzPart_r0 L0 p1 L0 (L0.length : Int)) 0) () []
        (fun e4 =>
          br (decide ((L0.length : Int) < 0))
            none
            (bl (loopL (f_i_EgzPart_r2 L0 p1 (shl64 1 (L0.length : Int))) 0) 0 []
              (fun e9 =>
                kR ([], false))
              (fun e9 =>
                kR (e9, true))))
        (fun e4 =>
          kR (e4, false))))
    (kR ([], false))
def f_i_EgzPart (L0 : List Sc) (p1 : Int) : Option (List Sc × Bool) := f_i_EgzPart_k L0 p1 some

def f_l_markIntS_io_k0 {R : Type} (v0 : List Sc) (k1 : Int) (i5 : Int) (kN : List Sc × Int × Int → Option R) (kA : List Sc × Int → Option R) : Option R :=
  br ((decide (i5 < (v0.length : Int))))
    (br (inRange i5 (v0).length)
      (kN ((v0.set i5.toNat (Sc.n .i64 k1)), (w64 (k1 + 1)), (w64 (i5 + 1))))
      none)
    (kA (v0, k1))
def f_l_markIntS_io_r0 : (List Sc × Int × Int) → Option (Ro (List Sc × Int × Int) (List Sc × Int) (Unit)) := fun s => f_l_markIntS_io_k0 s.1 s.2.1 s.2.2 (fun s => some (.again s)) (fun e => some (.one e))
def f_l_markIntS_io_k {R : Type} (k1 : Int) (h0 : List Sc) (kR : Int × List Sc → Option R) : Option R :=
  bl1 (loopL (f_l_markIntS_io_r0) (h0, k1, 0)) ([], 0) fun e1 =>
  kR (e1.2, e1.1)
def f_l_markIntS_io (k1 : Int) (h0 : List Sc) : Option (Int × List Sc) := f_l_markIntS_io_k k1 h0 some

def f_l_heldIntS_k0 {R : Type} (a0 : List Sc) (k1 : Int) (i5 : Int) (kN : Int × Int → Option R) (kA : Int → Option R) (kB : Unit → Option R) : Option R :=
  br ((decide (i5 < (a0.length : Int))))
    (br (okAt a0 i5)
      (br (((atI a0 i5) != k1))
        (kB ())
        (kN ((w64 (k1 + 1)), (w64 (i5 + 1)))))
      none)
    (kA k1)
def f_l_heldIntS_r0 (a0 : List Sc) : (Int × Int) → Option (Ro (Int × Int) (Int) (Unit)) := fun s => f_l_heldIntS_k0 a0 s.1 s.2 (fun s => some (.again s)) (fun e => some (.one e)) (fun e => some (.two e))
def f_l_heldIntS_k {R : Type} (a0 : List Sc) (k1 : Int) (kR : Int → Option R) : Option R :=
  bl (loopL (f_l_heldIntS_r0 a0) (k1, 0)) 0 ()
    (fun e1 =>
      kR e1)
    (fun e1 =>
      kR (-1))
def f_l_heldIntS (a0 : List Sc) (k1 : Int) : Option (Int) := f_l_heldIntS_k a0 k1 some

def f_l_FnExactEgzPart_k {R : Type} (L0 : List Sc) (p1 : Int) (kR : Bool → Option R) : Option R :=
  br ((decide ((L0.length : Int) > 1048576)))
    (kR true)
    (bo (f_l_toIntS L0) [] fun r1 =>
    bo (f_s_EgzPart r1 p1) ([], false) fun r2 =>
    bo (f_l_toIntS L0) [] fun r3 =>
    bo (f_i_EgzPart r3 p1) ([], false) fun r4 =>
    bo (f_l_eqIntS r4.1 r2.1) false fun r5 =>
    br ((!r5) == false)
      (br ((!(r4.2 == r2.2)))
        (kR false)
        (bo (f_l_toIntS L0) [] fun r6 =>
        bo (f_l_eqIntS r3 r6) false fun r7 =>
        br ((!r7))
          (kR false)
          (bo (f_l_markIntS_io 1 r3) (0, []) fun r8 =>
          br ((decide (r8.1 < 0)) == false)
            (bo (f_l_eqIntS r4.1 r2.1) false fun r9 =>
            br ((!r9) == false)
              (br ((!(r4.2 == r2.2)))
                (kR false)
                (bo (f_l_markIntS_io 1 r4.1) (0, []) fun r10 =>
                bo (f_l_heldIntS r10.2 1) 0 fun r11 =>
                br ((decide (r11 < 0)))
                  (kR false)
                  (br ((r11 != r10.1))
                    (kR false)
                    (bo (f_l_toIntS L0) [] fun r12 =>
                    bo (f_i_EgzPart r12 p1) ([], false) fun r13 =>
                    bo (f_l_eqIntS r13.1 r2.1) false fun r14 =>
                    br ((!r14) == false)
                      (br ((!(r13.2 == r2.2)))
                        (kR false)
                        (bo (f_l_heldIntS r10.2 1) 0 fun r15 =>
                        br ((decide (r15 < 0)))
                          (kR false)
                          (br ((r15 != r10.1))
                            (kR false)
                            (kR true))))
                      (kR false)))))
              (kR false))
            (kR false))))
      (kR false))
def f_l_FnExactEgzPart (L0 : List Sc) (p1 : Int) : Option (Bool) := f_l_FnExactEgzPart_k L0 p1 some

def f_s_OrderOf_k {R : Type} (g0 : List Sc) (kR : Int → Option R) : Option R :=
  bo (f_s_IsGroup g0) false fun r1 =>
  br ((!r1))
    (kR 0)
    (bo (f_s_l2Order g0) 0 fun r2 =>
    kR r2)
def f_s_OrderOf (g0 : List Sc) : Option (Int) := f_s_OrderOf_k g0 some

def f_s_l2Is_k {R : Type} (g0 : List Sc) (x1 : Int) (kR : Bool → Option R) : Option R :=
  br ((decide (x1 ≥ 0)) == true)
    (bo (f_s_OrderOf g0) 0 fun r1 =>
    kR (decide (x1 < r1)))
    (kR false)
def f_s_l2Is (g0 : List Sc) (x1 : Int) : Option (Bool) := f_s_l2Is_k g0 x1 some

def f_s_ImageOfMap_k0 {R : Type} (m1 : List Sc) (h2 : List Sc) (out6 : Int) (i7 : Int) (kN : Int × Int → Option R) (kA : Int → Option R) (kB : Unit → Option R) : Option R :=
  br ((decide (i7 < (m1.length : Int))))
    (br (okAt m1 i7)
      (bo (f_s_l2Is h2 (atI m1 i7)) false fun r1 =>
      br ((!r1))
        (kB ())
        (br (okAt m1 i7)
          (br (decide ((atI m1 i7) < 0))
            none
            (kN ((or64 out6 (shl64 1 (atI m1 i7))), (w64 (i7 + 1)))))
          none))
      none)
    (kA out6)
def f_s_ImageOfMap_r0 (m1 : List Sc) (h2 : List Sc) : (Int × Int) → Option (Ro (Int × Int) (Int) (Unit)) := fun s => f_s_ImageOfMap_k0 m1 h2 s.1 s.2 (fun s => some (.again s)) (fun e => some (.one e)) (fun e => some (.two e))
def f_s_ImageOfMap_k {R : Type} (h0 : List Sc) (m1 : List Sc) (kR : Int × Bool → Option R) : Option R :=
  bl (loopL (f_s_ImageOfMap_r0 m1 h0) (0, 0)) 0 ()
    (fun e2 =>
      bo (f_s_IsGroup h0) false fun r3 =>
      kR (e2, r3))
    (fun e2 =>
      kR (0, false))
def f_s_ImageOfMap (h0 : List Sc) (m1 : List Sc) : Option (Int × Bool) := f_s_ImageOfMap_k h0 m1 some

def f_i_OrderOf_k0 {R : Type} (t10 : List Sc) (t11 : Int) (n3 : Int) (t12 : Int) (kN : Int × Int → Option R) (kA : Int → Option R) : Option R :=
  br ((decide (t12 < t11)))
    (br (okAt t10 t12)
      (kN ((w64 (n3 * (atI t10 t12))), (w64 (t12 + 1))))
      none)
    (kA n3)
def f_i_OrderOf_r0 (t10 : List Sc) (t11 : Int) : (Int × Int) → Option (Ro (Int × Int) (Int) (Unit)) := fun s => f_i_OrderOf_k0 t10 t11 s.1 s.2 (fun s => some (.again s)) (fun e => some (.one e))
def f_i_OrderOf_k {R : Type} (g0 : List Sc) (kR : Int → Option R) : Option R :=
  bo (f_i_IsGroup g0) false fun r1 =>
  br ((!r1))
    (kR 0)
    (bl1 (loopL (f_i_OrderOf_r0 g0 (g0.length : Int)) (1, 0)) 0 fun e2 =>
    kR e2)
def f_i_OrderOf (g0 : List Sc) : Option (Int) := f_i_OrderOf_k g0 some

def f_i_Group_has_k {R : Type} (g0 : List Sc) (x1 : Int) (kR : Bool → Option R) : Option R :=
  bo (f_i_OrderOf g0) 0 fun r1 =>
  bo (f_i_within x1 0 (w64 (r1 - 1))) false fun r2 =>
  kR r2
def f_i_Group_has (g0 : List Sc) (x1 : Int) : Option (Bool) := f_i_Group_has_k g0 x1 some

def f_i_ImageOfMap_k0 {R : Type} (h2 : List Sc) (t9 : List Sc) (t10 : Int) (a6 : Int) (t11 : Int) (kN : Int × Int → Option R) (kA : Int → Option R) (kB : Unit → Option R) : Option R :=
  br ((decide (t11 < t10)))
    (br (okAt t9 t11)
      (bo (f_i_Group_has h2 (atI t9 t11)) false fun r1 =>
      br ((!r1))
        (kB ())
        (br (decide ((atI t9 t11) < 0))
          none
          (kN ((or64 a6 (shl64 1 (atI t9 t11))), (w64 (t11 + 1))))))
      none)
    (kA a6)
def f_i_ImageOfMap_r0 (h2 : List Sc) (t9 : List Sc) (t10 : Int) : (Int × Int) → Option (Ro (Int × Int) (Int) (Unit)) := fun s => f_i_ImageOfMap_k0 h2 t9 t10 s.1 s.2 (fun s => some (.again s)) (fun e => some (.one e)) (fun e => some (.two e))
def f_i_ImageOfMap_k {R : Type} (h0 : List Sc) (m1 : List Sc) (kR : Int × Bool → Option R) : Option R :=
  bl (loopL (f_i_ImageOfMap_r0 h0 m1 (m1.length : Int)) (0, 0)) 0 ()
    (fun e2 =>
      bo (f_i_IsGroup h0) false fun r3 =>
      kR (e2, r3))
    (fun e2 =>
      kR (0, false))
def f_i_ImageOfMap (h0 : List Sc) (m1 : List Sc) : Option (Int × Bool) := f_i_ImageOfMap_k h0 m1 some

def f_l_FnExactImageOfMap_k {R : Type} (aH0 : List Sc) (aM1 : List Sc) (kR : Bool → Option R) : Option R :=
  br ((decide ((aM1.length : Int) > 1048576)))
    (kR true)
    (bo (f_l_szGroup aH0 1048576) 0 fun r1 =>
    br ((decide (r1 < 0)))
      (kR true)
      (bo (f_l_toGroup aH0) [] fun r2 =>
      bo (f_l_toIntS aM1) [] fun r3 =>
      bo (f_s_ImageOfMap r2 r3) (0, false) fun r4 =>
      bo (f_l_toGroup aH0) [] fun r5 =>
      bo (f_l_toIntS aM1) [] fun r6 =>
      bo (f_i_ImageOfMap r5 r6) (0, false) fun r7 =>
      br ((r7.1 != r4.1) == false)
        (br ((!(r7.2 == r4.2)))
          (kR false)
          (bo (f_l_toGroup aH0) [] fun r8 =>
          bo (f_l_eqGroup r5 r8) false fun r9 =>
          br ((!r9))
            (kR false)
            (bo (f_l_toIntS aM1) [] fun r10 =>
            bo (f_l_eqIntS r6 r10) false fun r11 =>
            br ((!r11))
              (kR false)
              (kR true))))
        (kR false)))
def f_l_FnExactImageOfMap (aH0 : List Sc) (aM1 : List Sc) : Option (Bool) := f_l_FnExactImageOfMap_k aH0 aM1 some

def f_s_l11Divisor_k0 {R : Type} (x0 : Int) (y1 : Int) (kN : Int × Int → Option R) (kA : Int → Option R) : Option R :=
  br ((decide (y1 > 0)))
    (br (y1 == 0)
      none
      (kN (y1, (x0.tmod y1))))
    (kA x0)
def f_s_l11Divisor_r0 : (Int × Int) → Option (Ro (Int × Int) (Int) (Unit)) := fun s => f_s_l11Divisor_k0 s.1 s.2 (fun s => some (.again s)) (fun e => some (.one e))
def f_s_l11Divisor_k {R : Type} (x0 : Int) (y1 : Int) (kR : Int → Option R) : Option R :=
  bl1 (loopL (f_s_l11Divisor_r0) (x0, y1)) 0 fun e1 =>
  kR e1
def f_s_l11Divisor (x0 : Int) (y1 : Int) : Option (Int) := f_s_l11Divisor_k x0 y1 some

def f_s_DavenportBound_k2 {R : Type} (t4 : Int) (t3 : List Sc) (t5 : Int) (kN : List Sc × Int → Option R) (kA : List Sc → Option R) : Option R :=
  br ((decide (t5 < (t3.length : Int))))
    (br (inRange t4 (t3).length)
      (br (kAt t3 t4.toNat)
        (br (inRange t5 (t3).length)
          (br (kAt t3 t5.toNat)
            (bo (f_s_l11Divisor (atN t3 t4.toNat) (atN t3 t5.toNat)) 0 fun r2 =>
            br (inRange t4 (t3).length)
              (br (kAt t3 t4.toNat)
                (br (r2 == 0)
                  none
                  (br (inRange t5 (t3).length)
                    (br (kAt t3 t5.toNat)
                      (br (inRange t4 (t3).length)
                        (br (inRange t5 ((t3.set t4.toNat (Sc.n .i64 r2))).length)
                          (kN (((t3.set t4.toNat (Sc.n .i64 r2)).set t5.toNat (Sc.n .i64 (w64 ((w64 ((atN t3 t4.toNat).tdiv r2)) * (atN t3 t5.toNat))))), (w64 (t5 + 1))))
                          none)
                        none)
                      none)
                    none))
                none)
              none)
            none)
          none)
        none)
      none)
    (kA t3)
def f_s_DavenportBound_r2 (t4 : Int) : (List Sc × Int) → Option (Ro (List Sc × Int) (List Sc) (Unit)) := fun s => f_s_DavenportBound_k2 t4 s.1 s.2 (fun s => some (.again s)) (fun e => some (.one e))
def f_s_DavenportBound_k0 {R : Type} (t3 : List Sc) (t4 : Int) (kN : List Sc × Int → Option R) (kA : List Sc × Int → Option R) : Option R :=
  br ((decide (t4 < (t3.length : Int))))
    (bl1 (loopL (f_s_DavenportBound_r2 t4) (t3, (w64 (t4 + 1)))) [] fun e3 =>
    kN (e3, (w64 (t4 + 1))))
    (kA (t3, t4))
def f_s_DavenportBound_r0 : (List Sc × Int) → Option (Ro (List Sc × Int) (List Sc × Int) (Unit)) := fun s => f_s_DavenportBound_k0 s.1 s.2 (fun s => some (.again s)) (fun e => some (.one e))
def f_s_DavenportBound_k4 {R : Type} (t3 : List Sc) (t8 : Int) (t9 : Int) (kN : List Sc × Int × Int → Option R) (kA : Int → Option R) : Option R :=
  br ((decide (t9 < (t3.length : Int))))
    (br (inRange t9 (t3).length)
      (br (kAt t3 t9.toNat)
        (kN (t3, (w64 ((w64 (t8 + (atN t3 t9.toNat))) - 1)), (w64 (t9 + 1))))
        none)
      none)
    (kA t8)
def f_s_DavenportBound_r4 : (List Sc × Int × Int) → Option (Ro (List Sc × Int × Int) (Int) (Unit)) := fun s => f_s_DavenportBound_k4 s.1 s.2.1 s.2.2 (fun s => some (.again s)) (fun e => some (.one e))
def f_s_DavenportBound_k {R : Type} (L0 : List Sc) (kR : Int → Option R) : Option R :=
  bo (f_s_IsGroup L0) false fun r1 =>
  br ((!r1))
    (kR (-1))
    (br (decide (([] : List Sc).length + L0.length ≤ lim))
      (bl1 (loopL (f_s_DavenportBound_r0) (([] ++ L0), 0)) ([], 0) fun e4 =>
      bl1 (loopL (f_s_DavenportBound_r4) (e4.1, 1, 0)) 0 fun e5 =>
      kR e5)
      none)
def f_s_DavenportBound (L0 : List Sc) : Option (Int) := f_s_DavenportBound_k L0 some

def f_i_copyInts_k {R : Type} (l0 : List Sc) (kR : List Sc → Option R) : Option R :=
  br (decide (([] : List Sc).length + l0.length ≤ lim))
    (kR ([] ++ l0))
    none
def f_i_copyInts (l0 : List Sc) : Option (List Sc) := f_i_copyInts_k l0 some

def f_i_gcd_k0 {R : Type} (a0 : Int) (b1 : Int) (kN : Int × Int → Option R) (kA : Int → Option R) : Option R :=
  br ((b1 != 0))
    (br (b1 == 0)
      none
      (kN (b1, (a0.tmod b1))))
    (kA a0)
def f_i_gcd_r0 : (Int × Int) → Option (Ro (Int × Int) (Int) (Unit)) := fun s => f_i_gcd_k0 s.1 s.2 (fun s => some (.again s)) (fun e => some (.one e))
def f_i_gcd_k {R : Type} (a0 : Int) (b1 : Int) (kR : Int → Option R) : Option R :=
  bl1 (loopL (f_i_gcd_r0) (a0, b1)) 0 fun e1 =>
  kR e1
def f_i_gcd (a0 : Int) (b1 : Int) : Option (Int) := f_i_gcd_k a0 b1 some

def f_i_DavenportBound_k2 {R : Type} (t4 : Int) (t17 : Int) (t18 : Int) (t3 : List Sc) (t5 : Int) (kN : List Sc × Int → Option R) (kA : List Sc → Option R) : Option R :=
  br ((decide (t5 < (t3.length : Int))))
    (br (inRange t4 (t3).length)
      (br (kAt t3 t4.toNat)
        (br (inRange t5 (t3).length)
          (br (kAt t3 t5.toNat)
            (bo (f_i_gcd (atN t3 t4.toNat) (atN t3 t5.toNat)) 0 fun r3 =>
            br (inRange t4 (t3).length)
              (br (kAt t3 t4.toNat)
                (br (r3 == 0)
                  none
                  (br (inRange t5 (t3).length)
                    (br (kAt t3 t5.toNat)
                      (br (inRange t4 (t3).length)
                        (br (inRange t5 ((t3.set t4.toNat (Sc.n .i64 (w64 ((w64 ((atN t3 t4.toNat).tdiv r3)) * (atN t3 t5.toNat)))))).length)
                          (kN (((t3.set t4.toNat (Sc.n .i64 (w64 ((w64 ((atN t3 t4.toNat).tdiv r3)) * (atN t3 t5.toNat))))).set t5.toNat (Sc.n .i64 r3)), (w64 (t5 + 1))))
                          none)
                        none)
                      none)
                    none))
                none)
              none)
            none)
          none)
        none)
      none)
    (kA t3)
def f_i_DavenportBound_r2 (t4 : Int) (t17 : Int) (t18 : Int) : (List Sc × Int) → Option (Ro (List Sc × Int) (List Sc) (Unit)) := fun s => f_i_DavenportBound_k2 t4 t17 t18 s.1 s.2 (fun s => some (.again s)) (fun e => some (.one e))
def f_i_DavenportBound_k0 {R : Type} (t17 : Int) (t3 : List Sc) (t18 : Int) (kN : List Sc × Int → Option R) (kA : List Sc × Int → Option R) : Option R :=
  br ((decide (t18 < t17)))
    (bl1 (loopL (f_i_DavenportBound_r2 t18 t17 t18) (t3, (w64 (t18 + 1)))) [] fun e4 =>
    kN (e4, (w64 (t18 + 1))))
    (kA (t3, t18))
def f_i_DavenportBound_r0 (t17 : Int) : (List Sc × Int) → Option (Ro (List Sc × Int) (List Sc × Int) (Unit)) := fun s => f_i_DavenportBound_k0 t17 s.1 s.2 (fun s => some (.again s)) (fun e => some (.one e))
def f_i_DavenportBound_k4 {R : Type} (t58 : Int) (t3 : List Sc) (t7 : Int) (t59 : Int) (kN : List Sc × Int × Int → Option R) (kA : List Sc × Int → Option R) : Option R :=
  br ((decide (t59 < t58)))
    (br (inRange t59 (t3).length)
      (br (kAt t3 t59.toNat)
        (kN (t3, (w64 ((w64 (t7 + (atN t3 t59.toNat))) - 1)), (w64 (t59 + 1))))
        none)
      none)
    (kA (t3, t7))
def f_i_DavenportBound_r4 (t58 : Int) : (List Sc × Int × Int) → Option (Ro (List Sc × Int × Int) (List Sc × Int) (Unit)) := fun s => f_i_DavenportBound_k4 t58 s.1 s.2.1 s.2.2 (fun s => some (.again s)) (fun e => some (.one e))
def f_i_DavenportBound_k {R : Type} (L0 : List Sc) (kR : Int → Option R) : Option R :=
  bo (f_i_IsGroup L0) false fun r1 =>
  br ((!r1))
    (kR (-1))
    (bo (f_i_copyInts L0) [] fun r2 =>
    bl1 (loopL (f_i_DavenportBound_r0 (r2.length : Int)) (r2, 0)) ([], 0) fun e5 =>
    bl1 (loopL (f_i_DavenportBound_r4 (e5.1.length : Int)) (e5.1, 1, 0)) ([], 0) fun e6 =>
    kR e6.2)
def f_i_DavenportBound (L0 : List Sc) : Option (Int) := f_i_DavenportBound_k L0 some

def f_l_FnExactDavenportBound_k {R : Type} (aG0 : List Sc) (kR : Bool → Option R) : Option R :=
  bo (f_l_szGroup aG0 1048576) 0 fun r1 =>
  br ((decide (r1 < 0)))
    (kR true)
    (bo (f_l_toGroup aG0) [] fun r2 =>
    bo (f_s_DavenportBound r2) 0 fun r3 =>
    bo (f_l_toGroup aG0) [] fun r4 =>
    bo (f_i_DavenportBound r4) 0 fun r5 =>
    br ((r5 != r3))
      (kR false)
      (bo (f_l_toGroup aG0) [] fun r6 =>
      bo (f_l_eqGroup r4 r6) false fun r7 =>
      br ((!r7))
        (kR false)
        (kR true)))
def f_l_FnExactDavenportBound (aG0 : List Sc) : Option (Bool) := f_l_FnExactDavenportBound_k aG0 some

def f_s_IsSequence_k0 {R : Type} (l1 : List Sc) (g2 : List Sc) (i5 : Int) (kN : Int → Option R) (kA : Unit → Option R) (kB : Unit → Option R) : Option R :=
  br ((decide (i5 < (l1.length : Int))))
    (br (okAt l1 i5)
      (bo (f_s_l2Is g2 (atI l1 i5)) false fun r1 =>
      br ((!r1) == false)
        (br ((decide (i5 > 0)) == true)
          (br (okAt l1 i5)
            (br (okAt l1 (w64 (i5 - 1)))
              (br ((decide ((atI l1 i5) < (atI l1 (w64 (i5 - 1))))))
                (kB ())
                (kN (w64 (i5 + 1))))
              none)
            none)
          (kN (w64 (i5 + 1))))
        (kB ()))
      none)
    (kA ())
def f_s_IsSequence_r0 (l1 : List Sc) (g2 : List Sc) : Int → Option (Ro (Int) (Unit) (Unit)) := fun s => f_s_IsSequence_k0 l1 g2 s (fun s => some (.again s)) (fun e => some (.one e)) (fun e => some (.two e))
def f_s_IsSequence_k {R : Type} (g0 : List Sc) (l1 : List Sc) (kR : Bool → Option R) : Option R :=
  bl (loopL (f_s_IsSequence_r0 l1 g0) 0) () ()
    (fun e2 =>
      bo (f_s_IsGroup g0) false fun r3 =>
      br (r3 == true)
        (kR (decide ((l1.length : Int) ≤ 12)))
        (kR false))
    (fun e2 =>
      kR false)
def f_s_IsSequence (g0 : List Sc) (l1 : List Sc) : Option (Bool) := f_s_IsSequence_k g0 l1 some

def f_cmp_isNaN_k {R : Type} (x0 : Int) (kR : Bool → Option R) : Option R :=
  kR (x0 != x0)
def f_cmp_isNaN (x0 : Int) : Option (Bool) := f_cmp_isNaN_k x0 some

def f_cmp_Less_k {R : Type} (x0 : Int) (y1 : Int) (kR : Bool → Option R) : Option R :=
  bo (f_cmp_isNaN x0) false fun r1 =>
  br (r1 == true)
    (bo (f_cmp_isNaN y1) false fun r2 =>
    br ((!r2) == false)
      (kR (decide (x0 < y1)))
      (kR true))
    (kR (decide (x0 < y1)))
def f_cmp_Less (x0 : Int) (y1 : Int) : Option (Bool) := f_cmp_Less_k x0 y1 some

def f_slices_IsSorted_k0 {R : Type} (x0 : List Sc) (i3 : Int) (kN : Int → Option R) (kA : Unit → Option R) (kB : Unit → Option R) : Option R :=
  br ((decide (i3 > 0)))
    (br (okAt x0 i3)
      (br (okAt x0 (w64 (i3 - 1)))
        (bo (f_cmp_Less (atI x0 i3) (atI x0 (w64 (i3 - 1)))) false fun r1 =>
        br (r1)
          (kB ())
          (kN (w64 (i3 - 1))))
        none)
      none)
    (kA ())
def f_slices_IsSorted_r0 (x0 : List Sc) : Int → Option (Ro (Int) (Unit) (Unit)) := fun s => f_slices_IsSorted_k0 x0 s (fun s => some (.again s)) (fun e => some (.one e)) (fun e => some (.two e))
def f_slices_IsSorted_k {R : Type} (x0 : List Sc) (kR : Bool → Option R) : Option R :=
  bl (loopL (f_slices_IsSorted_r0 x0) (w64 ((x0.length : Int) - 1))) () ()
    (fun e2 =>
      kR true)
    (fun e2 =>
      kR false)
def f_slices_IsSorted (x0 : List Sc) : Option (Bool) := f_slices_IsSorted_k x0 some

def f_i_IsSequence_k0 {R : Type} (l1 : List Sc) (g2 : List Sc) (t7 : List Sc) (t8 : Int) (t9 : Int) (kN : Int → Option R) (kA : Unit → Option R) (kB : Unit → Option R) : Option R :=
  br ((decide (t9 < t8)))
    (br (okAt t7 t9)
      (bo (f_i_Group_has g2 (atI t7 t9)) false fun r1 =>
      br ((!r1))
        (kB ())
        (kN (w64 (t9 + 1))))
      none)
    (kA ())
def f_i_IsSequence_r0 (l1 : List Sc) (g2 : List Sc) (t7 : List Sc) (t8 : Int) : Int → Option (Ro (Int) (Unit) (Unit)) := fun s => f_i_IsSequence_k0 l1 g2 t7 t8 s (fun s => some (.again s)) (fun e => some (.one e)) (fun e => some (.two e))
def f_i_IsSequence_k {R : Type} (g0 : List Sc) (l1 : List Sc) (kR : Bool → Option R) : Option R :=
  bl (loopL (f_i_IsSequence_r0 l1 g0 l1 (l1.length : Int)) 0) () ()
    (fun e2 =>
      bo (f_i_IsGroup g0) false fun r3 =>
      br (r3 == true)
        (br ((decide ((l1.length : Int) ≤ 12)) == true)
          (bo (f_slices_IsSorted l1) false fun r4 =>
          kR r4)
          (kR false))
        (kR false))
    (fun e2 =>
      kR false)
def f_i_IsSequence (g0 : List Sc) (l1 : List Sc) : Option (Bool) := f_i_IsSequence_k g0 l1 some

def f_l_FnExactIsSequence_k {R : Type} (aG0 : List Sc) (aL1 : List Sc) (kR : Bool → Option R) : Option R :=
  br ((decide ((aL1.length : Int) > 1048576)))
    (kR true)
    (bo (f_l_szGroup aG0 1048576) 0 fun r1 =>
    br ((decide (r1 < 0)))
      (kR true)
      (bo (f_l_toGroup aG0) [] fun r2 =>
      bo (f_l_toIntS aL1) [] fun r3 =>
      bo (f_s_IsSequence r2 r3) false fun r4 =>
      bo (f_l_toGroup aG0) [] fun r5 =>
      bo (f_l_toIntS aL1) [] fun r6 =>
      bo (f_i_IsSequence r5 r6) false fun r7 =>
      br ((!(r7 == r4)))
        (kR false)
        (bo (f_l_toGroup aG0) [] fun r8 =>
        bo (f_l_eqGroup r5 r8) false fun r9 =>
        br ((!r9))
          (kR false)
          (bo (f_l_toIntS aL1) [] fun r10 =>
          bo (f_l_eqIntS r6 r10) false fun r11 =>
          br ((!r11))
            (kR false)
            (kR true)))))
def f_l_FnExactIsSequence (aG0 : List Sc) (aL1 : List Sc) : Option (Bool) := f_l_FnExactIsSequence_k aG0 aL1 some
end
end Go.Proofs.Ytppgjmdncffecaa
