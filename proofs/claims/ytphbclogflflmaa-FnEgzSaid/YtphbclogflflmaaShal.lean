/-
  What the functions compute, as plain functions (printed by gen2.py).
-/
import Derived.Test.YtphbclogflflmaaVGen
set_option linter.unusedVariables false
namespace Go.Proofs.Ytphbclogflflmaa
open Go Ev
noncomputable section
def f_l_big_k {R : Type} (code0 : List Sc) (kR : Bool → Option R) : Option R :=
  kR (decide ((code0.length : Int) > 1048576))
def f_l_big (code0 : List Sc) : Option (Bool) := f_l_big_k code0 some

def f_s_l1New_k0 {R : Type} (code0 : List Sc) (h3 : Int) (i4 : Int) (kN : Int × Int → Option R) (kA : Int → Option R) : Option R :=
  br ((decide (i4 < (code0.length : Int))) == true)
    (br ((decide (i4 < 4000)))
      (br (okZ (.n .u8 0) code0 i4)
        (kN ((and64 (w64 ((w64 ((w64 (h3 * 131)) + (w64 (sAt code0 .u8 i4)))) + 7)) 1073741823), (w64 (i4 + 1))))
        none)
      (kA h3))
    (kA h3)
def f_s_l1New_r0 (code0 : List Sc) : (Int × Int) → Option (Ro (Int × Int) (Int) (Unit)) := fun s => f_s_l1New_k0 code0 s.1 s.2 (fun s => some (.again s)) (fun e => some (.one e))
def f_s_l1New_k {R : Type} (code0 : List Sc) (kR : List Sc × Int × Int → Option R) : Option R :=
  bl1 (loopL (f_s_l1New_r0 code0) ((w64 (10101 + (code0.length : Int))), 0)) 0 fun e1 =>
  kR (code0, 0, e1)
def f_s_l1New (code0 : List Sc) : Option (List Sc × Int × Int) := f_s_l1New_k code0 some

def f_s_l1Byte_io_k {R : Type} (h0 : List Sc) (h1 : Int) (h2 : Int) (kR : Int × List Sc × Int × Int → Option R) : Option R :=
  br ((decide (h1 < (h0.length : Int))))
    (br (okZ (.n .u8 0) h0 h1)
      (kR ((and64 (w64 ((and64 (xor64 (shr64 (w64 ((w64 (h2 * 6364136223846793005)) + 1442695040888963407)) 33) (shr64 (w64 ((w64 (h2 * 6364136223846793005)) + 1442695040888963407)) 45)) 255) + (w64 (sAt h0 .u8 h1)))) 255), h0, (w64 (h1 + 1)), (w64 ((w64 (h2 * 6364136223846793005)) + 1442695040888963407))))
      none)
    (kR ((and64 (xor64 (shr64 (w64 ((w64 (h2 * 6364136223846793005)) + 1442695040888963407)) 33) (shr64 (w64 ((w64 (h2 * 6364136223846793005)) + 1442695040888963407)) 45)) 255), h0, h1, (w64 ((w64 (h2 * 6364136223846793005)) + 1442695040888963407))))
def f_s_l1Byte_io (h0 : List Sc) (h1 : Int) (h2 : Int) : Option (Int × List Sc × Int × Int) := f_s_l1Byte_io_k h0 h1 h2 some

def f_s_l1Below_io_k {R : Type} (n1 : Int) (h0 : List Sc) (h1 : Int) (h2 : Int) (kR : Int × List Sc × Int × Int → Option R) : Option R :=
  br ((decide (n1 ≤ 0)))
    (kR (0, h0, h1, h2))
    (br ((decide (n1 ≤ 256)))
      (bo (f_s_l1Byte_io h0 h1 h2) (0, [], 0, 0) fun r1 =>
      br (n1 == 0)
        none
        (kR ((r1.1.tmod n1), r1.2.1, r1.2.2.1, r1.2.2.2)))
      (bo (f_s_l1Byte_io h0 h1 h2) (0, [], 0, 0) fun r2 =>
      bo (f_s_l1Byte_io r2.2.1 r2.2.2.1 r2.2.2.2) (0, [], 0, 0) fun r3 =>
      bo (f_s_l1Byte_io r3.2.1 r3.2.2.1 r3.2.2.2) (0, [], 0, 0) fun r4 =>
      bo (f_s_l1Byte_io r4.2.1 r4.2.2.1 r4.2.2.2) (0, [], 0, 0) fun r5 =>
      br (n1 == 0)
        none
        (kR (((w64 ((w64 ((w64 ((w64 (r2.1 * 16777216)) + (w64 (r3.1 * 65536)))) + (w64 (r4.1 * 256)))) + r5.1)).tmod n1), r5.2.1, r5.2.2.1, r5.2.2.2))))
def f_s_l1Below_io (n1 : Int) (h0 : List Sc) (h1 : Int) (h2 : Int) : Option (Int × List Sc × Int × Int) := f_s_l1Below_io_k n1 h0 h1 h2 some

def f_s_l1PickInt_io_k {R : Type} (list1 : List Sc) (h0 : List Sc) (h1 : Int) (h2 : Int) (kR : Int × List Sc × Int × Int → Option R) : Option R :=
  bo (f_s_l1Below_io (list1.length : Int) h0 h1 h2) (0, [], 0, 0) fun r1 =>
  br (okAt list1 r1.1)
    (kR ((atI list1 r1.1), r1.2.1, r1.2.2.1, r1.2.2.2))
    none
def f_s_l1PickInt_io (list1 : List Sc) (h0 : List Sc) (h1 : Int) (h2 : Int) : Option (Int × List Sc × Int × Int) := f_s_l1PickInt_io_k list1 h0 h1 h2 some

def f_s_DrawEgzPart_k0 {R : Type} (n5 : Int) (v0 : List Sc) (v1 : Int) (v2 : Int) (l6 : List Sc) (k7 : Int) (kN : List Sc × Int × Int × List Sc × Int → Option R) (kA : List Sc × Int × Int × List Sc → Option R) : Option R :=
  br ((decide (k7 > 0)))
    (bo (f_s_l1Below_io 30 v0 v1 v2) (0, [], 0, 0) fun r4 =>
    br (decide (l6.length + [(Sc.n .i64 (w64 (r4.1 - 10)))].length ≤ lim))
      (kN (r4.2.1, r4.2.2.1, r4.2.2.2, (l6 ++ [(Sc.n .i64 (w64 (r4.1 - 10)))]), (w64 (k7 - 1))))
      none)
    (kA (v0, v1, v2, l6))
def f_s_DrawEgzPart_r0 (n5 : Int) : (List Sc × Int × Int × List Sc × Int) → Option (Ro (List Sc × Int × Int × List Sc × Int) (List Sc × Int × Int × List Sc) (Unit)) := fun s => f_s_DrawEgzPart_k0 n5 s.1 s.2.1 s.2.2.1 s.2.2.2.1 s.2.2.2.2 (fun s => some (.again s)) (fun e => some (.one e))
def f_s_DrawEgzPart_k {R : Type} (code0 : List Sc) (kR : List Sc × Int → Option R) : Option R :=
  bo (f_s_l1New code0) ([], 0, 0) fun r1 =>
  bo (f_s_l1Below_io 6 r1.1 r1.2.1 r1.2.2) (0, [], 0, 0) fun r2 =>
  bo (f_s_l1Below_io 2 r2.2.1 r2.2.2.1 r2.2.2.2) (0, [], 0, 0) fun r3 =>
  bl1 (loopL (f_s_DrawEgzPart_r0 (w64 (1 + r2.1))) (r3.2.1, r3.2.2.1, r3.2.2.2, [], (w64 ((w64 ((w64 (2 * (w64 (1 + r2.1)))) - 1)) + r3.1)))) ([], 0, 0, []) fun e5 =>
  bo (f_s_l1Below_io 10 e5.1 e5.2.1 e5.2.2.1) (0, [], 0, 0) fun r6 =>
  br ((r6.1 == 0))
    (br (decide (0 ≤ (1 : Int)) && (decide ((1 : Int) ≤ (e5.2.2.2.length : Int)) && decide ((e5.2.2.2.length : Int) ≤ (e5.2.2.2.length : Int))))
      (kR ((sliceA e5.2.2.2 1 (e5.2.2.2.length : Int)), (w64 (1 + r2.1))))
      none)
    (br ((r6.1 == 1))
      (bo (f_s_l1PickInt_io [(Sc.n .i64 1000001), (Sc.n .i64 (-9223372036854775808))] r6.2.1 r6.2.2.1 r6.2.2.2) (0, [], 0, 0) fun r7 =>
      br (inRange 0 (e5.2.2.2).length)
        (kR ((e5.2.2.2.set ((0 : Int).toNat) (Sc.n .i64 r7.1)), (w64 (1 + r2.1))))
        none)
      (br ((r6.1 == 2))
        (bo (f_s_l1PickInt_io [(Sc.n .i64 0), (Sc.n .i64 7), (Sc.n .i64 (-1))] r6.2.1 r6.2.2.1 r6.2.2.2) (0, [], 0, 0) fun r8 =>
        kR (e5.2.2.2, r8.1))
        (kR (e5.2.2.2, (w64 (1 + r2.1))))))
def f_s_DrawEgzPart (code0 : List Sc) : Option (List Sc × Int) := f_s_DrawEgzPart_k code0 some

def f_i_within_k {R : Type} (x0 : Int) (lo1 : Int) (hi2 : Int) (kR : Bool → Option R) : Option R :=
  br ((decide (x0 ≥ lo1)) == true)
    (kR (decide (x0 ≤ hi2)))
    (kR false)
def f_i_within (x0 : Int) (lo1 : Int) (hi2 : Int) : Option (Bool) := f_i_within_k x0 lo1 hi2 some

def f_i_bits_k0 {R : Type} (a0 : Int) (n3 : Int) (kN : Int × Int → Option R) (kA : Int → Option R) : Option R :=
  br ((a0 != 0))
    (kN ((and64 a0 (w64 (a0 - 1))), (w64 (n3 + 1))))
    (kA n3)
def f_i_bits_r0 : (Int × Int) → Option (Ro (Int × Int) (Int) (Unit)) := fun s => f_i_bits_k0 s.1 s.2 (fun s => some (.again s)) (fun e => some (.one e))
def f_i_bits_k {R : Type} (a0 : Int) (kR : Int → Option R) : Option R :=
  bl1 (loopL (f_i_bits_r0) (a0, 0)) 0 fun e1 =>
  kR e1
def f_i_bits (a0 : Int) : Option (Int) := f_i_bits_k a0 some

def f_i_in_k {R : Type} (a0 : Int) (x1 : Int) (kR : Bool → Option R) : Option R :=
  br (decide (x1 < 0))
    none
    (kR ((and64 (shr64 a0 x1) 1) == 1))
def f_i_in (a0 : Int) (x1 : Int) : Option (Bool) := f_i_in_k a0 x1 some

def f_i_part_k0 {R : Type} (mask1 : Int) (t9 : List Sc) (t10 : Int) (out5 : List Sc) (t11 : Int) (kN : List Sc × Int → Option R) (kA : List Sc → Option R) : Option R :=
  br ((decide (t11 < t10)))
    (br (okAt t9 t11)
      (bo (f_i_in mask1 t11) false fun r1 =>
      br (r1)
        (br (decide (out5.length + [(Sc.n .i64 (atI t9 t11))].length ≤ lim))
          (kN ((out5 ++ [(Sc.n .i64 (atI t9 t11))]), (w64 (t11 + 1))))
          none)
        (kN (out5, (w64 (t11 + 1)))))
      none)
    (kA out5)
def f_i_part_r0 (mask1 : Int) (t9 : List Sc) (t10 : Int) : (List Sc × Int) → Option (Ro (List Sc × Int) (List Sc) (Unit)) := fun s => f_i_part_k0 mask1 t9 t10 s.1 s.2 (fun s => some (.again s)) (fun e => some (.one e))
def f_i_part_k {R : Type} (l0 : List Sc) (mask1 : Int) (kR : List Sc → Option R) : Option R :=
  bl1 (loopL (f_i_part_r0 mask1 l0 (l0.length : Int)) ([], 0)) [] fun e2 =>
  kR e2
def f_i_part (l0 : List Sc) (mask1 : Int) : Option (List Sc) := f_i_part_k l0 mask1 some

def f_i_EgzPart_k0 {R : Type} (L0 : List Sc) (t1 : Int) (t25 : List Sc) (t26 : Int) (t27 : Int) (kN : Int → Option R) (kA : Unit → Option R) (kB : List Sc → Option R) : Option R :=
  br ((decide (t27 < t26)))
    (br (okAt t25 t27)
      (bo (f_i_within (atI t25 t27) (-1000000) 1000000) false fun r3 =>
      br ((!r3))
        (kB [])
        (kN (w64 (t27 + 1))))
      none)
    (kA ())
def f_i_EgzPart_r0 (L0 : List Sc) (t1 : Int) (t25 : List Sc) (t26 : Int) : Int → Option (Ro (Int) (Unit) (List Sc)) := fun s => f_i_EgzPart_k0 L0 t1 t25 t26 s (fun s => some (.again s)) (fun e => some (.one e)) (fun e => some (.two e))
def f_i_EgzPart_k4 {R : Type} (L0 : List Sc) (t1 : Int) (t8 : Int) (t38 : Int) (t39 : Int) (t49 : Int) (t9 : Int) (t48 : List Sc) (t50 : Int) (kN : Int × List Sc × Int → Option R) (kA : Int → Option R) : Option R :=
  br ((decide (t50 < t49)))
    (br (inRange t50 (t48).length)
      (br (kAt t48 t50.toNat)
        (kN ((w64 (t9 + (atN t48 t50.toNat))), t48, (w64 (t50 + 1))))
        none)
      none)
    (kA t9)
def f_i_EgzPart_r4 (L0 : List Sc) (t1 : Int) (t8 : Int) (t38 : Int) (t39 : Int) (t49 : Int) : (Int × List Sc × Int) → Option (Ro (Int × List Sc × Int) (Int) (Unit)) := fun s => f_i_EgzPart_k4 L0 t1 t8 t38 t39 t49 s.1 s.2.1 s.2.2 (fun s => some (.again s)) (fun e => some (.one e))
def f_i_EgzPart_k2 {R : Type} (L0 : List Sc) (t1 : Int) (t38 : Int) (t39 : Int) (kN : Int → Option R) (kA : Int → Option R) (kB : List Sc → Option R) : Option R :=
  br ((decide (t39 < t38)))
    (bo (f_i_bits t39) 0 fun r5 =>
    br ((r5 != t1))
      (kN (w64 (t39 + 1)))
      (bo (f_i_part L0 t39) [] fun r6 =>
      bl1 (loopL (f_i_EgzPart_r4 L0 t1 t39 t38 t39 (r6.length : Int)) (0, r6, 0)) 0 fun e7 =>
      br (t1 == 0)
        none
        (br (((e7.tmod t1) == 0))
          (bo (f_i_part L0 t39) [] fun r8 =>
          kB r8)
          (kN (w64 (t39 + 1))))))
    (kA t39)
def f_i_EgzPart_r2 (L0 : List Sc) (t1 : Int) (t38 : Int) : Int → Option (Ro (Int) (Int) (List Sc)) := fun s => f_i_EgzPart_k2 L0 t1 t38 s (fun s => some (.again s)) (fun e => some (.one e)) (fun e => some (.two e))
def f_i_EgzPart_k {R : Type} (L0 : List Sc) (p1 : Int) (kR : List Sc × Bool → Option R) : Option R :=
  bo (f_i_within p1 1 6) false fun r1 =>
  br ((!r1) == false)
    (bo (f_i_within (L0.length : Int) (w64 ((w64 (2 * p1)) - 1)) 12) false fun r2 =>
    br ((!r2))
      (kR ([], false))
      (bl (loopL (f_i_EgzPart_r0 L0 p1 L0 (L0.length : Int)) 0) () []
        (fun e4 =>
          br (decide ((L0.length : Int) < 0))
            none
            (bl (loopL (f_i_EgzPart_r2 L0 p1 (shl64 1 (L0.length : Int))) 0) 0 []
              (fun e9 =>
                kR ([], false))
              (fun e9 =>
                kR (e9, true))))
        (fun e4 =>
          kR (e4, false))))
    (kR ([], false))
def f_i_EgzPart (L0 : List Sc) (p1 : Int) : Option (List Sc × Bool) := f_i_EgzPart_k L0 p1 some

def f_s_l1In_k {R : Type} (x0 : Int) (low1 : Int) (high2 : Int) (kR : Bool → Option R) : Option R :=
  br ((decide (x0 ≥ low1)) == true)
    (kR (decide (x0 ≤ high2)))
    (kR false)
def f_s_l1In (x0 : Int) (low1 : Int) (high2 : Int) : Option (Bool) := f_s_l1In_k x0 low1 high2 some

def f_s_l16Part_k0 {R : Type} (l0 : List Sc) (code1 : Int) (out5 : List Sc) (i6 : Int) (kN : List Sc × Int → Option R) (kA : List Sc → Option R) : Option R :=
  br ((decide (i6 < (l0.length : Int))))
    (br (decide (i6 < 0))
      none
      (br (((and64 (shr64 code1 i6) 1) == 1))
        (br (okAt l0 i6)
          (br (decide (out5.length + [(Sc.n .i64 (atI l0 i6))].length ≤ lim))
            (kN ((out5 ++ [(Sc.n .i64 (atI l0 i6))]), (w64 (i6 + 1))))
            none)
          none)
        (kN (out5, (w64 (i6 + 1))))))
    (kA out5)
def f_s_l16Part_r0 (l0 : List Sc) (code1 : Int) : (List Sc × Int) → Option (Ro (List Sc × Int) (List Sc) (Unit)) := fun s => f_s_l16Part_k0 l0 code1 s.1 s.2 (fun s => some (.again s)) (fun e => some (.one e))
def f_s_l16Part_k {R : Type} (l0 : List Sc) (code1 : Int) (kR : List Sc → Option R) : Option R :=
  bl1 (loopL (f_s_l16Part_r0 l0 code1) ([], 0)) [] fun e1 =>
  kR e1
def f_s_l16Part (l0 : List Sc) (code1 : Int) : Option (List Sc) := f_s_l16Part_k l0 code1 some

def f_s_EgzPart_k0 {R : Type} (L0 : List Sc) (t1 : Int) (t6 : Int) (kN : Int → Option R) (kA : Unit → Option R) (kB : List Sc → Option R) : Option R :=
  br ((decide (t6 < (L0.length : Int))))
    (br (okAt L0 t6)
      (bo (f_s_l1In (atI L0 t6) (-1000000) 1000000) false fun r3 =>
      br ((!r3))
        (kB [])
        (kN (w64 (t6 + 1))))
      none)
    (kA ())
def f_s_EgzPart_r0 (L0 : List Sc) (t1 : Int) : Int → Option (Ro (Int) (Unit) (List Sc)) := fun s => f_s_EgzPart_k0 L0 t1 s (fun s => some (.again s)) (fun e => some (.one e)) (fun e => some (.two e))
def f_s_EgzPart_k4 {R : Type} (L0 : List Sc) (t1 : Int) (t7 : Int) (t8 : Int) (t9 : List Sc) (t10 : Int) (kN : Int × List Sc × Int → Option R) (kA : Int × List Sc → Option R) : Option R :=
  br ((decide (t10 < (t9.length : Int))))
    (br (inRange t10 (t9).length)
      (br (kAt t9 t10.toNat)
        (kN ((w64 (t8 + (atN t9 t10.toNat))), t9, (w64 (t10 + 1))))
        none)
      none)
    (kA (t8, t9))
def f_s_EgzPart_r4 (L0 : List Sc) (t1 : Int) (t7 : Int) : (Int × List Sc × Int) → Option (Ro (Int × List Sc × Int) (Int × List Sc) (Unit)) := fun s => f_s_EgzPart_k4 L0 t1 t7 s.1 s.2.1 s.2.2 (fun s => some (.again s)) (fun e => some (.one e))
def f_s_EgzPart_k2 {R : Type} (L0 : List Sc) (t1 : Int) (t7 : Int) (kN : Int → Option R) (kA : Int → Option R) (kB : List Sc → Option R) : Option R :=
  br (decide ((L0.length : Int) < 0))
    none
    (br ((decide (t7 < (shl64 1 (L0.length : Int)))))
      (bo (f_s_l16Part L0 t7) [] fun r5 =>
      bl1 (loopL (f_s_EgzPart_r4 L0 t1 t7) (0, r5, 0)) (0, []) fun e6 =>
      br (((e6.2.length : Int) == t1) == true)
        (br (t1 == 0)
          none
          (br (((e6.1.tmod t1) == 0))
            (kB e6.2)
            (kN (w64 (t7 + 1)))))
        (kN (w64 (t7 + 1))))
      (kA t7))
def f_s_EgzPart_r2 (L0 : List Sc) (t1 : Int) : Int → Option (Ro (Int) (Int) (List Sc)) := fun s => f_s_EgzPart_k2 L0 t1 s (fun s => some (.again s)) (fun e => some (.one e)) (fun e => some (.two e))
def f_s_EgzPart_k {R : Type} (L0 : List Sc) (p1 : Int) (kR : List Sc × Bool → Option R) : Option R :=
  bo (f_s_l1In p1 1 6) false fun r1 =>
  br ((!r1) == false)
    (bo (f_s_l1In (L0.length : Int) (w64 ((w64 (2 * p1)) - 1)) 12) false fun r2 =>
    br ((!r2))
      (kR ([], false))
      (bl (loopL (f_s_EgzPart_r0 L0 p1) 0) () []
        (fun e4 =>
          bl (loopL (f_s_EgzPart_r2 L0 p1) 1) 0 []
            (fun e7 =>
              kR ([], false))
            (fun e7 =>
              kR (e7, true)))
        (fun e4 =>
          kR (e4, false))))
    (kR ([], false))
def f_s_EgzPart (L0 : List Sc) (p1 : Int) : Option (List Sc × Bool) := f_s_EgzPart_k L0 p1 some

def f_l_sameInts_k0 {R : Type} (a0 : List Sc) (b1 : List Sc) (i5 : Int) (kN : Int → Option R) (kA : Unit → Option R) (kB : Unit → Option R) : Option R :=
  br ((decide (i5 < (a0.length : Int))))
    (br (okAt a0 i5)
      (br (okAt b1 i5)
        (br (((atI a0 i5) != (atI b1 i5)))
          (kB ())
          (kN (w64 (i5 + 1))))
        none)
      none)
    (kA ())
def f_l_sameInts_r0 (a0 : List Sc) (b1 : List Sc) : Int → Option (Ro (Int) (Unit) (Unit)) := fun s => f_l_sameInts_k0 a0 b1 s (fun s => some (.again s)) (fun e => some (.one e)) (fun e => some (.two e))
def f_l_sameInts_k {R : Type} (a0 : List Sc) (b1 : List Sc) (kR : Bool → Option R) : Option R :=
  br (((a0.length : Int) != (b1.length : Int)))
    (kR false)
    (bl (loopL (f_l_sameInts_r0 a0 b1) 0) () ()
      (fun e1 =>
        kR true)
      (fun e1 =>
        kR false))
def f_l_sameInts (a0 : List Sc) (b1 : List Sc) : Option (Bool) := f_l_sameInts_k a0 b1 some

def f_l_total_k0 {R : Type} (l0 : List Sc) (n3 : Int) (i4 : Int) (kN : Int × Int → Option R) (kA : Int → Option R) : Option R :=
  br ((decide (i4 < (l0.length : Int))))
    (br (okAt l0 i4)
      (kN ((w64 (n3 + (atI l0 i4))), (w64 (i4 + 1))))
      none)
    (kA n3)
def f_l_total_r0 (l0 : List Sc) : (Int × Int) → Option (Ro (Int × Int) (Int) (Unit)) := fun s => f_l_total_k0 l0 s.1 s.2 (fun s => some (.again s)) (fun e => some (.one e))
def f_l_total_k {R : Type} (l0 : List Sc) (kR : Int → Option R) : Option R :=
  bl1 (loopL (f_l_total_r0 l0) (0, 0)) 0 fun e1 =>
  kR e1
def f_l_total (l0 : List Sc) : Option (Int) := f_l_total_k l0 some

def f_s_l18Group_k {R : Type} (code0 : List Sc) (kR : List Sc → Option R) : Option R :=
  bo (f_s_l1New code0) ([], 0, 0) fun r1 =>
  bo (f_s_l1Below_io (([[], [(Sc.n .i64 2)], [(Sc.n .i64 3)], [(Sc.n .i64 4)], [(Sc.n .i64 2), (Sc.n .i64 2)], [(Sc.n .i64 5)], [(Sc.n .i64 6)], [(Sc.n .i64 1)]] : List (List Sc)).length : Int) r1.1 r1.2.1 r1.2.2) (0, [], 0, 0) fun r2 =>
  br (inRange r2.1 ([[], [(Sc.n .i64 2)], [(Sc.n .i64 3)], [(Sc.n .i64 4)], [(Sc.n .i64 2), (Sc.n .i64 2)], [(Sc.n .i64 5)], [(Sc.n .i64 6)], [(Sc.n .i64 1)]] : List (List Sc)).length)
    (kR (([[], [(Sc.n .i64 2)], [(Sc.n .i64 3)], [(Sc.n .i64 4)], [(Sc.n .i64 2), (Sc.n .i64 2)], [(Sc.n .i64 5)], [(Sc.n .i64 6)], [(Sc.n .i64 1)]] : List (List Sc)).getD r2.1.toNat []))
    none
def f_s_l18Group (code0 : List Sc) : Option (List Sc) := f_s_l18Group_k code0 some

def f_s_DrawEgzExample_k {R : Type} (code0 : List Sc) (kR : List Sc → Option R) : Option R :=
  bo (f_s_l18Group code0) [] fun r1 =>
  kR r1
def f_s_DrawEgzExample (code0 : List Sc) : Option (List Sc) := f_s_DrawEgzExample_k code0 some

def f_i_IsGroup_k0 {R : Type} (t11 : List Sc) (t12 : Int) (n3 : Int) (t13 : Int) (kN : Int × Int → Option R) (kA : Int → Option R) (kB : Unit → Option R) : Option R :=
  br ((decide (t13 < t12)))
    (br (okAt t11 t13)
      (bo (f_i_within (atI t11 t13) 2 24) false fun r1 =>
      br ((!r1))
        (kB ())
        (kN ((w64 (n3 * (atI t11 t13))), (w64 (t13 + 1)))))
      none)
    (kA n3)
def f_i_IsGroup_r0 (t11 : List Sc) (t12 : Int) : (Int × Int) → Option (Ro (Int × Int) (Int) (Unit)) := fun s => f_i_IsGroup_k0 t11 t12 s.1 s.2 (fun s => some (.again s)) (fun e => some (.one e)) (fun e => some (.two e))
def f_i_IsGroup_k {R : Type} (g0 : List Sc) (kR : Bool → Option R) : Option R :=
  br ((decide ((g0.length : Int) > 3)))
    (kR false)
    (bl (loopL (f_i_IsGroup_r0 g0 (g0.length : Int)) (1, 0)) 0 ()
      (fun e2 =>
        kR (decide (e2 ≤ 24)))
      (fun e2 =>
        kR false))
def f_i_IsGroup (g0 : List Sc) : Option (Bool) := f_i_IsGroup_k g0 some

def f_i_OrderOf_k0 {R : Type} (t10 : List Sc) (t11 : Int) (n3 : Int) (t12 : Int) (kN : Int × Int → Option R) (kA : Int → Option R) : Option R :=
  br ((decide (t12 < t11)))
    (br (okAt t10 t12)
      (kN ((w64 (n3 * (atI t10 t12))), (w64 (t12 + 1))))
      none)
    (kA n3)
def f_i_OrderOf_r0 (t10 : List Sc) (t11 : Int) : (Int × Int) → Option (Ro (Int × Int) (Int) (Unit)) := fun s => f_i_OrderOf_k0 t10 t11 s.1 s.2 (fun s => some (.again s)) (fun e => some (.one e))
def f_i_OrderOf_k {R : Type} (g0 : List Sc) (kR : Int → Option R) : Option R :=
  bo (f_i_IsGroup g0) false fun r1 =>
  br ((!r1))
    (kR 0)
    (bl1 (loopL (f_i_OrderOf_r0 g0 (g0.length : Int)) (1, 0)) 0 fun e2 =>
    kR e2)
def f_i_OrderOf (g0 : List Sc) : Option (Int) := f_i_OrderOf_k g0 some

def f_i_gcd_k0 {R : Type} (a0 : Int) (b1 : Int) (kN : Int × Int → Option R) (kA : Int → Option R) : Option R :=
  br ((b1 != 0))
    (br (b1 == 0)
      none
      (kN (b1, (a0.tmod b1))))
    (kA a0)
def f_i_gcd_r0 : (Int × Int) → Option (Ro (Int × Int) (Int) (Unit)) := fun s => f_i_gcd_k0 s.1 s.2 (fun s => some (.again s)) (fun e => some (.one e))
def f_i_gcd_k {R : Type} (a0 : Int) (b1 : Int) (kR : Int → Option R) : Option R :=
  bl1 (loopL (f_i_gcd_r0) (a0, b1)) 0 fun e1 =>
  kR e1
def f_i_gcd (a0 : Int) (b1 : Int) : Option (Int) := f_i_gcd_k a0 b1 some

def f_i_ExponentOf_k0 {R : Type} (t10 : List Sc) (t11 : Int) (n3 : Int) (t12 : Int) (kN : Int × Int → Option R) (kA : Int → Option R) : Option R :=
  br ((decide (t12 < t11)))
    (br (okAt t10 t12)
      (bo (f_i_gcd n3 (atI t10 t12)) 0 fun r2 =>
      br (r2 == 0)
        none
        (kN ((w64 ((w64 (n3.tdiv r2)) * (atI t10 t12))), (w64 (t12 + 1)))))
      none)
    (kA n3)
def f_i_ExponentOf_r0 (t10 : List Sc) (t11 : Int) : (Int × Int) → Option (Ro (Int × Int) (Int) (Unit)) := fun s => f_i_ExponentOf_k0 t10 t11 s.1 s.2 (fun s => some (.again s)) (fun e => some (.one e))
def f_i_ExponentOf_k {R : Type} (g0 : List Sc) (kR : Int → Option R) : Option R :=
  bo (f_i_IsGroup g0) false fun r1 =>
  br ((!r1))
    (kR 0)
    (bl1 (loopL (f_i_ExponentOf_r0 g0 (g0.length : Int)) (1, 0)) 0 fun e3 =>
    kR e3)
def f_i_ExponentOf (g0 : List Sc) : Option (Int) := f_i_ExponentOf_k g0 some

def f_i_Group_add_k0 {R : Type} (t12 : List Sc) (t13 : Int) (x1 : Int) (y2 : Int) (sum7 : Int) (unit8 : Int) (t14 : Int) (kN : Int × Int × Int × Int × Int → Option R) (kA : Int → Option R) : Option R :=
  br ((decide (t14 < t13)))
    (br (okAt t12 t14)
      (br ((atI t12 t14) == 0)
        none
        (br ((atI t12 t14) == 0)
          none
          (br ((atI t12 t14) == 0)
            none
            (br ((atI t12 t14) == 0)
              none
              (br ((atI t12 t14) == 0)
                none
                (kN ((w64 (x1.tdiv (atI t12 t14))), (w64 (y2.tdiv (atI t12 t14))), (w64 (sum7 + (w64 (((w64 ((x1.tmod (atI t12 t14)) + (y2.tmod (atI t12 t14)))).tmod (atI t12 t14)) * unit8)))), (w64 (unit8 * (atI t12 t14))), (w64 (t14 + 1)))))))))
      none)
    (kA sum7)
def f_i_Group_add_r0 (t12 : List Sc) (t13 : Int) : (Int × Int × Int × Int × Int) → Option (Ro (Int × Int × Int × Int × Int) (Int) (Unit)) := fun s => f_i_Group_add_k0 t12 t13 s.1 s.2.1 s.2.2.1 s.2.2.2.1 s.2.2.2.2 (fun s => some (.again s)) (fun e => some (.one e))
def f_i_Group_add_k {R : Type} (g0 : List Sc) (x1 : Int) (y2 : Int) (kR : Int → Option R) : Option R :=
  bl1 (loopL (f_i_Group_add_r0 g0 (g0.length : Int)) (x1, y2, 0, 1, 0)) 0 fun e1 =>
  kR e1
def f_i_Group_add (g0 : List Sc) (x1 : Int) (y2 : Int) : Option (Int) := f_i_Group_add_k g0 x1 y2 some

def f_i_Group_shift_k0 {R : Type} (a1 : Int) (x2 : Int) (g3 : List Sc) (out7 : Int) (y8 : Int) (kN : Int × Int → Option R) (kA : Int → Option R) : Option R :=
  br (decide (y8 < 0))
    none
    (br (((shr64 a1 y8) != 0))
      (br (decide (y8 < 0))
        none
        (br (((and64 (shr64 a1 y8) 1) == 1))
          (bo (f_i_Group_add g3 x2 y8) 0 fun r1 =>
          br (decide (r1 < 0))
            none
            (kN ((or64 out7 (shl64 1 r1)), (w64 (y8 + 1)))))
          (kN (out7, (w64 (y8 + 1))))))
      (kA out7))
def f_i_Group_shift_r0 (a1 : Int) (x2 : Int) (g3 : List Sc) : (Int × Int) → Option (Ro (Int × Int) (Int) (Unit)) := fun s => f_i_Group_shift_k0 a1 x2 g3 s.1 s.2 (fun s => some (.again s)) (fun e => some (.one e))
def f_i_Group_shift_k {R : Type} (g0 : List Sc) (a1 : Int) (x2 : Int) (kR : Int → Option R) : Option R :=
  bl1 (loopL (f_i_Group_shift_r0 a1 x2 g0) (0, 0)) 0 fun e2 =>
  kR e2
def f_i_Group_shift (g0 : List Sc) (a1 : Int) (x2 : Int) : Option (Int) := f_i_Group_shift_k g0 a1 x2 some

def f_i_Group_byLength_k2 {R : Type} (g2 : List Sc) (x7 : Int) (t15 : List Sc) (t16 : Int) (t17 : Int) (out5 : List Sc) (k8 : Int) (kN : List Sc × Int → Option R) (kA : List Sc → Option R) : Option R :=
  br ((decide (k8 ≥ 0)))
    (br (inRange (w64 (k8 + 1)) (out5).length)
      (br (kAt out5 (w64 (k8 + 1)).toNat)
        (br (inRange k8 (out5).length)
          (br (kAt out5 k8.toNat)
            (bo (f_i_Group_shift g2 (atN out5 k8.toNat) x7) 0 fun r1 =>
            br (inRange (w64 (k8 + 1)) (out5).length)
              (kN ((out5.set ((w64 (k8 + 1)).toNat) (Sc.n .i64 (or64 (atN out5 (w64 (k8 + 1)).toNat) r1))), (w64 (k8 - 1))))
              none)
            none)
          none)
        none)
      none)
    (kA out5)
def f_i_Group_byLength_r2 (g2 : List Sc) (x7 : Int) (t15 : List Sc) (t16 : Int) (t17 : Int) : (List Sc × Int) → Option (Ro (List Sc × Int) (List Sc) (Unit)) := fun s => f_i_Group_byLength_k2 g2 x7 t15 t16 t17 s.1 s.2 (fun s => some (.again s)) (fun e => some (.one e))
def f_i_Group_byLength_k0 {R : Type} (g2 : List Sc) (t15 : List Sc) (t16 : Int) (out5 : List Sc) (t17 : Int) (kN : List Sc × Int → Option R) (kA : List Sc × Int → Option R) : Option R :=
  br ((decide (t17 < t16)))
    (br (okAt t15 t17)
      (bl1 (loopL (f_i_Group_byLength_r2 g2 (atI t15 t17) t15 t16 t17) (out5, t17)) [] fun e2 =>
      kN (e2, (w64 (t17 + 1))))
      none)
    (kA (out5, t17))
def f_i_Group_byLength_r0 (g2 : List Sc) (t15 : List Sc) (t16 : Int) : (List Sc × Int) → Option (Ro (List Sc × Int) (List Sc × Int) (Unit)) := fun s => f_i_Group_byLength_k0 g2 t15 t16 s.1 s.2 (fun s => some (.again s)) (fun e => some (.one e))
def f_i_Group_byLength_k {R : Type} (g0 : List Sc) (l1 : List Sc) (kR : List Sc → Option R) : Option R :=
  br (decide (0 ≤ (w64 ((l1.length : Int) + 1))) && (decide ((w64 ((l1.length : Int) + 1)) ≤ (w64 ((l1.length : Int) + 1))) && decide ((w64 ((l1.length : Int) + 1)) ≤ (lim : Int))))
    (br (inRange 0 ((List.replicate (w64 ((l1.length : Int) + 1)).toNat (Sc.n .i64 0))).length)
      (bl1 (loopL (f_i_Group_byLength_r0 g0 l1 (l1.length : Int)) (((List.replicate (w64 ((l1.length : Int) + 1)).toNat (Sc.n .i64 0)).set ((0 : Int).toNat) (Sc.n .i64 1)), 0)) ([], 0) fun e3 =>
      kR e3.1)
      none)
    none
def f_i_Group_byLength (g0 : List Sc) (l1 : List Sc) : Option (List Sc) := f_i_Group_byLength_k g0 l1 some

def f_i_copyInts_k {R : Type} (l0 : List Sc) (kR : List Sc → Option R) : Option R :=
  br (decide (([] : List Sc).length + l0.length ≤ lim))
    (kR ([] ++ l0))
    none
def f_i_copyInts (l0 : List Sc) : Option (List Sc) := f_i_copyInts_k l0 some

def f_i_EgzExample_1_k0 {R : Type} (self : (List Sc × List Sc × Int × List Sc × List Sc) → Option (Int × List Sc × List Sc)) (l0 : List Sc) (t2 : List Sc) (v0 : Int) (v1 : List Sc) (v2 : List Sc) (x7 : Int) (kN : Int × List Sc × List Sc × Int → Option R) (kA : Int × List Sc × List Sc → Option R) : Option R :=
  bo (f_i_OrderOf t2) 0 fun r3 =>
  br ((decide (x7 < r3)))
    (bo (f_i_copyInts l0) [] fun r4 =>
    br (decide (r4.length + [(Sc.n .i64 x7)].length ≤ lim))
      (bo (self ((r4 ++ [(Sc.n .i64 x7)]), v2, v0, v1, v2)) (0, [], []) fun r5 =>
      kN (r5.1, r5.2.1, r5.2.2, (w64 (x7 + 1))))
      none)
    (kA (v0, v1, v2))
def f_i_EgzExample_1_r0 (self : (List Sc × List Sc × Int × List Sc × List Sc) → Option (Int × List Sc × List Sc)) (l0 : List Sc) (t2 : List Sc) : (Int × List Sc × List Sc × Int) → Option (Ro (Int × List Sc × List Sc × Int) (Int × List Sc × List Sc) (Unit)) := fun s => f_i_EgzExample_1_k0 self l0 t2 s.1 s.2.1 s.2.2.1 s.2.2.2 (fun s => some (.again s)) (fun e => some (.one e))
def f_i_EgzExample_1_k {R : Type} (self : (List Sc × List Sc × Int × List Sc × List Sc) → Option (Int × List Sc × List Sc)) (l0 : List Sc) (p2 : List Sc) (h0 : Int) (h1 : List Sc) (h2 : List Sc) (kR : Int × List Sc × List Sc → Option R) : Option R :=
  br ((decide ((l0.length : Int) ≥ h0)) == true)
    (bo (f_i_Group_byLength p2 l0) [] fun r1 =>
    br (inRange h0 (r1).length)
      (br (kAt r1 h0.toNat)
        (bo (f_i_in (atN r1 h0.toNat) 0) false fun r2 =>
        br (r2)
          (kR (h0, h1, h2))
          (br ((decide ((l0.length : Int) > (h1.length : Int))))
            (br ((decide ((l0.length : Int) > 0)))
              (br (okAt l0 (w64 ((l0.length : Int) - 1)))
                (bl1 (loopL (f_i_EgzExample_1_r0 self l0 p2) (h0, l0, h2, (atI l0 (w64 ((l0.length : Int) - 1))))) (0, [], []) fun e6 =>
                kR (e6.1, e6.2.1, e6.2.2))
                none)
              (bl1 (loopL (f_i_EgzExample_1_r0 self l0 p2) (h0, l0, h2, 0)) (0, [], []) fun e7 =>
              kR (e7.1, e7.2.1, e7.2.2)))
            (br ((decide ((l0.length : Int) > 0)))
              (br (okAt l0 (w64 ((l0.length : Int) - 1)))
                (bl1 (loopL (f_i_EgzExample_1_r0 self l0 p2) (h0, h1, h2, (atI l0 (w64 ((l0.length : Int) - 1))))) (0, [], []) fun e8 =>
                kR (e8.1, e8.2.1, e8.2.2))
                none)
              (bl1 (loopL (f_i_EgzExample_1_r0 self l0 p2) (h0, h1, h2, 0)) (0, [], []) fun e9 =>
              kR (e9.1, e9.2.1, e9.2.2)))))
        none)
      none)
    (br ((decide ((l0.length : Int) > (h1.length : Int))))
      (br ((decide ((l0.length : Int) > 0)))
        (br (okAt l0 (w64 ((l0.length : Int) - 1)))
          (bl1 (loopL (f_i_EgzExample_1_r0 self l0 p2) (h0, l0, h2, (atI l0 (w64 ((l0.length : Int) - 1))))) (0, [], []) fun e10 =>
          kR (e10.1, e10.2.1, e10.2.2))
          none)
        (bl1 (loopL (f_i_EgzExample_1_r0 self l0 p2) (h0, l0, h2, 0)) (0, [], []) fun e11 =>
        kR (e11.1, e11.2.1, e11.2.2)))
      (br ((decide ((l0.length : Int) > 0)))
        (br (okAt l0 (w64 ((l0.length : Int) - 1)))
          (bl1 (loopL (f_i_EgzExample_1_r0 self l0 p2) (h0, h1, h2, (atI l0 (w64 ((l0.length : Int) - 1))))) (0, [], []) fun e12 =>
          kR (e12.1, e12.2.1, e12.2.2))
          none)
        (bl1 (loopL (f_i_EgzExample_1_r0 self l0 p2) (h0, h1, h2, 0)) (0, [], []) fun e13 =>
        kR (e13.1, e13.2.1, e13.2.2))))
def f_i_EgzExample_1_n : Nat → (List Sc × List Sc × Int × List Sc × List Sc) → Option (Int × List Sc × List Sc)
  | 0, _ => none
  | n + 1, a => f_i_EgzExample_1_k (f_i_EgzExample_1_n n) a.1 a.2.1 a.2.2.1 a.2.2.2.1 a.2.2.2.2 some
def f_i_EgzExample_1 (l0 : List Sc) (p2 : List Sc) (h0 : Int) (h1 : List Sc) (h2 : List Sc) : Option (Int × List Sc × List Sc) := limF f_i_EgzExample_1_n (l0, p2, h0, h1, h2)

def f_i_EgzExample_k {R : Type} (g0 : List Sc) (kR : List Sc × Bool → Option R) : Option R :=
  bo (f_i_IsGroup g0) false fun r1 =>
  br ((!r1) == false)
    (bo (f_i_OrderOf g0) 0 fun r2 =>
    br ((decide (r2 > 5)))
      (kR ([], false))
      (bo (f_i_ExponentOf g0) 0 fun r3 =>
      bo (f_i_EgzExample_1 [] g0 r3 [] g0) (0, [], []) fun r4 =>
      kR (r4.2.1, true)))
    (kR ([], false))
def f_i_EgzExample (g0 : List Sc) : Option (List Sc × Bool) := f_i_EgzExample_k g0 some

def f_s_IsGroup_k0 {R : Type} (g1 : List Sc) (n3 : Int) (i4 : Int) (kN : Int × Int → Option R) (kA : Int → Option R) (kB : Unit → Option R) : Option R :=
  br ((decide (i4 < (g1.length : Int))))
    (br (okAt g1 i4)
      (bo (f_s_l1In (atI g1 i4) 2 24) false fun r1 =>
      br ((!r1) == false)
        (br ((decide (i4 > 2)))
          (kB ())
          (br (okAt g1 i4)
            (kN ((w64 (n3 * (atI g1 i4))), (w64 (i4 + 1))))
            none))
        (kB ()))
      none)
    (kA n3)
def f_s_IsGroup_r0 (g1 : List Sc) : (Int × Int) → Option (Ro (Int × Int) (Int) (Unit)) := fun s => f_s_IsGroup_k0 g1 s.1 s.2 (fun s => some (.again s)) (fun e => some (.one e)) (fun e => some (.two e))
def f_s_IsGroup_k {R : Type} (g0 : List Sc) (kR : Bool → Option R) : Option R :=
  bl (loopL (f_s_IsGroup_r0 g0) (1, 0)) 0 ()
    (fun e2 =>
      kR (decide (e2 ≤ 24)))
    (fun e2 =>
      kR false)
def f_s_IsGroup (g0 : List Sc) : Option (Bool) := f_s_IsGroup_k g0 some

def f_s_l2Order_k0 {R : Type} (g1 : List Sc) (n3 : Int) (i4 : Int) (kN : Int × Int → Option R) (kA : Int → Option R) : Option R :=
  br ((decide (i4 < (g1.length : Int))))
    (br (okAt g1 i4)
      (kN ((w64 (n3 * (atI g1 i4))), (w64 (i4 + 1))))
      none)
    (kA n3)
def f_s_l2Order_r0 (g1 : List Sc) : (Int × Int) → Option (Ro (Int × Int) (Int) (Unit)) := fun s => f_s_l2Order_k0 g1 s.1 s.2 (fun s => some (.again s)) (fun e => some (.one e))
def f_s_l2Order_k {R : Type} (g0 : List Sc) (kR : Int → Option R) : Option R :=
  bl1 (loopL (f_s_l2Order_r0 g0) (1, 0)) 0 fun e1 =>
  kR e1
def f_s_l2Order (g0 : List Sc) : Option (Int) := f_s_l2Order_k g0 some

def f_s_ExponentOf_k2 {R : Type} (g1 : List Sc) (e3 : Int) (i4 : Int) (x5 : Int) (kN : Int → Option R) (kA : Int → Option R) : Option R :=
  br (okAt g1 i4)
    (br ((atI g1 i4) == 0)
      none
      (br (((x5.tmod (atI g1 i4)) != 0))
        (kN (w64 (x5 + e3)))
        (kA x5)))
    none
def f_s_ExponentOf_r2 (g1 : List Sc) (e3 : Int) (i4 : Int) : Int → Option (Ro (Int) (Int) (Unit)) := fun s => f_s_ExponentOf_k2 g1 e3 i4 s (fun s => some (.again s)) (fun e => some (.one e))
def f_s_ExponentOf_k0 {R : Type} (g1 : List Sc) (e3 : Int) (i4 : Int) (kN : Int × Int → Option R) (kA : Int × Int → Option R) : Option R :=
  br ((decide (i4 < (g1.length : Int))))
    (bl1 (loopL (f_s_ExponentOf_r2 g1 e3 i4) e3) 0 fun e2 =>
    kN (e2, (w64 (i4 + 1))))
    (kA (e3, i4))
def f_s_ExponentOf_r0 (g1 : List Sc) : (Int × Int) → Option (Ro (Int × Int) (Int × Int) (Unit)) := fun s => f_s_ExponentOf_k0 g1 s.1 s.2 (fun s => some (.again s)) (fun e => some (.one e))
def f_s_ExponentOf_k {R : Type} (g0 : List Sc) (kR : Int → Option R) : Option R :=
  bo (f_s_IsGroup g0) false fun r1 =>
  br ((!r1))
    (kR 0)
    (bl1 (loopL (f_s_ExponentOf_r0 g0) (1, 0)) (0, 0) fun e3 =>
    kR e3.1)
def f_s_ExponentOf (g0 : List Sc) : Option (Int) := f_s_ExponentOf_k g0 some

def f_s_OrderOf_k {R : Type} (g0 : List Sc) (kR : Int → Option R) : Option R :=
  bo (f_s_IsGroup g0) false fun r1 =>
  br ((!r1))
    (kR 0)
    (bo (f_s_l2Order g0) 0 fun r2 =>
    kR r2)
def f_s_OrderOf (g0 : List Sc) : Option (Int) := f_s_OrderOf_k g0 some

def f_s_l2Is_k {R : Type} (g0 : List Sc) (x1 : Int) (kR : Bool → Option R) : Option R :=
  br ((decide (x1 ≥ 0)) == true)
    (bo (f_s_OrderOf g0) 0 fun r1 =>
    kR (decide (x1 < r1)))
    (kR false)
def f_s_l2Is (g0 : List Sc) (x1 : Int) : Option (Bool) := f_s_l2Is_k g0 x1 some

def f_s_IsSequence_k0 {R : Type} (l1 : List Sc) (g2 : List Sc) (i5 : Int) (kN : Int → Option R) (kA : Unit → Option R) (kB : Unit → Option R) : Option R :=
  br ((decide (i5 < (l1.length : Int))))
    (br (okAt l1 i5)
      (bo (f_s_l2Is g2 (atI l1 i5)) false fun r1 =>
      br ((!r1) == false)
        (br ((decide (i5 > 0)) == true)
          (br (okAt l1 i5)
            (br (okAt l1 (w64 (i5 - 1)))
              (br ((decide ((atI l1 i5) < (atI l1 (w64 (i5 - 1))))))
                (kB ())
                (kN (w64 (i5 + 1))))
              none)
            none)
          (kN (w64 (i5 + 1))))
        (kB ()))
      none)
    (kA ())
def f_s_IsSequence_r0 (l1 : List Sc) (g2 : List Sc) : Int → Option (Ro (Int) (Unit) (Unit)) := fun s => f_s_IsSequence_k0 l1 g2 s (fun s => some (.again s)) (fun e => some (.one e)) (fun e => some (.two e))
def f_s_IsSequence_k {R : Type} (g0 : List Sc) (l1 : List Sc) (kR : Bool → Option R) : Option R :=
  bl (loopL (f_s_IsSequence_r0 l1 g0) 0) () ()
    (fun e2 =>
      bo (f_s_IsGroup g0) false fun r3 =>
      br (r3 == true)
        (kR (decide ((l1.length : Int) ≤ 12)))
        (kR false))
    (fun e2 =>
      kR false)
def f_s_IsSequence (g0 : List Sc) (l1 : List Sc) : Option (Bool) := f_s_IsSequence_k g0 l1 some

def f_s_l3List_k0 {R : Type} (out3 : List Sc) (i4 : Int) (x5 : Int) (kN : List Sc × Int × Int → Option R) (kA : List Sc → Option R) : Option R :=
  br ((decide (x5 > 0)))
    (br (((and64 x5 1) == 1))
      (br (decide (out3.length + [(Sc.n .i64 i4)].length ≤ lim))
        (kN ((out3 ++ [(Sc.n .i64 i4)]), (w64 (i4 + 1)), (shr64 x5 1)))
        none)
      (kN (out3, (w64 (i4 + 1)), (shr64 x5 1))))
    (kA out3)
def f_s_l3List_r0 : (List Sc × Int × Int) → Option (Ro (List Sc × Int × Int) (List Sc) (Unit)) := fun s => f_s_l3List_k0 s.1 s.2.1 s.2.2 (fun s => some (.again s)) (fun e => some (.one e))
def f_s_l3List_k {R : Type} (a0 : Int) (kR : List Sc → Option R) : Option R :=
  bl1 (loopL (f_s_l3List_r0) ([], 0, a0)) [] fun e1 =>
  kR e1
def f_s_l3List (a0 : Int) : Option (List Sc) := f_s_l3List_k a0 some

def f_s_l2Add_k0 {R : Type} (g3 : List Sc) (x1 : Int) (y2 : Int) (z7 : Int) (step8 : Int) (i9 : Int) (kN : Int × Int × Int × Int × Int → Option R) (kA : Int → Option R) : Option R :=
  br ((decide (i9 < (g3.length : Int))))
    (br (okAt g3 i9)
      (br ((atI g3 i9) == 0)
        none
        (br ((atI g3 i9) == 0)
          none
          (br ((atI g3 i9) == 0)
            none
            (br ((atI g3 i9) == 0)
              none
              (br ((atI g3 i9) == 0)
                none
                (kN ((w64 (x1.tdiv (atI g3 i9))), (w64 (y2.tdiv (atI g3 i9))), (w64 (z7 + (w64 (((w64 ((x1.tmod (atI g3 i9)) + (y2.tmod (atI g3 i9)))).tmod (atI g3 i9)) * step8)))), (w64 (step8 * (atI g3 i9))), (w64 (i9 + 1)))))))))
      none)
    (kA z7)
def f_s_l2Add_r0 (g3 : List Sc) : (Int × Int × Int × Int × Int) → Option (Ro (Int × Int × Int × Int × Int) (Int) (Unit)) := fun s => f_s_l2Add_k0 g3 s.1 s.2.1 s.2.2.1 s.2.2.2.1 s.2.2.2.2 (fun s => some (.again s)) (fun e => some (.one e))
def f_s_l2Add_k {R : Type} (g0 : List Sc) (x1 : Int) (y2 : Int) (kR : Int → Option R) : Option R :=
  bl1 (loopL (f_s_l2Add_r0 g0) (x1, y2, 0, 1, 0)) 0 fun e1 =>
  kR e1
def f_s_l2Add (g0 : List Sc) (x1 : Int) (y2 : Int) : Option (Int) := f_s_l2Add_k g0 x1 y2 some

def f_s_l3Shift_k0 {R : Type} (x2 : Int) (g3 : List Sc) (out7 : Int) (l8 : List Sc) (i9 : Int) (kN : Int × List Sc × Int → Option R) (kA : Int → Option R) : Option R :=
  br ((decide (i9 < (l8.length : Int))))
    (br (inRange i9 (l8).length)
      (br (kAt l8 i9.toNat)
        (bo (f_s_l2Add g3 (atN l8 i9.toNat) x2) 0 fun r2 =>
        br (decide (r2 < 0))
          none
          (kN ((or64 out7 (shl64 1 r2)), l8, (w64 (i9 + 1)))))
        none)
      none)
    (kA out7)
def f_s_l3Shift_r0 (x2 : Int) (g3 : List Sc) : (Int × List Sc × Int) → Option (Ro (Int × List Sc × Int) (Int) (Unit)) := fun s => f_s_l3Shift_k0 x2 g3 s.1 s.2.1 s.2.2 (fun s => some (.again s)) (fun e => some (.one e))
def f_s_l3Shift_k {R : Type} (g0 : List Sc) (a1 : Int) (x2 : Int) (kR : Int → Option R) : Option R :=
  bo (f_s_l3List a1) [] fun r1 =>
  bl1 (loopL (f_s_l3Shift_r0 x2 g0) (0, r1, 0)) 0 fun e3 =>
  kR e3
def f_s_l3Shift (g0 : List Sc) (a1 : Int) (x2 : Int) : Option (Int) := f_s_l3Shift_k g0 a1 x2 some

def f_s_SubsumsOfLength_k2 {R : Type} (l1 : List Sc) (k2 : Int) (g3 : List Sc) (i8 : Int) (t7 : List Sc) (n9 : Int) (kN : List Sc × Int → Option R) (kA : List Sc → Option R) : Option R :=
  br ((decide (n9 ≥ 1)))
    (br (inRange n9 (t7).length)
      (br (kAt t7 n9.toNat)
        (br (inRange (w64 (n9 - 1)) (t7).length)
          (br (kAt t7 (w64 (n9 - 1)).toNat)
            (br (okAt l1 i8)
              (bo (f_s_l3Shift g3 (atN t7 (w64 (n9 - 1)).toNat) (atI l1 i8)) 0 fun r3 =>
              br (inRange n9 (t7).length)
                (kN ((t7.set n9.toNat (Sc.n .i64 (or64 (atN t7 n9.toNat) r3))), (w64 (n9 - 1))))
                none)
              none)
            none)
          none)
        none)
      none)
    (kA t7)
def f_s_SubsumsOfLength_r2 (l1 : List Sc) (k2 : Int) (g3 : List Sc) (i8 : Int) : (List Sc × Int) → Option (Ro (List Sc × Int) (List Sc) (Unit)) := fun s => f_s_SubsumsOfLength_k2 l1 k2 g3 i8 s.1 s.2 (fun s => some (.again s)) (fun e => some (.one e))
def f_s_SubsumsOfLength_k0 {R : Type} (l1 : List Sc) (k2 : Int) (g3 : List Sc) (t7 : List Sc) (i8 : Int) (kN : List Sc × Int → Option R) (kA : List Sc × Int → Option R) : Option R :=
  br ((decide (i8 < (l1.length : Int))))
    (bl1 (loopL (f_s_SubsumsOfLength_r2 l1 k2 g3 i8) (t7, k2)) [] fun e4 =>
    kN (e4, (w64 (i8 + 1))))
    (kA (t7, i8))
def f_s_SubsumsOfLength_r0 (l1 : List Sc) (k2 : Int) (g3 : List Sc) : (List Sc × Int) → Option (Ro (List Sc × Int) (List Sc × Int) (Unit)) := fun s => f_s_SubsumsOfLength_k0 l1 k2 g3 s.1 s.2 (fun s => some (.again s)) (fun e => some (.one e))
def f_s_SubsumsOfLength_k {R : Type} (g0 : List Sc) (l1 : List Sc) (k2 : Int) (kR : Int → Option R) : Option R :=
  bo (f_s_IsSequence g0 l1) false fun r1 =>
  br ((!r1) == false)
    (bo (f_s_l1In k2 0 (l1.length : Int)) false fun r2 =>
    br ((!r2))
      (kR (-1))
      (br (decide (0 ≤ (w64 (k2 + 1))) && (decide ((w64 (k2 + 1)) ≤ (w64 (k2 + 1))) && decide ((w64 (k2 + 1)) ≤ (lim : Int))))
        (br (inRange 0 ((List.replicate (w64 (k2 + 1)).toNat (Sc.n .i64 0))).length)
          (bl1 (loopL (f_s_SubsumsOfLength_r0 l1 k2 g0) (((List.replicate (w64 (k2 + 1)).toNat (Sc.n .i64 0)).set ((0 : Int).toNat) (Sc.n .i64 1)), 0)) ([], 0) fun e5 =>
          br (inRange k2 (e5.1).length)
            (br (kAt e5.1 k2.toNat)
              (kR (atN e5.1 k2.toNat))
              none)
            none)
          none)
        none))
    (kR (-1))
def f_s_SubsumsOfLength (g0 : List Sc) (l1 : List Sc) (k2 : Int) : Option (Int) := f_s_SubsumsOfLength_k g0 l1 k2 some

def f_s_l18Has_k {R : Type} (g0 : List Sc) (l1 : List Sc) (e2 : Int) (kR : Bool → Option R) : Option R :=
  br ((decide ((l1.length : Int) ≥ e2)) == true)
    (bo (f_s_SubsumsOfLength g0 l1 e2) 0 fun r1 =>
    kR ((and64 r1 1) == 1))
    (kR false)
def f_s_l18Has (g0 : List Sc) (l1 : List Sc) (e2 : Int) : Option (Bool) := f_s_l18Has_k g0 l1 e2 some

def f_s_l18Longest_k0 {R : Type} (self : (List Sc × List Sc × Int × Int) → Option (List Sc)) (l1 : List Sc) (e2 : Int) (g4 : List Sc) (best9 : List Sc) (x10 : Int) (kN : List Sc × Int → Option R) (kA : List Sc × Int → Option R) : Option R :=
  bo (f_s_l2Order g4) 0 fun r1 =>
  br ((decide (x10 < r1)))
    (br (decide (([] : List Sc).length + l1.length ≤ lim))
      (br (decide (([] ++ l1).length + [(Sc.n .i64 x10)].length ≤ lim))
        (br ((decide (((([] ++ l1) ++ [(Sc.n .i64 x10)]).length : Int) > 12)) == false)
          (bo (f_s_l18Has g4 (([] ++ l1) ++ [(Sc.n .i64 x10)]) e2) false fun r2 =>
          br (r2)
            (kN (best9, (w64 (x10 + 1))))
            (bo (self (g4, (([] ++ l1) ++ [(Sc.n .i64 x10)]), e2, x10)) [] fun r3 =>
            br ((decide ((r3.length : Int) > (best9.length : Int))))
              (kN (r3, (w64 (x10 + 1))))
              (kN (best9, (w64 (x10 + 1))))))
          (kN (best9, (w64 (x10 + 1)))))
        none)
      none)
    (kA (best9, x10))
def f_s_l18Longest_r0 (self : (List Sc × List Sc × Int × Int) → Option (List Sc)) (l1 : List Sc) (e2 : Int) (g4 : List Sc) : (List Sc × Int) → Option (Ro (List Sc × Int) (List Sc × Int) (Unit)) := fun s => f_s_l18Longest_k0 self l1 e2 g4 s.1 s.2 (fun s => some (.again s)) (fun e => some (.one e))
def f_s_l18Longest_k {R : Type} (self : (List Sc × List Sc × Int × Int) → Option (List Sc)) (g0 : List Sc) (l1 : List Sc) (e2 : Int) (least3 : Int) (kR : List Sc → Option R) : Option R :=
  bl1 (loopL (f_s_l18Longest_r0 self l1 e2 g0) (l1, least3)) ([], 0) fun e4 =>
  kR e4.1
def f_s_l18Longest_n : Nat → (List Sc × List Sc × Int × Int) → Option (List Sc)
  | 0, _ => none
  | n + 1, a => f_s_l18Longest_k (f_s_l18Longest_n n) a.1 a.2.1 a.2.2.1 a.2.2.2 some
def f_s_l18Longest (g0 : List Sc) (l1 : List Sc) (e2 : Int) (least3 : Int) : Option (List Sc) := limF f_s_l18Longest_n (g0, l1, e2, least3)

def f_s_EgzExample_k {R : Type} (g0 : List Sc) (kR : List Sc × Bool → Option R) : Option R :=
  bo (f_s_IsGroup g0) false fun r1 =>
  br ((!r1) == false)
    (bo (f_s_l2Order g0) 0 fun r2 =>
    br ((decide (r2 > 5)))
      (kR ([], false))
      (bo (f_s_ExponentOf g0) 0 fun r3 =>
      bo (f_s_l18Longest g0 [] r3 0) [] fun r4 =>
      kR (r4, true)))
    (kR ([], false))
def f_s_EgzExample (g0 : List Sc) : Option (List Sc × Bool) := f_s_EgzExample_k g0 some

def f_i_EgzConstant_k {R : Type} (g0 : List Sc) (kR : Int → Option R) : Option R :=
  bo (f_i_EgzExample g0) ([], false) fun r1 =>
  br ((!r1.2))
    (kR (-1))
    (kR (w64 ((r1.1.length : Int) + 1)))
def f_i_EgzConstant (g0 : List Sc) : Option (Int) := f_i_EgzConstant_k g0 some

def f_s_EgzConstant_k {R : Type} (g0 : List Sc) (kR : Int → Option R) : Option R :=
  bo (f_s_EgzExample g0) ([], false) fun r1 =>
  br ((!r1.2))
    (kR (-1))
    (kR (w64 ((r1.1.length : Int) + 1)))
def f_s_EgzConstant (g0 : List Sc) : Option (Int) := f_s_EgzConstant_k g0 some

def f_i_Group_has_k {R : Type} (g0 : List Sc) (x1 : Int) (kR : Bool → Option R) : Option R :=
  bo (f_i_OrderOf g0) 0 fun r1 =>
  bo (f_i_within x1 0 (w64 (r1 - 1))) false fun r2 =>
  kR r2
def f_i_Group_has (g0 : List Sc) (x1 : Int) : Option (Bool) := f_i_Group_has_k g0 x1 some

def f_cmp_isNaN_k {R : Type} (x0 : Int) (kR : Bool → Option R) : Option R :=
  kR (x0 != x0)
def f_cmp_isNaN (x0 : Int) : Option (Bool) := f_cmp_isNaN_k x0 some

def f_cmp_Less_k {R : Type} (x0 : Int) (y1 : Int) (kR : Bool → Option R) : Option R :=
  bo (f_cmp_isNaN x0) false fun r1 =>
  br (r1 == true)
    (bo (f_cmp_isNaN y1) false fun r2 =>
    br ((!r2) == false)
      (kR (decide (x0 < y1)))
      (kR true))
    (kR (decide (x0 < y1)))
def f_cmp_Less (x0 : Int) (y1 : Int) : Option (Bool) := f_cmp_Less_k x0 y1 some

def f_slices_IsSorted_k0 {R : Type} (x0 : List Sc) (i3 : Int) (kN : Int → Option R) (kA : Unit → Option R) (kB : Unit → Option R) : Option R :=
  br ((decide (i3 > 0)))
    (br (okAt x0 i3)
      (br (okAt x0 (w64 (i3 - 1)))
        (bo (f_cmp_Less (atI x0 i3) (atI x0 (w64 (i3 - 1)))) false fun r1 =>
        br (r1)
          (kB ())
          (kN (w64 (i3 - 1))))
        none)
      none)
    (kA ())
def f_slices_IsSorted_r0 (x0 : List Sc) : Int → Option (Ro (Int) (Unit) (Unit)) := fun s => f_slices_IsSorted_k0 x0 s (fun s => some (.again s)) (fun e => some (.one e)) (fun e => some (.two e))
def f_slices_IsSorted_k {R : Type} (x0 : List Sc) (kR : Bool → Option R) : Option R :=
  bl (loopL (f_slices_IsSorted_r0 x0) (w64 ((x0.length : Int) - 1))) () ()
    (fun e2 =>
      kR true)
    (fun e2 =>
      kR false)
def f_slices_IsSorted (x0 : List Sc) : Option (Bool) := f_slices_IsSorted_k x0 some

def f_i_IsSequence_k0 {R : Type} (l1 : List Sc) (g2 : List Sc) (t7 : List Sc) (t8 : Int) (t9 : Int) (kN : Int → Option R) (kA : Unit → Option R) (kB : Unit → Option R) : Option R :=
  br ((decide (t9 < t8)))
    (br (okAt t7 t9)
      (bo (f_i_Group_has g2 (atI t7 t9)) false fun r1 =>
      br ((!r1))
        (kB ())
        (kN (w64 (t9 + 1))))
      none)
    (kA ())
def f_i_IsSequence_r0 (l1 : List Sc) (g2 : List Sc) (t7 : List Sc) (t8 : Int) : Int → Option (Ro (Int) (Unit) (Unit)) := fun s => f_i_IsSequence_k0 l1 g2 t7 t8 s (fun s => some (.again s)) (fun e => some (.one e)) (fun e => some (.two e))
def f_i_IsSequence_k {R : Type} (g0 : List Sc) (l1 : List Sc) (kR : Bool → Option R) : Option R :=
  bl (loopL (f_i_IsSequence_r0 l1 g0 l1 (l1.length : Int)) 0) () ()
    (fun e2 =>
      bo (f_i_IsGroup g0) false fun r3 =>
      br (r3 == true)
        (br ((decide ((l1.length : Int) ≤ 12)) == true)
          (bo (f_slices_IsSorted l1) false fun r4 =>
          kR r4)
          (kR false))
        (kR false))
    (fun e2 =>
      kR false)
def f_i_IsSequence (g0 : List Sc) (l1 : List Sc) : Option (Bool) := f_i_IsSequence_k g0 l1 some

def f_i_Group_total_k0 {R : Type} (g2 : List Sc) (t8 : List Sc) (t9 : Int) (s5 : Int) (t10 : Int) (kN : Int × Int → Option R) (kA : Int → Option R) : Option R :=
  br ((decide (t10 < t9)))
    (br (okAt t8 t10)
      (bo (f_i_Group_add g2 s5 (atI t8 t10)) 0 fun r1 =>
      kN (r1, (w64 (t10 + 1))))
      none)
    (kA s5)
def f_i_Group_total_r0 (g2 : List Sc) (t8 : List Sc) (t9 : Int) : (Int × Int) → Option (Ro (Int × Int) (Int) (Unit)) := fun s => f_i_Group_total_k0 g2 t8 t9 s.1 s.2 (fun s => some (.again s)) (fun e => some (.one e))
def f_i_Group_total_k {R : Type} (g0 : List Sc) (l1 : List Sc) (kR : Int → Option R) : Option R :=
  bl1 (loopL (f_i_Group_total_r0 g0 l1 (l1.length : Int)) (0, 0)) 0 fun e2 =>
  kR e2
def f_i_Group_total (g0 : List Sc) (l1 : List Sc) : Option (Int) := f_i_Group_total_k g0 l1 some

def f_i_ZeroOfLength_k0 {R : Type} (l1 : List Sc) (k2 : Int) (g3 : List Sc) (t23 : Int) (t24 : Int) (kN : Int → Option R) (kA : Unit → Option R) (kB : List Sc → Option R) : Option R :=
  br ((decide (t24 < t23)))
    (bo (f_i_bits t24) 0 fun r3 =>
    br ((r3 == k2) == true)
      (bo (f_i_part l1 t24) [] fun r4 =>
      bo (f_i_Group_total g3 r4) 0 fun r5 =>
      br ((r5 == 0))
        (bo (f_i_part l1 t24) [] fun r6 =>
        kB r6)
        (kN (w64 (t24 + 1))))
      (kN (w64 (t24 + 1))))
    (kA ())
def f_i_ZeroOfLength_r0 (l1 : List Sc) (k2 : Int) (g3 : List Sc) (t23 : Int) : Int → Option (Ro (Int) (Unit) (List Sc)) := fun s => f_i_ZeroOfLength_k0 l1 k2 g3 t23 s (fun s => some (.again s)) (fun e => some (.one e)) (fun e => some (.two e))
def f_i_ZeroOfLength_k {R : Type} (g0 : List Sc) (l1 : List Sc) (k2 : Int) (kR : List Sc × Bool → Option R) : Option R :=
  bo (f_i_IsSequence g0 l1) false fun r1 =>
  br ((!r1) == false)
    (bo (f_i_within k2 1 (l1.length : Int)) false fun r2 =>
    br ((!r2))
      (kR ([], false))
      (br (decide ((l1.length : Int) < 0))
        none
        (bl (loopL (f_i_ZeroOfLength_r0 l1 k2 g0 (shl64 1 (l1.length : Int))) 0) () []
          (fun e7 =>
            kR ([], false))
          (fun e7 =>
            kR (e7, true)))))
    (kR ([], false))
def f_i_ZeroOfLength (g0 : List Sc) (l1 : List Sc) (k2 : Int) : Option (List Sc × Bool) := f_i_ZeroOfLength_k g0 l1 k2 some

def f_s_l2Draw_io_k0 {R : Type} (most1 : Int) (o6 : List Sc) (v0 : List Sc) (v1 : Int) (v2 : Int) (v3 : List Sc) (n7 : Int) (i8 : Int) (kN : List Sc × Int × Int × List Sc × Int × Int → Option R) (kA : List Sc × Int × Int × List Sc × Int → Option R) : Option R :=
  br ((decide (i8 < (o6.length : Int))))
    (br (okAt o6 i8)
      (kN (v0, v1, v2, v3, (w64 (n7 * (atI o6 i8))), (w64 (i8 + 1))))
      none)
    (kA (v0, v1, v2, v3, n7))
def f_s_l2Draw_io_r0 (most1 : Int) (o6 : List Sc) : (List Sc × Int × Int × List Sc × Int × Int) → Option (Ro (List Sc × Int × Int × List Sc × Int × Int) (List Sc × Int × Int × List Sc × Int) (Unit)) := fun s => f_s_l2Draw_io_k0 most1 o6 s.1 s.2.1 s.2.2.1 s.2.2.2.1 s.2.2.2.2.1 s.2.2.2.2.2 (fun s => some (.again s)) (fun e => some (.one e))
def f_s_l2Draw_io_k {R : Type} (most1 : Int) (h0 : List Sc) (h1 : Int) (h2 : Int) (kR : List Sc × List Sc × Int × Int → Option R) : Option R :=
  bo (f_s_l1Below_io (([[], [(Sc.n .i64 2)], [(Sc.n .i64 3)], [(Sc.n .i64 4)], [(Sc.n .i64 5)], [(Sc.n .i64 6)], [(Sc.n .i64 7)], [(Sc.n .i64 8)], [(Sc.n .i64 9)], [(Sc.n .i64 10)], [(Sc.n .i64 11)], [(Sc.n .i64 12)], [(Sc.n .i64 2), (Sc.n .i64 2)], [(Sc.n .i64 2), (Sc.n .i64 4)], [(Sc.n .i64 3), (Sc.n .i64 3)], [(Sc.n .i64 2), (Sc.n .i64 6)], [(Sc.n .i64 2), (Sc.n .i64 2), (Sc.n .i64 2)], [(Sc.n .i64 13)], [(Sc.n .i64 16)], [(Sc.n .i64 4), (Sc.n .i64 4)], [(Sc.n .i64 2), (Sc.n .i64 2), (Sc.n .i64 3)], [(Sc.n .i64 2), (Sc.n .i64 3)], [(Sc.n .i64 24)]] : List (List Sc)).length : Int) h0 h1 h2) (0, [], 0, 0) fun r1 =>
  br (inRange r1.1 ([[], [(Sc.n .i64 2)], [(Sc.n .i64 3)], [(Sc.n .i64 4)], [(Sc.n .i64 5)], [(Sc.n .i64 6)], [(Sc.n .i64 7)], [(Sc.n .i64 8)], [(Sc.n .i64 9)], [(Sc.n .i64 10)], [(Sc.n .i64 11)], [(Sc.n .i64 12)], [(Sc.n .i64 2), (Sc.n .i64 2)], [(Sc.n .i64 2), (Sc.n .i64 4)], [(Sc.n .i64 3), (Sc.n .i64 3)], [(Sc.n .i64 2), (Sc.n .i64 6)], [(Sc.n .i64 2), (Sc.n .i64 2), (Sc.n .i64 2)], [(Sc.n .i64 13)], [(Sc.n .i64 16)], [(Sc.n .i64 4), (Sc.n .i64 4)], [(Sc.n .i64 2), (Sc.n .i64 2), (Sc.n .i64 3)], [(Sc.n .i64 2), (Sc.n .i64 3)], [(Sc.n .i64 24)]] : List (List Sc)).length)
    (bl1 (loopL (f_s_l2Draw_io_r0 most1 (([[], [(Sc.n .i64 2)], [(Sc.n .i64 3)], [(Sc.n .i64 4)], [(Sc.n .i64 5)], [(Sc.n .i64 6)], [(Sc.n .i64 7)], [(Sc.n .i64 8)], [(Sc.n .i64 9)], [(Sc.n .i64 10)], [(Sc.n .i64 11)], [(Sc.n .i64 12)], [(Sc.n .i64 2), (Sc.n .i64 2)], [(Sc.n .i64 2), (Sc.n .i64 4)], [(Sc.n .i64 3), (Sc.n .i64 3)], [(Sc.n .i64 2), (Sc.n .i64 6)], [(Sc.n .i64 2), (Sc.n .i64 2), (Sc.n .i64 2)], [(Sc.n .i64 13)], [(Sc.n .i64 16)], [(Sc.n .i64 4), (Sc.n .i64 4)], [(Sc.n .i64 2), (Sc.n .i64 2), (Sc.n .i64 3)], [(Sc.n .i64 2), (Sc.n .i64 3)], [(Sc.n .i64 24)]] : List (List Sc)).getD r1.1.toNat [])) (r1.2.1, r1.2.2.1, r1.2.2.2, [], 1, 0)) ([], 0, 0, [], 0) fun e2 =>
    br ((decide (e2.2.2.2.2 > most1)))
      (kR ([(Sc.n .i64 5)], e2.1, e2.2.1, e2.2.2.1))
      (br (decide (([] : List Sc).length + (([[], [(Sc.n .i64 2)], [(Sc.n .i64 3)], [(Sc.n .i64 4)], [(Sc.n .i64 5)], [(Sc.n .i64 6)], [(Sc.n .i64 7)], [(Sc.n .i64 8)], [(Sc.n .i64 9)], [(Sc.n .i64 10)], [(Sc.n .i64 11)], [(Sc.n .i64 12)], [(Sc.n .i64 2), (Sc.n .i64 2)], [(Sc.n .i64 2), (Sc.n .i64 4)], [(Sc.n .i64 3), (Sc.n .i64 3)], [(Sc.n .i64 2), (Sc.n .i64 6)], [(Sc.n .i64 2), (Sc.n .i64 2), (Sc.n .i64 2)], [(Sc.n .i64 13)], [(Sc.n .i64 16)], [(Sc.n .i64 4), (Sc.n .i64 4)], [(Sc.n .i64 2), (Sc.n .i64 2), (Sc.n .i64 3)], [(Sc.n .i64 2), (Sc.n .i64 3)], [(Sc.n .i64 24)]] : List (List Sc)).getD r1.1.toNat []).length ≤ lim))
        (kR (([] ++ (([[], [(Sc.n .i64 2)], [(Sc.n .i64 3)], [(Sc.n .i64 4)], [(Sc.n .i64 5)], [(Sc.n .i64 6)], [(Sc.n .i64 7)], [(Sc.n .i64 8)], [(Sc.n .i64 9)], [(Sc.n .i64 10)], [(Sc.n .i64 11)], [(Sc.n .i64 12)], [(Sc.n .i64 2), (Sc.n .i64 2)], [(Sc.n .i64 2), (Sc.n .i64 4)], [(Sc.n .i64 3), (Sc.n .i64 3)], [(Sc.n .i64 2), (Sc.n .i64 6)], [(Sc.n .i64 2), (Sc.n .i64 2), (Sc.n .i64 2)], [(Sc.n .i64 13)], [(Sc.n .i64 16)], [(Sc.n .i64 4), (Sc.n .i64 4)], [(Sc.n .i64 2), (Sc.n .i64 2), (Sc.n .i64 3)], [(Sc.n .i64 2), (Sc.n .i64 3)], [(Sc.n .i64 24)]] : List (List Sc)).getD r1.1.toNat [])), e2.1, e2.2.1, e2.2.2.1))
        none))
    none
def f_s_l2Draw_io (most1 : Int) (h0 : List Sc) (h1 : Int) (h2 : Int) : Option (List Sc × List Sc × Int × Int) := f_s_l2Draw_io_k most1 h0 h1 h2 some

def f_s_l2Any_io_k {R : Type} (h0 : List Sc) (h1 : Int) (h2 : Int) (kR : List Sc × List Sc × Int × Int → Option R) : Option R :=
  bo (f_s_l2Draw_io 24 h0 h1 h2) ([], [], 0, 0) fun r1 =>
  bo (f_s_l1Below_io 16 r1.2.1 r1.2.2.1 r1.2.2.2) (0, [], 0, 0) fun r2 =>
  br ((r2.1 == 0))
    (bo (f_s_l1PickInt_io [(Sc.n .i64 0), (Sc.n .i64 1), (Sc.n .i64 (-1)), (Sc.n .i64 25), (Sc.n .i64 9223372036854775807)] r2.2.1 r2.2.2.1 r2.2.2.2) (0, [], 0, 0) fun r3 =>
    kR ([(Sc.n .i64 r3.1)], r3.2.1, r3.2.2.1, r3.2.2.2))
    (br ((r2.1 == 1))
      (kR ([(Sc.n .i64 2), (Sc.n .i64 2), (Sc.n .i64 2), (Sc.n .i64 2)], r2.2.1, r2.2.2.1, r2.2.2.2))
      (br ((r2.1 == 2))
        (kR ([(Sc.n .i64 5), (Sc.n .i64 5)], r2.2.1, r2.2.2.1, r2.2.2.2))
        (kR (r1.1, r2.2.1, r2.2.2.1, r2.2.2.2))))
def f_s_l2Any_io (h0 : List Sc) (h1 : Int) (h2 : Int) : Option (List Sc × List Sc × Int × Int) := f_s_l2Any_io_k h0 h1 h2 some

def f_s_l1Once_io_k {R : Type} (n1 : Int) (h0 : List Sc) (h1 : Int) (h2 : Int) (kR : Bool × List Sc × Int × Int → Option R) : Option R :=
  bo (f_s_l1Below_io n1 h0 h1 h2) (0, [], 0, 0) fun r1 =>
  kR ((r1.1 == 0), r1.2.1, r1.2.2.1, r1.2.2.2)
def f_s_l1Once_io (n1 : Int) (h0 : List Sc) (h1 : Int) (h2 : Int) : Option (Bool × List Sc × Int × Int) := f_s_l1Once_io_k n1 h0 h1 h2 some

def f_s_l16Sort_k2 {R : Type} (l0 : List Sc) (out3 : List Sc) (i4 : Int) (k5 : Int) (kN : Int → Option R) (kA : Int → Option R) : Option R :=
  br ((decide (k5 > 0)) == true)
    (br (okAt out3 (w64 (k5 - 1)))
      (br (okAt l0 i4)
        (br ((decide ((atI out3 (w64 (k5 - 1))) > (atI l0 i4))))
          (kN (w64 (k5 - 1)))
          (kA k5))
        none)
      none)
    (kA k5)
def f_s_l16Sort_r2 (l0 : List Sc) (out3 : List Sc) (i4 : Int) : Int → Option (Ro (Int) (Int) (Unit)) := fun s => f_s_l16Sort_k2 l0 out3 i4 s (fun s => some (.again s)) (fun e => some (.one e))
def f_s_l16Sort_k0 {R : Type} (l0 : List Sc) (out3 : List Sc) (i4 : Int) (kN : List Sc × Int → Option R) (kA : List Sc × Int → Option R) : Option R :=
  br ((decide (i4 < (l0.length : Int))))
    (bl1 (loopL (f_s_l16Sort_r2 l0 out3 i4) (out3.length : Int)) 0 fun e1 =>
    br (decide (0 ≤ (0 : Int)) && (decide ((0 : Int) ≤ e1) && decide (e1 ≤ (out3.length : Int))))
      (br (decide (([] : List Sc).length + (sliceA out3 0 e1).length ≤ lim))
        (br (okAt l0 i4)
          (br (decide (([] ++ (sliceA out3 0 e1)).length + [(Sc.n .i64 (atI l0 i4))].length ≤ lim))
            (br (decide (0 ≤ e1) && (decide (e1 ≤ (out3.length : Int)) && decide ((out3.length : Int) ≤ (out3.length : Int))))
              (br (decide ((([] ++ (sliceA out3 0 e1)) ++ [(Sc.n .i64 (atI l0 i4))]).length + (sliceA out3 e1 (out3.length : Int)).length ≤ lim))
                (kN (((([] ++ (sliceA out3 0 e1)) ++ [(Sc.n .i64 (atI l0 i4))]) ++ (sliceA out3 e1 (out3.length : Int))), (w64 (i4 + 1))))
                none)
              none)
            none)
          none)
        none)
      none)
    (kA (out3, i4))
def f_s_l16Sort_r0 (l0 : List Sc) : (List Sc × Int) → Option (Ro (List Sc × Int) (List Sc × Int) (Unit)) := fun s => f_s_l16Sort_k0 l0 s.1 s.2 (fun s => some (.again s)) (fun e => some (.one e))
def f_s_l16Sort_k {R : Type} (l0 : List Sc) (kR : List Sc → Option R) : Option R :=
  bl1 (loopL (f_s_l16Sort_r0 l0) ([], 0)) ([], 0) fun e2 =>
  kR e2.1
def f_s_l16Sort (l0 : List Sc) : Option (List Sc) := f_s_l16Sort_k l0 some

def f_s_l16Draw_io_k0 {R : Type} (v0 : List Sc) (v1 : Int) (v2 : Int) (v3 : List Sc) (v4 : List Sc) (l7 : List Sc) (x8 : Int) (n9 : Int) (kN : List Sc × Int × Int × List Sc × List Sc × List Sc × Int × Int → Option R) (kA : List Sc × Int × Int × List Sc × List Sc × List Sc → Option R) : Option R :=
  br ((decide (n9 > 0)))
    (bo (f_s_l1Once_io 2 v0 v1 v2) (false, [], 0, 0) fun r5 =>
    br (r5.1)
      (bo (f_s_OrderOf v4) 0 fun r6 =>
      bo (f_s_l1Below_io (if r6 > 1 then r6 else 1) r5.2.1 r5.2.2.1 r5.2.2.2) (0, [], 0, 0) fun r7 =>
      br (decide (l7.length + [(Sc.n .i64 r7.1)].length ≤ lim))
        (kN (r7.2.1, r7.2.2.1, r7.2.2.2, v3, v4, (l7 ++ [(Sc.n .i64 r7.1)]), r7.1, (w64 (n9 - 1))))
        none)
      (br (decide (l7.length + [(Sc.n .i64 x8)].length ≤ lim))
        (kN (r5.2.1, r5.2.2.1, r5.2.2.2, v3, v4, (l7 ++ [(Sc.n .i64 x8)]), x8, (w64 (n9 - 1))))
        none))
    (kA (v0, v1, v2, v3, v4, l7))
def f_s_l16Draw_io_r0 : (List Sc × Int × Int × List Sc × List Sc × List Sc × Int × Int) → Option (Ro (List Sc × Int × Int × List Sc × List Sc × List Sc × Int × Int) (List Sc × Int × Int × List Sc × List Sc × List Sc) (Unit)) := fun s => f_s_l16Draw_io_k0 s.1 s.2.1 s.2.2.1 s.2.2.2.1 s.2.2.2.2.1 s.2.2.2.2.2.1 s.2.2.2.2.2.2.1 s.2.2.2.2.2.2.2 (fun s => some (.again s)) (fun e => some (.one e))
def f_s_l16Draw_io_k {R : Type} (most1 : Int) (h0 : List Sc) (h1 : Int) (h2 : Int) (kR : List Sc × List Sc × List Sc × Int × Int → Option R) : Option R :=
  bo (f_s_l2Any_io h0 h1 h2) ([], [], 0, 0) fun r1 =>
  bo (f_s_OrderOf r1.1) 0 fun r2 =>
  bo (f_s_l1Below_io (if r2 > 1 then r2 else 1) r1.2.1 r1.2.2.1 r1.2.2.2) (0, [], 0, 0) fun r3 =>
  bo (f_s_l1Below_io (w64 (most1 + 1)) r3.2.1 r3.2.2.1 r3.2.2.2) (0, [], 0, 0) fun r4 =>
  bl1 (loopL (f_s_l16Draw_io_r0) (r4.2.1, r4.2.2.1, r4.2.2.2, [], r1.1, [], r3.1, r4.1)) ([], 0, 0, [], [], []) fun e8 =>
  bo (f_s_l1Once_io 12 e8.1 e8.2.1 e8.2.2.1) (false, [], 0, 0) fun r9 =>
  br (r9.1)
    (bo (f_s_l1PickInt_io [(Sc.n .i64 (-1)), (Sc.n .i64 0), (Sc.n .i64 24), (Sc.n .i64 9223372036854775807)] r9.2.1 r9.2.2.1 r9.2.2.2) (0, [], 0, 0) fun r10 =>
    br (decide (e8.2.2.2.2.2.length + [(Sc.n .i64 r10.1)].length ≤ lim))
      (kR (e8.2.2.2.2.1, (e8.2.2.2.2.2 ++ [(Sc.n .i64 r10.1)]), r10.2.1, r10.2.2.1, r10.2.2.2))
      none)
    (bo (f_s_l16Sort e8.2.2.2.2.2) [] fun r11 =>
    kR (e8.2.2.2.2.1, r11, r9.2.1, r9.2.2.1, r9.2.2.2))
def f_s_l16Draw_io (most1 : Int) (h0 : List Sc) (h1 : Int) (h2 : Int) : Option (List Sc × List Sc × List Sc × Int × Int) := f_s_l16Draw_io_k most1 h0 h1 h2 some

def f_s_l16Both_k {R : Type} (code0 : List Sc) (kR : List Sc × List Sc → Option R) : Option R :=
  bo (f_s_l1New code0) ([], 0, 0) fun r1 =>
  bo (f_s_l16Draw_io 7 r1.1 r1.2.1 r1.2.2) ([], [], [], 0, 0) fun r2 =>
  kR (r2.1, r2.2.1)
def f_s_l16Both (code0 : List Sc) : Option (List Sc × List Sc) := f_s_l16Both_k code0 some

def f_s_DrawZeroOfLength_g2_k {R : Type} (v0 : List Sc) (v1 : List Sc) (t0 : List Sc) (t6 : List Sc) (kA : Int → Option R) : Option R :=
  br (inRange ((t0.length : Int).tmod 6) ([(Sc.n .i64 1), (Sc.n .i64 2), (Sc.n .i64 3), (Sc.n .i64 4), (Sc.n .i64 0), (Sc.n .i64 13)]).length)
    (br (kAt [(Sc.n .i64 1), (Sc.n .i64 2), (Sc.n .i64 3), (Sc.n .i64 4), (Sc.n .i64 0), (Sc.n .i64 13)] ((t0.length : Int).tmod 6).toNat)
      (kA (atN [(Sc.n .i64 1), (Sc.n .i64 2), (Sc.n .i64 3), (Sc.n .i64 4), (Sc.n .i64 0), (Sc.n .i64 13)] ((t0.length : Int).tmod 6).toNat))
      none)
    none
def f_s_DrawZeroOfLength_g2 (v0 : List Sc) (v1 : List Sc) (t0 : List Sc) (t6 : List Sc) : Option (Int) := f_s_DrawZeroOfLength_g2_k v0 v1 t0 t6 some
def f_s_DrawZeroOfLength_k {R : Type} (code0 : List Sc) (kR : List Sc × List Sc × Int → Option R) : Option R :=
  bo (f_s_l16Both code0) ([], []) fun r1 =>
  bo (f_s_DrawZeroOfLength_g2 [] r1.1 code0 r1.2) 0 fun g2 =>
  kR (r1.1, r1.2, g2)
def f_s_DrawZeroOfLength (code0 : List Sc) : Option (List Sc × List Sc × Int) := f_s_DrawZeroOfLength_k code0 some

def f_s_l3Bits_k0 {R : Type} (n3 : Int) (x4 : Int) (kN : Int × Int → Option R) (kA : Int → Option R) : Option R :=
  br ((decide (x4 > 0)))
    (kN ((w64 (n3 + (and64 x4 1))), (shr64 x4 1)))
    (kA n3)
def f_s_l3Bits_r0 : (Int × Int) → Option (Ro (Int × Int) (Int) (Unit)) := fun s => f_s_l3Bits_k0 s.1 s.2 (fun s => some (.again s)) (fun e => some (.one e))
def f_s_l3Bits_k {R : Type} (a0 : Int) (kR : Int → Option R) : Option R :=
  bl1 (loopL (f_s_l3Bits_r0) (0, a0)) 0 fun e1 =>
  kR e1
def f_s_l3Bits (a0 : Int) : Option (Int) := f_s_l3Bits_k a0 some

def f_s_l16Sum_k0 {R : Type} (l1 : List Sc) (g2 : List Sc) (z5 : Int) (i6 : Int) (kN : Int × Int → Option R) (kA : Int → Option R) : Option R :=
  br ((decide (i6 < (l1.length : Int))))
    (br (okAt l1 i6)
      (bo (f_s_l2Add g2 z5 (atI l1 i6)) 0 fun r1 =>
      kN (r1, (w64 (i6 + 1))))
      none)
    (kA z5)
def f_s_l16Sum_r0 (l1 : List Sc) (g2 : List Sc) : (Int × Int) → Option (Ro (Int × Int) (Int) (Unit)) := fun s => f_s_l16Sum_k0 l1 g2 s.1 s.2 (fun s => some (.again s)) (fun e => some (.one e))
def f_s_l16Sum_k {R : Type} (g0 : List Sc) (l1 : List Sc) (kR : Int → Option R) : Option R :=
  bl1 (loopL (f_s_l16Sum_r0 l1 g0) (0, 0)) 0 fun e2 =>
  kR e2
def f_s_l16Sum (g0 : List Sc) (l1 : List Sc) : Option (Int) := f_s_l16Sum_k g0 l1 some

def f_s_ZeroOfLength_k0 {R : Type} (l1 : List Sc) (k2 : Int) (g3 : List Sc) (code8 : Int) (kN : Int → Option R) (kA : Unit → Option R) (kB : List Sc → Option R) : Option R :=
  br (decide ((l1.length : Int) < 0))
    none
    (br ((decide (code8 < (shl64 1 (l1.length : Int)))))
      (bo (f_s_l3Bits code8) 0 fun r3 =>
      br ((r3 == k2) == true)
        (bo (f_s_l16Part l1 code8) [] fun r4 =>
        bo (f_s_l16Sum g3 r4) 0 fun r5 =>
        br ((r5 == 0))
          (bo (f_s_l16Part l1 code8) [] fun r6 =>
          kB r6)
          (kN (w64 (code8 + 1))))
        (kN (w64 (code8 + 1))))
      (kA ()))
def f_s_ZeroOfLength_r0 (l1 : List Sc) (k2 : Int) (g3 : List Sc) : Int → Option (Ro (Int) (Unit) (List Sc)) := fun s => f_s_ZeroOfLength_k0 l1 k2 g3 s (fun s => some (.again s)) (fun e => some (.one e)) (fun e => some (.two e))
def f_s_ZeroOfLength_k {R : Type} (g0 : List Sc) (l1 : List Sc) (k2 : Int) (kR : List Sc × Bool → Option R) : Option R :=
  bo (f_s_IsSequence g0 l1) false fun r1 =>
  br ((!r1) == false)
    (bo (f_s_l1In k2 1 (l1.length : Int)) false fun r2 =>
    br ((!r2))
      (kR ([], false))
      (bl (loopL (f_s_ZeroOfLength_r0 l1 k2 g0) 1) () []
        (fun e7 =>
          kR ([], false))
        (fun e7 =>
          kR (e7, true))))
    (kR ([], false))
def f_s_ZeroOfLength (g0 : List Sc) (l1 : List Sc) (k2 : Int) : Option (List Sc × Bool) := f_s_ZeroOfLength_k g0 l1 k2 some

def f_i_IsZeroSum_k {R : Type} (g0 : List Sc) (l1 : List Sc) (kR : Bool → Option R) : Option R :=
  bo (f_i_IsSequence g0 l1) false fun r1 =>
  br (r1 == true)
    (bo (f_i_Group_total g0 l1) 0 fun r2 =>
    kR (r2 == 0))
    (kR false)
def f_i_IsZeroSum (g0 : List Sc) (l1 : List Sc) : Option (Bool) := f_i_IsZeroSum_k g0 l1 some

def f_s_DrawWeightedZero_k {R : Type} (code0 : List Sc) (kR : List Sc × List Sc → Option R) : Option R :=
  bo (f_s_l16Both code0) ([], []) fun r1 =>
  kR (r1.1, r1.2)
def f_s_DrawWeightedZero (code0 : List Sc) : Option (List Sc × List Sc) := f_s_DrawWeightedZero_k code0 some

def f_i_Group_negate_k0 {R : Type} (t10 : List Sc) (t11 : Int) (x1 : Int) (sum5 : Int) (unit6 : Int) (t12 : Int) (kN : Int × Int × Int × Int → Option R) (kA : Int → Option R) : Option R :=
  br ((decide (t12 < t11)))
    (br (okAt t10 t12)
      (br ((atI t10 t12) == 0)
        none
        (br ((atI t10 t12) == 0)
          none
          (br ((atI t10 t12) == 0)
            none
            (kN ((w64 (x1.tdiv (atI t10 t12))), (w64 (sum5 + (w64 (((w64 ((atI t10 t12) - (x1.tmod (atI t10 t12)))).tmod (atI t10 t12)) * unit6)))), (w64 (unit6 * (atI t10 t12))), (w64 (t12 + 1)))))))
      none)
    (kA sum5)
def f_i_Group_negate_r0 (t10 : List Sc) (t11 : Int) : (Int × Int × Int × Int) → Option (Ro (Int × Int × Int × Int) (Int) (Unit)) := fun s => f_i_Group_negate_k0 t10 t11 s.1 s.2.1 s.2.2.1 s.2.2.2 (fun s => some (.again s)) (fun e => some (.one e))
def f_i_Group_negate_k {R : Type} (g0 : List Sc) (x1 : Int) (kR : Int → Option R) : Option R :=
  bl1 (loopL (f_i_Group_negate_r0 g0 (g0.length : Int)) (x1, 0, 1, 0)) 0 fun e1 =>
  kR e1
def f_i_Group_negate (g0 : List Sc) (x1 : Int) : Option (Int) := f_i_Group_negate_k g0 x1 some

def f_i_Group_times_k0 {R : Type} (x1 : Int) (g3 : List Sc) (t15 : Int) (sum7 : Int) (t16 : Int) (kN : Int × Int → Option R) (kA : Int → Option R) : Option R :=
  br ((decide (t16 < t15)))
    (bo (f_i_Group_add g3 sum7 x1) 0 fun r2 =>
    kN (r2, (w64 (t16 + 1))))
    (kA sum7)
def f_i_Group_times_r0 (x1 : Int) (g3 : List Sc) (t15 : Int) : (Int × Int) → Option (Ro (Int × Int) (Int) (Unit)) := fun s => f_i_Group_times_k0 x1 g3 t15 s.1 s.2 (fun s => some (.again s)) (fun e => some (.one e))
def f_i_Group_times_k {R : Type} (g0 : List Sc) (x1 : Int) (n2 : Int) (kR : Int → Option R) : Option R :=
  br ((decide (n2 < 0)))
    (bo (f_i_Group_negate g0 x1) 0 fun r1 =>
    bl1 (loopL (f_i_Group_times_r0 r1 g0 (w64 (0 - n2))) (0, 0)) 0 fun e3 =>
    kR e3)
    (bl1 (loopL (f_i_Group_times_r0 x1 g0 n2) (0, 0)) 0 fun e4 =>
    kR e4)
def f_i_Group_times (g0 : List Sc) (x1 : Int) (n2 : Int) : Option (Int) := f_i_Group_times_k g0 x1 n2 some

def f_i_WeightedZero_1_k0 {R : Type} (self : (Int × Int × Bool × List Sc × List Sc × List Sc × List Sc × List Sc) → Option (Bool × List Sc × List Sc × List Sc)) (i0 : Int) (sum1 : Int) (some2 : Bool) (t3 : List Sc) (t6 : List Sc) (t23 : Int) (v0 : List Sc) (v1_0 : List Sc) (v1_1 : List Sc) (t22 : List Sc) (t24 : Int) (kN : List Sc × List Sc × List Sc × List Sc × Int → Option R) (kA : List Sc × List Sc × List Sc → Option R) (kB : List Sc × List Sc × List Sc → Option R) : Option R :=
  br ((decide (t24 < t23)))
    (br (inRange t24 (t22).length)
      (br (kAt t22 t24.toNat)
        (br (inRange i0 (v0).length)
          (br (okAt t3 i0)
            (bo (f_i_Group_times t6 (atI t3 i0) (atN t22 t24.toNat)) 0 fun r1 =>
            bo (f_i_Group_add t6 sum1 r1) 0 fun r2 =>
            br (some2 == false)
              (bo (self ((w64 (i0 + 1)), r2, ((atN t22 t24.toNat) != 0), v1_0, v1_1, (v0.set i0.toNat (Sc.n .i64 (atN t22 t24.toNat))), v1_0, v1_1)) (false, [], [], []) fun r3 =>
              br (r3.1)
                (kB (r3.2.1, r3.2.2.1, r3.2.2.2))
                (kN (r3.2.1, r3.2.2.1, r3.2.2.2, t22, (w64 (t24 + 1)))))
              (bo (self ((w64 (i0 + 1)), r2, true, v1_0, v1_1, (v0.set i0.toNat (Sc.n .i64 (atN t22 t24.toNat))), v1_0, v1_1)) (false, [], [], []) fun r4 =>
              br (r4.1)
                (kB (r4.2.1, r4.2.2.1, r4.2.2.2))
                (kN (r4.2.1, r4.2.2.1, r4.2.2.2, t22, (w64 (t24 + 1))))))
            none)
          none)
        none)
      none)
    (kA (v0, v1_0, v1_1))
def f_i_WeightedZero_1_r0 (self : (Int × Int × Bool × List Sc × List Sc × List Sc × List Sc × List Sc) → Option (Bool × List Sc × List Sc × List Sc)) (i0 : Int) (sum1 : Int) (some2 : Bool) (t3 : List Sc) (t6 : List Sc) (t23 : Int) : (List Sc × List Sc × List Sc × List Sc × Int) → Option (Ro (List Sc × List Sc × List Sc × List Sc × Int) (List Sc × List Sc × List Sc) (List Sc × List Sc × List Sc)) := fun s => f_i_WeightedZero_1_k0 self i0 sum1 some2 t3 t6 t23 s.1 s.2.1 s.2.2.1 s.2.2.2.1 s.2.2.2.2 (fun s => some (.again s)) (fun e => some (.one e)) (fun e => some (.two e))
def f_i_WeightedZero_1_k {R : Type} (self : (Int × Int × Bool × List Sc × List Sc × List Sc × List Sc × List Sc) → Option (Bool × List Sc × List Sc × List Sc)) (i0 : Int) (sum1 : Int) (some2 : Bool) (p3 : List Sc) (p6 : List Sc) (h0 : List Sc) (h1_0 : List Sc) (h1_1 : List Sc) (kR : Bool × List Sc × List Sc × List Sc → Option R) : Option R :=
  br ((i0 == (p3.length : Int)))
    (br (some2 == true)
      (kR ((sum1 == 0), h0, h1_0, h1_1))
      (kR (false, h0, h1_0, h1_1)))
    (bl (loopL (f_i_WeightedZero_1_r0 self i0 sum1 some2 p3 p6 ([(Sc.n .i64 0), (Sc.n .i64 1), (Sc.n .i64 (-1))].length : Int)) (h0, h1_0, h1_1, [(Sc.n .i64 0), (Sc.n .i64 1), (Sc.n .i64 (-1))], 0)) ([], [], []) ([], [], [])
      (fun e5 =>
        kR (false, e5.1, e5.2.1, e5.2.2))
      (fun e5 =>
        kR (true, e5.1, e5.2.1, e5.2.2)))
def f_i_WeightedZero_1_n : Nat → (Int × Int × Bool × List Sc × List Sc × List Sc × List Sc × List Sc) → Option (Bool × List Sc × List Sc × List Sc)
  | 0, _ => none
  | n + 1, a => f_i_WeightedZero_1_k (f_i_WeightedZero_1_n n) a.1 a.2.1 a.2.2.1 a.2.2.2.1 a.2.2.2.2.1 a.2.2.2.2.2.1 a.2.2.2.2.2.2.1 a.2.2.2.2.2.2.2 some
def f_i_WeightedZero_1 (i0 : Int) (sum1 : Int) (some2 : Bool) (p3 : List Sc) (p6 : List Sc) (h0 : List Sc) (h1_0 : List Sc) (h1_1 : List Sc) : Option (Bool × List Sc × List Sc × List Sc) := limF f_i_WeightedZero_1_n (i0, sum1, some2, p3, p6, h0, h1_0, h1_1)

def f_i_WeightedZero_k {R : Type} (g0 : List Sc) (l1 : List Sc) (kR : List Sc × Bool → Option R) : Option R :=
  bo (f_i_IsSequence g0 l1) false fun r1 =>
  br ((!r1) == false)
    (br ((decide ((l1.length : Int) > 7)))
      (kR ([], false))
      (br (decide (0 ≤ (l1.length : Int)) && (decide ((l1.length : Int) ≤ (l1.length : Int)) && decide ((l1.length : Int) ≤ (lim : Int))))
        (bo (f_i_WeightedZero_1 0 0 false l1 g0 (List.replicate (l1.length : Int).toNat (Sc.n .i64 0)) l1 g0) (false, [], [], []) fun r2 =>
        br ((!r2.1))
          (kR ([], false))
          (kR (r2.2.1, true)))
        none))
    (kR ([], false))
def f_i_WeightedZero (g0 : List Sc) (l1 : List Sc) : Option (List Sc × Bool) := f_i_WeightedZero_k g0 l1 some

def f_s_l2Negate_k0 {R : Type} (g2 : List Sc) (x1 : Int) (z5 : Int) (step6 : Int) (i7 : Int) (kN : Int × Int × Int × Int → Option R) (kA : Int → Option R) : Option R :=
  br ((decide (i7 < (g2.length : Int))))
    (br (okAt g2 i7)
      (br ((atI g2 i7) == 0)
        none
        (br ((atI g2 i7) == 0)
          none
          (br ((atI g2 i7) == 0)
            none
            (kN ((w64 (x1.tdiv (atI g2 i7))), (w64 (z5 + (w64 (((w64 ((atI g2 i7) - (x1.tmod (atI g2 i7)))).tmod (atI g2 i7)) * step6)))), (w64 (step6 * (atI g2 i7))), (w64 (i7 + 1)))))))
      none)
    (kA z5)
def f_s_l2Negate_r0 (g2 : List Sc) : (Int × Int × Int × Int) → Option (Ro (Int × Int × Int × Int) (Int) (Unit)) := fun s => f_s_l2Negate_k0 g2 s.1 s.2.1 s.2.2.1 s.2.2.2 (fun s => some (.again s)) (fun e => some (.one e))
def f_s_l2Negate_k {R : Type} (g0 : List Sc) (x1 : Int) (kR : Int → Option R) : Option R :=
  bl1 (loopL (f_s_l2Negate_r0 g0) (x1, 0, 1, 0)) 0 fun e1 =>
  kR e1
def f_s_l2Negate (g0 : List Sc) (x1 : Int) : Option (Int) := f_s_l2Negate_k g0 x1 some

def f_s_WeightedZero_k0 {R : Type} (t1 : List Sc) (t2 : List Sc) (t6 : Int) (t7 : Int) (kN : Int × Int → Option R) (kA : Int → Option R) : Option R :=
  br ((decide (t7 < (t1.length : Int))))
    (kN ((w64 (t6 * 3)), (w64 (t7 + 1))))
    (kA t6)
def f_s_WeightedZero_r0 (t1 : List Sc) (t2 : List Sc) : (Int × Int) → Option (Ro (Int × Int) (Int) (Unit)) := fun s => f_s_WeightedZero_k0 t1 t2 s.1 s.2 (fun s => some (.again s)) (fun e => some (.one e))
def f_s_WeightedZero_k4 {R : Type} (t1 : List Sc) (t2 : List Sc) (t6 : Int) (t8 : Int) (t9 : List Sc) (t10 : Int) (t11 : Int) (t12 : Int) (kN : List Sc × Int × Int × Int → Option R) (kA : List Sc × Int → Option R) : Option R :=
  br ((decide (t12 ≥ 0)))
    (br (((t10.tmod 3) == 1))
      (br (inRange t12 (t9).length)
        (br (okAt t1 t12)
          (bo (f_s_l2Add t2 t11 (atI t1 t12)) 0 fun r3 =>
          kN ((t9.set t12.toNat (Sc.n .i64 1)), (w64 (t10.tdiv 3)), r3, (w64 (t12 - 1))))
          none)
        none)
      (br (((t10.tmod 3) == 2))
        (br (inRange t12 (t9).length)
          (br (okAt t1 t12)
            (bo (f_s_l2Negate t2 (atI t1 t12)) 0 fun r4 =>
            bo (f_s_l2Add t2 t11 r4) 0 fun r5 =>
            kN ((t9.set t12.toNat (Sc.n .i64 (-1))), (w64 (t10.tdiv 3)), r5, (w64 (t12 - 1))))
            none)
          none)
        (kN (t9, (w64 (t10.tdiv 3)), t11, (w64 (t12 - 1))))))
    (kA (t9, t11))
def f_s_WeightedZero_r4 (t1 : List Sc) (t2 : List Sc) (t6 : Int) (t8 : Int) : (List Sc × Int × Int × Int) → Option (Ro (List Sc × Int × Int × Int) (List Sc × Int) (Unit)) := fun s => f_s_WeightedZero_k4 t1 t2 t6 t8 s.1 s.2.1 s.2.2.1 s.2.2.2 (fun s => some (.again s)) (fun e => some (.one e))
def f_s_WeightedZero_k2 {R : Type} (t1 : List Sc) (t2 : List Sc) (t6 : Int) (t8 : Int) (kN : Int → Option R) (kA : Int → Option R) (kB : List Sc → Option R) : Option R :=
  br ((decide (t8 < t6)))
    (br (decide (0 ≤ (t1.length : Int)) && (decide ((t1.length : Int) ≤ (t1.length : Int)) && decide ((t1.length : Int) ≤ (lim : Int))))
      (bl1 (loopL (f_s_WeightedZero_r4 t1 t2 t6 t8) ((List.replicate (t1.length : Int).toNat (Sc.n .i64 0)), t8, 0, (w64 ((t1.length : Int) - 1)))) ([], 0) fun e6 =>
      br ((e6.2 == 0))
        (kB e6.1)
        (kN (w64 (t8 + 1))))
      none)
    (kA t8)
def f_s_WeightedZero_r2 (t1 : List Sc) (t2 : List Sc) (t6 : Int) : Int → Option (Ro (Int) (Int) (List Sc)) := fun s => f_s_WeightedZero_k2 t1 t2 t6 s (fun s => some (.again s)) (fun e => some (.one e)) (fun e => some (.two e))
def f_s_WeightedZero_k {R : Type} (L0 : List Sc) (p1 : List Sc) (kR : List Sc × Bool → Option R) : Option R :=
  bo (f_s_IsSequence L0 p1) false fun r1 =>
  br ((!r1) == false)
    (br ((decide ((p1.length : Int) > 7)))
      (kR ([], false))
      (bl1 (loopL (f_s_WeightedZero_r0 p1 L0) (1, 0)) 0 fun e2 =>
      bl (loopL (f_s_WeightedZero_r2 p1 L0 e2) 1) 0 []
        (fun e7 =>
          kR ([], false))
        (fun e7 =>
          kR (e7, true))))
    (kR ([], false))
def f_s_WeightedZero (L0 : List Sc) (p1 : List Sc) : Option (List Sc × Bool) := f_s_WeightedZero_k L0 p1 some

def f_s_MultipleOf_k0 {R : Type} (x1 : Int) (n2 : Int) (g3 : List Sc) (z7 : Int) (i8 : Int) (kN : Int × Int → Option R) (kA : Int → Option R) : Option R :=
  br ((decide (i8 < n2)))
    (bo (f_s_l2Add g3 z7 x1) 0 fun r4 =>
    kN (r4, (w64 (i8 + 1))))
    (kA z7)
def f_s_MultipleOf_r0 (x1 : Int) (n2 : Int) (g3 : List Sc) : (Int × Int) → Option (Ro (Int × Int) (Int) (Unit)) := fun s => f_s_MultipleOf_k0 x1 n2 g3 s.1 s.2 (fun s => some (.again s)) (fun e => some (.one e))
def f_s_MultipleOf_k {R : Type} (g0 : List Sc) (x1 : Int) (n2 : Int) (kR : Int → Option R) : Option R :=
  bo (f_s_l2Is g0 x1) false fun r1 =>
  br ((!r1) == false)
    (bo (f_s_l1In n2 (-100) 100) false fun r2 =>
    br ((!r2))
      (kR (-1))
      (br ((decide (n2 < 0)))
        (bo (f_s_l2Negate g0 x1) 0 fun r3 =>
        bl1 (loopL (f_s_MultipleOf_r0 r3 (w64 (0 - n2)) g0) (0, 0)) 0 fun e5 =>
        kR e5)
        (bl1 (loopL (f_s_MultipleOf_r0 x1 n2 g0) (0, 0)) 0 fun e6 =>
        kR e6)))
    (kR (-1))
def f_s_MultipleOf (g0 : List Sc) (x1 : Int) (n2 : Int) : Option (Int) := f_s_MultipleOf_k g0 x1 n2 some

def f_s_AddElements_k {R : Type} (g0 : List Sc) (x1 : Int) (y2 : Int) (kR : Int → Option R) : Option R :=
  bo (f_s_l2Is g0 x1) false fun r1 =>
  br ((!r1) == false)
    (bo (f_s_l2Is g0 y2) false fun r2 =>
    br ((!r2))
      (kR (-1))
      (bo (f_s_l2Add g0 x1 y2) 0 fun r3 =>
      kR r3))
    (kR (-1))
def f_s_AddElements (g0 : List Sc) (x1 : Int) (y2 : Int) : Option (Int) := f_s_AddElements_k g0 x1 y2 some

def f_l_FnEgz_k0 {R : Type} (L0 : List Sc) (t3 : List Sc) (t4 : Int) (t6 : Bool) (t7 : List Sc) (t9 : Bool) (t10 : Int) (kN : List Sc × Bool × Int → Option R) (kA : List Sc × Bool → Option R) : Option R :=
  br ((decide (t10 < (t3.length : Int))))
    (br (t9 == true)
      (br (okAt t3 t10)
        (br ((decide ((atI t3 t10) ≥ (-1000000))) == true)
          (br (okAt t3 t10)
            (kN (t7, (decide ((atI t3 t10) ≤ 1000000)), (w64 (t10 + 1))))
            none)
          (kN (t7, false, (w64 (t10 + 1)))))
        none)
      (kN (t7, false, (w64 (t10 + 1)))))
    (kA (t7, t9))
def f_l_FnEgz_r0 (L0 : List Sc) (t3 : List Sc) (t4 : Int) (t6 : Bool) : (List Sc × Bool × Int) → Option (Ro (List Sc × Bool × Int) (List Sc × Bool) (Unit)) := fun s => f_l_FnEgz_k0 L0 t3 t4 t6 s.1 s.2.1 s.2.2 (fun s => some (.again s)) (fun e => some (.one e))
def f_l_FnEgz_k2 {R : Type} (v2 : List Sc) (t27 : List Sc) (t30 : List Sc) (t32 : Int) (t33 : Int) (kN : List Sc × List Sc × List Sc × Int × Int → Option R) (kA : List Sc × List Sc × Int → Option R) : Option R :=
  br ((decide (t33 < (t30.length : Int))))
    (br (inRange t33 (t27).length)
      (br (kAt t27 t33.toNat)
        (br (inRange t33 (t30).length)
          (br (kAt t30 t33.toNat)
            (bo (f_s_MultipleOf v2 (atN t27 t33.toNat) (atN t30 t33.toNat)) 0 fun r26 =>
            bo (f_s_AddElements v2 t32 r26) 0 fun r27 =>
            kN (v2, t27, t30, r27, (w64 (t33 + 1))))
            none)
          none)
        none)
      none)
    (kA (t27, t30, t32))
def f_l_FnEgz_r2 : (List Sc × List Sc × List Sc × Int × Int) → Option (Ro (List Sc × List Sc × List Sc × Int × Int) (List Sc × List Sc × Int) (Unit)) := fun s => f_l_FnEgz_k2 s.1 s.2.1 s.2.2.1 s.2.2.2.1 s.2.2.2.2 (fun s => some (.again s)) (fun e => some (.one e))
def f_l_FnEgz_w42_k {R : Type} (kA : Unit → Option R) : Option R :=
  kA ()
def f_l_FnEgz_w42 : Option (Unit) := f_l_FnEgz_w42_k some
def f_l_FnEgz_w35_k {R : Type} (v2 : List Sc) (t27 : List Sc) (t29 : Bool) (t30 : List Sc) (kA : Bool → Option R) : Option R :=
  br (t29)
    (bl1 (loopL (f_l_FnEgz_r2) (v2, t27, t30, 0, 0)) ([], [], 0) fun e28 =>
    br ((e28.2.2 == 0) == true)
      (kA ((e28.2.1.length : Int) == (e28.1.length : Int)))
      (kA false))
    (bo (f_l_FnEgz_w42) () fun w29 =>
    kA true)
def f_l_FnEgz_w35 (v2 : List Sc) (t27 : List Sc) (t29 : Bool) (t30 : List Sc) : Option (Bool) := f_l_FnEgz_w35_k v2 t27 t29 t30 some
def f_l_FnEgz_w30_k {R : Type} (t0 : List Sc) (kA : Bool → Option R) : Option R :=
  bo (f_s_DrawWeightedZero t0) ([], []) fun r22 =>
  bo (f_i_WeightedZero r22.1 r22.2) ([], false) fun r23 =>
  bo (f_s_WeightedZero r22.1 r22.2) ([], false) fun r24 =>
  br ((!(r23.2 == r24.2)) == false)
    (bo (f_l_sameInts r23.1 r24.1) false fun r25 =>
    br ((!r25))
      (kA false)
      (bo (f_l_FnEgz_w35 r22.1 r22.2 r23.2 r24.1) false fun w30 =>
      kA w30))
    (kA false)
def f_l_FnEgz_w30 (t0 : List Sc) : Option (Bool) := f_l_FnEgz_w30_k t0 some
def f_l_FnEgz_w25_k {R : Type} (t0 : List Sc) (kA : Bool → Option R) : Option R :=
  bo (f_s_DrawZeroOfLength t0) ([], [], 0) fun r17 =>
  bo (f_i_ZeroOfLength r17.1 r17.2.1 r17.2.2) ([], false) fun r18 =>
  bo (f_s_ZeroOfLength r17.1 r17.2.1 r17.2.2) ([], false) fun r19 =>
  br ((!(r18.2 == r19.2)) == false)
    (bo (f_l_sameInts r18.1 r19.1) false fun r20 =>
    br ((!r20) == false)
      (br (r18.2 == true)
        (br (((r19.1.length : Int) != r17.2.2) == false)
          (bo (f_i_IsZeroSum r17.1 r19.1) false fun r21 =>
          br ((!r21))
            (kA false)
            (bo (f_l_FnEgz_w30 t0) false fun w31 =>
            kA w31))
          (kA false))
        (bo (f_l_FnEgz_w30 t0) false fun w32 =>
        kA w32))
      (kA false))
    (kA false)
def f_l_FnEgz_w25 (t0 : List Sc) : Option (Bool) := f_l_FnEgz_w25_k t0 some
def f_l_FnEgz_w21_k {R : Type} (v0 : List Sc) (t0 : List Sc) (t13 : Bool) (t14 : List Sc) (t16 : Int) (kA : Bool → Option R) : Option R :=
  br (t13)
    (bo (f_s_ExponentOf v0) 0 fun r14 =>
    bo (f_i_ZeroOfLength v0 t14 r14) ([], false) fun r15 =>
    br (r15.2 == false)
      (br ((t16 != (w64 ((t14.length : Int) + 1))) == false)
        (br ((decide ((v0.length : Int) < 2)) == true)
          (bo (f_s_OrderOf v0) 0 fun r16 =>
          br ((t16 != (w64 ((w64 (2 * r16)) - 1))))
            (kA false)
            (bo (f_l_FnEgz_w25 t0) false fun w33 =>
            kA w33))
          (bo (f_l_FnEgz_w25 t0) false fun w34 =>
          kA w34))
        (kA false))
      (kA false))
    (bo (f_l_FnEgz_w25 t0) false fun w35 =>
    kA w35)
def f_l_FnEgz_w21 (v0 : List Sc) (t0 : List Sc) (t13 : Bool) (t14 : List Sc) (t16 : Int) : Option (Bool) := f_l_FnEgz_w21_k v0 t0 t13 t14 t16 some
def f_l_FnEgz_w15_k {R : Type} (t0 : List Sc) (kA : Bool → Option R) : Option R :=
  bo (f_s_DrawEgzExample t0) [] fun r8 =>
  bo (f_i_EgzExample r8) ([], false) fun r9 =>
  bo (f_s_EgzExample r8) ([], false) fun r10 =>
  bo (f_i_EgzConstant r8) 0 fun r11 =>
  br ((!(r9.2 == r10.2)) == false)
    (bo (f_l_sameInts r9.1 r10.1) false fun r12 =>
    br ((!r12) == false)
      (bo (f_s_EgzConstant r8) 0 fun r13 =>
      br ((r11 != r13))
        (kA false)
        (bo (f_l_FnEgz_w21 r8 t0 r9.2 r10.1 r11) false fun w36 =>
        kA w36))
      (kA false))
    (kA false)
def f_l_FnEgz_w15 (t0 : List Sc) : Option (Bool) := f_l_FnEgz_w15_k t0 some
def f_l_FnEgz_w13_k {R : Type} (t0 : List Sc) (t4 : Int) (t6 : Bool) (t7 : List Sc) (t9 : Bool) (kA : Bool → Option R) : Option R :=
  br ((!(t6 == t9)) == false)
    (br (t6 == true)
      (br (((t7.length : Int) != t4) == false)
        (bo (f_l_total t7) 0 fun r7 =>
        br (t4 == 0)
          none
          (br (((r7.tmod t4) != 0))
            (kA false)
            (bo (f_l_FnEgz_w15 t0) false fun w37 =>
            kA w37)))
        (kA false))
      (bo (f_l_FnEgz_w15 t0) false fun w38 =>
      kA w38))
    (kA false)
def f_l_FnEgz_w13 (t0 : List Sc) (t4 : Int) (t6 : Bool) (t7 : List Sc) (t9 : Bool) : Option (Bool) := f_l_FnEgz_w13_k t0 t4 t6 t7 t9 some
def f_l_FnEgz_w8_k {R : Type} (t0 : List Sc) (t3 : List Sc) (t4 : Int) (t6 : Bool) (t7 : List Sc) (kA : Bool → Option R) : Option R :=
  br ((decide (t4 ≥ 1)) == true)
    (br ((decide (t4 ≤ 6)) == true)
      (br ((decide ((t3.length : Int) ≥ (w64 ((w64 (2 * t4)) - 1)))) == true)
        (bl1 (loopL (f_l_FnEgz_r0 t0 t3 t4 t6) (t7, (decide ((t3.length : Int) ≤ 12)), 0)) ([], false) fun e6 =>
        bo (f_l_FnEgz_w13 t0 t4 t6 e6.1 e6.2) false fun w39 =>
        kA w39)
        (bl1 (loopL (f_l_FnEgz_r0 t0 t3 t4 t6) (t7, false, 0)) ([], false) fun e40 =>
        bo (f_l_FnEgz_w13 t0 t4 t6 e40.1 e40.2) false fun w41 =>
        kA w41))
      (bl1 (loopL (f_l_FnEgz_r0 t0 t3 t4 t6) (t7, false, 0)) ([], false) fun e42 =>
      bo (f_l_FnEgz_w13 t0 t4 t6 e42.1 e42.2) false fun w43 =>
      kA w43))
    (bl1 (loopL (f_l_FnEgz_r0 t0 t3 t4 t6) (t7, false, 0)) ([], false) fun e44 =>
    bo (f_l_FnEgz_w13 t0 t4 t6 e44.1 e44.2) false fun w45 =>
    kA w45)
def f_l_FnEgz_w8 (t0 : List Sc) (t3 : List Sc) (t4 : Int) (t6 : Bool) (t7 : List Sc) : Option (Bool) := f_l_FnEgz_w8_k t0 t3 t4 t6 t7 some
def f_l_FnEgz_w3_k {R : Type} (t0 : List Sc) (kA : Bool → Option R) : Option R :=
  bo (f_s_DrawEgzPart t0) ([], 0) fun r2 =>
  bo (f_i_EgzPart r2.1 r2.2) ([], false) fun r3 =>
  bo (f_s_EgzPart r2.1 r2.2) ([], false) fun r4 =>
  br ((!(r3.2 == r4.2)) == false)
    (bo (f_l_sameInts r3.1 r4.1) false fun r5 =>
    br ((!r5))
      (kA false)
      (bo (f_l_FnEgz_w8 t0 r2.1 r2.2 r3.2 r4.1) false fun w46 =>
      kA w46))
    (kA false)
def f_l_FnEgz_w3 (t0 : List Sc) : Option (Bool) := f_l_FnEgz_w3_k t0 some
def f_l_FnEgz_k {R : Type} (L0 : List Sc) (kR : Bool → Option R) : Option R :=
  bo (f_l_big L0) false fun r1 =>
  br (r1)
    (kR true)
    (bo (f_l_FnEgz_w3 L0) false fun w47 =>
    kR w47)
def f_l_FnEgz (L0 : List Sc) : Option (Bool) := f_l_FnEgz_k L0 some
end
end Go.Proofs.Ytphbclogflflmaa
