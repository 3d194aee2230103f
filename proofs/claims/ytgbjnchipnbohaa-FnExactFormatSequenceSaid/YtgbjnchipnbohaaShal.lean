/-
  What the functions compute, as plain functions (printed by gen2.py).
-/
import Derived.Test.YtgbjnchipnbohaaVSort
set_option linter.unusedVariables false
namespace Go.Proofs.Ytgbjnchipnbohaa
open Go Ev
noncomputable section
def f_l_szIntS_k {R : Type} (a0 : List Sc) (left1 : Int) (kR : Int → Option R) : Option R :=
  br ((decide ((w64 (left1 - (a0.length : Int))) < 0)))
    (kR (-1))
    (kR (w64 (left1 - (a0.length : Int))))
def f_l_szIntS (a0 : List Sc) (left1 : Int) : Option (Int) := f_l_szIntS_k a0 left1 some

def f_l_szGroup_k {R : Type} (a0 : List Sc) (left1 : Int) (kR : Int → Option R) : Option R :=
  bo (f_l_szIntS a0 left1) 0 fun r1 =>
  br ((decide (r1 < 0)))
    (kR (-1))
    (kR r1)
def f_l_szGroup (a0 : List Sc) (left1 : Int) : Option (Int) := f_l_szGroup_k a0 left1 some

def f_l_toIntS_k0 {R : Type} (a0 : List Sc) (out3 : List Sc) (i4 : Int) (kN : List Sc × Int → Option R) (kA : List Sc → Option R) : Option R :=
  br ((decide (i4 < (a0.length : Int))))
    (br (okAt a0 i4)
      (br (inRange i4 (out3).length)
        (kN ((out3.set i4.toNat (Sc.n .i64 (atI a0 i4))), (w64 (i4 + 1))))
        none)
      none)
    (kA out3)
def f_l_toIntS_r0 (a0 : List Sc) : (List Sc × Int) → Option (Ro (List Sc × Int) (List Sc) (Unit)) := fun s => f_l_toIntS_k0 a0 s.1 s.2 (fun s => some (.again s)) (fun e => some (.one e))
def f_l_toIntS_k {R : Type} (a0 : List Sc) (kR : List Sc → Option R) : Option R :=
  br (decide (0 ≤ (a0.length : Int)) && (decide ((a0.length : Int) ≤ (a0.length : Int)) && decide ((a0.length : Int) ≤ (lim : Int))))
    (bl1 (loopL (f_l_toIntS_r0 a0) ((List.replicate (a0.length : Int).toNat (Sc.n .i64 0)), 0)) [] fun e1 =>
    kR e1)
    none
def f_l_toIntS (a0 : List Sc) : Option (List Sc) := f_l_toIntS_k a0 some

def f_l_toGroup_k {R : Type} (a0 : List Sc) (kR : List Sc → Option R) : Option R :=
  bo (f_l_toIntS a0) [] fun r1 =>
  kR r1
def f_l_toGroup (a0 : List Sc) : Option (List Sc) := f_l_toGroup_k a0 some

def f_s_l1In_k {R : Type} (x0 : Int) (low1 : Int) (high2 : Int) (kR : Bool → Option R) : Option R :=
  br ((decide (x0 ≥ low1)) == true)
    (kR (decide (x0 ≤ high2)))
    (kR false)
def f_s_l1In (x0 : Int) (low1 : Int) (high2 : Int) : Option (Bool) := f_s_l1In_k x0 low1 high2 some

def f_s_IsGroup_k0 {R : Type} (g1 : List Sc) (n3 : Int) (i4 : Int) (kN : Int × Int → Option R) (kA : Int → Option R) (kB : Unit → Option R) : Option R :=
  br ((decide (i4 < (g1.length : Int))))
    (br (okAt g1 i4)
      (bo (f_s_l1In (atI g1 i4) 2 24) false fun r1 =>
      br ((!r1) == false)
        (br ((decide (i4 > 2)))
          (kB ())
          (br (okAt g1 i4)
            (kN ((w64 (n3 * (atI g1 i4))), (w64 (i4 + 1))))
            none))
        (kB ()))
      none)
    (kA n3)
def f_s_IsGroup_r0 (g1 : List Sc) : (Int × Int) → Option (Ro (Int × Int) (Int) (Unit)) := fun s => f_s_IsGroup_k0 g1 s.1 s.2 (fun s => some (.again s)) (fun e => some (.one e)) (fun e => some (.two e))
def f_s_IsGroup_k {R : Type} (g0 : List Sc) (kR : Bool → Option R) : Option R :=
  bl (loopL (f_s_IsGroup_r0 g0) (1, 0)) 0 ()
    (fun e2 =>
      kR (decide (e2 ≤ 24)))
    (fun e2 =>
      kR false)
def f_s_IsGroup (g0 : List Sc) : Option (Bool) := f_s_IsGroup_k g0 some

def f_s_l2Order_k0 {R : Type} (g1 : List Sc) (n3 : Int) (i4 : Int) (kN : Int × Int → Option R) (kA : Int → Option R) : Option R :=
  br ((decide (i4 < (g1.length : Int))))
    (br (okAt g1 i4)
      (kN ((w64 (n3 * (atI g1 i4))), (w64 (i4 + 1))))
      none)
    (kA n3)
def f_s_l2Order_r0 (g1 : List Sc) : (Int × Int) → Option (Ro (Int × Int) (Int) (Unit)) := fun s => f_s_l2Order_k0 g1 s.1 s.2 (fun s => some (.again s)) (fun e => some (.one e))
def f_s_l2Order_k {R : Type} (g0 : List Sc) (kR : Int → Option R) : Option R :=
  bl1 (loopL (f_s_l2Order_r0 g0) (1, 0)) 0 fun e1 =>
  kR e1
def f_s_l2Order (g0 : List Sc) : Option (Int) := f_s_l2Order_k g0 some

def f_s_OrderOf_k {R : Type} (g0 : List Sc) (kR : Int → Option R) : Option R :=
  bo (f_s_IsGroup g0) false fun r1 =>
  br ((!r1))
    (kR 0)
    (bo (f_s_l2Order g0) 0 fun r2 =>
    kR r2)
def f_s_OrderOf (g0 : List Sc) : Option (Int) := f_s_OrderOf_k g0 some

def f_s_l2Is_k {R : Type} (g0 : List Sc) (x1 : Int) (kR : Bool → Option R) : Option R :=
  br ((decide (x1 ≥ 0)) == true)
    (bo (f_s_OrderOf g0) 0 fun r1 =>
    kR (decide (x1 < r1)))
    (kR false)
def f_s_l2Is (g0 : List Sc) (x1 : Int) : Option (Bool) := f_s_l2Is_k g0 x1 some

def f_s_IsSequence_k0 {R : Type} (l1 : List Sc) (g2 : List Sc) (i5 : Int) (kN : Int → Option R) (kA : Unit → Option R) (kB : Unit → Option R) : Option R :=
  br ((decide (i5 < (l1.length : Int))))
    (br (okAt l1 i5)
      (bo (f_s_l2Is g2 (atI l1 i5)) false fun r1 =>
      br ((!r1) == false)
        (br ((decide (i5 > 0)) == true)
          (br (okAt l1 i5)
            (br (okAt l1 (w64 (i5 - 1)))
              (br ((decide ((atI l1 i5) < (atI l1 (w64 (i5 - 1))))))
                (kB ())
                (kN (w64 (i5 + 1))))
              none)
            none)
          (kN (w64 (i5 + 1))))
        (kB ()))
      none)
    (kA ())
def f_s_IsSequence_r0 (l1 : List Sc) (g2 : List Sc) : Int → Option (Ro (Int) (Unit) (Unit)) := fun s => f_s_IsSequence_k0 l1 g2 s (fun s => some (.again s)) (fun e => some (.one e)) (fun e => some (.two e))
def f_s_IsSequence_k {R : Type} (g0 : List Sc) (l1 : List Sc) (kR : Bool → Option R) : Option R :=
  bl (loopL (f_s_IsSequence_r0 l1 g0) 0) () ()
    (fun e2 =>
      bo (f_s_IsGroup g0) false fun r3 =>
      br (r3 == true)
        (kR (decide ((l1.length : Int) ≤ 12)))
        (kR false))
    (fun e2 =>
      kR false)
def f_s_IsSequence (g0 : List Sc) (l1 : List Sc) : Option (Bool) := f_s_IsSequence_k g0 l1 some

def f_s_FormatInt_k0 {R : Type} (neg4 : Bool) (n0 : Int) (out3 : ByteArray) (kN : Int × ByteArray → Option R) (kA : ByteArray → Option R) : Option R :=
  br ((n0 != 0))
    (br ((decide ((n0.tmod 10) < 0)))
      (br (allU [(Sc.n .u8 (IntKind.u8.wrap (w64 (48 + (w64 (0 - (n0.tmod 10)))))))])
        (br (decide ((bytesOf [(Sc.n .u8 (IntKind.u8.wrap (w64 (48 + (w64 (0 - (n0.tmod 10)))))))]).size + out3.size ≤ lim))
          (kN ((w64 (n0.tdiv 10)), ((bytesOf [(Sc.n .u8 (IntKind.u8.wrap (w64 (48 + (w64 (0 - (n0.tmod 10)))))))]) ++ out3)))
          none)
        none)
      (br (allU [(Sc.n .u8 (IntKind.u8.wrap (w64 (48 + (n0.tmod 10)))))])
        (br (decide ((bytesOf [(Sc.n .u8 (IntKind.u8.wrap (w64 (48 + (n0.tmod 10)))))]).size + out3.size ≤ lim))
          (kN ((w64 (n0.tdiv 10)), ((bytesOf [(Sc.n .u8 (IntKind.u8.wrap (w64 (48 + (n0.tmod 10)))))]) ++ out3)))
          none)
        none))
    (kA out3)
def f_s_FormatInt_r0 (neg4 : Bool) : (Int × ByteArray) → Option (Ro (Int × ByteArray) (ByteArray) (Unit)) := fun s => f_s_FormatInt_k0 neg4 s.1 s.2 (fun s => some (.again s)) (fun e => some (.one e))
def f_s_FormatInt_k {R : Type} (n0 : Int) (kR : ByteArray → Option R) : Option R :=
  br ((n0 == 0))
    (kR (ByteArray.mk #[48]))
    (bl1 (loopL (f_s_FormatInt_r0 (decide (n0 < 0))) (n0, ByteArray.empty)) ByteArray.empty fun e1 =>
    br ((decide (n0 < 0)))
      (br (decide ((ByteArray.mk #[45]).size + e1.size ≤ lim))
        (kR ((ByteArray.mk #[45]) ++ e1))
        none)
      (kR e1))
def f_s_FormatInt (n0 : Int) : Option (ByteArray) := f_s_FormatInt_k n0 some

def f_s_MultiplicityIn_k0 {R : Type} (l0 : List Sc) (x1 : Int) (n5 : Int) (i6 : Int) (kN : Int × Int → Option R) (kA : Int → Option R) : Option R :=
  br ((decide (i6 < (l0.length : Int))))
    (br (okAt l0 i6)
      (br (((atI l0 i6) == x1))
        (kN ((w64 (n5 + 1)), (w64 (i6 + 1))))
        (kN (n5, (w64 (i6 + 1)))))
      none)
    (kA n5)
def f_s_MultiplicityIn_r0 (l0 : List Sc) (x1 : Int) : (Int × Int) → Option (Ro (Int × Int) (Int) (Unit)) := fun s => f_s_MultiplicityIn_k0 l0 x1 s.1 s.2 (fun s => some (.again s)) (fun e => some (.one e))
def f_s_MultiplicityIn_k {R : Type} (l0 : List Sc) (x1 : Int) (kR : Int → Option R) : Option R :=
  bl1 (loopL (f_s_MultiplicityIn_r0 l0 x1) (0, 0)) 0 fun e1 =>
  kR e1
def f_s_MultiplicityIn (l0 : List Sc) (x1 : Int) : Option (Int) := f_s_MultiplicityIn_k l0 x1 some

def f_s_FormatSequence_k0 {R : Type} (t1 : List Sc) (t2 : List Sc) (t5 : ByteArray) (t6 : Int) (kN : ByteArray × Int → Option R) (kA : ByteArray × Int → Option R) : Option R :=
  br ((decide (t6 < (t1.length : Int))) == true)
    (bo (f_s_IsSequence t2 t1) false fun r1 =>
    br (r1)
      (br ((decide (t6 > 0)) == true)
        (br (okAt t1 t6)
          (br (okAt t1 (w64 (t6 - 1)))
            (br (((atI t1 t6) == (atI t1 (w64 (t6 - 1)))))
              (kN (t5, (w64 (t6 + 1))))
              (br ((!(t5.toList == ByteArray.empty.toList)))
                (br (decide (t5.size + (ByteArray.mk #[32]).size ≤ lim))
                  (br (okAt t1 t6)
                    (bo (f_s_FormatInt (atI t1 t6)) ByteArray.empty fun r2 =>
                    br (decide ((t5 ++ (ByteArray.mk #[32])).size + r2.size ≤ lim))
                      (br (okAt t1 t6)
                        (bo (f_s_MultiplicityIn t1 (atI t1 t6)) 0 fun r3 =>
                        br ((decide (r3 > 1)))
                          (br (decide (((t5 ++ (ByteArray.mk #[32])) ++ r2).size + (ByteArray.mk #[94]).size ≤ lim))
                            (bo (f_s_FormatInt r3) ByteArray.empty fun r4 =>
                            br (decide ((((t5 ++ (ByteArray.mk #[32])) ++ r2) ++ (ByteArray.mk #[94])).size + r4.size ≤ lim))
                              (kN (((((t5 ++ (ByteArray.mk #[32])) ++ r2) ++ (ByteArray.mk #[94])) ++ r4), (w64 (t6 + 1))))
                              none)
                            none)
                          (kN (((t5 ++ (ByteArray.mk #[32])) ++ r2), (w64 (t6 + 1)))))
                        none)
                      none)
                    none)
                  none)
                (br (okAt t1 t6)
                  (bo (f_s_FormatInt (atI t1 t6)) ByteArray.empty fun r5 =>
                  br (decide (t5.size + r5.size ≤ lim))
                    (br (okAt t1 t6)
                      (bo (f_s_MultiplicityIn t1 (atI t1 t6)) 0 fun r6 =>
                      br ((decide (r6 > 1)))
                        (br (decide ((t5 ++ r5).size + (ByteArray.mk #[94]).size ≤ lim))
                          (bo (f_s_FormatInt r6) ByteArray.empty fun r7 =>
                          br (decide (((t5 ++ r5) ++ (ByteArray.mk #[94])).size + r7.size ≤ lim))
                            (kN ((((t5 ++ r5) ++ (ByteArray.mk #[94])) ++ r7), (w64 (t6 + 1))))
                            none)
                          none)
                        (kN ((t5 ++ r5), (w64 (t6 + 1)))))
                      none)
                    none)
                  none)))
            none)
          none)
        (br ((!(t5.toList == ByteArray.empty.toList)))
          (br (decide (t5.size + (ByteArray.mk #[32]).size ≤ lim))
            (br (okAt t1 t6)
              (bo (f_s_FormatInt (atI t1 t6)) ByteArray.empty fun r8 =>
              br (decide ((t5 ++ (ByteArray.mk #[32])).size + r8.size ≤ lim))
                (br (okAt t1 t6)
                  (bo (f_s_MultiplicityIn t1 (atI t1 t6)) 0 fun r9 =>
                  br ((decide (r9 > 1)))
                    (br (decide (((t5 ++ (ByteArray.mk #[32])) ++ r8).size + (ByteArray.mk #[94]).size ≤ lim))
                      (bo (f_s_FormatInt r9) ByteArray.empty fun r10 =>
                      br (decide ((((t5 ++ (ByteArray.mk #[32])) ++ r8) ++ (ByteArray.mk #[94])).size + r10.size ≤ lim))
                        (kN (((((t5 ++ (ByteArray.mk #[32])) ++ r8) ++ (ByteArray.mk #[94])) ++ r10), (w64 (t6 + 1))))
                        none)
                      none)
                    (kN (((t5 ++ (ByteArray.mk #[32])) ++ r8), (w64 (t6 + 1)))))
                  none)
                none)
              none)
            none)
          (br (okAt t1 t6)
            (bo (f_s_FormatInt (atI t1 t6)) ByteArray.empty fun r11 =>
            br (decide (t5.size + r11.size ≤ lim))
              (br (okAt t1 t6)
                (bo (f_s_MultiplicityIn t1 (atI t1 t6)) 0 fun r12 =>
                br ((decide (r12 > 1)))
                  (br (decide ((t5 ++ r11).size + (ByteArray.mk #[94]).size ≤ lim))
                    (bo (f_s_FormatInt r12) ByteArray.empty fun r13 =>
                    br (decide (((t5 ++ r11) ++ (ByteArray.mk #[94])).size + r13.size ≤ lim))
                      (kN ((((t5 ++ r11) ++ (ByteArray.mk #[94])) ++ r13), (w64 (t6 + 1))))
                      none)
                    none)
                  (kN ((t5 ++ r11), (w64 (t6 + 1)))))
                none)
              none)
            none)))
      (kA (t5, t6)))
    (kA (t5, t6))
def f_s_FormatSequence_r0 (t1 : List Sc) (t2 : List Sc) : (ByteArray × Int) → Option (Ro (ByteArray × Int) (ByteArray × Int) (Unit)) := fun s => f_s_FormatSequence_k0 t1 t2 s.1 s.2 (fun s => some (.again s)) (fun e => some (.one e))
def f_s_FormatSequence_k {R : Type} (L0 : List Sc) (p1 : List Sc) (kR : ByteArray → Option R) : Option R :=
  bl1 (loopL (f_s_FormatSequence_r0 p1 L0) (ByteArray.empty, 0)) (ByteArray.empty, 0) fun e14 =>
  br ((e14.1.toList == ByteArray.empty.toList) == true)
    (bo (f_s_IsSequence L0 p1) false fun r15 =>
    br (r15)
      (kR (ByteArray.mk #[110, 111, 110, 101]))
      (kR e14.1))
    (kR e14.1)
def f_s_FormatSequence (L0 : List Sc) (p1 : List Sc) : Option (ByteArray) := f_s_FormatSequence_k L0 p1 some

def f_i_within_k {R : Type} (x0 : Int) (lo1 : Int) (hi2 : Int) (kR : Bool → Option R) : Option R :=
  br ((decide (x0 ≥ lo1)) == true)
    (kR (decide (x0 ≤ hi2)))
    (kR false)
def f_i_within (x0 : Int) (lo1 : Int) (hi2 : Int) : Option (Bool) := f_i_within_k x0 lo1 hi2 some

def f_i_IsGroup_k0 {R : Type} (t11 : List Sc) (t12 : Int) (n3 : Int) (t13 : Int) (kN : Int × Int → Option R) (kA : Int → Option R) (kB : Unit → Option R) : Option R :=
  br ((decide (t13 < t12)))
    (br (okAt t11 t13)
      (bo (f_i_within (atI t11 t13) 2 24) false fun r1 =>
      br ((!r1))
        (kB ())
        (kN ((w64 (n3 * (atI t11 t13))), (w64 (t13 + 1)))))
      none)
    (kA n3)
def f_i_IsGroup_r0 (t11 : List Sc) (t12 : Int) : (Int × Int) → Option (Ro (Int × Int) (Int) (Unit)) := fun s => f_i_IsGroup_k0 t11 t12 s.1 s.2 (fun s => some (.again s)) (fun e => some (.one e)) (fun e => some (.two e))
def f_i_IsGroup_k {R : Type} (g0 : List Sc) (kR : Bool → Option R) : Option R :=
  br ((decide ((g0.length : Int) > 3)))
    (kR false)
    (bl (loopL (f_i_IsGroup_r0 g0 (g0.length : Int)) (1, 0)) 0 ()
      (fun e2 =>
        kR (decide (e2 ≤ 24)))
      (fun e2 =>
        kR false))
def f_i_IsGroup (g0 : List Sc) : Option (Bool) := f_i_IsGroup_k g0 some

def f_i_OrderOf_k0 {R : Type} (t10 : List Sc) (t11 : Int) (n3 : Int) (t12 : Int) (kN : Int × Int → Option R) (kA : Int → Option R) : Option R :=
  br ((decide (t12 < t11)))
    (br (okAt t10 t12)
      (kN ((w64 (n3 * (atI t10 t12))), (w64 (t12 + 1))))
      none)
    (kA n3)
def f_i_OrderOf_r0 (t10 : List Sc) (t11 : Int) : (Int × Int) → Option (Ro (Int × Int) (Int) (Unit)) := fun s => f_i_OrderOf_k0 t10 t11 s.1 s.2 (fun s => some (.again s)) (fun e => some (.one e))
def f_i_OrderOf_k {R : Type} (g0 : List Sc) (kR : Int → Option R) : Option R :=
  bo (f_i_IsGroup g0) false fun r1 =>
  br ((!r1))
    (kR 0)
    (bl1 (loopL (f_i_OrderOf_r0 g0 (g0.length : Int)) (1, 0)) 0 fun e2 =>
    kR e2)
def f_i_OrderOf (g0 : List Sc) : Option (Int) := f_i_OrderOf_k g0 some

def f_i_Group_has_k {R : Type} (g0 : List Sc) (x1 : Int) (kR : Bool → Option R) : Option R :=
  bo (f_i_OrderOf g0) 0 fun r1 =>
  bo (f_i_within x1 0 (w64 (r1 - 1))) false fun r2 =>
  kR r2
def f_i_Group_has (g0 : List Sc) (x1 : Int) : Option (Bool) := f_i_Group_has_k g0 x1 some

def f_cmp_isNaN_k {R : Type} (x0 : Int) (kR : Bool → Option R) : Option R :=
  kR (x0 != x0)
def f_cmp_isNaN (x0 : Int) : Option (Bool) := f_cmp_isNaN_k x0 some

def f_cmp_Less_k {R : Type} (x0 : Int) (y1 : Int) (kR : Bool → Option R) : Option R :=
  bo (f_cmp_isNaN x0) false fun r1 =>
  br (r1 == true)
    (bo (f_cmp_isNaN y1) false fun r2 =>
    br ((!r2) == false)
      (kR (decide (x0 < y1)))
      (kR true))
    (kR (decide (x0 < y1)))
def f_cmp_Less (x0 : Int) (y1 : Int) : Option (Bool) := f_cmp_Less_k x0 y1 some

def f_slices_IsSorted_k0 {R : Type} (x0 : List Sc) (i3 : Int) (kN : Int → Option R) (kA : Unit → Option R) (kB : Unit → Option R) : Option R :=
  br ((decide (i3 > 0)))
    (br (okAt x0 i3)
      (br (okAt x0 (w64 (i3 - 1)))
        (bo (f_cmp_Less (atI x0 i3) (atI x0 (w64 (i3 - 1)))) false fun r1 =>
        br (r1)
          (kB ())
          (kN (w64 (i3 - 1))))
        none)
      none)
    (kA ())
def f_slices_IsSorted_r0 (x0 : List Sc) : Int → Option (Ro (Int) (Unit) (Unit)) := fun s => f_slices_IsSorted_k0 x0 s (fun s => some (.again s)) (fun e => some (.one e)) (fun e => some (.two e))
def f_slices_IsSorted_k {R : Type} (x0 : List Sc) (kR : Bool → Option R) : Option R :=
  bl (loopL (f_slices_IsSorted_r0 x0) (w64 ((x0.length : Int) - 1))) () ()
    (fun e2 =>
      kR true)
    (fun e2 =>
      kR false)
def f_slices_IsSorted (x0 : List Sc) : Option (Bool) := f_slices_IsSorted_k x0 some

def f_i_IsSequence_k0 {R : Type} (l1 : List Sc) (g2 : List Sc) (t7 : List Sc) (t8 : Int) (t9 : Int) (kN : Int → Option R) (kA : Unit → Option R) (kB : Unit → Option R) : Option R :=
  br ((decide (t9 < t8)))
    (br (okAt t7 t9)
      (bo (f_i_Group_has g2 (atI t7 t9)) false fun r1 =>
      br ((!r1))
        (kB ())
        (kN (w64 (t9 + 1))))
      none)
    (kA ())
def f_i_IsSequence_r0 (l1 : List Sc) (g2 : List Sc) (t7 : List Sc) (t8 : Int) : Int → Option (Ro (Int) (Unit) (Unit)) := fun s => f_i_IsSequence_k0 l1 g2 t7 t8 s (fun s => some (.again s)) (fun e => some (.one e)) (fun e => some (.two e))
def f_i_IsSequence_k {R : Type} (g0 : List Sc) (l1 : List Sc) (kR : Bool → Option R) : Option R :=
  bl (loopL (f_i_IsSequence_r0 l1 g0 l1 (l1.length : Int)) 0) () ()
    (fun e2 =>
      bo (f_i_IsGroup g0) false fun r3 =>
      br (r3 == true)
        (br ((decide ((l1.length : Int) ≤ 12)) == true)
          (bo (f_slices_IsSorted l1) false fun r4 =>
          kR r4)
          (kR false))
        (kR false))
    (fun e2 =>
      kR false)
def f_i_IsSequence (g0 : List Sc) (l1 : List Sc) : Option (Bool) := f_i_IsSequence_k g0 l1 some

def f_i_FormatInt_k0 {R : Type} (n0 : Int) (out3 : List Sc) (m4 : Int) (kN : List Sc × Int → Option R) (kA : List Sc → Option R) : Option R :=
  br ((m4 != 0))
    (br ((decide ((m4.tmod 10) < 0)))
      (br (decide (out3.length + [(Sc.n .u8 (IntKind.u8.wrap (w64 (48 + (w64 (0 - (m4.tmod 10)))))))].length ≤ lim))
        (kN ((out3 ++ [(Sc.n .u8 (IntKind.u8.wrap (w64 (48 + (w64 (0 - (m4.tmod 10)))))))]), (w64 (m4.tdiv 10))))
        none)
      (br (decide (out3.length + [(Sc.n .u8 (IntKind.u8.wrap (w64 (48 + (m4.tmod 10)))))].length ≤ lim))
        (kN ((out3 ++ [(Sc.n .u8 (IntKind.u8.wrap (w64 (48 + (m4.tmod 10)))))]), (w64 (m4.tdiv 10))))
        none))
    (kA out3)
def f_i_FormatInt_r0 (n0 : Int) : (List Sc × Int) → Option (Ro (List Sc × Int) (List Sc) (Unit)) := fun s => f_i_FormatInt_k0 n0 s.1 s.2 (fun s => some (.again s)) (fun e => some (.one e))
def f_i_FormatInt_k2 {R : Type} (out3 : List Sc) (i6 : Int) (j7 : Int) (kN : List Sc × Int × Int → Option R) (kA : List Sc → Option R) : Option R :=
  br ((decide (i6 < j7)))
    (br (inRange j7 (out3).length)
      (br (kZ (.n .u8 0) out3 j7.toNat)
        (br (inRange i6 (out3).length)
          (br (kZ (.n .u8 0) out3 i6.toNat)
            (br (inRange i6 (out3).length)
              (br (inRange j7 ((out3.set i6.toNat (Sc.n .u8 (nAt out3 .u8 j7.toNat)))).length)
                (kN (((out3.set i6.toNat (Sc.n .u8 (nAt out3 .u8 j7.toNat))).set j7.toNat (Sc.n .u8 (nAt out3 .u8 i6.toNat))), (w64 (i6 + 1)), (w64 (j7 - 1))))
                none)
              none)
            none)
          none)
        none)
      none)
    (kA out3)
def f_i_FormatInt_r2 : (List Sc × Int × Int) → Option (Ro (List Sc × Int × Int) (List Sc) (Unit)) := fun s => f_i_FormatInt_k2 s.1 s.2.1 s.2.2 (fun s => some (.again s)) (fun e => some (.one e))
def f_i_FormatInt_k {R : Type} (n0 : Int) (kR : ByteArray → Option R) : Option R :=
  br ((n0 == 0))
    (kR (ByteArray.mk #[48]))
    (bl1 (loopL (f_i_FormatInt_r0 n0) ([], n0)) [] fun e1 =>
    br ((decide (n0 < 0)))
      (br (decide (e1.length + [(Sc.n .u8 45)].length ≤ lim))
        (bl1 (loopL (f_i_FormatInt_r2) ((e1 ++ [(Sc.n .u8 45)]), 0, (w64 (((e1 ++ [(Sc.n .u8 45)]).length : Int) - 1)))) [] fun e2 =>
        br (allU e2)
          (kR (bytesOf e2))
          none)
        none)
      (bl1 (loopL (f_i_FormatInt_r2) (e1, 0, (w64 ((e1.length : Int) - 1)))) [] fun e3 =>
      br (allU e3)
        (kR (bytesOf e3))
        none))
def f_i_FormatInt (n0 : Int) : Option (ByteArray) := f_i_FormatInt_k n0 some

def f_i_MultiplicityIn_k0 {R : Type} (x1 : Int) (t8 : List Sc) (t9 : Int) (n5 : Int) (t10 : Int) (kN : Int × Int → Option R) (kA : Int → Option R) : Option R :=
  br ((decide (t10 < t9)))
    (br (okAt t8 t10)
      (br ((x1 == (atI t8 t10)))
        (kN ((w64 (n5 + 1)), (w64 (t10 + 1))))
        (kN (n5, (w64 (t10 + 1)))))
      none)
    (kA n5)
def f_i_MultiplicityIn_r0 (x1 : Int) (t8 : List Sc) (t9 : Int) : (Int × Int) → Option (Ro (Int × Int) (Int) (Unit)) := fun s => f_i_MultiplicityIn_k0 x1 t8 t9 s.1 s.2 (fun s => some (.again s)) (fun e => some (.one e))
def f_i_MultiplicityIn_k {R : Type} (l0 : List Sc) (x1 : Int) (kR : Int → Option R) : Option R :=
  bl1 (loopL (f_i_MultiplicityIn_r0 x1 l0 (l0.length : Int)) (0, 0)) 0 fun e1 =>
  kR e1
def f_i_MultiplicityIn (l0 : List Sc) (x1 : Int) : Option (Int) := f_i_MultiplicityIn_k l0 x1 some

def f_i_glued_k0 {R : Type} (by1 : ByteArray) (t8 : List Sc) (t9 : Int) (s5 : ByteArray) (t10 : Int) (kN : ByteArray × Int → Option R) (kA : ByteArray → Option R) : Option R :=
  br ((decide (t10 < t9)))
    (br (okZ (.s ByteArray.empty) t8 t10)
      (br ((decide (t10 > 0)))
        (br (decide (s5.size + by1.size ≤ lim))
          (br (decide ((s5 ++ by1).size + (atU t8 t10).size ≤ lim))
            (kN (((s5 ++ by1) ++ (atU t8 t10)), (w64 (t10 + 1))))
            none)
          none)
        (br (decide (s5.size + (atU t8 t10).size ≤ lim))
          (kN ((s5 ++ (atU t8 t10)), (w64 (t10 + 1))))
          none))
      none)
    (kA s5)
def f_i_glued_r0 (by1 : ByteArray) (t8 : List Sc) (t9 : Int) : (ByteArray × Int) → Option (Ro (ByteArray × Int) (ByteArray) (Unit)) := fun s => f_i_glued_k0 by1 t8 t9 s.1 s.2 (fun s => some (.again s)) (fun e => some (.one e))
def f_i_glued_k {R : Type} (l0 : List Sc) (by1 : ByteArray) (kR : ByteArray → Option R) : Option R :=
  bl1 (loopL (f_i_glued_r0 by1 l0 (l0.length : Int)) (ByteArray.empty, 0)) ByteArray.empty fun e1 =>
  kR e1
def f_i_glued (l0 : List Sc) (by1 : ByteArray) : Option (ByteArray) := f_i_glued_k l0 by1 some

def f_i_FormatSequence_k0 {R : Type} (l1 : List Sc) (t18 : List Sc) (t19 : Int) (out5 : List Sc) (t20 : Int) (kN : List Sc × Int → Option R) (kA : List Sc × Int → Option R) : Option R :=
  br ((decide (t20 < t19)))
    (br (okAt t18 t20)
      (br ((decide (t20 > 0)) == true)
        (br (okAt l1 (w64 (t20 - 1)))
          (br (((atI l1 (w64 (t20 - 1))) == (atI t18 t20)))
            (kN (out5, (w64 (t20 + 1))))
            (bo (f_i_FormatInt (atI t18 t20)) ByteArray.empty fun r2 =>
            bo (f_i_MultiplicityIn l1 (atI t18 t20)) 0 fun r3 =>
            br ((decide (r3 > 1)))
              (br (decide (r2.size + (ByteArray.mk #[94]).size ≤ lim))
                (bo (f_i_FormatInt r3) ByteArray.empty fun r4 =>
                br (decide ((r2 ++ (ByteArray.mk #[94])).size + r4.size ≤ lim))
                  (br (decide (out5.length + [(Sc.s ((r2 ++ (ByteArray.mk #[94])) ++ r4))].length ≤ lim))
                    (kN ((out5 ++ [(Sc.s ((r2 ++ (ByteArray.mk #[94])) ++ r4))]), (w64 (t20 + 1))))
                    none)
                  none)
                none)
              (br (decide (out5.length + [(Sc.s r2)].length ≤ lim))
                (kN ((out5 ++ [(Sc.s r2)]), (w64 (t20 + 1))))
                none)))
          none)
        (bo (f_i_FormatInt (atI t18 t20)) ByteArray.empty fun r5 =>
        bo (f_i_MultiplicityIn l1 (atI t18 t20)) 0 fun r6 =>
        br ((decide (r6 > 1)))
          (br (decide (r5.size + (ByteArray.mk #[94]).size ≤ lim))
            (bo (f_i_FormatInt r6) ByteArray.empty fun r7 =>
            br (decide ((r5 ++ (ByteArray.mk #[94])).size + r7.size ≤ lim))
              (br (decide (out5.length + [(Sc.s ((r5 ++ (ByteArray.mk #[94])) ++ r7))].length ≤ lim))
                (kN ((out5 ++ [(Sc.s ((r5 ++ (ByteArray.mk #[94])) ++ r7))]), (w64 (t20 + 1))))
                none)
              none)
            none)
          (br (decide (out5.length + [(Sc.s r5)].length ≤ lim))
            (kN ((out5 ++ [(Sc.s r5)]), (w64 (t20 + 1))))
            none)))
      none)
    (kA (out5, t20))
def f_i_FormatSequence_r0 (l1 : List Sc) (t18 : List Sc) (t19 : Int) : (List Sc × Int) → Option (Ro (List Sc × Int) (List Sc × Int) (Unit)) := fun s => f_i_FormatSequence_k0 l1 t18 t19 s.1 s.2 (fun s => some (.again s)) (fun e => some (.one e))
def f_i_FormatSequence_k {R : Type} (g0 : List Sc) (l1 : List Sc) (kR : ByteArray → Option R) : Option R :=
  bo (f_i_IsSequence g0 l1) false fun r1 =>
  br ((!r1))
    (kR ByteArray.empty)
    (br (((l1.length : Int) == 0))
      (kR (ByteArray.mk #[110, 111, 110, 101]))
      (bl1 (loopL (f_i_FormatSequence_r0 l1 l1 (l1.length : Int)) ([], 0)) ([], 0) fun e8 =>
      bo (f_i_glued e8.1 (ByteArray.mk #[32])) ByteArray.empty fun r9 =>
      kR r9))
def f_i_FormatSequence (g0 : List Sc) (l1 : List Sc) : Option (ByteArray) := f_i_FormatSequence_k g0 l1 some

def f_l_eqIntS_k0 {R : Type} (a0 : List Sc) (b1 : List Sc) (i5 : Int) (kN : Int → Option R) (kA : Unit → Option R) (kB : Unit → Option R) : Option R :=
  br ((decide (i5 < (a0.length : Int))))
    (br (okAt a0 i5)
      (br (okAt b1 i5)
        (br (((atI a0 i5) != (atI b1 i5)))
          (kB ())
          (kN (w64 (i5 + 1))))
        none)
      none)
    (kA ())
def f_l_eqIntS_r0 (a0 : List Sc) (b1 : List Sc) : Int → Option (Ro (Int) (Unit) (Unit)) := fun s => f_l_eqIntS_k0 a0 b1 s (fun s => some (.again s)) (fun e => some (.one e)) (fun e => some (.two e))
def f_l_eqIntS_k {R : Type} (a0 : List Sc) (b1 : List Sc) (kR : Bool → Option R) : Option R :=
  br (((a0.length : Int) != (b1.length : Int)))
    (kR false)
    (bl (loopL (f_l_eqIntS_r0 a0 b1) 0) () ()
      (fun e1 =>
        kR true)
      (fun e1 =>
        kR false))
def f_l_eqIntS (a0 : List Sc) (b1 : List Sc) : Option (Bool) := f_l_eqIntS_k a0 b1 some

def f_l_eqGroup_k {R : Type} (a0 : List Sc) (b1 : List Sc) (kR : Bool → Option R) : Option R :=
  bo (f_l_eqIntS a0 b1) false fun r1 =>
  br ((!r1))
    (kR false)
    (kR true)
def f_l_eqGroup (a0 : List Sc) (b1 : List Sc) : Option (Bool) := f_l_eqGroup_k a0 b1 some

def f_l_FnExactFormatSequence_k {R : Type} (aG0 : List Sc) (aL1 : List Sc) (kR : Bool → Option R) : Option R :=
  br ((decide ((aL1.length : Int) > 1048576)))
    (kR true)
    (bo (f_l_szGroup aG0 1048576) 0 fun r1 =>
    br ((decide (r1 < 0)))
      (kR true)
      (bo (f_l_toGroup aG0) [] fun r2 =>
      bo (f_l_toIntS aL1) [] fun r3 =>
      bo (f_s_FormatSequence r2 r3) ByteArray.empty fun r4 =>
      bo (f_l_toGroup aG0) [] fun r5 =>
      bo (f_l_toIntS aL1) [] fun r6 =>
      bo (f_i_FormatSequence r5 r6) ByteArray.empty fun r7 =>
      br ((!(r7.toList == r4.toList)))
        (kR false)
        (bo (f_l_toGroup aG0) [] fun r8 =>
        bo (f_l_eqGroup r5 r8) false fun r9 =>
        br ((!r9))
          (kR false)
          (bo (f_l_toIntS aL1) [] fun r10 =>
          bo (f_l_eqIntS r6 r10) false fun r11 =>
          br ((!r11))
            (kR false)
            (kR true)))))
def f_l_FnExactFormatSequence (aG0 : List Sc) (aL1 : List Sc) : Option (Bool) := f_l_FnExactFormatSequence_k aG0 aL1 some

def f_s_l16Sort_k2 {R : Type} (l0 : List Sc) (out3 : List Sc) (i4 : Int) (k5 : Int) (kN : Int → Option R) (kA : Int → Option R) : Option R :=
  br ((decide (k5 > 0)) == true)
    (br (okAt out3 (w64 (k5 - 1)))
      (br (okAt l0 i4)
        (br ((decide ((atI out3 (w64 (k5 - 1))) > (atI l0 i4))))
          (kN (w64 (k5 - 1)))
          (kA k5))
        none)
      none)
    (kA k5)
def f_s_l16Sort_r2 (l0 : List Sc) (out3 : List Sc) (i4 : Int) : Int → Option (Ro (Int) (Int) (Unit)) := fun s => f_s_l16Sort_k2 l0 out3 i4 s (fun s => some (.again s)) (fun e => some (.one e))
def f_s_l16Sort_k0 {R : Type} (l0 : List Sc) (out3 : List Sc) (i4 : Int) (kN : List Sc × Int → Option R) (kA : List Sc × Int → Option R) : Option R :=
  br ((decide (i4 < (l0.length : Int))))
    (bl1 (loopL (f_s_l16Sort_r2 l0 out3 i4) (out3.length : Int)) 0 fun e1 =>
    br (decide (0 ≤ (0 : Int)) && (decide ((0 : Int) ≤ e1) && decide (e1 ≤ (out3.length : Int))))
      (br (decide (([] : List Sc).length + (sliceA out3 0 e1).length ≤ lim))
        (br (okAt l0 i4)
          (br (decide (([] ++ (sliceA out3 0 e1)).length + [(Sc.n .i64 (atI l0 i4))].length ≤ lim))
            (br (decide (0 ≤ e1) && (decide (e1 ≤ (out3.length : Int)) && decide ((out3.length : Int) ≤ (out3.length : Int))))
              (br (decide ((([] ++ (sliceA out3 0 e1)) ++ [(Sc.n .i64 (atI l0 i4))]).length + (sliceA out3 e1 (out3.length : Int)).length ≤ lim))
                (kN (((([] ++ (sliceA out3 0 e1)) ++ [(Sc.n .i64 (atI l0 i4))]) ++ (sliceA out3 e1 (out3.length : Int))), (w64 (i4 + 1))))
                none)
              none)
            none)
          none)
        none)
      none)
    (kA (out3, i4))
def f_s_l16Sort_r0 (l0 : List Sc) : (List Sc × Int) → Option (Ro (List Sc × Int) (List Sc × Int) (Unit)) := fun s => f_s_l16Sort_k0 l0 s.1 s.2 (fun s => some (.again s)) (fun e => some (.one e))
def f_s_l16Sort_k {R : Type} (l0 : List Sc) (kR : List Sc → Option R) : Option R :=
  bl1 (loopL (f_s_l16Sort_r0 l0) ([], 0)) ([], 0) fun e2 =>
  kR e2.1
def f_s_l16Sort (l0 : List Sc) : Option (List Sc) := f_s_l16Sort_k l0 some

def f_s_SortSequence_k {R : Type} (g0 : List Sc) (l1 : List Sc) (kR : List Sc × Bool → Option R) : Option R :=
  br ((decide ((l1.length : Int) > 12)))
    (kR ([], false))
    (bo (f_s_l16Sort l1) [] fun r1 =>
    bo (f_s_IsSequence g0 r1) false fun r2 =>
    br ((!r2))
      (kR ([], false))
      (kR (r1, true)))
def f_s_SortSequence (g0 : List Sc) (l1 : List Sc) : Option (List Sc × Bool) := f_s_SortSequence_k g0 l1 some

def f_i_copyInts_k {R : Type} (l0 : List Sc) (kR : List Sc → Option R) : Option R :=
  br (decide (([] : List Sc).length + l0.length ≤ lim))
    (kR ([] ++ l0))
    none
def f_i_copyInts (l0 : List Sc) : Option (List Sc) := f_i_copyInts_k l0 some

def f_slices_Sort (h0 : List Sc) : Option (List Sc) := sortSc h0

def f_i_SortSequence_k {R : Type} (g0 : List Sc) (l1 : List Sc) (kR : List Sc × Bool → Option R) : Option R :=
  bo (f_i_copyInts l1) [] fun r1 =>
  bo (f_slices_Sort r1) [] fun r2 =>
  bo (f_i_IsSequence g0 r2) false fun r3 =>
  br ((!r3))
    (kR ([], false))
    (kR (r2, true))
def f_i_SortSequence (g0 : List Sc) (l1 : List Sc) : Option (List Sc × Bool) := f_i_SortSequence_k g0 l1 some

def f_l_markIntS_io_k0 {R : Type} (v0 : List Sc) (k1 : Int) (i5 : Int) (kN : List Sc × Int × Int → Option R) (kA : List Sc × Int → Option R) : Option R :=
  br ((decide (i5 < (v0.length : Int))))
    (br (inRange i5 (v0).length)
      (kN ((v0.set i5.toNat (Sc.n .i64 k1)), (w64 (k1 + 1)), (w64 (i5 + 1))))
      none)
    (kA (v0, k1))
def f_l_markIntS_io_r0 : (List Sc × Int × Int) → Option (Ro (List Sc × Int × Int) (List Sc × Int) (Unit)) := fun s => f_l_markIntS_io_k0 s.1 s.2.1 s.2.2 (fun s => some (.again s)) (fun e => some (.one e))
def f_l_markIntS_io_k {R : Type} (k1 : Int) (h0 : List Sc) (kR : Int × List Sc → Option R) : Option R :=
  bl1 (loopL (f_l_markIntS_io_r0) (h0, k1, 0)) ([], 0) fun e1 =>
  kR (e1.2, e1.1)
def f_l_markIntS_io (k1 : Int) (h0 : List Sc) : Option (Int × List Sc) := f_l_markIntS_io_k k1 h0 some

def f_l_markGroup_io_k {R : Type} (k1 : Int) (h0 : List Sc) (kR : Int × List Sc → Option R) : Option R :=
  bo (f_l_markIntS_io k1 h0) (0, []) fun r1 =>
  kR (r1.1, r1.2)
def f_l_markGroup_io (k1 : Int) (h0 : List Sc) : Option (Int × List Sc) := f_l_markGroup_io_k k1 h0 some

def f_l_heldIntS_k0 {R : Type} (a0 : List Sc) (k1 : Int) (i5 : Int) (kN : Int × Int → Option R) (kA : Int → Option R) (kB : Unit → Option R) : Option R :=
  br ((decide (i5 < (a0.length : Int))))
    (br (okAt a0 i5)
      (br (((atI a0 i5) != k1))
        (kB ())
        (kN ((w64 (k1 + 1)), (w64 (i5 + 1)))))
      none)
    (kA k1)
def f_l_heldIntS_r0 (a0 : List Sc) : (Int × Int) → Option (Ro (Int × Int) (Int) (Unit)) := fun s => f_l_heldIntS_k0 a0 s.1 s.2 (fun s => some (.again s)) (fun e => some (.one e)) (fun e => some (.two e))
def f_l_heldIntS_k {R : Type} (a0 : List Sc) (k1 : Int) (kR : Int → Option R) : Option R :=
  bl (loopL (f_l_heldIntS_r0 a0) (k1, 0)) 0 ()
    (fun e1 =>
      kR e1)
    (fun e1 =>
      kR (-1))
def f_l_heldIntS (a0 : List Sc) (k1 : Int) : Option (Int) := f_l_heldIntS_k a0 k1 some

def f_l_FnExactSortSequence_k {R : Type} (L0 : List Sc) (p1 : List Sc) (kR : Bool → Option R) : Option R :=
  br ((decide ((p1.length : Int) > 1048576)))
    (kR true)
    (bo (f_l_szGroup L0 1048576) 0 fun r1 =>
    br ((decide (r1 < 0)))
      (kR true)
      (bo (f_l_toGroup L0) [] fun r2 =>
      bo (f_l_toIntS p1) [] fun r3 =>
      bo (f_s_SortSequence r2 r3) ([], false) fun r4 =>
      bo (f_l_toGroup L0) [] fun r5 =>
      bo (f_l_toIntS p1) [] fun r6 =>
      bo (f_i_SortSequence r5 r6) ([], false) fun r7 =>
      bo (f_l_eqIntS r7.1 r4.1) false fun r8 =>
      br ((!r8) == false)
        (br ((!(r7.2 == r4.2)))
          (kR false)
          (bo (f_l_toGroup L0) [] fun r9 =>
          bo (f_l_eqGroup r5 r9) false fun r10 =>
          br ((!r10))
            (kR false)
            (bo (f_l_toIntS p1) [] fun r11 =>
            bo (f_l_eqIntS r6 r11) false fun r12 =>
            br ((!r12))
              (kR false)
              (bo (f_l_markGroup_io 1 r5) (0, []) fun r13 =>
              bo (f_l_markIntS_io r13.1 r6) (0, []) fun r14 =>
              br ((decide (r14.1 < 0)) == false)
                (bo (f_l_eqIntS r7.1 r4.1) false fun r15 =>
                br ((!r15) == false)
                  (br ((!(r7.2 == r4.2)))
                    (kR false)
                    (bo (f_l_markIntS_io 1 r7.1) (0, []) fun r16 =>
                    bo (f_l_heldIntS r16.2 1) 0 fun r17 =>
                    br ((decide (r17 < 0)))
                      (kR false)
                      (br ((r17 != r16.1))
                        (kR false)
                        (bo (f_l_toGroup L0) [] fun r18 =>
                        bo (f_l_toIntS p1) [] fun r19 =>
                        bo (f_i_SortSequence r18 r19) ([], false) fun r20 =>
                        bo (f_l_eqIntS r20.1 r4.1) false fun r21 =>
                        br ((!r21) == false)
                          (br ((!(r20.2 == r4.2)))
                            (kR false)
                            (bo (f_l_heldIntS r16.2 1) 0 fun r22 =>
                            br ((decide (r22 < 0)))
                              (kR false)
                              (br ((r22 != r16.1))
                                (kR false)
                                (kR true))))
                          (kR false)))))
                  (kR false))
                (kR false)))))
        (kR false)))
def f_l_FnExactSortSequence (L0 : List Sc) (p1 : List Sc) : Option (Bool) := f_l_FnExactSortSequence_k L0 p1 some
end
end Go.Proofs.Ytgbjnchipnbohaa
