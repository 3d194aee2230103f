/-
  What the functions compute, as plain functions (printed by gen2.py).
-/
import Derived.Test.YtgbjnchipnbohaaVGen
set_option linter.unusedVariables false
namespace Go.Proofs.Ytgbjnchipnbohaa
open Go Ev
noncomputable section
def f_l_szIntS_k {R : Type} (a0 : List Sc) (left1 : Int) (kR : Int → Option R) : Option R :=
  br ((decide ((w64 (left1 - (a0.length : Int))) < 0)))
    (kR (-1))
    (kR (w64 (left1 - (a0.length : Int))))
def f_l_szIntS (a0 : List Sc) (left1 : Int) : Option (Int) := f_l_szIntS_k a0 left1 some

def f_l_szGroup_k {R : Type} (a0 : List Sc) (left1 : Int) (kR : Int → Option R) : Option R :=
  bo (f_l_szIntS a0 left1) 0 fun r1 =>
  br ((decide (r1 < 0)))
    (kR (-1))
    (kR r1)
def f_l_szGroup (a0 : List Sc) (left1 : Int) : Option (Int) := f_l_szGroup_k a0 left1 some

def f_l_toIntS_k0 {R : Type} (a0 : List Sc) (out3 : List Sc) (i4 : Int) (kN : List Sc × Int → Option R) (kA : List Sc → Option R) : Option R :=
  br ((decide (i4 < (a0.length : Int))))
    (br (okAt a0 i4)
      (br (inRange i4 (out3).length)
        (kN ((out3.set i4.toNat (Sc.n .i64 (atI a0 i4))), (w64 (i4 + 1))))
        none)
      none)
    (kA out3)
def f_l_toIntS_r0 (a0 : List Sc) : (List Sc × Int) → Option (Ro (List Sc × Int) (List Sc) (Unit)) := fun s => f_l_toIntS_k0 a0 s.1 s.2 (fun s => some (.again s)) (fun e => some (.one e))
def f_l_toIntS_k {R : Type} (a0 : List Sc) (kR : List Sc → Option R) : Option R :=
  br (decide (0 ≤ (a0.length : Int)) && (decide ((a0.length : Int) ≤ (a0.length : Int)) && decide ((a0.length : Int) ≤ (lim : Int))))
    (bl1 (loopL (f_l_toIntS_r0 a0) ((List.replicate (a0.length : Int).toNat (Sc.n .i64 0)), 0)) [] fun e1 =>
    kR e1)
    none
def f_l_toIntS (a0 : List Sc) : Option (List Sc) := f_l_toIntS_k a0 some

def f_l_toGroup_k {R : Type} (a0 : List Sc) (kR : List Sc → Option R) : Option R :=
  bo (f_l_toIntS a0) [] fun r1 =>
  kR r1
def f_l_toGroup (a0 : List Sc) : Option (List Sc) := f_l_toGroup_k a0 some

def f_s_l1In_k {R : Type} (x0 : Int) (low1 : Int) (high2 : Int) (kR : Bool → Option R) : Option R :=
  br ((decide (x0 ≥ low1)) == true)
    (kR (decide (x0 ≤ high2)))
    (kR false)
def f_s_l1In (x0 : Int) (low1 : Int) (high2 : Int) : Option (Bool) := f_s_l1In_k x0 low1 high2 some

def f_s_IsGroup_k0 {R : Type} (g1 : List Sc) (n3 : Int) (i4 : Int) (kN : Int × Int → Option R) (kA : Int → Option R) (kB : Unit → Option R) : Option R :=
  br ((decide (i4 < (g1.length : Int))))
    (br (okAt g1 i4)
      (bo (f_s_l1In (atI g1 i4) 2 24) false fun r1 =>
      br ((!r1) == false)
        (br ((decide (i4 > 2)))
          (kB ())
          (br (okAt g1 i4)
            (kN ((w64 (n3 * (atI g1 i4))), (w64 (i4 + 1))))
            none))
        (kB ()))
      none)
    (kA n3)
def f_s_IsGroup_r0 (g1 : List Sc) : (Int × Int) → Option (Ro (Int × Int) (Int) (Unit)) := fun s => f_s_IsGroup_k0 g1 s.1 s.2 (fun s => some (.again s)) (fun e => some (.one e)) (fun e => some (.two e))
def f_s_IsGroup_k {R : Type} (g0 : List Sc) (kR : Bool → Option R) : Option R :=
  bl (loopL (f_s_IsGroup_r0 g0) (1, 0)) 0 ()
    (fun e2 =>
      kR (decide (e2 ≤ 24)))
    (fun e2 =>
      kR false)
def f_s_IsGroup (g0 : List Sc) : Option (Bool) := f_s_IsGroup_k g0 some

def f_s_l2Order_k0 {R : Type} (g1 : List Sc) (n3 : Int) (i4 : Int) (kN : Int × Int → Option R) (kA : Int → Option R) : Option R :=
  br ((decide (i4 < (g1.length : Int))))
    (br (okAt g1 i4)
      (kN ((w64 (n3 * (atI g1 i4))), (w64 (i4 + 1))))
      none)
    (kA n3)
def f_s_l2Order_r0 (g1 : List Sc) : (Int × Int) → Option (Ro (Int × Int) (Int) (Unit)) := fun s => f_s_l2Order_k0 g1 s.1 s.2 (fun s => some (.again s)) (fun e => some (.one e))
def f_s_l2Order_k {R : Type} (g0 : List Sc) (kR : Int → Option R) : Option R :=
  bl1 (loopL (f_s_l2Order_r0 g0) (1, 0)) 0 fun e1 =>
  kR e1
def f_s_l2Order (g0 : List Sc) : Option (Int) := f_s_l2Order_k g0 some

def f_s_OrderOf_k {R : Type} (g0 : List Sc) (kR : Int → Option R) : Option R :=
  bo (f_s_IsGroup g0) false fun r1 =>
  br ((!r1))
    (kR 0)
    (bo (f_s_l2Order g0) 0 fun r2 =>
    kR r2)
def f_s_OrderOf (g0 : List Sc) : Option (Int) := f_s_OrderOf_k g0 some

def f_s_l2Is_k {R : Type} (g0 : List Sc) (x1 : Int) (kR : Bool → Option R) : Option R :=
  br ((decide (x1 ≥ 0)) == true)
    (bo (f_s_OrderOf g0) 0 fun r1 =>
    kR (decide (x1 < r1)))
    (kR false)
def f_s_l2Is (g0 : List Sc) (x1 : Int) : Option (Bool) := f_s_l2Is_k g0 x1 some

def f_s_IsSequence_k0 {R : Type} (l1 : List Sc) (g2 : List Sc) (i5 : Int) (kN : Int → Option R) (kA : Unit → Option R) (kB : Unit → Option R) : Option R :=
  br ((decide (i5 < (l1.length : Int))))
    (br (okAt l1 i5)
      (bo (f_s_l2Is g2 (atI l1 i5)) false fun r1 =>
      br ((!r1) == false)
        (br ((decide (i5 > 0)) == true)
          (br (okAt l1 i5)
            (br (okAt l1 (w64 (i5 - 1)))
              (br ((decide ((atI l1 i5) < (atI l1 (w64 (i5 - 1))))))
                (kB ())
                (kN (w64 (i5 + 1))))
              none)
            none)
          (kN (w64 (i5 + 1))))
        (kB ()))
      none)
    (kA ())
def f_s_IsSequence_r0 (l1 : List Sc) (g2 : List Sc) : Int → Option (Ro (Int) (Unit) (Unit)) := fun s => f_s_IsSequence_k0 l1 g2 s (fun s => some (.again s)) (fun e => some (.one e)) (fun e => some (.two e))
def f_s_IsSequence_k {R : Type} (g0 : List Sc) (l1 : List Sc) (kR : Bool → Option R) : Option R :=
  bl (loopL (f_s_IsSequence_r0 l1 g0) 0) () ()
    (fun e2 =>
      bo (f_s_IsGroup g0) false fun r3 =>
      br (r3 == true)
        (kR (decide ((l1.length : Int) ≤ 12)))
        (kR false))
    (fun e2 =>
      kR false)
def f_s_IsSequence (g0 : List Sc) (l1 : List Sc) : Option (Bool) := f_s_IsSequence_k g0 l1 some

def f_s_l3List_k0 {R : Type} (out3 : List Sc) (i4 : Int) (x5 : Int) (kN : List Sc × Int × Int → Option R) (kA : List Sc → Option R) : Option R :=
  br ((decide (x5 > 0)))
    (br (((and64 x5 1) == 1))
      (br (decide (out3.length + [(Sc.n .i64 i4)].length ≤ lim))
        (kN ((out3 ++ [(Sc.n .i64 i4)]), (w64 (i4 + 1)), (shr64 x5 1)))
        none)
      (kN (out3, (w64 (i4 + 1)), (shr64 x5 1))))
    (kA out3)
def f_s_l3List_r0 : (List Sc × Int × Int) → Option (Ro (List Sc × Int × Int) (List Sc) (Unit)) := fun s => f_s_l3List_k0 s.1 s.2.1 s.2.2 (fun s => some (.again s)) (fun e => some (.one e))
def f_s_l3List_k {R : Type} (a0 : Int) (kR : List Sc → Option R) : Option R :=
  bl1 (loopL (f_s_l3List_r0) ([], 0, a0)) [] fun e1 =>
  kR e1
def f_s_l3List (a0 : Int) : Option (List Sc) := f_s_l3List_k a0 some

def f_s_l2Add_k0 {R : Type} (g3 : List Sc) (x1 : Int) (y2 : Int) (z7 : Int) (step8 : Int) (i9 : Int) (kN : Int × Int × Int × Int × Int → Option R) (kA : Int → Option R) : Option R :=
  br ((decide (i9 < (g3.length : Int))))
    (br (okAt g3 i9)
      (br ((atI g3 i9) == 0)
        none
        (br ((atI g3 i9) == 0)
          none
          (br ((atI g3 i9) == 0)
            none
            (br ((atI g3 i9) == 0)
              none
              (br ((atI g3 i9) == 0)
                none
                (kN ((w64 (x1.tdiv (atI g3 i9))), (w64 (y2.tdiv (atI g3 i9))), (w64 (z7 + (w64 (((w64 ((x1.tmod (atI g3 i9)) + (y2.tmod (atI g3 i9)))).tmod (atI g3 i9)) * step8)))), (w64 (step8 * (atI g3 i9))), (w64 (i9 + 1)))))))))
      none)
    (kA z7)
def f_s_l2Add_r0 (g3 : List Sc) : (Int × Int × Int × Int × Int) → Option (Ro (Int × Int × Int × Int × Int) (Int) (Unit)) := fun s => f_s_l2Add_k0 g3 s.1 s.2.1 s.2.2.1 s.2.2.2.1 s.2.2.2.2 (fun s => some (.again s)) (fun e => some (.one e))
def f_s_l2Add_k {R : Type} (g0 : List Sc) (x1 : Int) (y2 : Int) (kR : Int → Option R) : Option R :=
  bl1 (loopL (f_s_l2Add_r0 g0) (x1, y2, 0, 1, 0)) 0 fun e1 =>
  kR e1
def f_s_l2Add (g0 : List Sc) (x1 : Int) (y2 : Int) : Option (Int) := f_s_l2Add_k g0 x1 y2 some

def f_s_l3Shift_k0 {R : Type} (x2 : Int) (g3 : List Sc) (out7 : Int) (l8 : List Sc) (i9 : Int) (kN : Int × List Sc × Int → Option R) (kA : Int → Option R) : Option R :=
  br ((decide (i9 < (l8.length : Int))))
    (br (inRange i9 (l8).length)
      (br (kAt l8 i9.toNat)
        (bo (f_s_l2Add g3 (atN l8 i9.toNat) x2) 0 fun r2 =>
        br (decide (r2 < 0))
          none
          (kN ((or64 out7 (shl64 1 r2)), l8, (w64 (i9 + 1)))))
        none)
      none)
    (kA out7)
def f_s_l3Shift_r0 (x2 : Int) (g3 : List Sc) : (Int × List Sc × Int) → Option (Ro (Int × List Sc × Int) (Int) (Unit)) := fun s => f_s_l3Shift_k0 x2 g3 s.1 s.2.1 s.2.2 (fun s => some (.again s)) (fun e => some (.one e))
def f_s_l3Shift_k {R : Type} (g0 : List Sc) (a1 : Int) (x2 : Int) (kR : Int → Option R) : Option R :=
  bo (f_s_l3List a1) [] fun r1 =>
  bl1 (loopL (f_s_l3Shift_r0 x2 g0) (0, r1, 0)) 0 fun e3 =>
  kR e3
def f_s_l3Shift (g0 : List Sc) (a1 : Int) (x2 : Int) : Option (Int) := f_s_l3Shift_k g0 a1 x2 some

def f_s_l16Subsums_k0 {R : Type} (l1 : List Sc) (g2 : List Sc) (out5 : Int) (i6 : Int) (kN : Int × Int → Option R) (kA : Int → Option R) : Option R :=
  br ((decide (i6 < (l1.length : Int))))
    (br (okAt l1 i6)
      (bo (f_s_l3Shift g2 out5 (atI l1 i6)) 0 fun r1 =>
      br (okAt l1 i6)
        (br (decide ((atI l1 i6) < 0))
          none
          (kN ((or64 (or64 out5 r1) (shl64 1 (atI l1 i6))), (w64 (i6 + 1)))))
        none)
      none)
    (kA out5)
def f_s_l16Subsums_r0 (l1 : List Sc) (g2 : List Sc) : (Int × Int) → Option (Ro (Int × Int) (Int) (Unit)) := fun s => f_s_l16Subsums_k0 l1 g2 s.1 s.2 (fun s => some (.again s)) (fun e => some (.one e))
def f_s_l16Subsums_k {R : Type} (g0 : List Sc) (l1 : List Sc) (kR : Int → Option R) : Option R :=
  bl1 (loopL (f_s_l16Subsums_r0 l1 g0) (0, 0)) 0 fun e2 =>
  kR e2
def f_s_l16Subsums (g0 : List Sc) (l1 : List Sc) : Option (Int) := f_s_l16Subsums_k g0 l1 some

def f_s_IsZeroFree_k {R : Type} (g0 : List Sc) (l1 : List Sc) (kR : Bool → Option R) : Option R :=
  bo (f_s_IsSequence g0 l1) false fun r1 =>
  br (r1 == true)
    (bo (f_s_l16Subsums g0 l1) 0 fun r2 =>
    kR ((and64 r2 1) == 0))
    (kR false)
def f_s_IsZeroFree (g0 : List Sc) (l1 : List Sc) : Option (Bool) := f_s_IsZeroFree_k g0 l1 some

def f_s_CyclicStructure_k0 {R : Type} (l1 : List Sc) (i6 : Int) (kN : Int → Option R) (kA : Unit → Option R) (kB : Unit → Option R) : Option R :=
  br ((decide (i6 < (l1.length : Int))))
    (br (okAt l1 i6)
      (br (okAt l1 0)
        (br (((atI l1 i6) != (atI l1 0)))
          (kB ())
          (kN (w64 (i6 + 1))))
        none)
      none)
    (kA ())
def f_s_CyclicStructure_r0 (l1 : List Sc) : Int → Option (Ro (Int) (Unit) (Unit)) := fun s => f_s_CyclicStructure_k0 l1 s (fun s => some (.again s)) (fun e => some (.one e)) (fun e => some (.two e))
def f_s_CyclicStructure_k {R : Type} (g0 : List Sc) (l1 : List Sc) (kR : Int × Bool → Option R) : Option R :=
  bo (f_s_IsZeroFree g0 l1) false fun r1 =>
  br ((!r1) == false)
    (br (((l1.length : Int) == 0) == false)
      (br (((g0.length : Int) != 1) == false)
        (bo (f_s_l2Order g0) 0 fun r2 =>
        br (((l1.length : Int) != (w64 (r2 - 1))))
          (kR (0, false))
          (bl (loopL (f_s_CyclicStructure_r0 l1) 1) () ()
            (fun e3 =>
              br (okAt l1 0)
                (kR ((atI l1 0), true))
                none)
            (fun e3 =>
              kR (0, false))))
        (kR (0, false)))
      (kR (0, false)))
    (kR (0, false))
def f_s_CyclicStructure (g0 : List Sc) (l1 : List Sc) : Option (Int × Bool) := f_s_CyclicStructure_k g0 l1 some

def f_i_within_k {R : Type} (x0 : Int) (lo1 : Int) (hi2 : Int) (kR : Bool → Option R) : Option R :=
  br ((decide (x0 ≥ lo1)) == true)
    (kR (decide (x0 ≤ hi2)))
    (kR false)
def f_i_within (x0 : Int) (lo1 : Int) (hi2 : Int) : Option (Bool) := f_i_within_k x0 lo1 hi2 some

def f_i_IsGroup_k0 {R : Type} (t11 : List Sc) (t12 : Int) (n3 : Int) (t13 : Int) (kN : Int × Int → Option R) (kA : Int → Option R) (kB : Unit → Option R) : Option R :=
  br ((decide (t13 < t12)))
    (br (okAt t11 t13)
      (bo (f_i_within (atI t11 t13) 2 24) false fun r1 =>
      br ((!r1))
        (kB ())
        (kN ((w64 (n3 * (atI t11 t13))), (w64 (t13 + 1)))))
      none)
    (kA n3)
def f_i_IsGroup_r0 (t11 : List Sc) (t12 : Int) : (Int × Int) → Option (Ro (Int × Int) (Int) (Unit)) := fun s => f_i_IsGroup_k0 t11 t12 s.1 s.2 (fun s => some (.again s)) (fun e => some (.one e)) (fun e => some (.two e))
def f_i_IsGroup_k {R : Type} (g0 : List Sc) (kR : Bool → Option R) : Option R :=
  br ((decide ((g0.length : Int) > 3)))
    (kR false)
    (bl (loopL (f_i_IsGroup_r0 g0 (g0.length : Int)) (1, 0)) 0 ()
      (fun e2 =>
        kR (decide (e2 ≤ 24)))
      (fun e2 =>
        kR false))
def f_i_IsGroup (g0 : List Sc) : Option (Bool) := f_i_IsGroup_k g0 some

def f_i_OrderOf_k0 {R : Type} (t10 : List Sc) (t11 : Int) (n3 : Int) (t12 : Int) (kN : Int × Int → Option R) (kA : Int → Option R) : Option R :=
  br ((decide (t12 < t11)))
    (br (okAt t10 t12)
      (kN ((w64 (n3 * (atI t10 t12))), (w64 (t12 + 1))))
      none)
    (kA n3)
def f_i_OrderOf_r0 (t10 : List Sc) (t11 : Int) : (Int × Int) → Option (Ro (Int × Int) (Int) (Unit)) := fun s => f_i_OrderOf_k0 t10 t11 s.1 s.2 (fun s => some (.again s)) (fun e => some (.one e))
def f_i_OrderOf_k {R : Type} (g0 : List Sc) (kR : Int → Option R) : Option R :=
  bo (f_i_IsGroup g0) false fun r1 =>
  br ((!r1))
    (kR 0)
    (bl1 (loopL (f_i_OrderOf_r0 g0 (g0.length : Int)) (1, 0)) 0 fun e2 =>
    kR e2)
def f_i_OrderOf (g0 : List Sc) : Option (Int) := f_i_OrderOf_k g0 some

def f_i_Group_has_k {R : Type} (g0 : List Sc) (x1 : Int) (kR : Bool → Option R) : Option R :=
  bo (f_i_OrderOf g0) 0 fun r1 =>
  bo (f_i_within x1 0 (w64 (r1 - 1))) false fun r2 =>
  kR r2
def f_i_Group_has (g0 : List Sc) (x1 : Int) : Option (Bool) := f_i_Group_has_k g0 x1 some

def f_cmp_isNaN_k {R : Type} (x0 : Int) (kR : Bool → Option R) : Option R :=
  kR (x0 != x0)
def f_cmp_isNaN (x0 : Int) : Option (Bool) := f_cmp_isNaN_k x0 some

def f_cmp_Less_k {R : Type} (x0 : Int) (y1 : Int) (kR : Bool → Option R) : Option R :=
  bo (f_cmp_isNaN x0) false fun r1 =>
  br (r1 == true)
    (bo (f_cmp_isNaN y1) false fun r2 =>
    br ((!r2) == false)
      (kR (decide (x0 < y1)))
      (kR true))
    (kR (decide (x0 < y1)))
def f_cmp_Less (x0 : Int) (y1 : Int) : Option (Bool) := f_cmp_Less_k x0 y1 some

def f_slices_IsSorted_k0 {R : Type} (x0 : List Sc) (i3 : Int) (kN : Int → Option R) (kA : Unit → Option R) (kB : Unit → Option R) : Option R :=
  br ((decide (i3 > 0)))
    (br (okAt x0 i3)
      (br (okAt x0 (w64 (i3 - 1)))
        (bo (f_cmp_Less (atI x0 i3) (atI x0 (w64 (i3 - 1)))) false fun r1 =>
        br (r1)
          (kB ())
          (kN (w64 (i3 - 1))))
        none)
      none)
    (kA ())
def f_slices_IsSorted_r0 (x0 : List Sc) : Int → Option (Ro (Int) (Unit) (Unit)) := fun s => f_slices_IsSorted_k0 x0 s (fun s => some (.again s)) (fun e => some (.one e)) (fun e => some (.two e))
def f_slices_IsSorted_k {R : Type} (x0 : List Sc) (kR : Bool → Option R) : Option R :=
  bl (loopL (f_slices_IsSorted_r0 x0) (w64 ((x0.length : Int) - 1))) () ()
    (fun e2 =>
      kR true)
    (fun e2 =>
      kR false)
def f_slices_IsSorted (x0 : List Sc) : Option (Bool) := f_slices_IsSorted_k x0 some

def f_i_IsSequence_k0 {R : Type} (l1 : List Sc) (g2 : List Sc) (t7 : List Sc) (t8 : Int) (t9 : Int) (kN : Int → Option R) (kA : Unit → Option R) (kB : Unit → Option R) : Option R :=
  br ((decide (t9 < t8)))
    (br (okAt t7 t9)
      (bo (f_i_Group_has g2 (atI t7 t9)) false fun r1 =>
      br ((!r1))
        (kB ())
        (kN (w64 (t9 + 1))))
      none)
    (kA ())
def f_i_IsSequence_r0 (l1 : List Sc) (g2 : List Sc) (t7 : List Sc) (t8 : Int) : Int → Option (Ro (Int) (Unit) (Unit)) := fun s => f_i_IsSequence_k0 l1 g2 t7 t8 s (fun s => some (.again s)) (fun e => some (.one e)) (fun e => some (.two e))
def f_i_IsSequence_k {R : Type} (g0 : List Sc) (l1 : List Sc) (kR : Bool → Option R) : Option R :=
  bl (loopL (f_i_IsSequence_r0 l1 g0 l1 (l1.length : Int)) 0) () ()
    (fun e2 =>
      bo (f_i_IsGroup g0) false fun r3 =>
      br (r3 == true)
        (br ((decide ((l1.length : Int) ≤ 12)) == true)
          (bo (f_slices_IsSorted l1) false fun r4 =>
          kR r4)
          (kR false))
        (kR false))
    (fun e2 =>
      kR false)
def f_i_IsSequence (g0 : List Sc) (l1 : List Sc) : Option (Bool) := f_i_IsSequence_k g0 l1 some

def f_i_Group_add_k0 {R : Type} (t12 : List Sc) (t13 : Int) (x1 : Int) (y2 : Int) (sum7 : Int) (unit8 : Int) (t14 : Int) (kN : Int × Int × Int × Int × Int → Option R) (kA : Int → Option R) : Option R :=
  br ((decide (t14 < t13)))
    (br (okAt t12 t14)
      (br ((atI t12 t14) == 0)
        none
        (br ((atI t12 t14) == 0)
          none
          (br ((atI t12 t14) == 0)
            none
            (br ((atI t12 t14) == 0)
              none
              (br ((atI t12 t14) == 0)
                none
                (kN ((w64 (x1.tdiv (atI t12 t14))), (w64 (y2.tdiv (atI t12 t14))), (w64 (sum7 + (w64 (((w64 ((x1.tmod (atI t12 t14)) + (y2.tmod (atI t12 t14)))).tmod (atI t12 t14)) * unit8)))), (w64 (unit8 * (atI t12 t14))), (w64 (t14 + 1)))))))))
      none)
    (kA sum7)
def f_i_Group_add_r0 (t12 : List Sc) (t13 : Int) : (Int × Int × Int × Int × Int) → Option (Ro (Int × Int × Int × Int × Int) (Int) (Unit)) := fun s => f_i_Group_add_k0 t12 t13 s.1 s.2.1 s.2.2.1 s.2.2.2.1 s.2.2.2.2 (fun s => some (.again s)) (fun e => some (.one e))
def f_i_Group_add_k {R : Type} (g0 : List Sc) (x1 : Int) (y2 : Int) (kR : Int → Option R) : Option R :=
  bl1 (loopL (f_i_Group_add_r0 g0 (g0.length : Int)) (x1, y2, 0, 1, 0)) 0 fun e1 =>
  kR e1
def f_i_Group_add (g0 : List Sc) (x1 : Int) (y2 : Int) : Option (Int) := f_i_Group_add_k g0 x1 y2 some

def f_i_Group_shift_k0 {R : Type} (a1 : Int) (x2 : Int) (g3 : List Sc) (out7 : Int) (y8 : Int) (kN : Int × Int → Option R) (kA : Int → Option R) : Option R :=
  br (decide (y8 < 0))
    none
    (br (((shr64 a1 y8) != 0))
      (br (decide (y8 < 0))
        none
        (br (((and64 (shr64 a1 y8) 1) == 1))
          (bo (f_i_Group_add g3 x2 y8) 0 fun r1 =>
          br (decide (r1 < 0))
            none
            (kN ((or64 out7 (shl64 1 r1)), (w64 (y8 + 1)))))
          (kN (out7, (w64 (y8 + 1))))))
      (kA out7))
def f_i_Group_shift_r0 (a1 : Int) (x2 : Int) (g3 : List Sc) : (Int × Int) → Option (Ro (Int × Int) (Int) (Unit)) := fun s => f_i_Group_shift_k0 a1 x2 g3 s.1 s.2 (fun s => some (.again s)) (fun e => some (.one e))
def f_i_Group_shift_k {R : Type} (g0 : List Sc) (a1 : Int) (x2 : Int) (kR : Int → Option R) : Option R :=
  bl1 (loopL (f_i_Group_shift_r0 a1 x2 g0) (0, 0)) 0 fun e2 =>
  kR e2
def f_i_Group_shift (g0 : List Sc) (a1 : Int) (x2 : Int) : Option (Int) := f_i_Group_shift_k g0 a1 x2 some

def f_i_Group_subsums_k0 {R : Type} (g2 : List Sc) (t8 : List Sc) (t9 : Int) (out5 : Int) (t10 : Int) (kN : Int × Int → Option R) (kA : Int → Option R) : Option R :=
  br ((decide (t10 < t9)))
    (br (okAt t8 t10)
      (bo (f_i_Group_shift g2 out5 (atI t8 t10)) 0 fun r1 =>
      br (decide ((atI t8 t10) < 0))
        none
        (kN ((or64 (or64 out5 r1) (shl64 1 (atI t8 t10))), (w64 (t10 + 1)))))
      none)
    (kA out5)
def f_i_Group_subsums_r0 (g2 : List Sc) (t8 : List Sc) (t9 : Int) : (Int × Int) → Option (Ro (Int × Int) (Int) (Unit)) := fun s => f_i_Group_subsums_k0 g2 t8 t9 s.1 s.2 (fun s => some (.again s)) (fun e => some (.one e))
def f_i_Group_subsums_k {R : Type} (g0 : List Sc) (l1 : List Sc) (kR : Int → Option R) : Option R :=
  bl1 (loopL (f_i_Group_subsums_r0 g0 l1 (l1.length : Int)) (0, 0)) 0 fun e2 =>
  kR e2
def f_i_Group_subsums (g0 : List Sc) (l1 : List Sc) : Option (Int) := f_i_Group_subsums_k g0 l1 some

def f_i_in_k {R : Type} (a0 : Int) (x1 : Int) (kR : Bool → Option R) : Option R :=
  br (decide (x1 < 0))
    none
    (kR ((and64 (shr64 a0 x1) 1) == 1))
def f_i_in (a0 : Int) (x1 : Int) : Option (Bool) := f_i_in_k a0 x1 some

def f_i_IsZeroFree_k {R : Type} (g0 : List Sc) (l1 : List Sc) (kR : Bool → Option R) : Option R :=
  bo (f_i_IsSequence g0 l1) false fun r1 =>
  br (r1 == true)
    (bo (f_i_Group_subsums g0 l1) 0 fun r2 =>
    bo (f_i_in r2 0) false fun r3 =>
    kR (!r3))
    (kR false)
def f_i_IsZeroFree (g0 : List Sc) (l1 : List Sc) : Option (Bool) := f_i_IsZeroFree_k g0 l1 some

def f_i_MultiplicityIn_k0 {R : Type} (x1 : Int) (t8 : List Sc) (t9 : Int) (n5 : Int) (t10 : Int) (kN : Int × Int → Option R) (kA : Int → Option R) : Option R :=
  br ((decide (t10 < t9)))
    (br (okAt t8 t10)
      (br ((x1 == (atI t8 t10)))
        (kN ((w64 (n5 + 1)), (w64 (t10 + 1))))
        (kN (n5, (w64 (t10 + 1)))))
      none)
    (kA n5)
def f_i_MultiplicityIn_r0 (x1 : Int) (t8 : List Sc) (t9 : Int) : (Int × Int) → Option (Ro (Int × Int) (Int) (Unit)) := fun s => f_i_MultiplicityIn_k0 x1 t8 t9 s.1 s.2 (fun s => some (.again s)) (fun e => some (.one e))
def f_i_MultiplicityIn_k {R : Type} (l0 : List Sc) (x1 : Int) (kR : Int → Option R) : Option R :=
  bl1 (loopL (f_i_MultiplicityIn_r0 x1 l0 (l0.length : Int)) (0, 0)) 0 fun e1 =>
  kR e1
def f_i_MultiplicityIn (l0 : List Sc) (x1 : Int) : Option (Int) := f_i_MultiplicityIn_k l0 x1 some

def f_i_CyclicStructure_k {R : Type} (g0 : List Sc) (l1 : List Sc) (kR : Int × Bool → Option R) : Option R :=
  br (((g0.length : Int) != 1) == false)
    (bo (f_i_IsZeroFree g0 l1) false fun r1 =>
    br ((!r1) == false)
      (bo (f_i_OrderOf g0) 0 fun r2 =>
      br (((l1.length : Int) != (w64 (r2 - 1))) == false)
        (br (okAt l1 0)
          (bo (f_i_MultiplicityIn l1 (atI l1 0)) 0 fun r3 =>
          br ((r3 != (l1.length : Int)))
            (kR (0, false))
            (br (okAt l1 0)
              (kR ((atI l1 0), true))
              none))
          none)
        (kR (0, false)))
      (kR (0, false)))
    (kR (0, false))
def f_i_CyclicStructure (g0 : List Sc) (l1 : List Sc) : Option (Int × Bool) := f_i_CyclicStructure_k g0 l1 some

def f_l_eqIntS_k0 {R : Type} (a0 : List Sc) (b1 : List Sc) (i5 : Int) (kN : Int → Option R) (kA : Unit → Option R) (kB : Unit → Option R) : Option R :=
  br ((decide (i5 < (a0.length : Int))))
    (br (okAt a0 i5)
      (br (okAt b1 i5)
        (br (((atI a0 i5) != (atI b1 i5)))
          (kB ())
          (kN (w64 (i5 + 1))))
        none)
      none)
    (kA ())
def f_l_eqIntS_r0 (a0 : List Sc) (b1 : List Sc) : Int → Option (Ro (Int) (Unit) (Unit)) := fun s => f_l_eqIntS_k0 a0 b1 s (fun s => some (.again s)) (fun e => some (.one e)) (fun e => some (.two e))
def f_l_eqIntS_k {R : Type} (a0 : List Sc) (b1 : List Sc) (kR : Bool → Option R) : Option R :=
  br (((a0.length : Int) != (b1.length : Int)))
    (kR false)
    (bl (loopL (f_l_eqIntS_r0 a0 b1) 0) () ()
      (fun e1 =>
        kR true)
      (fun e1 =>
        kR false))
def f_l_eqIntS (a0 : List Sc) (b1 : List Sc) : Option (Bool) := f_l_eqIntS_k a0 b1 some

def f_l_eqGroup_k {R : Type} (a0 : List Sc) (b1 : List Sc) (kR : Bool → Option R) : Option R :=
  bo (f_l_eqIntS a0 b1) false fun r1 =>
  br ((!r1))
    (kR false)
    (kR true)
def f_l_eqGroup (a0 : List Sc) (b1 : List Sc) : Option (Bool) := f_l_eqGroup_k a0 b1 some

def f_l_FnExactCyclicStructure_k {R : Type} (aG0 : List Sc) (aL1 : List Sc) (kR : Bool → Option R) : Option R :=
  br ((decide ((aL1.length : Int) > 1048576)))
    (kR true)
    (bo (f_l_szGroup aG0 1048576) 0 fun r1 =>
    br ((decide (r1 < 0)))
      (kR true)
      (bo (f_l_toGroup aG0) [] fun r2 =>
      bo (f_l_toIntS aL1) [] fun r3 =>
      bo (f_s_CyclicStructure r2 r3) (0, false) fun r4 =>
      bo (f_l_toGroup aG0) [] fun r5 =>
      bo (f_l_toIntS aL1) [] fun r6 =>
      bo (f_i_CyclicStructure r5 r6) (0, false) fun r7 =>
      br ((r7.1 != r4.1) == false)
        (br ((!(r7.2 == r4.2)))
          (kR false)
          (bo (f_l_toGroup aG0) [] fun r8 =>
          bo (f_l_eqGroup r5 r8) false fun r9 =>
          br ((!r9))
            (kR false)
            (bo (f_l_toIntS aL1) [] fun r10 =>
            bo (f_l_eqIntS r6 r10) false fun r11 =>
            br ((!r11))
              (kR false)
              (kR true))))
        (kR false)))
def f_l_FnExactCyclicStructure (aG0 : List Sc) (aL1 : List Sc) : Option (Bool) := f_l_FnExactCyclicStructure_k aG0 aL1 some

def f_s_l16Sum_k0 {R : Type} (l1 : List Sc) (g2 : List Sc) (z5 : Int) (i6 : Int) (kN : Int × Int → Option R) (kA : Int → Option R) : Option R :=
  br ((decide (i6 < (l1.length : Int))))
    (br (okAt l1 i6)
      (bo (f_s_l2Add g2 z5 (atI l1 i6)) 0 fun r1 =>
      kN (r1, (w64 (i6 + 1))))
      none)
    (kA z5)
def f_s_l16Sum_r0 (l1 : List Sc) (g2 : List Sc) : (Int × Int) → Option (Ro (Int × Int) (Int) (Unit)) := fun s => f_s_l16Sum_k0 l1 g2 s.1 s.2 (fun s => some (.again s)) (fun e => some (.one e))
def f_s_l16Sum_k {R : Type} (g0 : List Sc) (l1 : List Sc) (kR : Int → Option R) : Option R :=
  bl1 (loopL (f_s_l16Sum_r0 l1 g0) (0, 0)) 0 fun e2 =>
  kR e2
def f_s_l16Sum (g0 : List Sc) (l1 : List Sc) : Option (Int) := f_s_l16Sum_k g0 l1 some

def f_s_IsZeroSum_k {R : Type} (g0 : List Sc) (l1 : List Sc) (kR : Bool → Option R) : Option R :=
  bo (f_s_IsSequence g0 l1) false fun r1 =>
  br (r1 == true)
    (bo (f_s_l16Sum g0 l1) 0 fun r2 =>
    kR (r2 == 0))
    (kR false)
def f_s_IsZeroSum (g0 : List Sc) (l1 : List Sc) : Option (Bool) := f_s_IsZeroSum_k g0 l1 some

def f_s_l19Minimal_k0 {R : Type} (l1 : List Sc) (g2 : List Sc) (i5 : Int) (kN : Int → Option R) (kA : Unit → Option R) (kB : Unit → Option R) : Option R :=
  br ((decide (i5 < (l1.length : Int))))
    (br (decide (0 ≤ (0 : Int)) && (decide ((0 : Int) ≤ i5) && decide (i5 ≤ (l1.length : Int))))
      (br (decide (([] : List Sc).length + (sliceA l1 0 i5).length ≤ lim))
        (br (decide (0 ≤ (w64 (i5 + 1))) && (decide ((w64 (i5 + 1)) ≤ (l1.length : Int)) && decide ((l1.length : Int) ≤ (l1.length : Int))))
          (br (decide (([] ++ (sliceA l1 0 i5)).length + (sliceA l1 (w64 (i5 + 1)) (l1.length : Int)).length ≤ lim))
            (bo (f_s_l16Subsums g2 (([] ++ (sliceA l1 0 i5)) ++ (sliceA l1 (w64 (i5 + 1)) (l1.length : Int)))) 0 fun r1 =>
            br (((and64 r1 1) == 1))
              (kB ())
              (kN (w64 (i5 + 1))))
            none)
          none)
        none)
      none)
    (kA ())
def f_s_l19Minimal_r0 (l1 : List Sc) (g2 : List Sc) : Int → Option (Ro (Int) (Unit) (Unit)) := fun s => f_s_l19Minimal_k0 l1 g2 s (fun s => some (.again s)) (fun e => some (.one e)) (fun e => some (.two e))
def f_s_l19Minimal_k {R : Type} (g0 : List Sc) (l1 : List Sc) (kR : Bool → Option R) : Option R :=
  bl (loopL (f_s_l19Minimal_r0 l1 g0) 0) () ()
    (fun e2 =>
      kR true)
    (fun e2 =>
      kR false)
def f_s_l19Minimal (g0 : List Sc) (l1 : List Sc) : Option (Bool) := f_s_l19Minimal_k g0 l1 some

def f_s_IsAtom_k {R : Type} (g0 : List Sc) (l1 : List Sc) (kR : Bool → Option R) : Option R :=
  bo (f_s_IsZeroSum g0 l1) false fun r1 =>
  br (r1 == true)
    (br ((decide ((l1.length : Int) > 0)) == true)
      (br (decide (0 ≤ (0 : Int)) && (decide ((0 : Int) ≤ (w64 ((l1.length : Int) - 1))) && decide ((w64 ((l1.length : Int) - 1)) ≤ (l1.length : Int))))
        (bo (f_s_l16Subsums g0 (sliceA l1 0 (w64 ((l1.length : Int) - 1)))) 0 fun r2 =>
        br (((and64 r2 1) == 0) == true)
          (bo (f_s_l19Minimal g0 l1) false fun r3 =>
          kR r3)
          (kR false))
        none)
      (kR false))
    (kR false)
def f_s_IsAtom (g0 : List Sc) (l1 : List Sc) : Option (Bool) := f_s_IsAtom_k g0 l1 some

def f_i_Group_total_k0 {R : Type} (g2 : List Sc) (t8 : List Sc) (t9 : Int) (s5 : Int) (t10 : Int) (kN : Int × Int → Option R) (kA : Int → Option R) : Option R :=
  br ((decide (t10 < t9)))
    (br (okAt t8 t10)
      (bo (f_i_Group_add g2 s5 (atI t8 t10)) 0 fun r1 =>
      kN (r1, (w64 (t10 + 1))))
      none)
    (kA s5)
def f_i_Group_total_r0 (g2 : List Sc) (t8 : List Sc) (t9 : Int) : (Int × Int) → Option (Ro (Int × Int) (Int) (Unit)) := fun s => f_i_Group_total_k0 g2 t8 t9 s.1 s.2 (fun s => some (.again s)) (fun e => some (.one e))
def f_i_Group_total_k {R : Type} (g0 : List Sc) (l1 : List Sc) (kR : Int → Option R) : Option R :=
  bl1 (loopL (f_i_Group_total_r0 g0 l1 (l1.length : Int)) (0, 0)) 0 fun e2 =>
  kR e2
def f_i_Group_total (g0 : List Sc) (l1 : List Sc) : Option (Int) := f_i_Group_total_k g0 l1 some

def f_i_IsZeroSum_k {R : Type} (g0 : List Sc) (l1 : List Sc) (kR : Bool → Option R) : Option R :=
  bo (f_i_IsSequence g0 l1) false fun r1 =>
  br (r1 == true)
    (bo (f_i_Group_total g0 l1) 0 fun r2 =>
    kR (r2 == 0))
    (kR false)
def f_i_IsZeroSum (g0 : List Sc) (l1 : List Sc) : Option (Bool) := f_i_IsZeroSum_k g0 l1 some

def f_i_part_k0 {R : Type} (mask1 : Int) (t9 : List Sc) (t10 : Int) (out5 : List Sc) (t11 : Int) (kN : List Sc × Int → Option R) (kA : List Sc → Option R) : Option R :=
  br ((decide (t11 < t10)))
    (br (okAt t9 t11)
      (bo (f_i_in mask1 t11) false fun r1 =>
      br (r1)
        (br (decide (out5.length + [(Sc.n .i64 (atI t9 t11))].length ≤ lim))
          (kN ((out5 ++ [(Sc.n .i64 (atI t9 t11))]), (w64 (t11 + 1))))
          none)
        (kN (out5, (w64 (t11 + 1)))))
      none)
    (kA out5)
def f_i_part_r0 (mask1 : Int) (t9 : List Sc) (t10 : Int) : (List Sc × Int) → Option (Ro (List Sc × Int) (List Sc) (Unit)) := fun s => f_i_part_k0 mask1 t9 t10 s.1 s.2 (fun s => some (.again s)) (fun e => some (.one e))
def f_i_part_k {R : Type} (l0 : List Sc) (mask1 : Int) (kR : List Sc → Option R) : Option R :=
  bl1 (loopL (f_i_part_r0 mask1 l0 (l0.length : Int)) ([], 0)) [] fun e2 =>
  kR e2
def f_i_part (l0 : List Sc) (mask1 : Int) : Option (List Sc) := f_i_part_k l0 mask1 some

def f_i_IsAtom_k0 {R : Type} (l1 : List Sc) (g2 : List Sc) (mask5 : Int) (kN : Int → Option R) (kA : Unit → Option R) (kB : Unit → Option R) : Option R :=
  br (decide ((l1.length : Int) < 0))
    none
    (br ((decide (mask5 < (w64 ((shl64 1 (l1.length : Int)) - 1)))))
      (bo (f_i_part l1 mask5) [] fun r2 =>
      bo (f_i_Group_total g2 r2) 0 fun r3 =>
      br ((r3 == 0))
        (kB ())
        (kN (w64 (mask5 + 1))))
      (kA ()))
def f_i_IsAtom_r0 (l1 : List Sc) (g2 : List Sc) : Int → Option (Ro (Int) (Unit) (Unit)) := fun s => f_i_IsAtom_k0 l1 g2 s (fun s => some (.again s)) (fun e => some (.one e)) (fun e => some (.two e))
def f_i_IsAtom_k {R : Type} (g0 : List Sc) (l1 : List Sc) (kR : Bool → Option R) : Option R :=
  bo (f_i_IsZeroSum g0 l1) false fun r1 =>
  br ((!r1) == false)
    (br (((l1.length : Int) == 0))
      (kR false)
      (bl (loopL (f_i_IsAtom_r0 l1 g0) 1) () ()
        (fun e4 =>
          kR true)
        (fun e4 =>
          kR false)))
    (kR false)
def f_i_IsAtom (g0 : List Sc) (l1 : List Sc) : Option (Bool) := f_i_IsAtom_k g0 l1 some

def f_l_FnExactIsAtom_k {R : Type} (aG0 : List Sc) (aL1 : List Sc) (kR : Bool → Option R) : Option R :=
  br ((decide ((aL1.length : Int) > 1048576)))
    (kR true)
    (bo (f_l_szGroup aG0 1048576) 0 fun r1 =>
    br ((decide (r1 < 0)))
      (kR true)
      (bo (f_l_toGroup aG0) [] fun r2 =>
      bo (f_l_toIntS aL1) [] fun r3 =>
      bo (f_s_IsAtom r2 r3) false fun r4 =>
      bo (f_l_toGroup aG0) [] fun r5 =>
      bo (f_l_toIntS aL1) [] fun r6 =>
      bo (f_i_IsAtom r5 r6) false fun r7 =>
      br ((!(r7 == r4)))
        (kR false)
        (bo (f_l_toGroup aG0) [] fun r8 =>
        bo (f_l_eqGroup r5 r8) false fun r9 =>
        br ((!r9))
          (kR false)
          (bo (f_l_toIntS aL1) [] fun r10 =>
          bo (f_l_eqIntS r6 r10) false fun r11 =>
          br ((!r11))
            (kR false)
            (kR true)))))
def f_l_FnExactIsAtom (aG0 : List Sc) (aL1 : List Sc) : Option (Bool) := f_l_FnExactIsAtom_k aG0 aL1 some

def f_s_IsSet_k {R : Type} (g0 : List Sc) (a1 : Int) (kR : Bool → Option R) : Option R :=
  bo (f_s_IsGroup g0) false fun r1 =>
  br (r1 == true)
    (bo (f_s_l2Order g0) 0 fun r2 =>
    br (decide (r2 < 0))
      none
      (bo (f_s_l1In a1 0 (w64 ((shl64 1 r2) - 1))) false fun r3 =>
      kR r3))
    (kR false)
def f_s_IsSet (g0 : List Sc) (a1 : Int) : Option (Bool) := f_s_IsSet_k g0 a1 some

def f_s_l4Sum_k0 {R : Type} (a1 : Int) (g3 : List Sc) (out7 : Int) (l8 : List Sc) (i9 : Int) (kN : Int × List Sc × Int → Option R) (kA : Int → Option R) : Option R :=
  br ((decide (i9 < (l8.length : Int))))
    (br (inRange i9 (l8).length)
      (br (kAt l8 i9.toNat)
        (bo (f_s_l3Shift g3 a1 (atN l8 i9.toNat)) 0 fun r2 =>
        kN ((or64 out7 r2), l8, (w64 (i9 + 1))))
        none)
      none)
    (kA out7)
def f_s_l4Sum_r0 (a1 : Int) (g3 : List Sc) : (Int × List Sc × Int) → Option (Ro (Int × List Sc × Int) (Int) (Unit)) := fun s => f_s_l4Sum_k0 a1 g3 s.1 s.2.1 s.2.2 (fun s => some (.again s)) (fun e => some (.one e))
def f_s_l4Sum_k {R : Type} (g0 : List Sc) (a1 : Int) (b2 : Int) (kR : Int → Option R) : Option R :=
  bo (f_s_l3List b2) [] fun r1 =>
  bl1 (loopL (f_s_l4Sum_r0 a1 g0) (0, r1, 0)) 0 fun e3 =>
  kR e3
def f_s_l4Sum (g0 : List Sc) (a1 : Int) (b2 : Int) : Option (Int) := f_s_l4Sum_k g0 a1 b2 some

def f_s_l3Bits_k0 {R : Type} (n3 : Int) (x4 : Int) (kN : Int × Int → Option R) (kA : Int → Option R) : Option R :=
  br ((decide (x4 > 0)))
    (kN ((w64 (n3 + (and64 x4 1))), (shr64 x4 1)))
    (kA n3)
def f_s_l3Bits_r0 : (Int × Int) → Option (Ro (Int × Int) (Int) (Unit)) := fun s => f_s_l3Bits_k0 s.1 s.2 (fun s => some (.again s)) (fun e => some (.one e))
def f_s_l3Bits_k {R : Type} (a0 : Int) (kR : Int → Option R) : Option R :=
  bl1 (loopL (f_s_l3Bits_r0) (0, a0)) 0 fun e1 =>
  kR e1
def f_s_l3Bits (a0 : Int) : Option (Int) := f_s_l3Bits_k a0 some

def f_s_IsDirect_k {R : Type} (g0 : List Sc) (a1 : Int) (b2 : Int) (kR : Bool → Option R) : Option R :=
  bo (f_s_IsSet g0 a1) false fun r1 =>
  br (r1 == true)
    (bo (f_s_IsSet g0 b2) false fun r2 =>
    br (r2 == true)
      (bo (f_s_l4Sum g0 a1 b2) 0 fun r3 =>
      bo (f_s_l3Bits r3) 0 fun r4 =>
      bo (f_s_l3Bits a1) 0 fun r5 =>
      bo (f_s_l3Bits b2) 0 fun r6 =>
      kR (r4 == (w64 (r5 * r6))))
      (kR false))
    (kR false)
def f_s_IsDirect (g0 : List Sc) (a1 : Int) (b2 : Int) : Option (Bool) := f_s_IsDirect_k g0 a1 b2 some

def f_s_IsTiling_k {R : Type} (g0 : List Sc) (a1 : Int) (b2 : Int) (kR : Bool → Option R) : Option R :=
  bo (f_s_IsDirect g0 a1 b2) false fun r1 =>
  br (r1 == true)
    (bo (f_s_l4Sum g0 a1 b2) 0 fun r2 =>
    bo (f_s_l2Order g0) 0 fun r3 =>
    br (decide (r3 < 0))
      none
      (kR (r2 == (w64 ((shl64 1 r3) - 1)))))
    (kR false)
def f_s_IsTiling (g0 : List Sc) (a1 : Int) (b2 : Int) : Option (Bool) := f_s_IsTiling_k g0 a1 b2 some

def f_s_l6Stabilizer_k0 {R : Type} (a1 : Int) (g2 : List Sc) (out5 : Int) (x6 : Int) (kN : Int × Int → Option R) (kA : Int → Option R) : Option R :=
  bo (f_s_l2Order g2) 0 fun r1 =>
  br ((decide (x6 < r1)))
    (bo (f_s_l3Shift g2 a1 x6) 0 fun r2 =>
    br ((r2 == a1))
      (br (decide (x6 < 0))
        none
        (kN ((or64 out5 (shl64 1 x6)), (w64 (x6 + 1)))))
      (kN (out5, (w64 (x6 + 1)))))
    (kA out5)
def f_s_l6Stabilizer_r0 (a1 : Int) (g2 : List Sc) : (Int × Int) → Option (Ro (Int × Int) (Int) (Unit)) := fun s => f_s_l6Stabilizer_k0 a1 g2 s.1 s.2 (fun s => some (.again s)) (fun e => some (.one e))
def f_s_l6Stabilizer_k {R : Type} (g0 : List Sc) (a1 : Int) (kR : Int → Option R) : Option R :=
  bl1 (loopL (f_s_l6Stabilizer_r0 a1 g0) (0, 0)) 0 fun e3 =>
  kR e3
def f_s_l6Stabilizer (g0 : List Sc) (a1 : Int) : Option (Int) := f_s_l6Stabilizer_k g0 a1 some

def f_s_IsPeriodic_k {R : Type} (g0 : List Sc) (a1 : Int) (kR : Bool → Option R) : Option R :=
  bo (f_s_IsSet g0 a1) false fun r1 =>
  br (r1 == true)
    (bo (f_s_l6Stabilizer g0 a1) 0 fun r2 =>
    kR (decide (r2 > 1)))
    (kR false)
def f_s_IsPeriodic (g0 : List Sc) (a1 : Int) : Option (Bool) := f_s_IsPeriodic_k g0 a1 some

def f_s_HasPeriodicFactor_k {R : Type} (g0 : List Sc) (a1 : Int) (b2 : Int) (kR : Bool → Option R) : Option R :=
  bo (f_s_IsTiling g0 a1 b2) false fun r1 =>
  br (r1 == true)
    (bo (f_s_IsPeriodic g0 a1) false fun r2 =>
    br (r2 == false)
      (bo (f_s_IsPeriodic g0 b2) false fun r3 =>
      kR r3)
      (kR true))
    (kR false)
def f_s_HasPeriodicFactor (g0 : List Sc) (a1 : Int) (b2 : Int) : Option (Bool) := f_s_HasPeriodicFactor_k g0 a1 b2 some

def f_i_IsSet_k {R : Type} (g0 : List Sc) (a1 : Int) (kR : Bool → Option R) : Option R :=
  bo (f_i_IsGroup g0) false fun r1 =>
  br (r1 == true)
    (br ((decide (a1 ≥ 0)) == true)
      (bo (f_i_OrderOf g0) 0 fun r2 =>
      br (decide (r2 < 0))
        none
        (kR (decide (a1 < (shl64 1 r2)))))
      (kR false))
    (kR false)
def f_i_IsSet (g0 : List Sc) (a1 : Int) : Option (Bool) := f_i_IsSet_k g0 a1 some

def f_i_areSets_k0 {R : Type} (g2 : List Sc) (t7 : List Sc) (t8 : Int) (t9 : Int) (kN : Int → Option R) (kA : Unit → Option R) (kB : Unit → Option R) : Option R :=
  br ((decide (t9 < t8)))
    (br (okAt t7 t9)
      (bo (f_i_IsSet g2 (atI t7 t9)) false fun r1 =>
      br ((!r1))
        (kB ())
        (kN (w64 (t9 + 1))))
      none)
    (kA ())
def f_i_areSets_r0 (g2 : List Sc) (t7 : List Sc) (t8 : Int) : Int → Option (Ro (Int) (Unit) (Unit)) := fun s => f_i_areSets_k0 g2 t7 t8 s (fun s => some (.again s)) (fun e => some (.one e)) (fun e => some (.two e))
def f_i_areSets_k {R : Type} (g0 : List Sc) (l1 : List Sc) (kR : Bool → Option R) : Option R :=
  bl (loopL (f_i_areSets_r0 g0 l1 (l1.length : Int)) 0) () ()
    (fun e2 =>
      bo (f_i_IsGroup g0) false fun r3 =>
      kR r3)
    (fun e2 =>
      kR false)
def f_i_areSets (g0 : List Sc) (l1 : List Sc) : Option (Bool) := f_i_areSets_k g0 l1 some

def f_i_members_k0 {R : Type} (a0 : Int) (out3 : List Sc) (x4 : Int) (kN : List Sc × Int → Option R) (kA : List Sc → Option R) : Option R :=
  br (decide (x4 < 0))
    none
    (br (((shr64 a0 x4) != 0))
      (br (decide (x4 < 0))
        none
        (br (((and64 (shr64 a0 x4) 1) == 1))
          (br (decide (out3.length + [(Sc.n .i64 x4)].length ≤ lim))
            (kN ((out3 ++ [(Sc.n .i64 x4)]), (w64 (x4 + 1))))
            none)
          (kN (out3, (w64 (x4 + 1))))))
      (kA out3))
def f_i_members_r0 (a0 : Int) : (List Sc × Int) → Option (Ro (List Sc × Int) (List Sc) (Unit)) := fun s => f_i_members_k0 a0 s.1 s.2 (fun s => some (.again s)) (fun e => some (.one e))
def f_i_members_k {R : Type} (a0 : Int) (kR : List Sc → Option R) : Option R :=
  bl1 (loopL (f_i_members_r0 a0) ([], 0)) [] fun e1 =>
  kR e1
def f_i_members (a0 : Int) : Option (List Sc) := f_i_members_k a0 some

def f_i_Group_sum_k0 {R : Type} (b2 : Int) (g3 : List Sc) (t12 : Int) (out7 : Int) (t11 : List Sc) (t13 : Int) (kN : Int × List Sc × Int → Option R) (kA : Int → Option R) : Option R :=
  br ((decide (t13 < t12)))
    (br (inRange t13 (t11).length)
      (br (kAt t11 t13.toNat)
        (bo (f_i_Group_shift g3 b2 (atN t11 t13.toNat)) 0 fun r2 =>
        kN ((or64 out7 r2), t11, (w64 (t13 + 1))))
        none)
      none)
    (kA out7)
def f_i_Group_sum_r0 (b2 : Int) (g3 : List Sc) (t12 : Int) : (Int × List Sc × Int) → Option (Ro (Int × List Sc × Int) (Int) (Unit)) := fun s => f_i_Group_sum_k0 b2 g3 t12 s.1 s.2.1 s.2.2 (fun s => some (.again s)) (fun e => some (.one e))
def f_i_Group_sum_k {R : Type} (g0 : List Sc) (a1 : Int) (b2 : Int) (kR : Int → Option R) : Option R :=
  bo (f_i_members a1) [] fun r1 =>
  bl1 (loopL (f_i_Group_sum_r0 b2 g0 (r1.length : Int)) (0, r1, 0)) 0 fun e3 =>
  kR e3
def f_i_Group_sum (g0 : List Sc) (a1 : Int) (b2 : Int) : Option (Int) := f_i_Group_sum_k g0 a1 b2 some

def f_i_bits_k0 {R : Type} (a0 : Int) (n3 : Int) (kN : Int × Int → Option R) (kA : Int → Option R) : Option R :=
  br ((a0 != 0))
    (kN ((and64 a0 (w64 (a0 - 1))), (w64 (n3 + 1))))
    (kA n3)
def f_i_bits_r0 : (Int × Int) → Option (Ro (Int × Int) (Int) (Unit)) := fun s => f_i_bits_k0 s.1 s.2 (fun s => some (.again s)) (fun e => some (.one e))
def f_i_bits_k {R : Type} (a0 : Int) (kR : Int → Option R) : Option R :=
  bl1 (loopL (f_i_bits_r0) (a0, 0)) 0 fun e1 =>
  kR e1
def f_i_bits (a0 : Int) : Option (Int) := f_i_bits_k a0 some

def f_i_IsDirect_k {R : Type} (g0 : List Sc) (a1 : Int) (b2 : Int) (kR : Bool → Option R) : Option R :=
  bo (f_i_areSets g0 [(Sc.n .i64 a1), (Sc.n .i64 b2)]) false fun r1 =>
  br (r1 == true)
    (bo (f_i_Group_sum g0 a1 b2) 0 fun r2 =>
    bo (f_i_bits r2) 0 fun r3 =>
    bo (f_i_bits a1) 0 fun r4 =>
    bo (f_i_bits b2) 0 fun r5 =>
    kR (r3 == (w64 (r4 * r5))))
    (kR false)
def f_i_IsDirect (g0 : List Sc) (a1 : Int) (b2 : Int) : Option (Bool) := f_i_IsDirect_k g0 a1 b2 some

def f_i_FullSet_k {R : Type} (g0 : List Sc) (kR : Int → Option R) : Option R :=
  bo (f_i_IsGroup g0) false fun r1 =>
  br ((!r1))
    (kR 0)
    (bo (f_i_OrderOf g0) 0 fun r2 =>
    br (decide (r2 < 0))
      none
      (kR (w64 ((shl64 1 r2) - 1))))
def f_i_FullSet (g0 : List Sc) : Option (Int) := f_i_FullSet_k g0 some

def f_i_IsTiling_k {R : Type} (g0 : List Sc) (a1 : Int) (b2 : Int) (kR : Bool → Option R) : Option R :=
  bo (f_i_IsDirect g0 a1 b2) false fun r1 =>
  br (r1 == true)
    (bo (f_i_Group_sum g0 a1 b2) 0 fun r2 =>
    bo (f_i_FullSet g0) 0 fun r3 =>
    kR (r2 == r3))
    (kR false)
def f_i_IsTiling (g0 : List Sc) (a1 : Int) (b2 : Int) : Option (Bool) := f_i_IsTiling_k g0 a1 b2 some

def f_i_StabilizerOf_k0 {R : Type} (a1 : Int) (g2 : List Sc) (t12 : Int) (out5 : Int) (t13 : Int) (kN : Int × Int → Option R) (kA : Int → Option R) : Option R :=
  br ((decide (t13 < t12)))
    (bo (f_i_Group_shift g2 a1 t13) 0 fun r3 =>
    br ((r3 == a1))
      (br (decide (t13 < 0))
        none
        (kN ((or64 out5 (shl64 1 t13)), (w64 (t13 + 1)))))
      (kN (out5, (w64 (t13 + 1)))))
    (kA out5)
def f_i_StabilizerOf_r0 (a1 : Int) (g2 : List Sc) (t12 : Int) : (Int × Int) → Option (Ro (Int × Int) (Int) (Unit)) := fun s => f_i_StabilizerOf_k0 a1 g2 t12 s.1 s.2 (fun s => some (.again s)) (fun e => some (.one e))
def f_i_StabilizerOf_k {R : Type} (g0 : List Sc) (a1 : Int) (kR : Int → Option R) : Option R :=
  bo (f_i_IsSet g0 a1) false fun r1 =>
  br ((!r1))
    (kR (-1))
    (bo (f_i_OrderOf g0) 0 fun r2 =>
    bl1 (loopL (f_i_StabilizerOf_r0 a1 g0 r2) (0, 0)) 0 fun e4 =>
    kR e4)
def f_i_StabilizerOf (g0 : List Sc) (a1 : Int) : Option (Int) := f_i_StabilizerOf_k g0 a1 some

def f_i_IsPeriodic_k {R : Type} (g0 : List Sc) (a1 : Int) (kR : Bool → Option R) : Option R :=
  bo (f_i_IsSet g0 a1) false fun r1 =>
  br (r1 == true)
    (bo (f_i_StabilizerOf g0 a1) 0 fun r2 =>
    bo (f_i_bits r2) 0 fun r3 =>
    kR (decide (r3 > 1)))
    (kR false)
def f_i_IsPeriodic (g0 : List Sc) (a1 : Int) : Option (Bool) := f_i_IsPeriodic_k g0 a1 some

def f_i_HasPeriodicFactor_k {R : Type} (g0 : List Sc) (a1 : Int) (b2 : Int) (kR : Bool → Option R) : Option R :=
  bo (f_i_IsTiling g0 a1 b2) false fun r1 =>
  br (r1 == true)
    (bo (f_i_IsPeriodic g0 a1) false fun r2 =>
    br (r2 == false)
      (bo (f_i_IsPeriodic g0 b2) false fun r3 =>
      kR r3)
      (kR true))
    (kR false)
def f_i_HasPeriodicFactor (g0 : List Sc) (a1 : Int) (b2 : Int) : Option (Bool) := f_i_HasPeriodicFactor_k g0 a1 b2 some

def f_l_FnExactHasPeriodicFactor_k {R : Type} (aG0 : List Sc) (aA1 : Int) (aB2 : Int) (kR : Bool → Option R) : Option R :=
  bo (f_l_szGroup aG0 1048576) 0 fun r1 =>
  br ((decide (r1 < 0)))
    (kR true)
    (bo (f_l_toGroup aG0) [] fun r2 =>
    bo (f_s_HasPeriodicFactor r2 aA1 aB2) false fun r3 =>
    bo (f_l_toGroup aG0) [] fun r4 =>
    bo (f_i_HasPeriodicFactor r4 aA1 aB2) false fun r5 =>
    br ((!(r5 == r3)))
      (kR false)
      (bo (f_l_toGroup aG0) [] fun r6 =>
      bo (f_l_eqGroup r4 r6) false fun r7 =>
      br ((!r7))
        (kR false)
        (kR true)))
def f_l_FnExactHasPeriodicFactor (aG0 : List Sc) (aA1 : Int) (aB2 : Int) : Option (Bool) := f_l_FnExactHasPeriodicFactor_k aG0 aA1 aB2 some

def f_s_l16Part_k0 {R : Type} (l0 : List Sc) (code1 : Int) (out5 : List Sc) (i6 : Int) (kN : List Sc × Int → Option R) (kA : List Sc → Option R) : Option R :=
  br ((decide (i6 < (l0.length : Int))))
    (br (decide (i6 < 0))
      none
      (br (((and64 (shr64 code1 i6) 1) == 1))
        (br (okAt l0 i6)
          (br (decide (out5.length + [(Sc.n .i64 (atI l0 i6))].length ≤ lim))
            (kN ((out5 ++ [(Sc.n .i64 (atI l0 i6))]), (w64 (i6 + 1))))
            none)
          none)
        (kN (out5, (w64 (i6 + 1))))))
    (kA out5)
def f_s_l16Part_r0 (l0 : List Sc) (code1 : Int) : (List Sc × Int) → Option (Ro (List Sc × Int) (List Sc) (Unit)) := fun s => f_s_l16Part_k0 l0 code1 s.1 s.2 (fun s => some (.again s)) (fun e => some (.one e))
def f_s_l16Part_k {R : Type} (l0 : List Sc) (code1 : Int) (kR : List Sc → Option R) : Option R :=
  bl1 (loopL (f_s_l16Part_r0 l0 code1) ([], 0)) [] fun e1 =>
  kR e1
def f_s_l16Part (l0 : List Sc) (code1 : Int) : Option (List Sc) := f_s_l16Part_k l0 code1 some

def f_s_ShortestZero_k0 {R : Type} (l1 : List Sc) (g2 : List Sc) (best6 : List Sc) (code7 : Int) (kN : List Sc × Int → Option R) (kA : List Sc → Option R) : Option R :=
  br (decide ((l1.length : Int) < 0))
    none
    (br ((decide (code7 < (shl64 1 (l1.length : Int)))) == true)
      (bo (f_s_IsSequence g2 l1) false fun r1 =>
      br (r1)
        (bo (f_s_l16Part l1 code7) [] fun r2 =>
        bo (f_s_l16Sum g2 r2) 0 fun r3 =>
        br ((r3 == 0) == true)
          (br (((best6.length : Int) == 0) == false)
            (br ((decide ((r2.length : Int) < (best6.length : Int))))
              (kN (r2, (w64 (code7 + 1))))
              (kN (best6, (w64 (code7 + 1)))))
            (kN (r2, (w64 (code7 + 1)))))
          (kN (best6, (w64 (code7 + 1)))))
        (kA best6))
      (kA best6))
def f_s_ShortestZero_r0 (l1 : List Sc) (g2 : List Sc) : (List Sc × Int) → Option (Ro (List Sc × Int) (List Sc) (Unit)) := fun s => f_s_ShortestZero_k0 l1 g2 s.1 s.2 (fun s => some (.again s)) (fun e => some (.one e))
def f_s_ShortestZero_k {R : Type} (g0 : List Sc) (l1 : List Sc) (kR : List Sc × Bool → Option R) : Option R :=
  bl1 (loopL (f_s_ShortestZero_r0 l1 g0) ([], 1)) [] fun e4 =>
  kR (e4, (decide ((e4.length : Int) > 0)))
def f_s_ShortestZero (g0 : List Sc) (l1 : List Sc) : Option (List Sc × Bool) := f_s_ShortestZero_k g0 l1 some

def f_i_ZeroOfLength_k0 {R : Type} (l1 : List Sc) (k2 : Int) (g3 : List Sc) (t23 : Int) (t24 : Int) (kN : Int → Option R) (kA : Unit → Option R) (kB : List Sc → Option R) : Option R :=
  br ((decide (t24 < t23)))
    (bo (f_i_bits t24) 0 fun r3 =>
    br ((r3 == k2) == true)
      (bo (f_i_part l1 t24) [] fun r4 =>
      bo (f_i_Group_total g3 r4) 0 fun r5 =>
      br ((r5 == 0))
        (bo (f_i_part l1 t24) [] fun r6 =>
        kB r6)
        (kN (w64 (t24 + 1))))
      (kN (w64 (t24 + 1))))
    (kA ())
def f_i_ZeroOfLength_r0 (l1 : List Sc) (k2 : Int) (g3 : List Sc) (t23 : Int) : Int → Option (Ro (Int) (Unit) (List Sc)) := fun s => f_i_ZeroOfLength_k0 l1 k2 g3 t23 s (fun s => some (.again s)) (fun e => some (.one e)) (fun e => some (.two e))
def f_i_ZeroOfLength_k {R : Type} (g0 : List Sc) (l1 : List Sc) (k2 : Int) (kR : List Sc × Bool → Option R) : Option R :=
  bo (f_i_IsSequence g0 l1) false fun r1 =>
  br ((!r1) == false)
    (bo (f_i_within k2 1 (l1.length : Int)) false fun r2 =>
    br ((!r2))
      (kR ([], false))
      (br (decide ((l1.length : Int) < 0))
        none
        (bl (loopL (f_i_ZeroOfLength_r0 l1 k2 g0 (shl64 1 (l1.length : Int))) 0) () []
          (fun e7 =>
            kR ([], false))
          (fun e7 =>
            kR (e7, true)))))
    (kR ([], false))
def f_i_ZeroOfLength (g0 : List Sc) (l1 : List Sc) (k2 : Int) : Option (List Sc × Bool) := f_i_ZeroOfLength_k g0 l1 k2 some

def f_i_ShortestZero_k0 {R : Type} (l1 : List Sc) (g2 : List Sc) (k6 : Int) (kN : Int → Option R) (kA : Unit → Option R) (kB : List Sc → Option R) : Option R :=
  br ((decide (k6 ≤ (l1.length : Int))) == true)
    (bo (f_i_IsSequence g2 l1) false fun r1 =>
    br (r1)
      (bo (f_i_ZeroOfLength g2 l1 k6) ([], false) fun r2 =>
      br (r2.2)
        (kB r2.1)
        (kN (w64 (k6 + 1))))
      (kA ()))
    (kA ())
def f_i_ShortestZero_r0 (l1 : List Sc) (g2 : List Sc) : Int → Option (Ro (Int) (Unit) (List Sc)) := fun s => f_i_ShortestZero_k0 l1 g2 s (fun s => some (.again s)) (fun e => some (.one e)) (fun e => some (.two e))
def f_i_ShortestZero_k {R : Type} (g0 : List Sc) (l1 : List Sc) (kR : List Sc × Bool → Option R) : Option R :=
  bl (loopL (f_i_ShortestZero_r0 l1 g0) 1) () []
    (fun e3 =>
      kR ([], false))
    (fun e3 =>
      kR (e3, true))
def f_i_ShortestZero (g0 : List Sc) (l1 : List Sc) : Option (List Sc × Bool) := f_i_ShortestZero_k g0 l1 some

def f_l_markIntS_io_k0 {R : Type} (v0 : List Sc) (k1 : Int) (i5 : Int) (kN : List Sc × Int × Int → Option R) (kA : List Sc × Int → Option R) : Option R :=
  br ((decide (i5 < (v0.length : Int))))
    (br (inRange i5 (v0).length)
      (kN ((v0.set i5.toNat (Sc.n .i64 k1)), (w64 (k1 + 1)), (w64 (i5 + 1))))
      none)
    (kA (v0, k1))
def f_l_markIntS_io_r0 : (List Sc × Int × Int) → Option (Ro (List Sc × Int × Int) (List Sc × Int) (Unit)) := fun s => f_l_markIntS_io_k0 s.1 s.2.1 s.2.2 (fun s => some (.again s)) (fun e => some (.one e))
def f_l_markIntS_io_k {R : Type} (k1 : Int) (h0 : List Sc) (kR : Int × List Sc → Option R) : Option R :=
  bl1 (loopL (f_l_markIntS_io_r0) (h0, k1, 0)) ([], 0) fun e1 =>
  kR (e1.2, e1.1)
def f_l_markIntS_io (k1 : Int) (h0 : List Sc) : Option (Int × List Sc) := f_l_markIntS_io_k k1 h0 some

def f_l_markGroup_io_k {R : Type} (k1 : Int) (h0 : List Sc) (kR : Int × List Sc → Option R) : Option R :=
  bo (f_l_markIntS_io k1 h0) (0, []) fun r1 =>
  kR (r1.1, r1.2)
def f_l_markGroup_io (k1 : Int) (h0 : List Sc) : Option (Int × List Sc) := f_l_markGroup_io_k k1 h0 some

def f_l_heldIntS_k0 {R : Type} (a0 : List Sc) (k1 : Int) (i5 : Int) (kN : Int × Int → Option R) (kA : Int → Option R) (kB : Unit → Option R) : Option R :=
  br ((decide (i5 < (a0.length : Int))))
    (br (okAt a0 i5)
      (br (((atI a0 i5) != k1))
        (kB ())
        (kN ((w64 (k1 + 1)), (w64 (i5 + 1)))))
      none)
    (kA k1)
def f_l_heldIntS_r0 (a0 : List Sc) : (Int × Int) → Option (Ro (Int × Int) (Int) (Unit)) := fun s => f_l_heldIntS_k0 a0 s.1 s.2 (fun s => some (.again s)) (fun e => some (.one e)) (fun e => some (.two e))
def f_l_heldIntS_k {R : Type} (a0 : List Sc) (k1 : Int) (kR : Int → Option R) : Option R :=
  bl (loopL (f_l_heldIntS_r0 a0) (k1, 0)) 0 ()
    (fun e1 =>
      kR e1)
    (fun e1 =>
      kR (-1))
def f_l_heldIntS (a0 : List Sc) (k1 : Int) : Option (Int) := f_l_heldIntS_k a0 k1 some

def f_l_FnExactShortestZero_k {R : Type} (L0 : List Sc) (p1 : List Sc) (kR : Bool → Option R) : Option R :=
  br ((decide ((p1.length : Int) > 1048576)))
    (kR true)
    (bo (f_l_szGroup L0 1048576) 0 fun r1 =>
    br ((decide (r1 < 0)))
      (kR true)
      (bo (f_l_toGroup L0) [] fun r2 =>
      bo (f_l_toIntS p1) [] fun r3 =>
      bo (f_s_ShortestZero r2 r3) ([], false) fun r4 =>
      bo (f_l_toGroup L0) [] fun r5 =>
      bo (f_l_toIntS p1) [] fun r6 =>
      bo (f_i_ShortestZero r5 r6) ([], false) fun r7 =>
      bo (f_l_eqIntS r7.1 r4.1) false fun r8 =>
      br ((!r8) == false)
        (br ((!(r7.2 == r4.2)))
          (kR false)
          (bo (f_l_toGroup L0) [] fun r9 =>
          bo (f_l_eqGroup r5 r9) false fun r10 =>
          br ((!r10))
            (kR false)
            (bo (f_l_toIntS p1) [] fun r11 =>
            bo (f_l_eqIntS r6 r11) false fun r12 =>
            br ((!r12))
              (kR false)
              (bo (f_l_markGroup_io 1 r5) (0, []) fun r13 =>
              bo (f_l_markIntS_io r13.1 r6) (0, []) fun r14 =>
              br ((decide (r14.1 < 0)) == false)
                (bo (f_l_eqIntS r7.1 r4.1) false fun r15 =>
                br ((!r15) == false)
                  (br ((!(r7.2 == r4.2)))
                    (kR false)
                    (bo (f_l_markIntS_io 1 r7.1) (0, []) fun r16 =>
                    bo (f_l_heldIntS r16.2 1) 0 fun r17 =>
                    br ((decide (r17 < 0)))
                      (kR false)
                      (br ((r17 != r16.1))
                        (kR false)
                        (bo (f_l_toGroup L0) [] fun r18 =>
                        bo (f_l_toIntS p1) [] fun r19 =>
                        bo (f_i_ShortestZero r18 r19) ([], false) fun r20 =>
                        bo (f_l_eqIntS r20.1 r4.1) false fun r21 =>
                        br ((!r21) == false)
                          (br ((!(r20.2 == r4.2)))
                            (kR false)
                            (bo (f_l_heldIntS r16.2 1) 0 fun r22 =>
                            br ((decide (r22 < 0)))
                              (kR false)
                              (br ((r22 != r16.1))
                                (kR false)
                                (kR true))))
                          (kR false)))))
                  (kR false))
                (kR false)))))
        (kR false)))
def f_l_FnExactShortestZero (L0 : List Sc) (p1 : List Sc) : Option (Bool) := f_l_FnExactShortestZero_k L0 p1 some

def f_s_ZeroOfLength_k0 {R : Type} (l1 : List Sc) (k2 : Int) (g3 : List Sc) (code8 : Int) (kN : Int → Option R) (kA : Unit → Option R) (kB : List Sc → Option R) : Option R :=
  br (decide ((l1.length : Int) < 0))
    none
    (br ((decide (code8 < (shl64 1 (l1.length : Int)))))
      (bo (f_s_l3Bits code8) 0 fun r3 =>
      br ((r3 == k2) == true)
        (bo (f_s_l16Part l1 code8) [] fun r4 =>
        bo (f_s_l16Sum g3 r4) 0 fun r5 =>
        br ((r5 == 0))
          (bo (f_s_l16Part l1 code8) [] fun r6 =>
          kB r6)
          (kN (w64 (code8 + 1))))
        (kN (w64 (code8 + 1))))
      (kA ()))
def f_s_ZeroOfLength_r0 (l1 : List Sc) (k2 : Int) (g3 : List Sc) : Int → Option (Ro (Int) (Unit) (List Sc)) := fun s => f_s_ZeroOfLength_k0 l1 k2 g3 s (fun s => some (.again s)) (fun e => some (.one e)) (fun e => some (.two e))
def f_s_ZeroOfLength_k {R : Type} (g0 : List Sc) (l1 : List Sc) (k2 : Int) (kR : List Sc × Bool → Option R) : Option R :=
  bo (f_s_IsSequence g0 l1) false fun r1 =>
  br ((!r1) == false)
    (bo (f_s_l1In k2 1 (l1.length : Int)) false fun r2 =>
    br ((!r2))
      (kR ([], false))
      (bl (loopL (f_s_ZeroOfLength_r0 l1 k2 g0) 1) () []
        (fun e7 =>
          kR ([], false))
        (fun e7 =>
          kR (e7, true))))
    (kR ([], false))
def f_s_ZeroOfLength (g0 : List Sc) (l1 : List Sc) (k2 : Int) : Option (List Sc × Bool) := f_s_ZeroOfLength_k g0 l1 k2 some

def f_l_FnExactZeroOfLength_k {R : Type} (L0 : List Sc) (p1 : List Sc) (p2 : Int) (kR : Bool → Option R) : Option R :=
  br ((decide ((p1.length : Int) > 1048576)))
    (kR true)
    (bo (f_l_szGroup L0 1048576) 0 fun r1 =>
    br ((decide (r1 < 0)))
      (kR true)
      (bo (f_l_toGroup L0) [] fun r2 =>
      bo (f_l_toIntS p1) [] fun r3 =>
      bo (f_s_ZeroOfLength r2 r3 p2) ([], false) fun r4 =>
      bo (f_l_toGroup L0) [] fun r5 =>
      bo (f_l_toIntS p1) [] fun r6 =>
      bo (f_i_ZeroOfLength r5 r6 p2) ([], false) fun r7 =>
      bo (f_l_eqIntS r7.1 r4.1) false fun r8 =>
      br ((!r8) == false)
        (br ((!(r7.2 == r4.2)))
          (kR false)
          (bo (f_l_toGroup L0) [] fun r9 =>
          bo (f_l_eqGroup r5 r9) false fun r10 =>
          br ((!r10))
            (kR false)
            (bo (f_l_toIntS p1) [] fun r11 =>
            bo (f_l_eqIntS r6 r11) false fun r12 =>
            br ((!r12))
              (kR false)
              (bo (f_l_markGroup_io 1 r5) (0, []) fun r13 =>
              bo (f_l_markIntS_io r13.1 r6) (0, []) fun r14 =>
              br ((decide (r14.1 < 0)) == false)
                (bo (f_l_eqIntS r7.1 r4.1) false fun r15 =>
                br ((!r15) == false)
                  (br ((!(r7.2 == r4.2)))
                    (kR false)
                    (bo (f_l_markIntS_io 1 r7.1) (0, []) fun r16 =>
                    bo (f_l_heldIntS r16.2 1) 0 fun r17 =>
                    br ((decide (r17 < 0)))
                      (kR false)
                      (br ((r17 != r16.1))
                        (kR false)
                        (bo (f_l_toGroup L0) [] fun r18 =>
                        bo (f_l_toIntS p1) [] fun r19 =>
                        bo (f_i_ZeroOfLength r18 r19 p2) ([], false) fun r20 =>
                        bo (f_l_eqIntS r20.1 r4.1) false fun r21 =>
                        br ((!r21) == false)
                          (br ((!(r20.2 == r4.2)))
                            (kR false)
                            (bo (f_l_heldIntS r16.2 1) 0 fun r22 =>
                            br ((decide (r22 < 0)))
                              (kR false)
                              (br ((r22 != r16.1))
                                (kR false)
                                (kR true))))
                          (kR false)))))
                  (kR false))
                (kR false)))))
        (kR false)))
def f_l_FnExactZeroOfLength (L0 : List Sc) (p1 : List Sc) (p2 : Int) : Option (Bool) := f_l_FnExactZeroOfLength_k L0 p1 p2 some

def f_s_l14Fine_k0 {R : Type} (steps1 : List Sc) (sizes2 : List Sc) (g3 : List Sc) (i7 : Int) (kN : Int → Option R) (kA : Unit → Option R) (kB : Unit → Option R) : Option R :=
  br ((decide (i7 < (steps1.length : Int))))
    (br (okAt steps1 i7)
      (bo (f_s_l2Is g3 (atI steps1 i7)) false fun r1 =>
      br ((!r1) == false)
        (br ((decide (i7 ≥ (sizes2.length : Int))) == false)
          (br (okAt sizes2 i7)
            (bo (f_s_l1In (atI sizes2 i7) 1 24) false fun r2 =>
            br ((!r2))
              (kB ())
              (kN (w64 (i7 + 1))))
            none)
          (kB ()))
        (kB ()))
      none)
    (kA ())
def f_s_l14Fine_r0 (steps1 : List Sc) (sizes2 : List Sc) (g3 : List Sc) : Int → Option (Ro (Int) (Unit) (Unit)) := fun s => f_s_l14Fine_k0 steps1 sizes2 g3 s (fun s => some (.again s)) (fun e => some (.one e)) (fun e => some (.two e))
def f_s_l14Fine_k {R : Type} (g0 : List Sc) (steps1 : List Sc) (sizes2 : List Sc) (kR : Bool → Option R) : Option R :=
  bl (loopL (f_s_l14Fine_r0 steps1 sizes2 g0) 0) () ()
    (fun e3 =>
      bo (f_s_IsGroup g0) false fun r4 =>
      br (r4 == true)
        (br (((steps1.length : Int) == (sizes2.length : Int)) == true)
          (kR (decide ((steps1.length : Int) ≤ 3)))
          (kR false))
        (kR false))
    (fun e3 =>
      kR false)
def f_s_l14Fine (g0 : List Sc) (steps1 : List Sc) (sizes2 : List Sc) : Option (Bool) := f_s_l14Fine_k g0 steps1 sizes2 some

def f_s_l10Progression_k0 {R : Type} (step2 : Int) (n3 : Int) (g4 : List Sc) (out9 : Int) (x10 : Int) (i11 : Int) (kN : Int × Int × Int → Option R) (kA : Int → Option R) : Option R :=
  br ((decide (i11 < n3)))
    (br (decide (x10 < 0))
      none
      (bo (f_s_l2Add g4 x10 step2) 0 fun r1 =>
      kN ((or64 out9 (shl64 1 x10)), r1, (w64 (i11 + 1)))))
    (kA out9)
def f_s_l10Progression_r0 (step2 : Int) (n3 : Int) (g4 : List Sc) : (Int × Int × Int) → Option (Ro (Int × Int × Int) (Int) (Unit)) := fun s => f_s_l10Progression_k0 step2 n3 g4 s.1 s.2.1 s.2.2 (fun s => some (.again s)) (fun e => some (.one e))
def f_s_l10Progression_k {R : Type} (g0 : List Sc) (start1 : Int) (step2 : Int) (n3 : Int) (kR : Int → Option R) : Option R :=
  bl1 (loopL (f_s_l10Progression_r0 step2 n3 g0) (0, start1, 0)) 0 fun e2 =>
  kR e2
def f_s_l10Progression (g0 : List Sc) (start1 : Int) (step2 : Int) (n3 : Int) : Option (Int) := f_s_l10Progression_k g0 start1 step2 n3 some

def f_s_l14Box_k0 {R : Type} (steps1 : List Sc) (sizes2 : List Sc) (g3 : List Sc) (out7 : Int) (i8 : Int) (kN : Int × Int → Option R) (kA : Int → Option R) : Option R :=
  br ((decide (i8 < (steps1.length : Int))))
    (br (okAt steps1 i8)
      (br (okAt sizes2 i8)
        (bo (f_s_l10Progression g3 0 (atI steps1 i8) (atI sizes2 i8)) 0 fun r1 =>
        bo (f_s_l4Sum g3 out7 r1) 0 fun r2 =>
        kN (r2, (w64 (i8 + 1))))
        none)
      none)
    (kA out7)
def f_s_l14Box_r0 (steps1 : List Sc) (sizes2 : List Sc) (g3 : List Sc) : (Int × Int) → Option (Ro (Int × Int) (Int) (Unit)) := fun s => f_s_l14Box_k0 steps1 sizes2 g3 s.1 s.2 (fun s => some (.again s)) (fun e => some (.one e))
def f_s_l14Box_k {R : Type} (g0 : List Sc) (steps1 : List Sc) (sizes2 : List Sc) (kR : Int → Option R) : Option R :=
  bl1 (loopL (f_s_l14Box_r0 steps1 sizes2 g0) (1, 0)) 0 fun e3 =>
  kR e3
def f_s_l14Box (g0 : List Sc) (steps1 : List Sc) (sizes2 : List Sc) : Option (Int) := f_s_l14Box_k g0 steps1 sizes2 some

def f_s_IsProperBox_k0 {R : Type} (steps1 : List Sc) (sizes2 : List Sc) (g3 : List Sc) (n7 : Int) (i8 : Int) (kN : Int × Int → Option R) (kA : Int → Option R) : Option R :=
  br ((decide (i8 < (sizes2.length : Int))))
    (br (okAt sizes2 i8)
      (kN ((if (w64 (n7 * (atI sizes2 i8))) < 1000 then (w64 (n7 * (atI sizes2 i8))) else 1000), (w64 (i8 + 1))))
      none)
    (kA n7)
def f_s_IsProperBox_r0 (steps1 : List Sc) (sizes2 : List Sc) (g3 : List Sc) : (Int × Int) → Option (Ro (Int × Int) (Int) (Unit)) := fun s => f_s_IsProperBox_k0 steps1 sizes2 g3 s.1 s.2 (fun s => some (.again s)) (fun e => some (.one e))
def f_s_IsProperBox_k {R : Type} (g0 : List Sc) (steps1 : List Sc) (sizes2 : List Sc) (kR : Bool → Option R) : Option R :=
  bo (f_s_l14Fine g0 steps1 sizes2) false fun r1 =>
  br ((!r1))
    (kR false)
    (bl1 (loopL (f_s_IsProperBox_r0 steps1 sizes2 g0) (1, 0)) 0 fun e2 =>
    bo (f_s_l14Box g0 steps1 sizes2) 0 fun r3 =>
    bo (f_s_l3Bits r3) 0 fun r4 =>
    kR (r4 == e2))
def f_s_IsProperBox (g0 : List Sc) (steps1 : List Sc) (sizes2 : List Sc) : Option (Bool) := f_s_IsProperBox_k g0 steps1 sizes2 some

def f_i_Group_progression_k0 {R : Type} (step2 : Int) (g4 : List Sc) (t10 : Int) (start1 : Int) (out9 : Int) (t11 : Int) (kN : Int × Int × Int → Option R) (kA : Int → Option R) : Option R :=
  br ((decide (t11 < t10)))
    (br (decide (start1 < 0))
      none
      (bo (f_i_Group_add g4 start1 step2) 0 fun r1 =>
      kN (r1, (or64 out9 (shl64 1 start1)), (w64 (t11 + 1)))))
    (kA out9)
def f_i_Group_progression_r0 (step2 : Int) (g4 : List Sc) (t10 : Int) : (Int × Int × Int) → Option (Ro (Int × Int × Int) (Int) (Unit)) := fun s => f_i_Group_progression_k0 step2 g4 t10 s.1 s.2.1 s.2.2 (fun s => some (.again s)) (fun e => some (.one e))
def f_i_Group_progression_k {R : Type} (g0 : List Sc) (start1 : Int) (step2 : Int) (n3 : Int) (kR : Int → Option R) : Option R :=
  bl1 (loopL (f_i_Group_progression_r0 step2 g0 n3) (start1, 0, 0)) 0 fun e2 =>
  kR e2
def f_i_Group_progression (g0 : List Sc) (start1 : Int) (step2 : Int) (n3 : Int) : Option (Int) := f_i_Group_progression_k g0 start1 step2 n3 some

def f_i_BoxOf_k0 {R : Type} (sizes2 : List Sc) (g3 : List Sc) (t26 : List Sc) (t27 : Int) (out8 : Int) (t28 : Int) (kN : Int × Int → Option R) (kA : Int → Option R) (kB : Unit → Option R) : Option R :=
  br ((decide (t28 < t27)))
    (br (okAt t26 t28)
      (bo (f_i_Group_has g3 (atI t26 t28)) false fun r2 =>
      br ((!r2) == false)
        (br (okAt sizes2 t28)
          (bo (f_i_within (atI sizes2 t28) 1 24) false fun r3 =>
          br ((!r3))
            (kB ())
            (br (okAt sizes2 t28)
              (bo (f_i_Group_progression g3 0 (atI t26 t28) (atI sizes2 t28)) 0 fun r4 =>
              bo (f_i_Group_sum g3 out8 r4) 0 fun r5 =>
              kN (r5, (w64 (t28 + 1))))
              none))
          none)
        (kB ()))
      none)
    (kA out8)
def f_i_BoxOf_r0 (sizes2 : List Sc) (g3 : List Sc) (t26 : List Sc) (t27 : Int) : (Int × Int) → Option (Ro (Int × Int) (Int) (Unit)) := fun s => f_i_BoxOf_k0 sizes2 g3 t26 t27 s.1 s.2 (fun s => some (.again s)) (fun e => some (.one e)) (fun e => some (.two e))
def f_i_BoxOf_k {R : Type} (g0 : List Sc) (steps1 : List Sc) (sizes2 : List Sc) (kR : Int × Bool → Option R) : Option R :=
  bo (f_i_IsGroup g0) false fun r1 =>
  br ((!r1) == false)
    (br (((steps1.length : Int) != (sizes2.length : Int)) == false)
      (br ((decide ((steps1.length : Int) > 3)))
        (kR (0, false))
        (bl (loopL (f_i_BoxOf_r0 sizes2 g0 steps1 (steps1.length : Int)) (1, 0)) 0 ()
          (fun e6 =>
            kR (e6, true))
          (fun e6 =>
            kR (0, false))))
      (kR (0, false)))
    (kR (0, false))
def f_i_BoxOf (g0 : List Sc) (steps1 : List Sc) (sizes2 : List Sc) : Option (Int × Bool) := f_i_BoxOf_k g0 steps1 sizes2 some

def f_i_IsProperBox_k0 {R : Type} (a7 : Int) (ok8 : Bool) (t19 : List Sc) (t20 : Int) (n9 : Int) (t21 : Int) (kN : Int × Int → Option R) (kA : Int → Option R) : Option R :=
  br ((decide (t21 < t20)))
    (br (okAt t19 t21)
      (kN ((w64 (n9 * (atI t19 t21))), (w64 (t21 + 1))))
      none)
    (kA n9)
def f_i_IsProperBox_r0 (a7 : Int) (ok8 : Bool) (t19 : List Sc) (t20 : Int) : (Int × Int) → Option (Ro (Int × Int) (Int) (Unit)) := fun s => f_i_IsProperBox_k0 a7 ok8 t19 t20 s.1 s.2 (fun s => some (.again s)) (fun e => some (.one e))
def f_i_IsProperBox_k {R : Type} (g0 : List Sc) (steps1 : List Sc) (sizes2 : List Sc) (kR : Bool → Option R) : Option R :=
  bo (f_i_BoxOf g0 steps1 sizes2) (0, false) fun r1 =>
  bl1 (loopL (f_i_IsProperBox_r0 r1.1 r1.2 sizes2 (sizes2.length : Int)) (1, 0)) 0 fun e2 =>
  br (r1.2 == true)
    (bo (f_i_bits r1.1) 0 fun r3 =>
    kR (r3 == e2))
    (kR false)
def f_i_IsProperBox (g0 : List Sc) (steps1 : List Sc) (sizes2 : List Sc) : Option (Bool) := f_i_IsProperBox_k g0 steps1 sizes2 some

def f_l_FnExactIsProperBox_k {R : Type} (aG0 : List Sc) (aSteps1 : List Sc) (aSizes2 : List Sc) (kR : Bool → Option R) : Option R :=
  br ((decide ((aSteps1.length : Int) > 1048576)))
    (kR true)
    (br ((decide ((aSizes2.length : Int) > 1048576)))
      (kR true)
      (bo (f_l_szGroup aG0 1048576) 0 fun r1 =>
      br ((decide (r1 < 0)))
        (kR true)
        (bo (f_l_toGroup aG0) [] fun r2 =>
        bo (f_l_toIntS aSteps1) [] fun r3 =>
        bo (f_l_toIntS aSizes2) [] fun r4 =>
        bo (f_s_IsProperBox r2 r3 r4) false fun r5 =>
        bo (f_l_toGroup aG0) [] fun r6 =>
        bo (f_l_toIntS aSteps1) [] fun r7 =>
        bo (f_l_toIntS aSizes2) [] fun r8 =>
        bo (f_i_IsProperBox r6 r7 r8) false fun r9 =>
        br ((!(r9 == r5)))
          (kR false)
          (bo (f_l_toGroup aG0) [] fun r10 =>
          bo (f_l_eqGroup r6 r10) false fun r11 =>
          br ((!r11))
            (kR false)
            (bo (f_l_toIntS aSteps1) [] fun r12 =>
            bo (f_l_eqIntS r7 r12) false fun r13 =>
            br ((!r13))
              (kR false)
              (bo (f_l_toIntS aSizes2) [] fun r14 =>
              bo (f_l_eqIntS r8 r14) false fun r15 =>
              br ((!r15))
                (kR false)
                (kR true)))))))
def f_l_FnExactIsProperBox (aG0 : List Sc) (aSteps1 : List Sc) (aSizes2 : List Sc) : Option (Bool) := f_l_FnExactIsProperBox_k aG0 aSteps1 aSizes2 some

def f_s_FindBox_k6 {R : Type} (t1 : Int) (t2 : List Sc) (t7 : Int) (t8 : Int) (t9 : Int) (t10 : Int) (t11 : Int) (t12 : Int) (t13 : Int) (t14 : Int) (kN : Int → Option R) (kA : Unit → Option R) (kB : List Sc × List Sc → Option R) : Option R :=
  br ((decide (t14 < t8)))
    (bo (f_s_l3Shift t2 t13 t14) 0 fun r8 =>
    br ((r8 == t1))
      (br (t9 == 0)
        none
        (kB ([(Sc.n .i64 t9), (Sc.n .i64 (w64 (t7.tdiv t9)))], [(Sc.n .i64 t10), (Sc.n .i64 t12)])))
      (kN (w64 (t14 + 1))))
    (kA ())
def f_s_FindBox_r6 (t1 : Int) (t2 : List Sc) (t7 : Int) (t8 : Int) (t9 : Int) (t10 : Int) (t11 : Int) (t12 : Int) (t13 : Int) : Int → Option (Ro (Int) (Unit) (List Sc × List Sc)) := fun s => f_s_FindBox_k6 t1 t2 t7 t8 t9 t10 t11 t12 t13 s (fun s => some (.again s)) (fun e => some (.one e)) (fun e => some (.two e))
def f_s_FindBox_k4 {R : Type} (t1 : Int) (t2 : List Sc) (t7 : Int) (t8 : Int) (t9 : Int) (t10 : Int) (t11 : Int) (t12 : Int) (kN : Int → Option R) (kA : Int → Option R) (kB : List Sc × List Sc → Option R) : Option R :=
  br ((decide (t12 < t8)))
    (br (t9 == 0)
      none
      (bo (f_s_l10Progression t2 0 t12 (w64 (t7.tdiv t9))) 0 fun r5 =>
      bo (f_s_l4Sum t2 t11 r5) 0 fun r6 =>
      bo (f_s_l3Bits r6) 0 fun r7 =>
      br ((r7 != t7))
        (kN (w64 (t12 + 1)))
        (bl (loopL (f_s_FindBox_r6 t1 t2 t7 t8 t9 t10 t11 t12 r6) 0) () ([], [])
          (fun e9 =>
            kN (w64 (t12 + 1)))
          (fun e9 =>
            kB (e9.1, e9.2)))))
    (kA t12)
def f_s_FindBox_r4 (t1 : Int) (t2 : List Sc) (t7 : Int) (t8 : Int) (t9 : Int) (t10 : Int) (t11 : Int) : Int → Option (Ro (Int) (Int) (List Sc × List Sc)) := fun s => f_s_FindBox_k4 t1 t2 t7 t8 t9 t10 t11 s (fun s => some (.again s)) (fun e => some (.one e)) (fun e => some (.two e))
def f_s_FindBox_k2 {R : Type} (t1 : Int) (t2 : List Sc) (t7 : Int) (t8 : Int) (t9 : Int) (t10 : Int) (kN : Int → Option R) (kA : Int → Option R) (kB : List Sc × List Sc → Option R) : Option R :=
  br ((decide (t10 < t8)))
    (bo (f_s_l10Progression t2 0 t10 t9) 0 fun r4 =>
    bl (loopL (f_s_FindBox_r4 t1 t2 t7 t8 t9 t10 r4) 0) 0 ([], [])
      (fun e10 =>
        kN (w64 (t10 + 1)))
      (fun e10 =>
        kB (e10.1, e10.2)))
    (kA t10)
def f_s_FindBox_r2 (t1 : Int) (t2 : List Sc) (t7 : Int) (t8 : Int) (t9 : Int) : Int → Option (Ro (Int) (Int) (List Sc × List Sc)) := fun s => f_s_FindBox_k2 t1 t2 t7 t8 t9 s (fun s => some (.again s)) (fun e => some (.one e)) (fun e => some (.two e))
def f_s_FindBox_k0 {R : Type} (t1 : Int) (t2 : List Sc) (t7 : Int) (t8 : Int) (t9 : Int) (kN : Int → Option R) (kA : Int → Option R) (kB : List Sc × List Sc → Option R) : Option R :=
  br ((decide ((w64 (t9 * t9)) ≤ t7)))
    (br (t9 == 0)
      none
      (br (((t7.tmod t9) != 0))
        (kN (w64 (t9 + 1)))
        (bl (loopL (f_s_FindBox_r2 t1 t2 t7 t8 t9) 0) 0 ([], [])
          (fun e11 =>
            kN (w64 (t9 + 1)))
          (fun e11 =>
            kB (e11.1, e11.2)))))
    (kA t9)
def f_s_FindBox_r0 (t1 : Int) (t2 : List Sc) (t7 : Int) (t8 : Int) : Int → Option (Ro (Int) (Int) (List Sc × List Sc)) := fun s => f_s_FindBox_k0 t1 t2 t7 t8 s (fun s => some (.again s)) (fun e => some (.one e)) (fun e => some (.two e))
def f_s_FindBox_k {R : Type} (L0 : List Sc) (p1 : Int) (kR : List Sc × List Sc × Bool → Option R) : Option R :=
  bo (f_s_IsSet L0 p1) false fun r1 =>
  br ((!r1) == false)
    (br ((p1 == 0))
      (kR ([], [], false))
      (bo (f_s_l3Bits p1) 0 fun r2 =>
      bo (f_s_l2Order L0) 0 fun r3 =>
      bl (loopL (f_s_FindBox_r0 p1 L0 r2 r3) 1) 0 ([], [])
        (fun e12 =>
          kR ([], [], false))
        (fun e12 =>
          kR (e12.2, e12.1, true))))
    (kR ([], [], false))
def f_s_FindBox (L0 : List Sc) (p1 : Int) : Option (List Sc × List Sc × Bool) := f_s_FindBox_k L0 p1 some

def f_s_IsBox_k {R : Type} (g0 : List Sc) (a1 : Int) (kR : Bool → Option R) : Option R :=
  bo (f_s_FindBox g0 a1) ([], [], false) fun r1 =>
  kR r1.2.2
def f_s_IsBox (g0 : List Sc) (a1 : Int) : Option (Bool) := f_s_IsBox_k g0 a1 some

def f_i_FindBox_k6 {R : Type} (t1 : Int) (t2 : List Sc) (t7 : Int) (t8 : Int) (t9 : Int) (t10 : Int) (t11 : Int) (t12 : Int) (t39 : Int) (t40 : Int) (t43 : Int) (t44 : Int) (t63 : Int) (t64 : Int) (kN : Int → Option R) (kA : Unit → Option R) (kB : List Sc × List Sc → Option R) : Option R :=
  br ((decide (t64 < t63)))
    (bo (f_i_Group_shift t2 t12 t64) 0 fun r8 =>
    br ((r8 == t1))
      (br (t9 == 0)
        none
        (kB ([(Sc.n .i64 t9), (Sc.n .i64 (w64 (t8.tdiv t9)))], [(Sc.n .i64 t10), (Sc.n .i64 t11)])))
      (kN (w64 (t64 + 1))))
    (kA ())
def f_i_FindBox_r6 (t1 : Int) (t2 : List Sc) (t7 : Int) (t8 : Int) (t9 : Int) (t10 : Int) (t11 : Int) (t12 : Int) (t39 : Int) (t40 : Int) (t43 : Int) (t44 : Int) (t63 : Int) : Int → Option (Ro (Int) (Unit) (List Sc × List Sc)) := fun s => f_i_FindBox_k6 t1 t2 t7 t8 t9 t10 t11 t12 t39 t40 t43 t44 t63 s (fun s => some (.again s)) (fun e => some (.one e)) (fun e => some (.two e))
def f_i_FindBox_k4 {R : Type} (t1 : Int) (t2 : List Sc) (t7 : Int) (t8 : Int) (t9 : Int) (t10 : Int) (t39 : Int) (t40 : Int) (t43 : Int) (t44 : Int) (kN : Int → Option R) (kA : Int → Option R) (kB : List Sc × List Sc → Option R) : Option R :=
  br ((decide (t44 < t43)))
    (bo (f_i_Group_progression t2 0 t10 t9) 0 fun r4 =>
    br (t9 == 0)
      none
      (bo (f_i_Group_progression t2 0 t44 (w64 (t8.tdiv t9))) 0 fun r5 =>
      bo (f_i_Group_sum t2 r4 r5) 0 fun r6 =>
      bo (f_i_bits r6) 0 fun r7 =>
      br ((r7 != t8))
        (kN (w64 (t44 + 1)))
        (bl (loopL (f_i_FindBox_r6 t1 t2 t7 t8 t9 t10 t44 r6 t39 t40 t43 t44 t7) 0) () ([], [])
          (fun e9 =>
            kN (w64 (t44 + 1)))
          (fun e9 =>
            kB (e9.1, e9.2)))))
    (kA t44)
def f_i_FindBox_r4 (t1 : Int) (t2 : List Sc) (t7 : Int) (t8 : Int) (t9 : Int) (t10 : Int) (t39 : Int) (t40 : Int) (t43 : Int) : Int → Option (Ro (Int) (Int) (List Sc × List Sc)) := fun s => f_i_FindBox_k4 t1 t2 t7 t8 t9 t10 t39 t40 t43 s (fun s => some (.again s)) (fun e => some (.one e)) (fun e => some (.two e))
def f_i_FindBox_k2 {R : Type} (t1 : Int) (t2 : List Sc) (t7 : Int) (t8 : Int) (t9 : Int) (t39 : Int) (t40 : Int) (kN : Int → Option R) (kA : Int → Option R) (kB : List Sc × List Sc → Option R) : Option R :=
  br ((decide (t40 < t39)))
    (bl (loopL (f_i_FindBox_r4 t1 t2 t7 t8 t9 t40 t39 t40 t7) 0) 0 ([], [])
      (fun e10 =>
        kN (w64 (t40 + 1)))
      (fun e10 =>
        kB (e10.1, e10.2)))
    (kA t40)
def f_i_FindBox_r2 (t1 : Int) (t2 : List Sc) (t7 : Int) (t8 : Int) (t9 : Int) (t39 : Int) : Int → Option (Ro (Int) (Int) (List Sc × List Sc)) := fun s => f_i_FindBox_k2 t1 t2 t7 t8 t9 t39 s (fun s => some (.again s)) (fun e => some (.one e)) (fun e => some (.two e))
def f_i_FindBox_k0 {R : Type} (t1 : Int) (t2 : List Sc) (t7 : Int) (t8 : Int) (t9 : Int) (kN : Int → Option R) (kA : Int → Option R) (kB : List Sc × List Sc → Option R) : Option R :=
  br ((decide ((w64 (t9 * t9)) ≤ t8)))
    (br (t9 == 0)
      none
      (br (((t8.tmod t9) != 0))
        (kN (w64 (t9 + 1)))
        (bl (loopL (f_i_FindBox_r2 t1 t2 t7 t8 t9 t7) 0) 0 ([], [])
          (fun e11 =>
            kN (w64 (t9 + 1)))
          (fun e11 =>
            kB (e11.1, e11.2)))))
    (kA t9)
def f_i_FindBox_r0 (t1 : Int) (t2 : List Sc) (t7 : Int) (t8 : Int) : Int → Option (Ro (Int) (Int) (List Sc × List Sc)) := fun s => f_i_FindBox_k0 t1 t2 t7 t8 s (fun s => some (.again s)) (fun e => some (.one e)) (fun e => some (.two e))
def f_i_FindBox_k {R : Type} (L0 : List Sc) (p1 : Int) (kR : List Sc × List Sc × Bool → Option R) : Option R :=
  bo (f_i_OrderOf L0) 0 fun r1 =>
  bo (f_i_IsSet L0 p1) false fun r2 =>
  br ((!r2) == false)
    (br ((p1 == 0))
      (kR ([], [], false))
      (bo (f_i_bits p1) 0 fun r3 =>
      bl (loopL (f_i_FindBox_r0 p1 L0 r1 r3) 1) 0 ([], [])
        (fun e12 =>
          kR ([], [], false))
        (fun e12 =>
          kR (e12.2, e12.1, true))))
    (kR ([], [], false))
def f_i_FindBox (L0 : List Sc) (p1 : Int) : Option (List Sc × List Sc × Bool) := f_i_FindBox_k L0 p1 some

def f_i_IsBox_k {R : Type} (g0 : List Sc) (a1 : Int) (kR : Bool → Option R) : Option R :=
  bo (f_i_FindBox g0 a1) ([], [], false) fun r1 =>
  kR r1.2.2
def f_i_IsBox (g0 : List Sc) (a1 : Int) : Option (Bool) := f_i_IsBox_k g0 a1 some

def f_l_FnExactIsBox_k {R : Type} (aG0 : List Sc) (aA1 : Int) (kR : Bool → Option R) : Option R :=
  bo (f_l_szGroup aG0 1048576) 0 fun r1 =>
  br ((decide (r1 < 0)))
    (kR true)
    (bo (f_l_toGroup aG0) [] fun r2 =>
    bo (f_s_IsBox r2 aA1) false fun r3 =>
    bo (f_l_toGroup aG0) [] fun r4 =>
    bo (f_i_IsBox r4 aA1) false fun r5 =>
    br ((!(r5 == r3)))
      (kR false)
      (bo (f_l_toGroup aG0) [] fun r6 =>
      bo (f_l_eqGroup r4 r6) false fun r7 =>
      br ((!r7))
        (kR false)
        (kR true)))
def f_l_FnExactIsBox (aG0 : List Sc) (aA1 : Int) : Option (Bool) := f_l_FnExactIsBox_k aG0 aA1 some

def f_l_FnExactFindBox_k {R : Type} (L0 : List Sc) (p1 : Int) (kR : Bool → Option R) : Option R :=
  bo (f_l_szGroup L0 1048576) 0 fun r1 =>
  br ((decide (r1 < 0)))
    (kR true)
    (bo (f_l_toGroup L0) [] fun r2 =>
    bo (f_s_FindBox r2 p1) ([], [], false) fun r3 =>
    bo (f_l_toGroup L0) [] fun r4 =>
    bo (f_i_FindBox r4 p1) ([], [], false) fun r5 =>
    bo (f_l_eqIntS r5.1 r3.1) false fun r6 =>
    br ((!r6) == false)
      (bo (f_l_eqIntS r5.2.1 r3.2.1) false fun r7 =>
      br ((!r7) == false)
        (br ((!(r5.2.2 == r3.2.2)))
          (kR false)
          (bo (f_l_toGroup L0) [] fun r8 =>
          bo (f_l_eqGroup r4 r8) false fun r9 =>
          br ((!r9))
            (kR false)
            (bo (f_l_markGroup_io 1 r4) (0, []) fun r10 =>
            br ((decide (r10.1 < 0)) == false)
              (bo (f_l_eqIntS r5.1 r3.1) false fun r11 =>
              br ((!r11) == false)
                (bo (f_l_eqIntS r5.2.1 r3.2.1) false fun r12 =>
                br ((!r12) == false)
                  (br ((!(r5.2.2 == r3.2.2)))
                    (kR false)
                    (bo (f_l_markIntS_io 1 r5.1) (0, []) fun r13 =>
                    bo (f_l_markIntS_io r13.1 r5.2.1) (0, []) fun r14 =>
                    bo (f_l_heldIntS r13.2 1) 0 fun r15 =>
                    br ((decide (r15 < 0)))
                      (kR false)
                      (bo (f_l_heldIntS r14.2 r15) 0 fun r16 =>
                      br ((decide (r16 < 0)))
                        (kR false)
                        (br ((r16 != r14.1))
                          (kR false)
                          (bo (f_l_toGroup L0) [] fun r17 =>
                          bo (f_i_FindBox r17 p1) ([], [], false) fun r18 =>
                          bo (f_l_eqIntS r18.1 r3.1) false fun r19 =>
                          br ((!r19) == false)
                            (bo (f_l_eqIntS r18.2.1 r3.2.1) false fun r20 =>
                            br ((!r20) == false)
                              (br ((!(r18.2.2 == r3.2.2)))
                                (kR false)
                                (bo (f_l_heldIntS r13.2 1) 0 fun r21 =>
                                br ((decide (r21 < 0)))
                                  (kR false)
                                  (bo (f_l_heldIntS r14.2 r21) 0 fun r22 =>
                                  br ((decide (r22 < 0)))
                                    (kR false)
                                    (br ((r22 != r14.1))
                                      (kR false)
                                      (kR true)))))
                              (kR false))
                            (kR false))))))
                  (kR false))
                (kR false))
              (kR false))))
        (kR false))
      (kR false))
def f_l_FnExactFindBox (L0 : List Sc) (p1 : Int) : Option (Bool) := f_l_FnExactFindBox_k L0 p1 some

def f_s_l2Negate_k0 {R : Type} (g2 : List Sc) (x1 : Int) (z5 : Int) (step6 : Int) (i7 : Int) (kN : Int × Int × Int × Int → Option R) (kA : Int → Option R) : Option R :=
  br ((decide (i7 < (g2.length : Int))))
    (br (okAt g2 i7)
      (br ((atI g2 i7) == 0)
        none
        (br ((atI g2 i7) == 0)
          none
          (br ((atI g2 i7) == 0)
            none
            (kN ((w64 (x1.tdiv (atI g2 i7))), (w64 (z5 + (w64 (((w64 ((atI g2 i7) - (x1.tmod (atI g2 i7)))).tmod (atI g2 i7)) * step6)))), (w64 (step6 * (atI g2 i7))), (w64 (i7 + 1)))))))
      none)
    (kA z5)
def f_s_l2Negate_r0 (g2 : List Sc) : (Int × Int × Int × Int) → Option (Ro (Int × Int × Int × Int) (Int) (Unit)) := fun s => f_s_l2Negate_k0 g2 s.1 s.2.1 s.2.2.1 s.2.2.2 (fun s => some (.again s)) (fun e => some (.one e))
def f_s_l2Negate_k {R : Type} (g0 : List Sc) (x1 : Int) (kR : Int → Option R) : Option R :=
  bl1 (loopL (f_s_l2Negate_r0 g0) (x1, 0, 1, 0)) 0 fun e1 =>
  kR e1
def f_s_l2Negate (g0 : List Sc) (x1 : Int) : Option (Int) := f_s_l2Negate_k g0 x1 some

def f_s_MultipleOf_k0 {R : Type} (x1 : Int) (n2 : Int) (g3 : List Sc) (z7 : Int) (i8 : Int) (kN : Int × Int → Option R) (kA : Int → Option R) : Option R :=
  br ((decide (i8 < n2)))
    (bo (f_s_l2Add g3 z7 x1) 0 fun r4 =>
    kN (r4, (w64 (i8 + 1))))
    (kA z7)
def f_s_MultipleOf_r0 (x1 : Int) (n2 : Int) (g3 : List Sc) : (Int × Int) → Option (Ro (Int × Int) (Int) (Unit)) := fun s => f_s_MultipleOf_k0 x1 n2 g3 s.1 s.2 (fun s => some (.again s)) (fun e => some (.one e))
def f_s_MultipleOf_k {R : Type} (g0 : List Sc) (x1 : Int) (n2 : Int) (kR : Int → Option R) : Option R :=
  bo (f_s_l2Is g0 x1) false fun r1 =>
  br ((!r1) == false)
    (bo (f_s_l1In n2 (-100) 100) false fun r2 =>
    br ((!r2))
      (kR (-1))
      (br ((decide (n2 < 0)))
        (bo (f_s_l2Negate g0 x1) 0 fun r3 =>
        bl1 (loopL (f_s_MultipleOf_r0 r3 (w64 (0 - n2)) g0) (0, 0)) 0 fun e5 =>
        kR e5)
        (bl1 (loopL (f_s_MultipleOf_r0 x1 n2 g0) (0, 0)) 0 fun e6 =>
        kR e6)))
    (kR (-1))
def f_s_MultipleOf (g0 : List Sc) (x1 : Int) (n2 : Int) : Option (Int) := f_s_MultipleOf_k g0 x1 n2 some

def f_s_DilateSet_k0 {R : Type} (n2 : Int) (g3 : List Sc) (out7 : Int) (l8 : List Sc) (i9 : Int) (kN : Int × List Sc × Int → Option R) (kA : Int → Option R) : Option R :=
  br ((decide (i9 < (l8.length : Int))))
    (br (inRange i9 (l8).length)
      (br (kAt l8 i9.toNat)
        (bo (f_s_MultipleOf g3 (atN l8 i9.toNat) n2) 0 fun r4 =>
        br (decide (r4 < 0))
          none
          (kN ((or64 out7 (shl64 1 r4)), l8, (w64 (i9 + 1)))))
        none)
      none)
    (kA out7)
def f_s_DilateSet_r0 (n2 : Int) (g3 : List Sc) : (Int × List Sc × Int) → Option (Ro (Int × List Sc × Int) (Int) (Unit)) := fun s => f_s_DilateSet_k0 n2 g3 s.1 s.2.1 s.2.2 (fun s => some (.again s)) (fun e => some (.one e))
def f_s_DilateSet_k {R : Type} (g0 : List Sc) (a1 : Int) (n2 : Int) (kR : Int → Option R) : Option R :=
  bo (f_s_IsSet g0 a1) false fun r1 =>
  br ((!r1) == false)
    (bo (f_s_l1In n2 (-100) 100) false fun r2 =>
    br ((!r2))
      (kR (-1))
      (bo (f_s_l3List a1) [] fun r3 =>
      bl1 (loopL (f_s_DilateSet_r0 n2 g0) (0, r3, 0)) 0 fun e5 =>
      kR e5))
    (kR (-1))
def f_s_DilateSet (g0 : List Sc) (a1 : Int) (n2 : Int) : Option (Int) := f_s_DilateSet_k g0 a1 n2 some

def f_s_ReplaceFactor_k {R : Type} (g0 : List Sc) (a1 : Int) (b2 : Int) (n3 : Int) (kR : Bool → Option R) : Option R :=
  bo (f_s_DilateSet g0 a1 n3) 0 fun r1 =>
  bo (f_s_IsTiling g0 a1 b2) false fun r2 =>
  br (r2 == true)
    (br ((decide (r1 ≥ 0)) == true)
      (bo (f_s_l3Bits r1) 0 fun r3 =>
      bo (f_s_l3Bits a1) 0 fun r4 =>
      br ((r3 == r4) == true)
        (bo (f_s_IsTiling g0 r1 b2) false fun r5 =>
        kR r5)
        (kR false))
      (kR false))
    (kR false)
def f_s_ReplaceFactor (g0 : List Sc) (a1 : Int) (b2 : Int) (n3 : Int) : Option (Bool) := f_s_ReplaceFactor_k g0 a1 b2 n3 some

def f_i_Group_negate_k0 {R : Type} (t10 : List Sc) (t11 : Int) (x1 : Int) (sum5 : Int) (unit6 : Int) (t12 : Int) (kN : Int × Int × Int × Int → Option R) (kA : Int → Option R) : Option R :=
  br ((decide (t12 < t11)))
    (br (okAt t10 t12)
      (br ((atI t10 t12) == 0)
        none
        (br ((atI t10 t12) == 0)
          none
          (br ((atI t10 t12) == 0)
            none
            (kN ((w64 (x1.tdiv (atI t10 t12))), (w64 (sum5 + (w64 (((w64 ((atI t10 t12) - (x1.tmod (atI t10 t12)))).tmod (atI t10 t12)) * unit6)))), (w64 (unit6 * (atI t10 t12))), (w64 (t12 + 1)))))))
      none)
    (kA sum5)
def f_i_Group_negate_r0 (t10 : List Sc) (t11 : Int) : (Int × Int × Int × Int) → Option (Ro (Int × Int × Int × Int) (Int) (Unit)) := fun s => f_i_Group_negate_k0 t10 t11 s.1 s.2.1 s.2.2.1 s.2.2.2 (fun s => some (.again s)) (fun e => some (.one e))
def f_i_Group_negate_k {R : Type} (g0 : List Sc) (x1 : Int) (kR : Int → Option R) : Option R :=
  bl1 (loopL (f_i_Group_negate_r0 g0 (g0.length : Int)) (x1, 0, 1, 0)) 0 fun e1 =>
  kR e1
def f_i_Group_negate (g0 : List Sc) (x1 : Int) : Option (Int) := f_i_Group_negate_k g0 x1 some

def f_i_Group_times_k0 {R : Type} (x1 : Int) (g3 : List Sc) (t15 : Int) (sum7 : Int) (t16 : Int) (kN : Int × Int → Option R) (kA : Int → Option R) : Option R :=
  br ((decide (t16 < t15)))
    (bo (f_i_Group_add g3 sum7 x1) 0 fun r2 =>
    kN (r2, (w64 (t16 + 1))))
    (kA sum7)
def f_i_Group_times_r0 (x1 : Int) (g3 : List Sc) (t15 : Int) : (Int × Int) → Option (Ro (Int × Int) (Int) (Unit)) := fun s => f_i_Group_times_k0 x1 g3 t15 s.1 s.2 (fun s => some (.again s)) (fun e => some (.one e))
def f_i_Group_times_k {R : Type} (g0 : List Sc) (x1 : Int) (n2 : Int) (kR : Int → Option R) : Option R :=
  br ((decide (n2 < 0)))
    (bo (f_i_Group_negate g0 x1) 0 fun r1 =>
    bl1 (loopL (f_i_Group_times_r0 r1 g0 (w64 (0 - n2))) (0, 0)) 0 fun e3 =>
    kR e3)
    (bl1 (loopL (f_i_Group_times_r0 x1 g0 n2) (0, 0)) 0 fun e4 =>
    kR e4)
def f_i_Group_times (g0 : List Sc) (x1 : Int) (n2 : Int) : Option (Int) := f_i_Group_times_k g0 x1 n2 some

def f_i_DilateSet_k0 {R : Type} (n2 : Int) (g3 : List Sc) (t21 : Int) (out7 : Int) (t20 : List Sc) (t22 : Int) (kN : Int × List Sc × Int → Option R) (kA : Int → Option R) : Option R :=
  br ((decide (t22 < t21)))
    (br (inRange t22 (t20).length)
      (br (kAt t20 t22.toNat)
        (bo (f_i_Group_times g3 (atN t20 t22.toNat) n2) 0 fun r4 =>
        br (decide (r4 < 0))
          none
          (kN ((or64 out7 (shl64 1 r4)), t20, (w64 (t22 + 1)))))
        none)
      none)
    (kA out7)
def f_i_DilateSet_r0 (n2 : Int) (g3 : List Sc) (t21 : Int) : (Int × List Sc × Int) → Option (Ro (Int × List Sc × Int) (Int) (Unit)) := fun s => f_i_DilateSet_k0 n2 g3 t21 s.1 s.2.1 s.2.2 (fun s => some (.again s)) (fun e => some (.one e))
def f_i_DilateSet_k {R : Type} (g0 : List Sc) (a1 : Int) (n2 : Int) (kR : Int → Option R) : Option R :=
  bo (f_i_IsSet g0 a1) false fun r1 =>
  br ((!r1) == false)
    (bo (f_i_within n2 (-100) 100) false fun r2 =>
    br ((!r2))
      (kR (-1))
      (bo (f_i_members a1) [] fun r3 =>
      bl1 (loopL (f_i_DilateSet_r0 n2 g0 (r3.length : Int)) (0, r3, 0)) 0 fun e5 =>
      kR e5))
    (kR (-1))
def f_i_DilateSet (g0 : List Sc) (a1 : Int) (n2 : Int) : Option (Int) := f_i_DilateSet_k g0 a1 n2 some

def f_i_ReplaceFactor_k {R : Type} (g0 : List Sc) (a1 : Int) (b2 : Int) (n3 : Int) (kR : Bool → Option R) : Option R :=
  bo (f_i_DilateSet g0 a1 n3) 0 fun r1 =>
  bo (f_i_IsTiling g0 a1 b2) false fun r2 =>
  br (r2 == true)
    (br ((decide (r1 ≥ 0)) == true)
      (bo (f_i_bits r1) 0 fun r3 =>
      bo (f_i_bits a1) 0 fun r4 =>
      br ((r3 == r4) == true)
        (bo (f_i_IsTiling g0 r1 b2) false fun r5 =>
        kR r5)
        (kR false))
      (kR false))
    (kR false)
def f_i_ReplaceFactor (g0 : List Sc) (a1 : Int) (b2 : Int) (n3 : Int) : Option (Bool) := f_i_ReplaceFactor_k g0 a1 b2 n3 some

def f_l_FnExactReplaceFactor_k {R : Type} (aG0 : List Sc) (aA1 : Int) (aB2 : Int) (aN3 : Int) (kR : Bool → Option R) : Option R :=
  bo (f_l_szGroup aG0 1048576) 0 fun r1 =>
  br ((decide (r1 < 0)))
    (kR true)
    (bo (f_l_toGroup aG0) [] fun r2 =>
    bo (f_s_ReplaceFactor r2 aA1 aB2 aN3) false fun r3 =>
    bo (f_l_toGroup aG0) [] fun r4 =>
    bo (f_i_ReplaceFactor r4 aA1 aB2 aN3) false fun r5 =>
    br ((!(r5 == r3)))
      (kR false)
      (bo (f_l_toGroup aG0) [] fun r6 =>
      bo (f_l_eqGroup r4 r6) false fun r7 =>
      br ((!r7))
        (kR false)
        (kR true)))
def f_l_FnExactReplaceFactor (aG0 : List Sc) (aA1 : Int) (aB2 : Int) (aN3 : Int) : Option (Bool) := f_l_FnExactReplaceFactor_k aG0 aA1 aB2 aN3 some
end
end Go.Proofs.Ytgbjnchipnbohaa
