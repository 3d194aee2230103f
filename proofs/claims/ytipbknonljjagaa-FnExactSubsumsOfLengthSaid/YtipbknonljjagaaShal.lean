/-
  What the functions compute, as plain functions (printed by gen.py).
-/
import Derived.Test.YtipbknonljjagaaEvGen
set_option linter.unusedVariables false
namespace Go.Proofs.Ytipbknonljjagaa
open Go Ev
noncomputable section
def f_l_szIntS_k {R : Type} (a0 : List Sc) (left1 : Int) (kR : Int → Option R) : Option R :=
  br ((decide ((w64 (left1 - (a0.length : Int))) < 0)))
    (kR (-1))
    (kR (w64 (left1 - (a0.length : Int))))
def f_l_szIntS (a0 : List Sc) (left1 : Int) : Option (Int) := f_l_szIntS_k a0 left1 some

def f_l_szGroup_k {R : Type} (a0 : List Sc) (left1 : Int) (kR : Int → Option R) : Option R :=
  bo (f_l_szIntS a0 left1) 0 fun r1 =>
  br ((decide (r1 < 0)))
    (kR (-1))
    (kR r1)
def f_l_szGroup (a0 : List Sc) (left1 : Int) : Option (Int) := f_l_szGroup_k a0 left1 some

def f_l_toIntS_k0 {R : Type} (a0 : List Sc) (out3 : List Sc) (i4 : Int) (kN : List Sc × Int → Option R) (kA : List Sc → Option R) : Option R :=
  br ((decide (i4 < (a0.length : Int))))
    (br (okAt a0 i4)
      (br (inRange i4 (out3).length)
        (kN ((out3.set i4.toNat (Sc.n .i64 (atI a0 i4))), (w64 (i4 + 1))))
        none)
      none)
    (kA out3)
def f_l_toIntS_r0 (a0 : List Sc) : (List Sc × Int) → Option (Ro (List Sc × Int) (List Sc) (Unit)) := fun s => f_l_toIntS_k0 a0 s.1 s.2 (fun s => some (.again s)) (fun e => some (.one e))
def f_l_toIntS_k {R : Type} (a0 : List Sc) (kR : List Sc → Option R) : Option R :=
  br (decide (0 ≤ (a0.length : Int)) && (decide ((a0.length : Int) ≤ (a0.length : Int)) && decide ((a0.length : Int) ≤ (lim : Int))))
    (bl1 (loopL (f_l_toIntS_r0 a0) ((List.replicate (a0.length : Int).toNat (Sc.n .i64 0)), 0)) [] fun e1 =>
    kR e1)
    none
def f_l_toIntS (a0 : List Sc) : Option (List Sc) := f_l_toIntS_k a0 some

def f_s_l1In_k {R : Type} (x0 : Int) (low1 : Int) (high2 : Int) (kR : Bool → Option R) : Option R :=
  br ((decide (x0 ≥ low1)) == true)
    (kR (decide (x0 ≤ high2)))
    (kR false)
def f_s_l1In (x0 : Int) (low1 : Int) (high2 : Int) : Option (Bool) := f_s_l1In_k x0 low1 high2 some

def f_s_IsGroup_k0 {R : Type} (g1 : List Sc) (n3 : Int) (i4 : Int) (kN : Int × Int → Option R) (kA : Int → Option R) (kB : Unit → Option R) : Option R :=
  br ((decide (i4 < (g1.length : Int))))
    (br (okAt g1 i4)
      (bo (f_s_l1In (atI g1 i4) 2 24) false fun r1 =>
      br ((!r1) == false)
        (br ((decide (i4 > 2)))
          (kB ())
          (br (okAt g1 i4)
            (kN ((w64 (n3 * (atI g1 i4))), (w64 (i4 + 1))))
            none))
        (kB ()))
      none)
    (kA n3)
def f_s_IsGroup_r0 (g1 : List Sc) : (Int × Int) → Option (Ro (Int × Int) (Int) (Unit)) := fun s => f_s_IsGroup_k0 g1 s.1 s.2 (fun s => some (.again s)) (fun e => some (.one e)) (fun e => some (.two e))
def f_s_IsGroup_k {R : Type} (g0 : List Sc) (kR : Bool → Option R) : Option R :=
  bl (loopL (f_s_IsGroup_r0 g0) (1, 0)) 0 ()
    (fun e2 =>
      kR (decide (e2 ≤ 24)))
    (fun e2 =>
      kR false)
def f_s_IsGroup (g0 : List Sc) : Option (Bool) := f_s_IsGroup_k g0 some

def f_s_l2Order_k0 {R : Type} (g1 : List Sc) (n3 : Int) (i4 : Int) (kN : Int × Int → Option R) (kA : Int → Option R) : Option R :=
  br ((decide (i4 < (g1.length : Int))))
    (br (okAt g1 i4)
      (kN ((w64 (n3 * (atI g1 i4))), (w64 (i4 + 1))))
      none)
    (kA n3)
def f_s_l2Order_r0 (g1 : List Sc) : (Int × Int) → Option (Ro (Int × Int) (Int) (Unit)) := fun s => f_s_l2Order_k0 g1 s.1 s.2 (fun s => some (.again s)) (fun e => some (.one e))
def f_s_l2Order_k {R : Type} (g0 : List Sc) (kR : Int → Option R) : Option R :=
  bl1 (loopL (f_s_l2Order_r0 g0) (1, 0)) 0 fun e1 =>
  kR e1
def f_s_l2Order (g0 : List Sc) : Option (Int) := f_s_l2Order_k g0 some

def f_s_OrderOf_k {R : Type} (g0 : List Sc) (kR : Int → Option R) : Option R :=
  bo (f_s_IsGroup g0) false fun r1 =>
  br ((!r1))
    (kR 0)
    (bo (f_s_l2Order g0) 0 fun r2 =>
    kR r2)
def f_s_OrderOf (g0 : List Sc) : Option (Int) := f_s_OrderOf_k g0 some

def f_s_l2Is_k {R : Type} (g0 : List Sc) (x1 : Int) (kR : Bool → Option R) : Option R :=
  br ((decide (x1 ≥ 0)) == true)
    (bo (f_s_OrderOf g0) 0 fun r1 =>
    kR (decide (x1 < r1)))
    (kR false)
def f_s_l2Is (g0 : List Sc) (x1 : Int) : Option (Bool) := f_s_l2Is_k g0 x1 some

def f_s_IsSequence_k0 {R : Type} (l1 : List Sc) (g2 : List Sc) (i5 : Int) (kN : Int → Option R) (kA : Unit → Option R) (kB : Unit → Option R) : Option R :=
  br ((decide (i5 < (l1.length : Int))))
    (br (okAt l1 i5)
      (bo (f_s_l2Is g2 (atI l1 i5)) false fun r1 =>
      br ((!r1) == false)
        (br ((decide (i5 > 0)) == true)
          (br (okAt l1 i5)
            (br (okAt l1 (w64 (i5 - 1)))
              (br ((decide ((atI l1 i5) < (atI l1 (w64 (i5 - 1))))))
                (kB ())
                (kN (w64 (i5 + 1))))
              none)
            none)
          (kN (w64 (i5 + 1))))
        (kB ()))
      none)
    (kA ())
def f_s_IsSequence_r0 (l1 : List Sc) (g2 : List Sc) : Int → Option (Ro (Int) (Unit) (Unit)) := fun s => f_s_IsSequence_k0 l1 g2 s (fun s => some (.again s)) (fun e => some (.one e)) (fun e => some (.two e))
def f_s_IsSequence_k {R : Type} (g0 : List Sc) (l1 : List Sc) (kR : Bool → Option R) : Option R :=
  bl (loopL (f_s_IsSequence_r0 l1 g0) 0) () ()
    (fun e2 =>
      bo (f_s_IsGroup g0) false fun r3 =>
      br (r3 == true)
        (kR (decide ((l1.length : Int) ≤ 12)))
        (kR false))
    (fun e2 =>
      kR false)
def f_s_IsSequence (g0 : List Sc) (l1 : List Sc) : Option (Bool) := f_s_IsSequence_k g0 l1 some

def f_s_l2Add_k0 {R : Type} (g3 : List Sc) (x1 : Int) (y2 : Int) (z7 : Int) (step8 : Int) (i9 : Int) (kN : Int × Int × Int × Int × Int → Option R) (kA : Int → Option R) : Option R :=
  br ((decide (i9 < (g3.length : Int))))
    (br (okAt g3 i9)
      (br ((atI g3 i9) == 0)
        none
        (br ((atI g3 i9) == 0)
          none
          (br ((atI g3 i9) == 0)
            none
            (br ((atI g3 i9) == 0)
              none
              (br ((atI g3 i9) == 0)
                none
                (kN ((w64 (x1.tdiv (atI g3 i9))), (w64 (y2.tdiv (atI g3 i9))), (w64 (z7 + (w64 (((w64 ((x1.tmod (atI g3 i9)) + (y2.tmod (atI g3 i9)))).tmod (atI g3 i9)) * step8)))), (w64 (step8 * (atI g3 i9))), (w64 (i9 + 1)))))))))
      none)
    (kA z7)
def f_s_l2Add_r0 (g3 : List Sc) : (Int × Int × Int × Int × Int) → Option (Ro (Int × Int × Int × Int × Int) (Int) (Unit)) := fun s => f_s_l2Add_k0 g3 s.1 s.2.1 s.2.2.1 s.2.2.2.1 s.2.2.2.2 (fun s => some (.again s)) (fun e => some (.one e))
def f_s_l2Add_k {R : Type} (g0 : List Sc) (x1 : Int) (y2 : Int) (kR : Int → Option R) : Option R :=
  bl1 (loopL (f_s_l2Add_r0 g0) (x1, y2, 0, 1, 0)) 0 fun e1 =>
  kR e1
def f_s_l2Add (g0 : List Sc) (x1 : Int) (y2 : Int) : Option (Int) := f_s_l2Add_k g0 x1 y2 some

def f_s_l16Sum_k0 {R : Type} (l1 : List Sc) (g2 : List Sc) (z5 : Int) (i6 : Int) (kN : Int × Int → Option R) (kA : Int → Option R) : Option R :=
  br ((decide (i6 < (l1.length : Int))))
    (br (okAt l1 i6)
      (bo (f_s_l2Add g2 z5 (atI l1 i6)) 0 fun r1 =>
      kN (r1, (w64 (i6 + 1))))
      none)
    (kA z5)
def f_s_l16Sum_r0 (l1 : List Sc) (g2 : List Sc) : (Int × Int) → Option (Ro (Int × Int) (Int) (Unit)) := fun s => f_s_l16Sum_k0 l1 g2 s.1 s.2 (fun s => some (.again s)) (fun e => some (.one e))
def f_s_l16Sum_k {R : Type} (g0 : List Sc) (l1 : List Sc) (kR : Int → Option R) : Option R :=
  bl1 (loopL (f_s_l16Sum_r0 l1 g0) (0, 0)) 0 fun e2 =>
  kR e2
def f_s_l16Sum (g0 : List Sc) (l1 : List Sc) : Option (Int) := f_s_l16Sum_k g0 l1 some

def f_s_IsZeroSum_k {R : Type} (g0 : List Sc) (l1 : List Sc) (kR : Bool → Option R) : Option R :=
  bo (f_s_IsSequence g0 l1) false fun r1 =>
  br (r1 == true)
    (bo (f_s_l16Sum g0 l1) 0 fun r2 =>
    kR (r2 == 0))
    (kR false)
def f_s_IsZeroSum (g0 : List Sc) (l1 : List Sc) : Option (Bool) := f_s_IsZeroSum_k g0 l1 some

def f_i_within_k {R : Type} (x0 : Int) (lo1 : Int) (hi2 : Int) (kR : Bool → Option R) : Option R :=
  br ((decide (x0 ≥ lo1)) == true)
    (kR (decide (x0 ≤ hi2)))
    (kR false)
def f_i_within (x0 : Int) (lo1 : Int) (hi2 : Int) : Option (Bool) := f_i_within_k x0 lo1 hi2 some

def f_i_IsGroup_k0 {R : Type} (t11 : List Sc) (t12 : Int) (n3 : Int) (t13 : Int) (kN : Int × Int → Option R) (kA : Int → Option R) (kB : Unit → Option R) : Option R :=
  br ((decide (t13 < t12)))
    (br (okAt t11 t13)
      (bo (f_i_within (atI t11 t13) 2 24) false fun r1 =>
      br ((!r1))
        (kB ())
        (kN ((w64 (n3 * (atI t11 t13))), (w64 (t13 + 1)))))
      none)
    (kA n3)
def f_i_IsGroup_r0 (t11 : List Sc) (t12 : Int) : (Int × Int) → Option (Ro (Int × Int) (Int) (Unit)) := fun s => f_i_IsGroup_k0 t11 t12 s.1 s.2 (fun s => some (.again s)) (fun e => some (.one e)) (fun e => some (.two e))
def f_i_IsGroup_k {R : Type} (g0 : List Sc) (kR : Bool → Option R) : Option R :=
  br ((decide ((g0.length : Int) > 3)))
    (kR false)
    (bl (loopL (f_i_IsGroup_r0 g0 (g0.length : Int)) (1, 0)) 0 ()
      (fun e2 =>
        kR (decide (e2 ≤ 24)))
      (fun e2 =>
        kR false))
def f_i_IsGroup (g0 : List Sc) : Option (Bool) := f_i_IsGroup_k g0 some

def f_i_OrderOf_k0 {R : Type} (t10 : List Sc) (t11 : Int) (n3 : Int) (t12 : Int) (kN : Int × Int → Option R) (kA : Int → Option R) : Option R :=
  br ((decide (t12 < t11)))
    (br (okAt t10 t12)
      (kN ((w64 (n3 * (atI t10 t12))), (w64 (t12 + 1))))
      none)
    (kA n3)
def f_i_OrderOf_r0 (t10 : List Sc) (t11 : Int) : (Int × Int) → Option (Ro (Int × Int) (Int) (Unit)) := fun s => f_i_OrderOf_k0 t10 t11 s.1 s.2 (fun s => some (.again s)) (fun e => some (.one e))
def f_i_OrderOf_k {R : Type} (g0 : List Sc) (kR : Int → Option R) : Option R :=
  bo (f_i_IsGroup g0) false fun r1 =>
  br ((!r1))
    (kR 0)
    (bl1 (loopL (f_i_OrderOf_r0 g0 (g0.length : Int)) (1, 0)) 0 fun e2 =>
    kR e2)
def f_i_OrderOf (g0 : List Sc) : Option (Int) := f_i_OrderOf_k g0 some

def f_i_Group_has_k {R : Type} (g0 : List Sc) (x1 : Int) (kR : Bool → Option R) : Option R :=
  bo (f_i_OrderOf g0) 0 fun r1 =>
  bo (f_i_within x1 0 (w64 (r1 - 1))) false fun r2 =>
  kR r2
def f_i_Group_has (g0 : List Sc) (x1 : Int) : Option (Bool) := f_i_Group_has_k g0 x1 some

def f_cmp_isNaN_k {R : Type} (x0 : Int) (kR : Bool → Option R) : Option R :=
  kR (x0 != x0)
def f_cmp_isNaN (x0 : Int) : Option (Bool) := f_cmp_isNaN_k x0 some

def f_cmp_Less_k {R : Type} (x0 : Int) (y1 : Int) (kR : Bool → Option R) : Option R :=
  bo (f_cmp_isNaN x0) false fun r1 =>
  br (r1 == true)
    (bo (f_cmp_isNaN y1) false fun r2 =>
    br ((!r2) == false)
      (kR (decide (x0 < y1)))
      (kR true))
    (kR (decide (x0 < y1)))
def f_cmp_Less (x0 : Int) (y1 : Int) : Option (Bool) := f_cmp_Less_k x0 y1 some

def f_slices_IsSorted_k0 {R : Type} (x0 : List Sc) (i3 : Int) (kN : Int → Option R) (kA : Unit → Option R) (kB : Unit → Option R) : Option R :=
  br ((decide (i3 > 0)))
    (br (okAt x0 i3)
      (br (okAt x0 (w64 (i3 - 1)))
        (bo (f_cmp_Less (atI x0 i3) (atI x0 (w64 (i3 - 1)))) false fun r1 =>
        br (r1)
          (kB ())
          (kN (w64 (i3 - 1))))
        none)
      none)
    (kA ())
def f_slices_IsSorted_r0 (x0 : List Sc) : Int → Option (Ro (Int) (Unit) (Unit)) := fun s => f_slices_IsSorted_k0 x0 s (fun s => some (.again s)) (fun e => some (.one e)) (fun e => some (.two e))
def f_slices_IsSorted_k {R : Type} (x0 : List Sc) (kR : Bool → Option R) : Option R :=
  bl (loopL (f_slices_IsSorted_r0 x0) (w64 ((x0.length : Int) - 1))) () ()
    (fun e2 =>
      kR true)
    (fun e2 =>
      kR false)
def f_slices_IsSorted (x0 : List Sc) : Option (Bool) := f_slices_IsSorted_k x0 some

def f_i_IsSequence_k0 {R : Type} (l1 : List Sc) (g2 : List Sc) (t7 : List Sc) (t8 : Int) (t9 : Int) (kN : Int → Option R) (kA : Unit → Option R) (kB : Unit → Option R) : Option R :=
  br ((decide (t9 < t8)))
    (br (okAt t7 t9)
      (bo (f_i_Group_has g2 (atI t7 t9)) false fun r1 =>
      br ((!r1))
        (kB ())
        (kN (w64 (t9 + 1))))
      none)
    (kA ())
def f_i_IsSequence_r0 (l1 : List Sc) (g2 : List Sc) (t7 : List Sc) (t8 : Int) : Int → Option (Ro (Int) (Unit) (Unit)) := fun s => f_i_IsSequence_k0 l1 g2 t7 t8 s (fun s => some (.again s)) (fun e => some (.one e)) (fun e => some (.two e))
def f_i_IsSequence_k {R : Type} (g0 : List Sc) (l1 : List Sc) (kR : Bool → Option R) : Option R :=
  bl (loopL (f_i_IsSequence_r0 l1 g0 l1 (l1.length : Int)) 0) () ()
    (fun e2 =>
      bo (f_i_IsGroup g0) false fun r3 =>
      br (r3 == true)
        (br ((decide ((l1.length : Int) ≤ 12)) == true)
          (bo (f_slices_IsSorted l1) false fun r4 =>
          kR r4)
          (kR false))
        (kR false))
    (fun e2 =>
      kR false)
def f_i_IsSequence (g0 : List Sc) (l1 : List Sc) : Option (Bool) := f_i_IsSequence_k g0 l1 some

def f_i_Group_add_k0 {R : Type} (t12 : List Sc) (t13 : Int) (x1 : Int) (y2 : Int) (sum7 : Int) (unit8 : Int) (t14 : Int) (kN : Int × Int × Int × Int × Int → Option R) (kA : Int → Option R) : Option R :=
  br ((decide (t14 < t13)))
    (br (okAt t12 t14)
      (br ((atI t12 t14) == 0)
        none
        (br ((atI t12 t14) == 0)
          none
          (br ((atI t12 t14) == 0)
            none
            (br ((atI t12 t14) == 0)
              none
              (br ((atI t12 t14) == 0)
                none
                (kN ((w64 (x1.tdiv (atI t12 t14))), (w64 (y2.tdiv (atI t12 t14))), (w64 (sum7 + (w64 (((w64 ((x1.tmod (atI t12 t14)) + (y2.tmod (atI t12 t14)))).tmod (atI t12 t14)) * unit8)))), (w64 (unit8 * (atI t12 t14))), (w64 (t14 + 1)))))))))
      none)
    (kA sum7)
def f_i_Group_add_r0 (t12 : List Sc) (t13 : Int) : (Int × Int × Int × Int × Int) → Option (Ro (Int × Int × Int × Int × Int) (Int) (Unit)) := fun s => f_i_Group_add_k0 t12 t13 s.1 s.2.1 s.2.2.1 s.2.2.2.1 s.2.2.2.2 (fun s => some (.again s)) (fun e => some (.one e))
def f_i_Group_add_k {R : Type} (g0 : List Sc) (x1 : Int) (y2 : Int) (kR : Int → Option R) : Option R :=
  bl1 (loopL (f_i_Group_add_r0 g0 (g0.length : Int)) (x1, y2, 0, 1, 0)) 0 fun e1 =>
  kR e1
def f_i_Group_add (g0 : List Sc) (x1 : Int) (y2 : Int) : Option (Int) := f_i_Group_add_k g0 x1 y2 some

def f_i_Group_total_k0 {R : Type} (g2 : List Sc) (t8 : List Sc) (t9 : Int) (s5 : Int) (t10 : Int) (kN : Int × Int → Option R) (kA : Int → Option R) : Option R :=
  br ((decide (t10 < t9)))
    (br (okAt t8 t10)
      (bo (f_i_Group_add g2 s5 (atI t8 t10)) 0 fun r1 =>
      kN (r1, (w64 (t10 + 1))))
      none)
    (kA s5)
def f_i_Group_total_r0 (g2 : List Sc) (t8 : List Sc) (t9 : Int) : (Int × Int) → Option (Ro (Int × Int) (Int) (Unit)) := fun s => f_i_Group_total_k0 g2 t8 t9 s.1 s.2 (fun s => some (.again s)) (fun e => some (.one e))
def f_i_Group_total_k {R : Type} (g0 : List Sc) (l1 : List Sc) (kR : Int → Option R) : Option R :=
  bl1 (loopL (f_i_Group_total_r0 g0 l1 (l1.length : Int)) (0, 0)) 0 fun e2 =>
  kR e2
def f_i_Group_total (g0 : List Sc) (l1 : List Sc) : Option (Int) := f_i_Group_total_k g0 l1 some

def f_i_IsZeroSum_k {R : Type} (g0 : List Sc) (l1 : List Sc) (kR : Bool → Option R) : Option R :=
  bo (f_i_IsSequence g0 l1) false fun r1 =>
  br (r1 == true)
    (bo (f_i_Group_total g0 l1) 0 fun r2 =>
    kR (r2 == 0))
    (kR false)
def f_i_IsZeroSum (g0 : List Sc) (l1 : List Sc) : Option (Bool) := f_i_IsZeroSum_k g0 l1 some

def f_l_eqIntS_k0 {R : Type} (a0 : List Sc) (b1 : List Sc) (i5 : Int) (kN : Int → Option R) (kA : Unit → Option R) (kB : Unit → Option R) : Option R :=
  br ((decide (i5 < (a0.length : Int))))
    (br (okAt a0 i5)
      (br (okAt b1 i5)
        (br (((atI a0 i5) != (atI b1 i5)))
          (kB ())
          (kN (w64 (i5 + 1))))
        none)
      none)
    (kA ())
def f_l_eqIntS_r0 (a0 : List Sc) (b1 : List Sc) : Int → Option (Ro (Int) (Unit) (Unit)) := fun s => f_l_eqIntS_k0 a0 b1 s (fun s => some (.again s)) (fun e => some (.one e)) (fun e => some (.two e))
def f_l_eqIntS_k {R : Type} (a0 : List Sc) (b1 : List Sc) (kR : Bool → Option R) : Option R :=
  br (((a0.length : Int) != (b1.length : Int)))
    (kR false)
    (bl (loopL (f_l_eqIntS_r0 a0 b1) 0) () ()
      (fun e1 =>
        kR true)
      (fun e1 =>
        kR false))
def f_l_eqIntS (a0 : List Sc) (b1 : List Sc) : Option (Bool) := f_l_eqIntS_k a0 b1 some

def f_l_eqGroup_k {R : Type} (a0 : List Sc) (b1 : List Sc) (kR : Bool → Option R) : Option R :=
  bo (f_l_eqIntS a0 b1) false fun r1 =>
  br ((!r1))
    (kR false)
    (kR true)
def f_l_eqGroup (a0 : List Sc) (b1 : List Sc) : Option (Bool) := f_l_eqGroup_k a0 b1 some

def f_l_FnExactIsZeroSum_k {R : Type} (aG0 : List Sc) (aL1 : List Sc) (kR : Bool → Option R) : Option R :=
  br ((decide ((aL1.length : Int) > 1048576)))
    (kR true)
    (bo (f_l_szGroup aG0 1048576) 0 fun r1 =>
    br ((decide (r1 < 0)))
      (kR true)
      (br (grOk aG0)
        (bo (f_l_toIntS aL1) [] fun r2 =>
        bo (f_s_IsZeroSum aG0 r2) false fun r3 =>
        br (grOk aG0)
          (bo (f_l_toIntS aL1) [] fun r4 =>
          bo (f_i_IsZeroSum aG0 r4) false fun r5 =>
          br ((!(r5 == r3)))
            (kR false)
            (br (grOk aG0)
              (bo (f_l_eqGroup aG0 aG0) false fun r6 =>
              br ((!r6))
                (kR false)
                (bo (f_l_toIntS aL1) [] fun r7 =>
                bo (f_l_eqIntS r4 r7) false fun r8 =>
                br ((!r8))
                  (kR false)
                  (kR true)))
              none))
          none)
        none))
def f_l_FnExactIsZeroSum (aG0 : List Sc) (aL1 : List Sc) : Option (Bool) := f_l_FnExactIsZeroSum_k aG0 aL1 some

def f_s_IsSet_k {R : Type} (g0 : List Sc) (a1 : Int) (kR : Bool → Option R) : Option R :=
  bo (f_s_IsGroup g0) false fun r1 =>
  br (r1 == true)
    (bo (f_s_l2Order g0) 0 fun r2 =>
    br (decide (r2 < 0))
      none
      (bo (f_s_l1In a1 0 (w64 ((shl64 1 r2) - 1))) false fun r3 =>
      kR r3))
    (kR false)
def f_s_IsSet (g0 : List Sc) (a1 : Int) : Option (Bool) := f_s_IsSet_k g0 a1 some

def f_s_l3List_k0 {R : Type} (out3 : List Sc) (i4 : Int) (x5 : Int) (kN : List Sc × Int × Int → Option R) (kA : List Sc → Option R) : Option R :=
  br ((decide (x5 > 0)))
    (br (((and64 x5 1) == 1))
      (br (decide (out3.length + [(Sc.n .i64 i4)].length ≤ lim))
        (kN ((out3 ++ [(Sc.n .i64 i4)]), (w64 (i4 + 1)), (shr64 x5 1)))
        none)
      (kN (out3, (w64 (i4 + 1)), (shr64 x5 1))))
    (kA out3)
def f_s_l3List_r0 : (List Sc × Int × Int) → Option (Ro (List Sc × Int × Int) (List Sc) (Unit)) := fun s => f_s_l3List_k0 s.1 s.2.1 s.2.2 (fun s => some (.again s)) (fun e => some (.one e))
def f_s_l3List_k {R : Type} (a0 : Int) (kR : List Sc → Option R) : Option R :=
  bl1 (loopL (f_s_l3List_r0) ([], 0, a0)) [] fun e1 =>
  kR e1
def f_s_l3List (a0 : Int) : Option (List Sc) := f_s_l3List_k a0 some

def f_s_l3Shift_k0 {R : Type} (x2 : Int) (g3 : List Sc) (out7 : Int) (l8 : List Sc) (i9 : Int) (kN : Int × List Sc × Int → Option R) (kA : Int → Option R) : Option R :=
  br ((decide (i9 < (l8.length : Int))))
    (br (inRange i9 (l8).length)
      (br (kAt l8 i9.toNat)
        (bo (f_s_l2Add g3 (atN l8 i9.toNat) x2) 0 fun r2 =>
        br (decide (r2 < 0))
          none
          (kN ((or64 out7 (shl64 1 r2)), l8, (w64 (i9 + 1)))))
        none)
      none)
    (kA out7)
def f_s_l3Shift_r0 (x2 : Int) (g3 : List Sc) : (Int × List Sc × Int) → Option (Ro (Int × List Sc × Int) (Int) (Unit)) := fun s => f_s_l3Shift_k0 x2 g3 s.1 s.2.1 s.2.2 (fun s => some (.again s)) (fun e => some (.one e))
def f_s_l3Shift_k {R : Type} (g0 : List Sc) (a1 : Int) (x2 : Int) (kR : Int → Option R) : Option R :=
  bo (f_s_l3List a1) [] fun r1 =>
  bl1 (loopL (f_s_l3Shift_r0 x2 g0) (0, r1, 0)) 0 fun e3 =>
  kR e3
def f_s_l3Shift (g0 : List Sc) (a1 : Int) (x2 : Int) : Option (Int) := f_s_l3Shift_k g0 a1 x2 some

def f_s_l4Sum_k0 {R : Type} (a1 : Int) (g3 : List Sc) (out7 : Int) (l8 : List Sc) (i9 : Int) (kN : Int × List Sc × Int → Option R) (kA : Int → Option R) : Option R :=
  br ((decide (i9 < (l8.length : Int))))
    (br (inRange i9 (l8).length)
      (br (kAt l8 i9.toNat)
        (bo (f_s_l3Shift g3 a1 (atN l8 i9.toNat)) 0 fun r2 =>
        kN ((or64 out7 r2), l8, (w64 (i9 + 1))))
        none)
      none)
    (kA out7)
def f_s_l4Sum_r0 (a1 : Int) (g3 : List Sc) : (Int × List Sc × Int) → Option (Ro (Int × List Sc × Int) (Int) (Unit)) := fun s => f_s_l4Sum_k0 a1 g3 s.1 s.2.1 s.2.2 (fun s => some (.again s)) (fun e => some (.one e))
def f_s_l4Sum_k {R : Type} (g0 : List Sc) (a1 : Int) (b2 : Int) (kR : Int → Option R) : Option R :=
  bo (f_s_l3List b2) [] fun r1 =>
  bl1 (loopL (f_s_l4Sum_r0 a1 g0) (0, r1, 0)) 0 fun e3 =>
  kR e3
def f_s_l4Sum (g0 : List Sc) (a1 : Int) (b2 : Int) : Option (Int) := f_s_l4Sum_k g0 a1 b2 some

def f_s_l21Free_k {R : Type} (g0 : List Sc) (a1 : Int) (kR : Bool → Option R) : Option R :=
  bo (f_s_l4Sum g0 a1 a1) 0 fun r1 =>
  kR ((and64 r1 a1) == 0)
def f_s_l21Free (g0 : List Sc) (a1 : Int) : Option (Bool) := f_s_l21Free_k g0 a1 some

def f_s_IsSumFree_k {R : Type} (g0 : List Sc) (a1 : Int) (kR : Bool → Option R) : Option R :=
  bo (f_s_IsSet g0 a1) false fun r1 =>
  br (r1 == true)
    (bo (f_s_l21Free g0 a1) false fun r2 =>
    kR r2)
    (kR false)
def f_s_IsSumFree (g0 : List Sc) (a1 : Int) : Option (Bool) := f_s_IsSumFree_k g0 a1 some

def f_i_IsSet_k {R : Type} (g0 : List Sc) (a1 : Int) (kR : Bool → Option R) : Option R :=
  bo (f_i_IsGroup g0) false fun r1 =>
  br (r1 == true)
    (br ((decide (a1 ≥ 0)) == true)
      (bo (f_i_OrderOf g0) 0 fun r2 =>
      br (decide (r2 < 0))
        none
        (kR (decide (a1 < (shl64 1 r2)))))
      (kR false))
    (kR false)
def f_i_IsSet (g0 : List Sc) (a1 : Int) : Option (Bool) := f_i_IsSet_k g0 a1 some

def f_i_members_k0 {R : Type} (a0 : Int) (out3 : List Sc) (x4 : Int) (kN : List Sc × Int → Option R) (kA : List Sc → Option R) : Option R :=
  br (decide (x4 < 0))
    none
    (br (((shr64 a0 x4) != 0))
      (br (decide (x4 < 0))
        none
        (br (((and64 (shr64 a0 x4) 1) == 1))
          (br (decide (out3.length + [(Sc.n .i64 x4)].length ≤ lim))
            (kN ((out3 ++ [(Sc.n .i64 x4)]), (w64 (x4 + 1))))
            none)
          (kN (out3, (w64 (x4 + 1))))))
      (kA out3))
def f_i_members_r0 (a0 : Int) : (List Sc × Int) → Option (Ro (List Sc × Int) (List Sc) (Unit)) := fun s => f_i_members_k0 a0 s.1 s.2 (fun s => some (.again s)) (fun e => some (.one e))
def f_i_members_k {R : Type} (a0 : Int) (kR : List Sc → Option R) : Option R :=
  bl1 (loopL (f_i_members_r0 a0) ([], 0)) [] fun e1 =>
  kR e1
def f_i_members (a0 : Int) : Option (List Sc) := f_i_members_k a0 some

def f_i_Group_shift_k0 {R : Type} (a1 : Int) (x2 : Int) (g3 : List Sc) (out7 : Int) (y8 : Int) (kN : Int × Int → Option R) (kA : Int → Option R) : Option R :=
  br (decide (y8 < 0))
    none
    (br (((shr64 a1 y8) != 0))
      (br (decide (y8 < 0))
        none
        (br (((and64 (shr64 a1 y8) 1) == 1))
          (bo (f_i_Group_add g3 x2 y8) 0 fun r1 =>
          br (decide (r1 < 0))
            none
            (kN ((or64 out7 (shl64 1 r1)), (w64 (y8 + 1)))))
          (kN (out7, (w64 (y8 + 1))))))
      (kA out7))
def f_i_Group_shift_r0 (a1 : Int) (x2 : Int) (g3 : List Sc) : (Int × Int) → Option (Ro (Int × Int) (Int) (Unit)) := fun s => f_i_Group_shift_k0 a1 x2 g3 s.1 s.2 (fun s => some (.again s)) (fun e => some (.one e))
def f_i_Group_shift_k {R : Type} (g0 : List Sc) (a1 : Int) (x2 : Int) (kR : Int → Option R) : Option R :=
  bl1 (loopL (f_i_Group_shift_r0 a1 x2 g0) (0, 0)) 0 fun e2 =>
  kR e2
def f_i_Group_shift (g0 : List Sc) (a1 : Int) (x2 : Int) : Option (Int) := f_i_Group_shift_k g0 a1 x2 some

def f_i_Group_sum_k0 {R : Type} (b2 : Int) (g3 : List Sc) (t12 : Int) (out7 : Int) (t11 : List Sc) (t13 : Int) (kN : Int × List Sc × Int → Option R) (kA : Int → Option R) : Option R :=
  br ((decide (t13 < t12)))
    (br (inRange t13 (t11).length)
      (br (kAt t11 t13.toNat)
        (bo (f_i_Group_shift g3 b2 (atN t11 t13.toNat)) 0 fun r2 =>
        kN ((or64 out7 r2), t11, (w64 (t13 + 1))))
        none)
      none)
    (kA out7)
def f_i_Group_sum_r0 (b2 : Int) (g3 : List Sc) (t12 : Int) : (Int × List Sc × Int) → Option (Ro (Int × List Sc × Int) (Int) (Unit)) := fun s => f_i_Group_sum_k0 b2 g3 t12 s.1 s.2.1 s.2.2 (fun s => some (.again s)) (fun e => some (.one e))
def f_i_Group_sum_k {R : Type} (g0 : List Sc) (a1 : Int) (b2 : Int) (kR : Int → Option R) : Option R :=
  bo (f_i_members a1) [] fun r1 =>
  bl1 (loopL (f_i_Group_sum_r0 b2 g0 (r1.length : Int)) (0, r1, 0)) 0 fun e3 =>
  kR e3
def f_i_Group_sum (g0 : List Sc) (a1 : Int) (b2 : Int) : Option (Int) := f_i_Group_sum_k g0 a1 b2 some

def f_i_IsSumFree_k {R : Type} (g0 : List Sc) (a1 : Int) (kR : Bool → Option R) : Option R :=
  bo (f_i_IsSet g0 a1) false fun r1 =>
  br (r1 == true)
    (bo (f_i_Group_sum g0 a1 a1) 0 fun r2 =>
    kR ((and64 r2 a1) == 0))
    (kR false)
def f_i_IsSumFree (g0 : List Sc) (a1 : Int) : Option (Bool) := f_i_IsSumFree_k g0 a1 some

def f_l_FnExactIsSumFree_k {R : Type} (aG0 : List Sc) (aA1 : Int) (kR : Bool → Option R) : Option R :=
  bo (f_l_szGroup aG0 1048576) 0 fun r1 =>
  br ((decide (r1 < 0)))
    (kR true)
    (br (grOk aG0)
      (bo (f_s_IsSumFree aG0 aA1) false fun r2 =>
      br (grOk aG0)
        (bo (f_i_IsSumFree aG0 aA1) false fun r3 =>
        br ((!(r3 == r2)))
          (kR false)
          (br (grOk aG0)
            (bo (f_l_eqGroup aG0 aG0) false fun r4 =>
            br ((!r4))
              (kR false)
              (kR true))
            none))
        none)
      none)
def f_l_FnExactIsSumFree (aG0 : List Sc) (aA1 : Int) : Option (Bool) := f_l_FnExactIsSumFree_k aG0 aA1 some

def f_s_SumOfSequence_k {R : Type} (g0 : List Sc) (l1 : List Sc) (kR : Int → Option R) : Option R :=
  bo (f_s_IsSequence g0 l1) false fun r1 =>
  br ((!r1))
    (kR (-1))
    (bo (f_s_l16Sum g0 l1) 0 fun r2 =>
    kR r2)
def f_s_SumOfSequence (g0 : List Sc) (l1 : List Sc) : Option (Int) := f_s_SumOfSequence_k g0 l1 some

def f_i_SumOfSequence_k {R : Type} (g0 : List Sc) (l1 : List Sc) (kR : Int → Option R) : Option R :=
  bo (f_i_IsSequence g0 l1) false fun r1 =>
  br ((!r1))
    (kR (-1))
    (bo (f_i_Group_total g0 l1) 0 fun r2 =>
    kR r2)
def f_i_SumOfSequence (g0 : List Sc) (l1 : List Sc) : Option (Int) := f_i_SumOfSequence_k g0 l1 some

def f_l_FnExactSumOfSequence_k {R : Type} (aG0 : List Sc) (aL1 : List Sc) (kR : Bool → Option R) : Option R :=
  br ((decide ((aL1.length : Int) > 1048576)))
    (kR true)
    (bo (f_l_szGroup aG0 1048576) 0 fun r1 =>
    br ((decide (r1 < 0)))
      (kR true)
      (br (grOk aG0)
        (bo (f_l_toIntS aL1) [] fun r2 =>
        bo (f_s_SumOfSequence aG0 r2) 0 fun r3 =>
        br (grOk aG0)
          (bo (f_l_toIntS aL1) [] fun r4 =>
          bo (f_i_SumOfSequence aG0 r4) 0 fun r5 =>
          br ((r5 != r3))
            (kR false)
            (br (grOk aG0)
              (bo (f_l_eqGroup aG0 aG0) false fun r6 =>
              br ((!r6))
                (kR false)
                (bo (f_l_toIntS aL1) [] fun r7 =>
                bo (f_l_eqIntS r4 r7) false fun r8 =>
                br ((!r8))
                  (kR false)
                  (kR true)))
              none))
          none)
        none))
def f_l_FnExactSumOfSequence (aG0 : List Sc) (aL1 : List Sc) : Option (Bool) := f_l_FnExactSumOfSequence_k aG0 aL1 some

def f_s_l16Subsums_k0 {R : Type} (l1 : List Sc) (g2 : List Sc) (out5 : Int) (i6 : Int) (kN : Int × Int → Option R) (kA : Int → Option R) : Option R :=
  br ((decide (i6 < (l1.length : Int))))
    (br (okAt l1 i6)
      (bo (f_s_l3Shift g2 out5 (atI l1 i6)) 0 fun r1 =>
      br (okAt l1 i6)
        (br (decide ((atI l1 i6) < 0))
          none
          (kN ((or64 (or64 out5 r1) (shl64 1 (atI l1 i6))), (w64 (i6 + 1)))))
        none)
      none)
    (kA out5)
def f_s_l16Subsums_r0 (l1 : List Sc) (g2 : List Sc) : (Int × Int) → Option (Ro (Int × Int) (Int) (Unit)) := fun s => f_s_l16Subsums_k0 l1 g2 s.1 s.2 (fun s => some (.again s)) (fun e => some (.one e))
def f_s_l16Subsums_k {R : Type} (g0 : List Sc) (l1 : List Sc) (kR : Int → Option R) : Option R :=
  bl1 (loopL (f_s_l16Subsums_r0 l1 g0) (0, 0)) 0 fun e2 =>
  kR e2
def f_s_l16Subsums (g0 : List Sc) (l1 : List Sc) : Option (Int) := f_s_l16Subsums_k g0 l1 some

def f_s_IsZeroFree_k {R : Type} (g0 : List Sc) (l1 : List Sc) (kR : Bool → Option R) : Option R :=
  bo (f_s_IsSequence g0 l1) false fun r1 =>
  br (r1 == true)
    (bo (f_s_l16Subsums g0 l1) 0 fun r2 =>
    kR ((and64 r2 1) == 0))
    (kR false)
def f_s_IsZeroFree (g0 : List Sc) (l1 : List Sc) : Option (Bool) := f_s_IsZeroFree_k g0 l1 some

def f_i_Group_subsums_k0 {R : Type} (g2 : List Sc) (t8 : List Sc) (t9 : Int) (out5 : Int) (t10 : Int) (kN : Int × Int → Option R) (kA : Int → Option R) : Option R :=
  br ((decide (t10 < t9)))
    (br (okAt t8 t10)
      (bo (f_i_Group_shift g2 out5 (atI t8 t10)) 0 fun r1 =>
      br (decide ((atI t8 t10) < 0))
        none
        (kN ((or64 (or64 out5 r1) (shl64 1 (atI t8 t10))), (w64 (t10 + 1)))))
      none)
    (kA out5)
def f_i_Group_subsums_r0 (g2 : List Sc) (t8 : List Sc) (t9 : Int) : (Int × Int) → Option (Ro (Int × Int) (Int) (Unit)) := fun s => f_i_Group_subsums_k0 g2 t8 t9 s.1 s.2 (fun s => some (.again s)) (fun e => some (.one e))
def f_i_Group_subsums_k {R : Type} (g0 : List Sc) (l1 : List Sc) (kR : Int → Option R) : Option R :=
  bl1 (loopL (f_i_Group_subsums_r0 g0 l1 (l1.length : Int)) (0, 0)) 0 fun e2 =>
  kR e2
def f_i_Group_subsums (g0 : List Sc) (l1 : List Sc) : Option (Int) := f_i_Group_subsums_k g0 l1 some

def f_i_in_k {R : Type} (a0 : Int) (x1 : Int) (kR : Bool → Option R) : Option R :=
  br (decide (x1 < 0))
    none
    (kR ((and64 (shr64 a0 x1) 1) == 1))
def f_i_in (a0 : Int) (x1 : Int) : Option (Bool) := f_i_in_k a0 x1 some

def f_i_IsZeroFree_k {R : Type} (g0 : List Sc) (l1 : List Sc) (kR : Bool → Option R) : Option R :=
  bo (f_i_IsSequence g0 l1) false fun r1 =>
  br (r1 == true)
    (bo (f_i_Group_subsums g0 l1) 0 fun r2 =>
    bo (f_i_in r2 0) false fun r3 =>
    kR (!r3))
    (kR false)
def f_i_IsZeroFree (g0 : List Sc) (l1 : List Sc) : Option (Bool) := f_i_IsZeroFree_k g0 l1 some

def f_l_FnExactIsZeroFree_k {R : Type} (aG0 : List Sc) (aL1 : List Sc) (kR : Bool → Option R) : Option R :=
  br ((decide ((aL1.length : Int) > 1048576)))
    (kR true)
    (bo (f_l_szGroup aG0 1048576) 0 fun r1 =>
    br ((decide (r1 < 0)))
      (kR true)
      (br (grOk aG0)
        (bo (f_l_toIntS aL1) [] fun r2 =>
        bo (f_s_IsZeroFree aG0 r2) false fun r3 =>
        br (grOk aG0)
          (bo (f_l_toIntS aL1) [] fun r4 =>
          bo (f_i_IsZeroFree aG0 r4) false fun r5 =>
          br ((!(r5 == r3)))
            (kR false)
            (br (grOk aG0)
              (bo (f_l_eqGroup aG0 aG0) false fun r6 =>
              br ((!r6))
                (kR false)
                (bo (f_l_toIntS aL1) [] fun r7 =>
                bo (f_l_eqIntS r4 r7) false fun r8 =>
                br ((!r8))
                  (kR false)
                  (kR true)))
              none))
          none)
        none))
def f_l_FnExactIsZeroFree (aG0 : List Sc) (aL1 : List Sc) : Option (Bool) := f_l_FnExactIsZeroFree_k aG0 aL1 some

def f_s_l3Bits_k0 {R : Type} (n3 : Int) (x4 : Int) (kN : Int × Int → Option R) (kA : Int → Option R) : Option R :=
  br ((decide (x4 > 0)))
    (kN ((w64 (n3 + (and64 x4 1))), (shr64 x4 1)))
    (kA n3)
def f_s_l3Bits_r0 : (Int × Int) → Option (Ro (Int × Int) (Int) (Unit)) := fun s => f_s_l3Bits_k0 s.1 s.2 (fun s => some (.again s)) (fun e => some (.one e))
def f_s_l3Bits_k {R : Type} (a0 : Int) (kR : Int → Option R) : Option R :=
  bl1 (loopL (f_s_l3Bits_r0) (0, a0)) 0 fun e1 =>
  kR e1
def f_s_l3Bits (a0 : Int) : Option (Int) := f_s_l3Bits_k a0 some

def f_s_IsDirect_k {R : Type} (g0 : List Sc) (a1 : Int) (b2 : Int) (kR : Bool → Option R) : Option R :=
  bo (f_s_IsSet g0 a1) false fun r1 =>
  br (r1 == true)
    (bo (f_s_IsSet g0 b2) false fun r2 =>
    br (r2 == true)
      (bo (f_s_l4Sum g0 a1 b2) 0 fun r3 =>
      bo (f_s_l3Bits r3) 0 fun r4 =>
      bo (f_s_l3Bits a1) 0 fun r5 =>
      bo (f_s_l3Bits b2) 0 fun r6 =>
      kR (r4 == (w64 (r5 * r6))))
      (kR false))
    (kR false)
def f_s_IsDirect (g0 : List Sc) (a1 : Int) (b2 : Int) : Option (Bool) := f_s_IsDirect_k g0 a1 b2 some

def f_i_areSets_k0 {R : Type} (g2 : List Sc) (t7 : List Sc) (t8 : Int) (t9 : Int) (kN : Int → Option R) (kA : Unit → Option R) (kB : Unit → Option R) : Option R :=
  br ((decide (t9 < t8)))
    (br (okAt t7 t9)
      (bo (f_i_IsSet g2 (atI t7 t9)) false fun r1 =>
      br ((!r1))
        (kB ())
        (kN (w64 (t9 + 1))))
      none)
    (kA ())
def f_i_areSets_r0 (g2 : List Sc) (t7 : List Sc) (t8 : Int) : Int → Option (Ro (Int) (Unit) (Unit)) := fun s => f_i_areSets_k0 g2 t7 t8 s (fun s => some (.again s)) (fun e => some (.one e)) (fun e => some (.two e))
def f_i_areSets_k {R : Type} (g0 : List Sc) (l1 : List Sc) (kR : Bool → Option R) : Option R :=
  bl (loopL (f_i_areSets_r0 g0 l1 (l1.length : Int)) 0) () ()
    (fun e2 =>
      bo (f_i_IsGroup g0) false fun r3 =>
      kR r3)
    (fun e2 =>
      kR false)
def f_i_areSets (g0 : List Sc) (l1 : List Sc) : Option (Bool) := f_i_areSets_k g0 l1 some

def f_i_bits_k0 {R : Type} (a0 : Int) (n3 : Int) (kN : Int × Int → Option R) (kA : Int → Option R) : Option R :=
  br ((a0 != 0))
    (kN ((and64 a0 (w64 (a0 - 1))), (w64 (n3 + 1))))
    (kA n3)
def f_i_bits_r0 : (Int × Int) → Option (Ro (Int × Int) (Int) (Unit)) := fun s => f_i_bits_k0 s.1 s.2 (fun s => some (.again s)) (fun e => some (.one e))
def f_i_bits_k {R : Type} (a0 : Int) (kR : Int → Option R) : Option R :=
  bl1 (loopL (f_i_bits_r0) (a0, 0)) 0 fun e1 =>
  kR e1
def f_i_bits (a0 : Int) : Option (Int) := f_i_bits_k a0 some

def f_i_IsDirect_k {R : Type} (g0 : List Sc) (a1 : Int) (b2 : Int) (kR : Bool → Option R) : Option R :=
  bo (f_i_areSets g0 [(Sc.n .i64 a1), (Sc.n .i64 b2)]) false fun r1 =>
  br (r1 == true)
    (bo (f_i_Group_sum g0 a1 b2) 0 fun r2 =>
    bo (f_i_bits r2) 0 fun r3 =>
    bo (f_i_bits a1) 0 fun r4 =>
    bo (f_i_bits b2) 0 fun r5 =>
    kR (r3 == (w64 (r4 * r5))))
    (kR false)
def f_i_IsDirect (g0 : List Sc) (a1 : Int) (b2 : Int) : Option (Bool) := f_i_IsDirect_k g0 a1 b2 some

def f_l_FnExactIsDirect_k {R : Type} (aG0 : List Sc) (aA1 : Int) (aB2 : Int) (kR : Bool → Option R) : Option R :=
  bo (f_l_szGroup aG0 1048576) 0 fun r1 =>
  br ((decide (r1 < 0)))
    (kR true)
    (br (grOk aG0)
      (bo (f_s_IsDirect aG0 aA1 aB2) false fun r2 =>
      br (grOk aG0)
        (bo (f_i_IsDirect aG0 aA1 aB2) false fun r3 =>
        br ((!(r3 == r2)))
          (kR false)
          (br (grOk aG0)
            (bo (f_l_eqGroup aG0 aG0) false fun r4 =>
            br ((!r4))
              (kR false)
              (kR true))
            none))
        none)
      none)
def f_l_FnExactIsDirect (aG0 : List Sc) (aA1 : Int) (aB2 : Int) : Option (Bool) := f_l_FnExactIsDirect_k aG0 aA1 aB2 some

def f_s_IsTiling_k {R : Type} (g0 : List Sc) (a1 : Int) (b2 : Int) (kR : Bool → Option R) : Option R :=
  bo (f_s_IsDirect g0 a1 b2) false fun r1 =>
  br (r1 == true)
    (bo (f_s_l4Sum g0 a1 b2) 0 fun r2 =>
    bo (f_s_l2Order g0) 0 fun r3 =>
    br (decide (r3 < 0))
      none
      (kR (r2 == (w64 ((shl64 1 r3) - 1)))))
    (kR false)
def f_s_IsTiling (g0 : List Sc) (a1 : Int) (b2 : Int) : Option (Bool) := f_s_IsTiling_k g0 a1 b2 some

def f_i_FullSet_k {R : Type} (g0 : List Sc) (kR : Int → Option R) : Option R :=
  bo (f_i_IsGroup g0) false fun r1 =>
  br ((!r1))
    (kR 0)
    (bo (f_i_OrderOf g0) 0 fun r2 =>
    br (decide (r2 < 0))
      none
      (kR (w64 ((shl64 1 r2) - 1))))
def f_i_FullSet (g0 : List Sc) : Option (Int) := f_i_FullSet_k g0 some

def f_i_IsTiling_k {R : Type} (g0 : List Sc) (a1 : Int) (b2 : Int) (kR : Bool → Option R) : Option R :=
  bo (f_i_IsDirect g0 a1 b2) false fun r1 =>
  br (r1 == true)
    (bo (f_i_Group_sum g0 a1 b2) 0 fun r2 =>
    bo (f_i_FullSet g0) 0 fun r3 =>
    kR (r2 == r3))
    (kR false)
def f_i_IsTiling (g0 : List Sc) (a1 : Int) (b2 : Int) : Option (Bool) := f_i_IsTiling_k g0 a1 b2 some

def f_l_FnExactIsTiling_k {R : Type} (aG0 : List Sc) (aA1 : Int) (aB2 : Int) (kR : Bool → Option R) : Option R :=
  bo (f_l_szGroup aG0 1048576) 0 fun r1 =>
  br ((decide (r1 < 0)))
    (kR true)
    (br (grOk aG0)
      (bo (f_s_IsTiling aG0 aA1 aB2) false fun r2 =>
      br (grOk aG0)
        (bo (f_i_IsTiling aG0 aA1 aB2) false fun r3 =>
        br ((!(r3 == r2)))
          (kR false)
          (br (grOk aG0)
            (bo (f_l_eqGroup aG0 aG0) false fun r4 =>
            br ((!r4))
              (kR false)
              (kR true))
            none))
        none)
      none)
def f_l_FnExactIsTiling (aG0 : List Sc) (aA1 : Int) (aB2 : Int) : Option (Bool) := f_l_FnExactIsTiling_k aG0 aA1 aB2 some

def f_s_SubsumsOf_k {R : Type} (g0 : List Sc) (l1 : List Sc) (kR : Int → Option R) : Option R :=
  bo (f_s_IsSequence g0 l1) false fun r1 =>
  br ((!r1))
    (kR (-1))
    (bo (f_s_l16Subsums g0 l1) 0 fun r2 =>
    kR r2)
def f_s_SubsumsOf (g0 : List Sc) (l1 : List Sc) : Option (Int) := f_s_SubsumsOf_k g0 l1 some

def f_i_SubsumsOf_k {R : Type} (g0 : List Sc) (l1 : List Sc) (kR : Int → Option R) : Option R :=
  bo (f_i_IsSequence g0 l1) false fun r1 =>
  br ((!r1))
    (kR (-1))
    (bo (f_i_Group_subsums g0 l1) 0 fun r2 =>
    kR r2)
def f_i_SubsumsOf (g0 : List Sc) (l1 : List Sc) : Option (Int) := f_i_SubsumsOf_k g0 l1 some

def f_l_FnExactSubsumsOf_k {R : Type} (aG0 : List Sc) (aL1 : List Sc) (kR : Bool → Option R) : Option R :=
  br ((decide ((aL1.length : Int) > 1048576)))
    (kR true)
    (bo (f_l_szGroup aG0 1048576) 0 fun r1 =>
    br ((decide (r1 < 0)))
      (kR true)
      (br (grOk aG0)
        (bo (f_l_toIntS aL1) [] fun r2 =>
        bo (f_s_SubsumsOf aG0 r2) 0 fun r3 =>
        br (grOk aG0)
          (bo (f_l_toIntS aL1) [] fun r4 =>
          bo (f_i_SubsumsOf aG0 r4) 0 fun r5 =>
          br ((r5 != r3))
            (kR false)
            (br (grOk aG0)
              (bo (f_l_eqGroup aG0 aG0) false fun r6 =>
              br ((!r6))
                (kR false)
                (bo (f_l_toIntS aL1) [] fun r7 =>
                bo (f_l_eqIntS r4 r7) false fun r8 =>
                br ((!r8))
                  (kR false)
                  (kR true)))
              none))
          none)
        none))
def f_l_FnExactSubsumsOf (aG0 : List Sc) (aL1 : List Sc) : Option (Bool) := f_l_FnExactSubsumsOf_k aG0 aL1 some

def f_s_SubsumsOfLength_k2 {R : Type} (l1 : List Sc) (k2 : Int) (g3 : List Sc) (i8 : Int) (t7 : List Sc) (n9 : Int) (kN : List Sc × Int → Option R) (kA : List Sc → Option R) : Option R :=
  br ((decide (n9 ≥ 1)))
    (br (inRange n9 (t7).length)
      (br (kAt t7 n9.toNat)
        (br (inRange (w64 (n9 - 1)) (t7).length)
          (br (kAt t7 (w64 (n9 - 1)).toNat)
            (br (okAt l1 i8)
              (bo (f_s_l3Shift g3 (atN t7 (w64 (n9 - 1)).toNat) (atI l1 i8)) 0 fun r3 =>
              br (inRange n9 (t7).length)
                (kN ((t7.set n9.toNat (Sc.n .i64 (or64 (atN t7 n9.toNat) r3))), (w64 (n9 - 1))))
                none)
              none)
            none)
          none)
        none)
      none)
    (kA t7)
def f_s_SubsumsOfLength_r2 (l1 : List Sc) (k2 : Int) (g3 : List Sc) (i8 : Int) : (List Sc × Int) → Option (Ro (List Sc × Int) (List Sc) (Unit)) := fun s => f_s_SubsumsOfLength_k2 l1 k2 g3 i8 s.1 s.2 (fun s => some (.again s)) (fun e => some (.one e))
def f_s_SubsumsOfLength_k0 {R : Type} (l1 : List Sc) (k2 : Int) (g3 : List Sc) (t7 : List Sc) (i8 : Int) (kN : List Sc × Int → Option R) (kA : List Sc × Int → Option R) : Option R :=
  br ((decide (i8 < (l1.length : Int))))
    (bl1 (loopL (f_s_SubsumsOfLength_r2 l1 k2 g3 i8) (t7, k2)) [] fun e4 =>
    kN (e4, (w64 (i8 + 1))))
    (kA (t7, i8))
def f_s_SubsumsOfLength_r0 (l1 : List Sc) (k2 : Int) (g3 : List Sc) : (List Sc × Int) → Option (Ro (List Sc × Int) (List Sc × Int) (Unit)) := fun s => f_s_SubsumsOfLength_k0 l1 k2 g3 s.1 s.2 (fun s => some (.again s)) (fun e => some (.one e))
def f_s_SubsumsOfLength_k {R : Type} (g0 : List Sc) (l1 : List Sc) (k2 : Int) (kR : Int → Option R) : Option R :=
  bo (f_s_IsSequence g0 l1) false fun r1 =>
  br ((!r1) == false)
    (bo (f_s_l1In k2 0 (l1.length : Int)) false fun r2 =>
    br ((!r2))
      (kR (-1))
      (br (decide (0 ≤ (w64 (k2 + 1))) && (decide ((w64 (k2 + 1)) ≤ (w64 (k2 + 1))) && decide ((w64 (k2 + 1)) ≤ (lim : Int))))
        (br (inRange 0 ((List.replicate (w64 (k2 + 1)).toNat (Sc.n .i64 0))).length)
          (bl1 (loopL (f_s_SubsumsOfLength_r0 l1 k2 g0) (((List.replicate (w64 (k2 + 1)).toNat (Sc.n .i64 0)).set ((0 : Int).toNat) (Sc.n .i64 1)), 0)) ([], 0) fun e5 =>
          br (inRange k2 (e5.1).length)
            (br (kAt e5.1 k2.toNat)
              (kR (atN e5.1 k2.toNat))
              none)
            none)
          none)
        none))
    (kR (-1))
def f_s_SubsumsOfLength (g0 : List Sc) (l1 : List Sc) (k2 : Int) : Option (Int) := f_s_SubsumsOfLength_k g0 l1 k2 some

def f_i_Group_byLength_k2 {R : Type} (g2 : List Sc) (x7 : Int) (t15 : List Sc) (t16 : Int) (t17 : Int) (out5 : List Sc) (k8 : Int) (kN : List Sc × Int → Option R) (kA : List Sc → Option R) : Option R :=
  br ((decide (k8 ≥ 0)))
    (br (inRange (w64 (k8 + 1)) (out5).length)
      (br (kAt out5 (w64 (k8 + 1)).toNat)
        (br (inRange k8 (out5).length)
          (br (kAt out5 k8.toNat)
            (bo (f_i_Group_shift g2 (atN out5 k8.toNat) x7) 0 fun r1 =>
            br (inRange (w64 (k8 + 1)) (out5).length)
              (kN ((out5.set ((w64 (k8 + 1)).toNat) (Sc.n .i64 (or64 (atN out5 (w64 (k8 + 1)).toNat) r1))), (w64 (k8 - 1))))
              none)
            none)
          none)
        none)
      none)
    (kA out5)
def f_i_Group_byLength_r2 (g2 : List Sc) (x7 : Int) (t15 : List Sc) (t16 : Int) (t17 : Int) : (List Sc × Int) → Option (Ro (List Sc × Int) (List Sc) (Unit)) := fun s => f_i_Group_byLength_k2 g2 x7 t15 t16 t17 s.1 s.2 (fun s => some (.again s)) (fun e => some (.one e))
def f_i_Group_byLength_k0 {R : Type} (g2 : List Sc) (t15 : List Sc) (t16 : Int) (out5 : List Sc) (t17 : Int) (kN : List Sc × Int → Option R) (kA : List Sc × Int → Option R) : Option R :=
  br ((decide (t17 < t16)))
    (br (okAt t15 t17)
      (bl1 (loopL (f_i_Group_byLength_r2 g2 (atI t15 t17) t15 t16 t17) (out5, t17)) [] fun e2 =>
      kN (e2, (w64 (t17 + 1))))
      none)
    (kA (out5, t17))
def f_i_Group_byLength_r0 (g2 : List Sc) (t15 : List Sc) (t16 : Int) : (List Sc × Int) → Option (Ro (List Sc × Int) (List Sc × Int) (Unit)) := fun s => f_i_Group_byLength_k0 g2 t15 t16 s.1 s.2 (fun s => some (.again s)) (fun e => some (.one e))
def f_i_Group_byLength_k {R : Type} (g0 : List Sc) (l1 : List Sc) (kR : List Sc → Option R) : Option R :=
  br (decide (0 ≤ (w64 ((l1.length : Int) + 1))) && (decide ((w64 ((l1.length : Int) + 1)) ≤ (w64 ((l1.length : Int) + 1))) && decide ((w64 ((l1.length : Int) + 1)) ≤ (lim : Int))))
    (br (inRange 0 ((List.replicate (w64 ((l1.length : Int) + 1)).toNat (Sc.n .i64 0))).length)
      (bl1 (loopL (f_i_Group_byLength_r0 g0 l1 (l1.length : Int)) (((List.replicate (w64 ((l1.length : Int) + 1)).toNat (Sc.n .i64 0)).set ((0 : Int).toNat) (Sc.n .i64 1)), 0)) ([], 0) fun e3 =>
      kR e3.1)
      none)
    none
def f_i_Group_byLength (g0 : List Sc) (l1 : List Sc) : Option (List Sc) := f_i_Group_byLength_k g0 l1 some

def f_i_SubsumsOfLength_k {R : Type} (g0 : List Sc) (l1 : List Sc) (k2 : Int) (kR : Int → Option R) : Option R :=
  bo (f_i_IsSequence g0 l1) false fun r1 =>
  br ((!r1) == false)
    (bo (f_i_within k2 0 (l1.length : Int)) false fun r2 =>
    br ((!r2))
      (kR (-1))
      (bo (f_i_Group_byLength g0 l1) [] fun r3 =>
      br (inRange k2 (r3).length)
        (br (kAt r3 k2.toNat)
          (kR (atN r3 k2.toNat))
          none)
        none))
    (kR (-1))
def f_i_SubsumsOfLength (g0 : List Sc) (l1 : List Sc) (k2 : Int) : Option (Int) := f_i_SubsumsOfLength_k g0 l1 k2 some

def f_l_FnExactSubsumsOfLength_k {R : Type} (aG0 : List Sc) (aL1 : List Sc) (aK2 : Int) (kR : Bool → Option R) : Option R :=
  br ((decide ((aL1.length : Int) > 1048576)))
    (kR true)
    (bo (f_l_szGroup aG0 1048576) 0 fun r1 =>
    br ((decide (r1 < 0)))
      (kR true)
      (br (grOk aG0)
        (bo (f_l_toIntS aL1) [] fun r2 =>
        bo (f_s_SubsumsOfLength aG0 r2 aK2) 0 fun r3 =>
        br (grOk aG0)
          (bo (f_l_toIntS aL1) [] fun r4 =>
          bo (f_i_SubsumsOfLength aG0 r4 aK2) 0 fun r5 =>
          br ((r5 != r3))
            (kR false)
            (br (grOk aG0)
              (bo (f_l_eqGroup aG0 aG0) false fun r6 =>
              br ((!r6))
                (kR false)
                (bo (f_l_toIntS aL1) [] fun r7 =>
                bo (f_l_eqIntS r4 r7) false fun r8 =>
                br ((!r8))
                  (kR false)
                  (kR true)))
              none))
          none)
        none))
def f_l_FnExactSubsumsOfLength (aG0 : List Sc) (aL1 : List Sc) (aK2 : Int) : Option (Bool) := f_l_FnExactSubsumsOfLength_k aG0 aL1 aK2 some

def f_s_SetOf_k0 {R : Type} (l1 : List Sc) (g2 : List Sc) (a6 : Int) (i7 : Int) (kN : Int × Int → Option R) (kA : Int → Option R) (kB : Unit → Option R) : Option R :=
  br ((decide (i7 < (l1.length : Int))))
    (br (okAt l1 i7)
      (bo (f_s_l2Is g2 (atI l1 i7)) false fun r1 =>
      br ((!r1) == false)
        (br (okAt l1 i7)
          (br (decide ((atI l1 i7) < 0))
            none
            (br (((and64 (shr64 a6 (atI l1 i7)) 1) == 1))
              (kB ())
              (br (okAt l1 i7)
                (br (decide ((atI l1 i7) < 0))
                  none
                  (kN ((w64 (a6 + (shl64 1 (atI l1 i7)))), (w64 (i7 + 1)))))
                none)))
          none)
        (kB ()))
      none)
    (kA a6)
def f_s_SetOf_r0 (l1 : List Sc) (g2 : List Sc) : (Int × Int) → Option (Ro (Int × Int) (Int) (Unit)) := fun s => f_s_SetOf_k0 l1 g2 s.1 s.2 (fun s => some (.again s)) (fun e => some (.one e)) (fun e => some (.two e))
def f_s_SetOf_k {R : Type} (g0 : List Sc) (l1 : List Sc) (kR : Int × Bool → Option R) : Option R :=
  bl (loopL (f_s_SetOf_r0 l1 g0) (0, 0)) 0 ()
    (fun e2 =>
      bo (f_s_IsGroup g0) false fun r3 =>
      kR (e2, r3))
    (fun e2 =>
      kR (0, false))
def f_s_SetOf (g0 : List Sc) (l1 : List Sc) : Option (Int × Bool) := f_s_SetOf_k g0 l1 some

def f_s_l15Fine_k0 {R : Type} (l2 : List Sc) (m3 : List Sc) (h5 : List Sc) (is10 : Bool) (i11 : Int) (kN : Int → Option R) (kA : Unit → Option R) (kB : Unit → Option R) : Option R :=
  br ((decide (i11 < (m3.length : Int))))
    (br (okAt m3 i11)
      (bo (f_s_l2Is h5 (atI m3 i11)) false fun r2 =>
      br ((!r2))
        (kB ())
        (kN (w64 (i11 + 1))))
      none)
    (kA ())
def f_s_l15Fine_r0 (l2 : List Sc) (m3 : List Sc) (h5 : List Sc) (is10 : Bool) : Int → Option (Ro (Int) (Unit) (Unit)) := fun s => f_s_l15Fine_k0 l2 m3 h5 is10 s (fun s => some (.again s)) (fun e => some (.one e)) (fun e => some (.two e))
def f_s_l15Fine_k {R : Type} (g0 : List Sc) (h1 : List Sc) (l2 : List Sc) (m3 : List Sc) (kR : Bool → Option R) : Option R :=
  bo (f_s_SetOf g0 l2) (0, false) fun r1 =>
  bl (loopL (f_s_l15Fine_r0 l2 m3 h1 r1.2) 0) () ()
    (fun e3 =>
      br (r1.2 == true)
        (bo (f_s_IsGroup h1) false fun r4 =>
        br (r4 == true)
          (br (((l2.length : Int) == (m3.length : Int)) == true)
            (bo (f_s_l1In (l2.length : Int) 1 6) false fun r5 =>
            kR r5)
            (kR false))
          (kR false))
        (kR false))
    (fun e3 =>
      kR false)
def f_s_l15Fine (g0 : List Sc) (h1 : List Sc) (l2 : List Sc) (m3 : List Sc) : Option (Bool) := f_s_l15Fine_k g0 h1 l2 m3 some

def f_s_l15Keeps_k6 {R : Type} (t2 : List Sc) (t3 : List Sc) (t4 : List Sc) (t5 : List Sc) (t9 : Int) (t10 : Int) (t11 : Int) (t12 : Int) (kN : Int → Option R) (kA : Unit → Option R) (kB : Unit → Option R) : Option R :=
  br ((decide (t12 < (t2.length : Int))))
    (br (okAt t2 t9)
      (br (okAt t2 t10)
        (bo (f_s_l2Add t4 (atI t2 t9) (atI t2 t10)) 0 fun r1 =>
        br (okAt t2 t11)
          (br (okAt t2 t12)
            (bo (f_s_l2Add t4 (atI t2 t11) (atI t2 t12)) 0 fun r2 =>
            br ((r1 == r2) == true)
              (br (okAt t3 t9)
                (br (okAt t3 t10)
                  (bo (f_s_l2Add t5 (atI t3 t9) (atI t3 t10)) 0 fun r3 =>
                  br (okAt t3 t11)
                    (br (okAt t3 t12)
                      (bo (f_s_l2Add t5 (atI t3 t11) (atI t3 t12)) 0 fun r4 =>
                      br ((r3 != r4))
                        (kB ())
                        (kN (w64 (t12 + 1))))
                      none)
                    none)
                  none)
                none)
              (kN (w64 (t12 + 1))))
            none)
          none)
        none)
      none)
    (kA ())
def f_s_l15Keeps_r6 (t2 : List Sc) (t3 : List Sc) (t4 : List Sc) (t5 : List Sc) (t9 : Int) (t10 : Int) (t11 : Int) : Int → Option (Ro (Int) (Unit) (Unit)) := fun s => f_s_l15Keeps_k6 t2 t3 t4 t5 t9 t10 t11 s (fun s => some (.again s)) (fun e => some (.one e)) (fun e => some (.two e))
def f_s_l15Keeps_k4 {R : Type} (t2 : List Sc) (t3 : List Sc) (t4 : List Sc) (t5 : List Sc) (t9 : Int) (t10 : Int) (t11 : Int) (kN : Int → Option R) (kA : Int → Option R) (kB : Unit → Option R) : Option R :=
  br ((decide (t11 ≤ t9)))
    (bl (loopL (f_s_l15Keeps_r6 t2 t3 t4 t5 t9 t10 t11) t11) () ()
      (fun e5 =>
        kN (w64 (t11 + 1)))
      (fun e5 =>
        kB ()))
    (kA t11)
def f_s_l15Keeps_r4 (t2 : List Sc) (t3 : List Sc) (t4 : List Sc) (t5 : List Sc) (t9 : Int) (t10 : Int) : Int → Option (Ro (Int) (Int) (Unit)) := fun s => f_s_l15Keeps_k4 t2 t3 t4 t5 t9 t10 s (fun s => some (.again s)) (fun e => some (.one e)) (fun e => some (.two e))
def f_s_l15Keeps_k2 {R : Type} (t2 : List Sc) (t3 : List Sc) (t4 : List Sc) (t5 : List Sc) (t9 : Int) (t10 : Int) (kN : Int → Option R) (kA : Int → Option R) (kB : Unit → Option R) : Option R :=
  br ((decide (t10 < (t2.length : Int))))
    (bl (loopL (f_s_l15Keeps_r4 t2 t3 t4 t5 t9 t10) 0) 0 ()
      (fun e6 =>
        kN (w64 (t10 + 1)))
      (fun e6 =>
        kB ()))
    (kA t10)
def f_s_l15Keeps_r2 (t2 : List Sc) (t3 : List Sc) (t4 : List Sc) (t5 : List Sc) (t9 : Int) : Int → Option (Ro (Int) (Int) (Unit)) := fun s => f_s_l15Keeps_k2 t2 t3 t4 t5 t9 s (fun s => some (.again s)) (fun e => some (.one e)) (fun e => some (.two e))
def f_s_l15Keeps_k0 {R : Type} (t2 : List Sc) (t3 : List Sc) (t4 : List Sc) (t5 : List Sc) (t9 : Int) (kN : Int → Option R) (kA : Int → Option R) (kB : Unit → Option R) : Option R :=
  br ((decide (t9 < (t2.length : Int))))
    (bl (loopL (f_s_l15Keeps_r2 t2 t3 t4 t5 t9) t9) 0 ()
      (fun e7 =>
        kN (w64 (t9 + 1)))
      (fun e7 =>
        kB ()))
    (kA t9)
def f_s_l15Keeps_r0 (t2 : List Sc) (t3 : List Sc) (t4 : List Sc) (t5 : List Sc) : Int → Option (Ro (Int) (Int) (Unit)) := fun s => f_s_l15Keeps_k0 t2 t3 t4 t5 s (fun s => some (.again s)) (fun e => some (.one e)) (fun e => some (.two e))
def f_s_l15Keeps_k {R : Type} (L0 : List Sc) (p1 : List Sc) (p2 : List Sc) (p3 : List Sc) (kR : Bool → Option R) : Option R :=
  bl (loopL (f_s_l15Keeps_r0 p2 p3 L0 p1) 0) 0 ()
    (fun e8 =>
      kR true)
    (fun e8 =>
      kR false)
def f_s_l15Keeps (L0 : List Sc) (p1 : List Sc) (p2 : List Sc) (p3 : List Sc) : Option (Bool) := f_s_l15Keeps_k L0 p1 p2 p3 some

def f_s_IsFreimanMap_k {R : Type} (g0 : List Sc) (h1 : List Sc) (l2 : List Sc) (m3 : List Sc) (kR : Bool → Option R) : Option R :=
  bo (f_s_l15Fine g0 h1 l2 m3) false fun r1 =>
  br (r1 == true)
    (bo (f_s_l15Keeps g0 h1 l2 m3) false fun r2 =>
    kR r2)
    (kR false)
def f_s_IsFreimanMap (g0 : List Sc) (h1 : List Sc) (l2 : List Sc) (m3 : List Sc) : Option (Bool) := f_s_IsFreimanMap_k g0 h1 l2 m3 some

def f_i_SetOf_k0 {R : Type} (g2 : List Sc) (t9 : List Sc) (t10 : Int) (a6 : Int) (t11 : Int) (kN : Int × Int → Option R) (kA : Int → Option R) (kB : Unit → Option R) : Option R :=
  br ((decide (t11 < t10)))
    (br (okAt t9 t11)
      (bo (f_i_Group_has g2 (atI t9 t11)) false fun r1 =>
      br ((!r1) == false)
        (bo (f_i_in a6 (atI t9 t11)) false fun r2 =>
        br (r2)
          (kB ())
          (br (decide ((atI t9 t11) < 0))
            none
            (kN ((or64 a6 (shl64 1 (atI t9 t11))), (w64 (t11 + 1))))))
        (kB ()))
      none)
    (kA a6)
def f_i_SetOf_r0 (g2 : List Sc) (t9 : List Sc) (t10 : Int) : (Int × Int) → Option (Ro (Int × Int) (Int) (Unit)) := fun s => f_i_SetOf_k0 g2 t9 t10 s.1 s.2 (fun s => some (.again s)) (fun e => some (.one e)) (fun e => some (.two e))
def f_i_SetOf_k {R : Type} (g0 : List Sc) (l1 : List Sc) (kR : Int × Bool → Option R) : Option R :=
  bl (loopL (f_i_SetOf_r0 g0 l1 (l1.length : Int)) (0, 0)) 0 ()
    (fun e3 =>
      bo (f_i_IsGroup g0) false fun r4 =>
      kR (e3, r4))
    (fun e3 =>
      kR (0, false))
def f_i_SetOf (g0 : List Sc) (l1 : List Sc) : Option (Int × Bool) := f_i_SetOf_k g0 l1 some

def f_i_ImageOfMap_k0 {R : Type} (h2 : List Sc) (t9 : List Sc) (t10 : Int) (a6 : Int) (t11 : Int) (kN : Int × Int → Option R) (kA : Int → Option R) (kB : Unit → Option R) : Option R :=
  br ((decide (t11 < t10)))
    (br (okAt t9 t11)
      (bo (f_i_Group_has h2 (atI t9 t11)) false fun r1 =>
      br ((!r1))
        (kB ())
        (br (decide ((atI t9 t11) < 0))
          none
          (kN ((or64 a6 (shl64 1 (atI t9 t11))), (w64 (t11 + 1))))))
      none)
    (kA a6)
def f_i_ImageOfMap_r0 (h2 : List Sc) (t9 : List Sc) (t10 : Int) : (Int × Int) → Option (Ro (Int × Int) (Int) (Unit)) := fun s => f_i_ImageOfMap_k0 h2 t9 t10 s.1 s.2 (fun s => some (.again s)) (fun e => some (.one e)) (fun e => some (.two e))
def f_i_ImageOfMap_k {R : Type} (h0 : List Sc) (m1 : List Sc) (kR : Int × Bool → Option R) : Option R :=
  bl (loopL (f_i_ImageOfMap_r0 h0 m1 (m1.length : Int)) (0, 0)) 0 ()
    (fun e2 =>
      bo (f_i_IsGroup h0) false fun r3 =>
      kR (e2, r3))
    (fun e2 =>
      kR (0, false))
def f_i_ImageOfMap (h0 : List Sc) (m1 : List Sc) : Option (Int × Bool) := f_i_ImageOfMap_k h0 m1 some

def f_i_keeps_k6 {R : Type} (t2 : List Sc) (t3 : List Sc) (t4 : List Sc) (t5 : List Sc) (t9 : Int) (t10 : Int) (t11 : Int) (t14 : Int) (t15 : Int) (t26 : Int) (t27 : Int) (t12 : Int) (kN : Int → Option R) (kA : Unit → Option R) (kB : Unit → Option R) : Option R :=
  br ((decide (t12 < (t2.length : Int))))
    (br (okAt t2 t9)
      (br (okAt t2 t10)
        (bo (f_i_Group_add t4 (atI t2 t9) (atI t2 t10)) 0 fun r1 =>
        br (okAt t2 t11)
          (br (okAt t2 t12)
            (bo (f_i_Group_add t4 (atI t2 t11) (atI t2 t12)) 0 fun r2 =>
            br ((r1 == r2) == true)
              (br (okAt t3 t9)
                (br (okAt t3 t10)
                  (bo (f_i_Group_add t5 (atI t3 t9) (atI t3 t10)) 0 fun r3 =>
                  br (okAt t3 t11)
                    (br (okAt t3 t12)
                      (bo (f_i_Group_add t5 (atI t3 t11) (atI t3 t12)) 0 fun r4 =>
                      br ((r3 != r4))
                        (kB ())
                        (kN (w64 (t12 + 1))))
                      none)
                    none)
                  none)
                none)
              (kN (w64 (t12 + 1))))
            none)
          none)
        none)
      none)
    (kA ())
def f_i_keeps_r6 (t2 : List Sc) (t3 : List Sc) (t4 : List Sc) (t5 : List Sc) (t9 : Int) (t10 : Int) (t11 : Int) (t14 : Int) (t15 : Int) (t26 : Int) (t27 : Int) : Int → Option (Ro (Int) (Unit) (Unit)) := fun s => f_i_keeps_k6 t2 t3 t4 t5 t9 t10 t11 t14 t15 t26 t27 s (fun s => some (.again s)) (fun e => some (.one e)) (fun e => some (.two e))
def f_i_keeps_k4 {R : Type} (t2 : List Sc) (t3 : List Sc) (t4 : List Sc) (t5 : List Sc) (t9 : Int) (t10 : Int) (t14 : Int) (t15 : Int) (t26 : Int) (t27 : Int) (kN : Int → Option R) (kA : Int → Option R) (kB : Unit → Option R) : Option R :=
  br ((decide (t27 < t26)))
    (bl (loopL (f_i_keeps_r6 t2 t3 t4 t5 t9 t10 t27 t14 t15 t26 t27) t27) () ()
      (fun e5 =>
        kN (w64 (t27 + 1)))
      (fun e5 =>
        kB ()))
    (kA t27)
def f_i_keeps_r4 (t2 : List Sc) (t3 : List Sc) (t4 : List Sc) (t5 : List Sc) (t9 : Int) (t10 : Int) (t14 : Int) (t15 : Int) (t26 : Int) : Int → Option (Ro (Int) (Int) (Unit)) := fun s => f_i_keeps_k4 t2 t3 t4 t5 t9 t10 t14 t15 t26 s (fun s => some (.again s)) (fun e => some (.one e)) (fun e => some (.two e))
def f_i_keeps_k2 {R : Type} (t2 : List Sc) (t3 : List Sc) (t4 : List Sc) (t5 : List Sc) (t9 : Int) (t14 : Int) (t15 : Int) (t10 : Int) (kN : Int → Option R) (kA : Int → Option R) (kB : Unit → Option R) : Option R :=
  br ((decide (t10 < (t2.length : Int))))
    (bl (loopL (f_i_keeps_r4 t2 t3 t4 t5 t9 t10 t14 t15 (t2.length : Int)) 0) 0 ()
      (fun e6 =>
        kN (w64 (t10 + 1)))
      (fun e6 =>
        kB ()))
    (kA t10)
def f_i_keeps_r2 (t2 : List Sc) (t3 : List Sc) (t4 : List Sc) (t5 : List Sc) (t9 : Int) (t14 : Int) (t15 : Int) : Int → Option (Ro (Int) (Int) (Unit)) := fun s => f_i_keeps_k2 t2 t3 t4 t5 t9 t14 t15 s (fun s => some (.again s)) (fun e => some (.one e)) (fun e => some (.two e))
def f_i_keeps_k0 {R : Type} (t2 : List Sc) (t3 : List Sc) (t4 : List Sc) (t5 : List Sc) (t14 : Int) (t15 : Int) (kN : Int → Option R) (kA : Int → Option R) (kB : Unit → Option R) : Option R :=
  br ((decide (t15 < t14)))
    (bl (loopL (f_i_keeps_r2 t2 t3 t4 t5 t15 t14 t15) t15) 0 ()
      (fun e7 =>
        kN (w64 (t15 + 1)))
      (fun e7 =>
        kB ()))
    (kA t15)
def f_i_keeps_r0 (t2 : List Sc) (t3 : List Sc) (t4 : List Sc) (t5 : List Sc) (t14 : Int) : Int → Option (Ro (Int) (Int) (Unit)) := fun s => f_i_keeps_k0 t2 t3 t4 t5 t14 s (fun s => some (.again s)) (fun e => some (.one e)) (fun e => some (.two e))
def f_i_keeps_k {R : Type} (L0 : List Sc) (p1 : List Sc) (p2 : List Sc) (p3 : List Sc) (kR : Bool → Option R) : Option R :=
  bl (loopL (f_i_keeps_r0 p2 p3 L0 p1 (p2.length : Int)) 0) 0 ()
    (fun e8 =>
      kR true)
    (fun e8 =>
      kR false)
def f_i_keeps (L0 : List Sc) (p1 : List Sc) (p2 : List Sc) (p3 : List Sc) : Option (Bool) := f_i_keeps_k L0 p1 p2 p3 some

def f_i_IsFreimanMap_k {R : Type} (g0 : List Sc) (h1 : List Sc) (l2 : List Sc) (m3 : List Sc) (kR : Bool → Option R) : Option R :=
  bo (f_i_SetOf g0 l2) (0, false) fun r1 =>
  br ((!r1.2) == false)
    (bo (f_i_within (l2.length : Int) 1 6) false fun r2 =>
    br ((!r2) == false)
      (br (((m3.length : Int) != (l2.length : Int)))
        (kR false)
        (bo (f_i_ImageOfMap h1 m3) (0, false) fun r3 =>
        br ((!r3.2))
          (kR false)
          (bo (f_i_keeps g0 h1 l2 m3) false fun r4 =>
          kR r4)))
      (kR false))
    (kR false)
def f_i_IsFreimanMap (g0 : List Sc) (h1 : List Sc) (l2 : List Sc) (m3 : List Sc) : Option (Bool) := f_i_IsFreimanMap_k g0 h1 l2 m3 some

def f_l_FnExactIsFreimanMap_k {R : Type} (L0 : List Sc) (p1 : List Sc) (p2 : List Sc) (p3 : List Sc) (kR : Bool → Option R) : Option R :=
  br ((decide ((p2.length : Int) > 1048576)))
    (kR true)
    (br ((decide ((p3.length : Int) > 1048576)))
      (kR true)
      (bo (f_l_szGroup L0 1048576) 0 fun r1 =>
      br ((decide (r1 < 0)))
        (kR true)
        (bo (f_l_szGroup p1 r1) 0 fun r2 =>
        br ((decide (r2 < 0)))
          (kR true)
          (br (grOk L0)
            (br (grOk p1)
              (bo (f_l_toIntS p2) [] fun r3 =>
              bo (f_l_toIntS p3) [] fun r4 =>
              bo (f_s_IsFreimanMap L0 p1 r3 r4) false fun r5 =>
              br (grOk L0)
                (br (grOk p1)
                  (bo (f_l_toIntS p2) [] fun r6 =>
                  bo (f_l_toIntS p3) [] fun r7 =>
                  bo (f_i_IsFreimanMap L0 p1 r6 r7) false fun r8 =>
                  br ((!(r8 == r5)))
                    (kR false)
                    (br (grOk L0)
                      (bo (f_l_eqGroup L0 L0) false fun r9 =>
                      br ((!r9))
                        (kR false)
                        (br (grOk p1)
                          (bo (f_l_eqGroup p1 p1) false fun r10 =>
                          br ((!r10))
                            (kR false)
                            (bo (f_l_toIntS p2) [] fun r11 =>
                            bo (f_l_eqIntS r6 r11) false fun r12 =>
                            br ((!r12))
                              (kR false)
                              (bo (f_l_toIntS p3) [] fun r13 =>
                              bo (f_l_eqIntS r7 r13) false fun r14 =>
                              br ((!r14))
                                (kR false)
                                (kR true))))
                          none))
                      none))
                  none)
                none)
              none)
            none))))
def f_l_FnExactIsFreimanMap (L0 : List Sc) (p1 : List Sc) (p2 : List Sc) (p3 : List Sc) : Option (Bool) := f_l_FnExactIsFreimanMap_k L0 p1 p2 p3 some

def f_s_IsFreimanIso_k {R : Type} (g0 : List Sc) (h1 : List Sc) (l2 : List Sc) (m3 : List Sc) (kR : Bool → Option R) : Option R :=
  bo (f_s_IsFreimanMap g0 h1 l2 m3) false fun r1 =>
  br (r1 == true)
    (bo (f_s_IsFreimanMap h1 g0 m3 l2) false fun r2 =>
    kR r2)
    (kR false)
def f_s_IsFreimanIso (g0 : List Sc) (h1 : List Sc) (l2 : List Sc) (m3 : List Sc) : Option (Bool) := f_s_IsFreimanIso_k g0 h1 l2 m3 some

def f_i_IsFreimanIso_k {R : Type} (g0 : List Sc) (h1 : List Sc) (l2 : List Sc) (m3 : List Sc) (kR : Bool → Option R) : Option R :=
  bo (f_i_IsFreimanMap g0 h1 l2 m3) false fun r1 =>
  br (r1 == true)
    (bo (f_i_IsFreimanMap h1 g0 m3 l2) false fun r2 =>
    kR r2)
    (kR false)
def f_i_IsFreimanIso (g0 : List Sc) (h1 : List Sc) (l2 : List Sc) (m3 : List Sc) : Option (Bool) := f_i_IsFreimanIso_k g0 h1 l2 m3 some

def f_l_FnExactIsFreimanIso_k {R : Type} (L0 : List Sc) (p1 : List Sc) (p2 : List Sc) (p3 : List Sc) (kR : Bool → Option R) : Option R :=
  br ((decide ((p2.length : Int) > 1048576)))
    (kR true)
    (br ((decide ((p3.length : Int) > 1048576)))
      (kR true)
      (bo (f_l_szGroup L0 1048576) 0 fun r1 =>
      br ((decide (r1 < 0)))
        (kR true)
        (bo (f_l_szGroup p1 r1) 0 fun r2 =>
        br ((decide (r2 < 0)))
          (kR true)
          (br (grOk L0)
            (br (grOk p1)
              (bo (f_l_toIntS p2) [] fun r3 =>
              bo (f_l_toIntS p3) [] fun r4 =>
              bo (f_s_IsFreimanIso L0 p1 r3 r4) false fun r5 =>
              br (grOk L0)
                (br (grOk p1)
                  (bo (f_l_toIntS p2) [] fun r6 =>
                  bo (f_l_toIntS p3) [] fun r7 =>
                  bo (f_i_IsFreimanIso L0 p1 r6 r7) false fun r8 =>
                  br ((!(r8 == r5)))
                    (kR false)
                    (br (grOk L0)
                      (bo (f_l_eqGroup L0 L0) false fun r9 =>
                      br ((!r9))
                        (kR false)
                        (br (grOk p1)
                          (bo (f_l_eqGroup p1 p1) false fun r10 =>
                          br ((!r10))
                            (kR false)
                            (bo (f_l_toIntS p2) [] fun r11 =>
                            bo (f_l_eqIntS r6 r11) false fun r12 =>
                            br ((!r12))
                              (kR false)
                              (bo (f_l_toIntS p3) [] fun r13 =>
                              bo (f_l_eqIntS r7 r13) false fun r14 =>
                              br ((!r14))
                                (kR false)
                                (kR true))))
                          none))
                      none))
                  none)
                none)
              none)
            none))))
def f_l_FnExactIsFreimanIso (L0 : List Sc) (p1 : List Sc) (p2 : List Sc) (p3 : List Sc) : Option (Bool) := f_l_FnExactIsFreimanIso_k L0 p1 p2 p3 some
end
end Go.Proofs.Ytipbknonljjagaa
