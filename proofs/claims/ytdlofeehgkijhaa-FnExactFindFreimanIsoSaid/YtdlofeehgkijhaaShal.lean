/-
  What the functions compute, as plain functions (printed by gen2.py).
-/
import Derived.Test.YtdlofeehgkijhaaVGen
set_option linter.unusedVariables false
namespace Go.Proofs.Ytdlofeehgkijhaa
open Go Ev
noncomputable section
def f_l_szIntS_k {R : Type} (a0 : List Sc) (left1 : Int) (kR : Int → Option R) : Option R :=
  br ((decide ((w64 (left1 - (a0.length : Int))) < 0)))
    (kR (-1))
    (kR (w64 (left1 - (a0.length : Int))))
def f_l_szIntS (a0 : List Sc) (left1 : Int) : Option (Int) := f_l_szIntS_k a0 left1 some

def f_l_szGroup_k {R : Type} (a0 : List Sc) (left1 : Int) (kR : Int → Option R) : Option R :=
  bo (f_l_szIntS a0 left1) 0 fun r1 =>
  br ((decide (r1 < 0)))
    (kR (-1))
    (kR r1)
def f_l_szGroup (a0 : List Sc) (left1 : Int) : Option (Int) := f_l_szGroup_k a0 left1 some

def f_l_toIntS_k0 {R : Type} (a0 : List Sc) (out3 : List Sc) (i4 : Int) (kN : List Sc × Int → Option R) (kA : List Sc → Option R) : Option R :=
  br ((decide (i4 < (a0.length : Int))))
    (br (okAt a0 i4)
      (br (inRange i4 (out3).length)
        (kN ((out3.set i4.toNat (Sc.n .i64 (atI a0 i4))), (w64 (i4 + 1))))
        none)
      none)
    (kA out3)
def f_l_toIntS_r0 (a0 : List Sc) : (List Sc × Int) → Option (Ro (List Sc × Int) (List Sc) (Unit)) := fun s => f_l_toIntS_k0 a0 s.1 s.2 (fun s => some (.again s)) (fun e => some (.one e))
def f_l_toIntS_k {R : Type} (a0 : List Sc) (kR : List Sc → Option R) : Option R :=
  br (decide (0 ≤ (a0.length : Int)) && (decide ((a0.length : Int) ≤ (a0.length : Int)) && decide ((a0.length : Int) ≤ (lim : Int))))
    (bl1 (loopL (f_l_toIntS_r0 a0) ((List.replicate (a0.length : Int).toNat (Sc.n .i64 0)), 0)) [] fun e1 =>
    kR e1)
    none
def f_l_toIntS (a0 : List Sc) : Option (List Sc) := f_l_toIntS_k a0 some

def f_l_toGroup_k {R : Type} (a0 : List Sc) (kR : List Sc → Option R) : Option R :=
  bo (f_l_toIntS a0) [] fun r1 =>
  kR r1
def f_l_toGroup (a0 : List Sc) : Option (List Sc) := f_l_toGroup_k a0 some

def f_s_l1In_k {R : Type} (x0 : Int) (low1 : Int) (high2 : Int) (kR : Bool → Option R) : Option R :=
  br ((decide (x0 ≥ low1)) == true)
    (kR (decide (x0 ≤ high2)))
    (kR false)
def f_s_l1In (x0 : Int) (low1 : Int) (high2 : Int) : Option (Bool) := f_s_l1In_k x0 low1 high2 some

def f_s_IsGroup_k0 {R : Type} (g1 : List Sc) (n3 : Int) (i4 : Int) (kN : Int × Int → Option R) (kA : Int → Option R) (kB : Unit → Option R) : Option R :=
  br ((decide (i4 < (g1.length : Int))))
    (br (okAt g1 i4)
      (bo (f_s_l1In (atI g1 i4) 2 24) false fun r1 =>
      br ((!r1) == false)
        (br ((decide (i4 > 2)))
          (kB ())
          (br (okAt g1 i4)
            (kN ((w64 (n3 * (atI g1 i4))), (w64 (i4 + 1))))
            none))
        (kB ()))
      none)
    (kA n3)
def f_s_IsGroup_r0 (g1 : List Sc) : (Int × Int) → Option (Ro (Int × Int) (Int) (Unit)) := fun s => f_s_IsGroup_k0 g1 s.1 s.2 (fun s => some (.again s)) (fun e => some (.one e)) (fun e => some (.two e))
def f_s_IsGroup_k {R : Type} (g0 : List Sc) (kR : Bool → Option R) : Option R :=
  bl (loopL (f_s_IsGroup_r0 g0) (1, 0)) 0 ()
    (fun e2 =>
      kR (decide (e2 ≤ 24)))
    (fun e2 =>
      kR false)
def f_s_IsGroup (g0 : List Sc) : Option (Bool) := f_s_IsGroup_k g0 some

def f_s_l2Order_k0 {R : Type} (g1 : List Sc) (n3 : Int) (i4 : Int) (kN : Int × Int → Option R) (kA : Int → Option R) : Option R :=
  br ((decide (i4 < (g1.length : Int))))
    (br (okAt g1 i4)
      (kN ((w64 (n3 * (atI g1 i4))), (w64 (i4 + 1))))
      none)
    (kA n3)
def f_s_l2Order_r0 (g1 : List Sc) : (Int × Int) → Option (Ro (Int × Int) (Int) (Unit)) := fun s => f_s_l2Order_k0 g1 s.1 s.2 (fun s => some (.again s)) (fun e => some (.one e))
def f_s_l2Order_k {R : Type} (g0 : List Sc) (kR : Int → Option R) : Option R :=
  bl1 (loopL (f_s_l2Order_r0 g0) (1, 0)) 0 fun e1 =>
  kR e1
def f_s_l2Order (g0 : List Sc) : Option (Int) := f_s_l2Order_k g0 some

def f_s_l3List_k0 {R : Type} (out3 : List Sc) (i4 : Int) (x5 : Int) (kN : List Sc × Int × Int → Option R) (kA : List Sc → Option R) : Option R :=
  br ((decide (x5 > 0)))
    (br (((and64 x5 1) == 1))
      (br (decide (out3.length + [(Sc.n .i64 i4)].length ≤ lim))
        (kN ((out3 ++ [(Sc.n .i64 i4)]), (w64 (i4 + 1)), (shr64 x5 1)))
        none)
      (kN (out3, (w64 (i4 + 1)), (shr64 x5 1))))
    (kA out3)
def f_s_l3List_r0 : (List Sc × Int × Int) → Option (Ro (List Sc × Int × Int) (List Sc) (Unit)) := fun s => f_s_l3List_k0 s.1 s.2.1 s.2.2 (fun s => some (.again s)) (fun e => some (.one e))
def f_s_l3List_k {R : Type} (a0 : Int) (kR : List Sc → Option R) : Option R :=
  bl1 (loopL (f_s_l3List_r0) ([], 0, a0)) [] fun e1 =>
  kR e1
def f_s_l3List (a0 : Int) : Option (List Sc) := f_s_l3List_k a0 some

def f_s_l2Add_k0 {R : Type} (g3 : List Sc) (x1 : Int) (y2 : Int) (z7 : Int) (step8 : Int) (i9 : Int) (kN : Int × Int × Int × Int × Int → Option R) (kA : Int → Option R) : Option R :=
  br ((decide (i9 < (g3.length : Int))))
    (br (okAt g3 i9)
      (br ((atI g3 i9) == 0)
        none
        (br ((atI g3 i9) == 0)
          none
          (br ((atI g3 i9) == 0)
            none
            (br ((atI g3 i9) == 0)
              none
              (br ((atI g3 i9) == 0)
                none
                (kN ((w64 (x1.tdiv (atI g3 i9))), (w64 (y2.tdiv (atI g3 i9))), (w64 (z7 + (w64 (((w64 ((x1.tmod (atI g3 i9)) + (y2.tmod (atI g3 i9)))).tmod (atI g3 i9)) * step8)))), (w64 (step8 * (atI g3 i9))), (w64 (i9 + 1)))))))))
      none)
    (kA z7)
def f_s_l2Add_r0 (g3 : List Sc) : (Int × Int × Int × Int × Int) → Option (Ro (Int × Int × Int × Int × Int) (Int) (Unit)) := fun s => f_s_l2Add_k0 g3 s.1 s.2.1 s.2.2.1 s.2.2.2.1 s.2.2.2.2 (fun s => some (.again s)) (fun e => some (.one e))
def f_s_l2Add_k {R : Type} (g0 : List Sc) (x1 : Int) (y2 : Int) (kR : Int → Option R) : Option R :=
  bl1 (loopL (f_s_l2Add_r0 g0) (x1, y2, 0, 1, 0)) 0 fun e1 =>
  kR e1
def f_s_l2Add (g0 : List Sc) (x1 : Int) (y2 : Int) : Option (Int) := f_s_l2Add_k g0 x1 y2 some

def f_s_l3Shift_k0 {R : Type} (x2 : Int) (g3 : List Sc) (out7 : Int) (l8 : List Sc) (i9 : Int) (kN : Int × List Sc × Int → Option R) (kA : Int → Option R) : Option R :=
  br ((decide (i9 < (l8.length : Int))))
    (br (inRange i9 (l8).length)
      (br (kAt l8 i9.toNat)
        (bo (f_s_l2Add g3 (atN l8 i9.toNat) x2) 0 fun r2 =>
        br (decide (r2 < 0))
          none
          (kN ((or64 out7 (shl64 1 r2)), l8, (w64 (i9 + 1)))))
        none)
      none)
    (kA out7)
def f_s_l3Shift_r0 (x2 : Int) (g3 : List Sc) : (Int × List Sc × Int) → Option (Ro (Int × List Sc × Int) (Int) (Unit)) := fun s => f_s_l3Shift_k0 x2 g3 s.1 s.2.1 s.2.2 (fun s => some (.again s)) (fun e => some (.one e))
def f_s_l3Shift_k {R : Type} (g0 : List Sc) (a1 : Int) (x2 : Int) (kR : Int → Option R) : Option R :=
  bo (f_s_l3List a1) [] fun r1 =>
  bl1 (loopL (f_s_l3Shift_r0 x2 g0) (0, r1, 0)) 0 fun e3 =>
  kR e3
def f_s_l3Shift (g0 : List Sc) (a1 : Int) (x2 : Int) : Option (Int) := f_s_l3Shift_k g0 a1 x2 some

def f_s_l17Count_k0 {R : Type} (self : (List Sc × Int × Int × Int) → Option (Int)) (left1 : Int) (sums2 : Int) (g4 : List Sc) (n9 : Int) (x10 : Int) (kN : Int × Int → Option R) (kA : Int → Option R) : Option R :=
  bo (f_s_l2Order g4) 0 fun r1 =>
  br ((decide (x10 < r1)))
    (bo (f_s_l3Shift g4 sums2 x10) 0 fun r2 =>
    br (decide (x10 < 0))
      none
      (br (((and64 (or64 (or64 sums2 r2) (shl64 1 x10)) 1) == 0))
        (bo (self (g4, (w64 (left1 - 1)), (or64 (or64 sums2 r2) (shl64 1 x10)), x10)) 0 fun r3 =>
        kN ((w64 (n9 + r3)), (w64 (x10 + 1))))
        (kN (n9, (w64 (x10 + 1))))))
    (kA n9)
def f_s_l17Count_r0 (self : (List Sc × Int × Int × Int) → Option (Int)) (left1 : Int) (sums2 : Int) (g4 : List Sc) : (Int × Int) → Option (Ro (Int × Int) (Int) (Unit)) := fun s => f_s_l17Count_k0 self left1 sums2 g4 s.1 s.2 (fun s => some (.again s)) (fun e => some (.one e))
def f_s_l17Count_k {R : Type} (self : (List Sc × Int × Int × Int) → Option (Int)) (g0 : List Sc) (left1 : Int) (sums2 : Int) (least3 : Int) (kR : Int → Option R) : Option R :=
  br ((left1 == 0))
    (kR 1)
    (bl1 (loopL (f_s_l17Count_r0 self left1 sums2 g0) (0, least3)) 0 fun e4 =>
    kR e4)
def f_s_l17Count_n : Nat → (List Sc × Int × Int × Int) → Option (Int)
  | 0, _ => none
  | n + 1, a => f_s_l17Count_k (f_s_l17Count_n n) a.1 a.2.1 a.2.2.1 a.2.2.2 some
def f_s_l17Count (g0 : List Sc) (left1 : Int) (sums2 : Int) (least3 : Int) : Option (Int) := limF f_s_l17Count_n (g0, left1, sums2, least3)

def f_s_CountZeroFree_k {R : Type} (g0 : List Sc) (n1 : Int) (kR : Int → Option R) : Option R :=
  bo (f_s_IsGroup g0) false fun r1 =>
  br ((!r1) == false)
    (bo (f_s_l2Order g0) 0 fun r2 =>
    br ((decide (r2 > 9)) == false)
      (bo (f_s_l1In n1 0 8) false fun r3 =>
      br ((!r3))
        (kR (-1))
        (bo (f_s_l17Count g0 n1 0 1) 0 fun r4 =>
        kR r4))
      (kR (-1)))
    (kR (-1))
def f_s_CountZeroFree (g0 : List Sc) (n1 : Int) : Option (Int) := f_s_CountZeroFree_k g0 n1 some

def f_i_within_k {R : Type} (x0 : Int) (lo1 : Int) (hi2 : Int) (kR : Bool → Option R) : Option R :=
  br ((decide (x0 ≥ lo1)) == true)
    (kR (decide (x0 ≤ hi2)))
    (kR false)
def f_i_within (x0 : Int) (lo1 : Int) (hi2 : Int) : Option (Bool) := f_i_within_k x0 lo1 hi2 some

def f_i_IsGroup_k0 {R : Type} (t11 : List Sc) (t12 : Int) (n3 : Int) (t13 : Int) (kN : Int × Int → Option R) (kA : Int → Option R) (kB : Unit → Option R) : Option R :=
  br ((decide (t13 < t12)))
    (br (okAt t11 t13)
      (bo (f_i_within (atI t11 t13) 2 24) false fun r1 =>
      br ((!r1))
        (kB ())
        (kN ((w64 (n3 * (atI t11 t13))), (w64 (t13 + 1)))))
      none)
    (kA n3)
def f_i_IsGroup_r0 (t11 : List Sc) (t12 : Int) : (Int × Int) → Option (Ro (Int × Int) (Int) (Unit)) := fun s => f_i_IsGroup_k0 t11 t12 s.1 s.2 (fun s => some (.again s)) (fun e => some (.one e)) (fun e => some (.two e))
def f_i_IsGroup_k {R : Type} (g0 : List Sc) (kR : Bool → Option R) : Option R :=
  br ((decide ((g0.length : Int) > 3)))
    (kR false)
    (bl (loopL (f_i_IsGroup_r0 g0 (g0.length : Int)) (1, 0)) 0 ()
      (fun e2 =>
        kR (decide (e2 ≤ 24)))
      (fun e2 =>
        kR false))
def f_i_IsGroup (g0 : List Sc) : Option (Bool) := f_i_IsGroup_k g0 some

def f_i_OrderOf_k0 {R : Type} (t10 : List Sc) (t11 : Int) (n3 : Int) (t12 : Int) (kN : Int × Int → Option R) (kA : Int → Option R) : Option R :=
  br ((decide (t12 < t11)))
    (br (okAt t10 t12)
      (kN ((w64 (n3 * (atI t10 t12))), (w64 (t12 + 1))))
      none)
    (kA n3)
def f_i_OrderOf_r0 (t10 : List Sc) (t11 : Int) : (Int × Int) → Option (Ro (Int × Int) (Int) (Unit)) := fun s => f_i_OrderOf_k0 t10 t11 s.1 s.2 (fun s => some (.again s)) (fun e => some (.one e))
def f_i_OrderOf_k {R : Type} (g0 : List Sc) (kR : Int → Option R) : Option R :=
  bo (f_i_IsGroup g0) false fun r1 =>
  br ((!r1))
    (kR 0)
    (bl1 (loopL (f_i_OrderOf_r0 g0 (g0.length : Int)) (1, 0)) 0 fun e2 =>
    kR e2)
def f_i_OrderOf (g0 : List Sc) : Option (Int) := f_i_OrderOf_k g0 some

def f_i_CountZeroFree_1_k {R : Type} (l0 : List Sc) (sums1 : Int) (p2 : Int) (h0 : Int) (kR : Int → Option R) : Option R :=
  br (((l0.length : Int) == p2))
    (kR (w64 (h0 + 1)))
    (kR h0)
def f_i_CountZeroFree_1 (l0 : List Sc) (sums1 : Int) (p2 : Int) (h0 : Int) : Option (Int) := f_i_CountZeroFree_1_k l0 sums1 p2 h0 some

def f_i_Group_add_k0 {R : Type} (t12 : List Sc) (t13 : Int) (x1 : Int) (y2 : Int) (sum7 : Int) (unit8 : Int) (t14 : Int) (kN : Int × Int × Int × Int × Int → Option R) (kA : Int → Option R) : Option R :=
  br ((decide (t14 < t13)))
    (br (okAt t12 t14)
      (br ((atI t12 t14) == 0)
        none
        (br ((atI t12 t14) == 0)
          none
          (br ((atI t12 t14) == 0)
            none
            (br ((atI t12 t14) == 0)
              none
              (br ((atI t12 t14) == 0)
                none
                (kN ((w64 (x1.tdiv (atI t12 t14))), (w64 (y2.tdiv (atI t12 t14))), (w64 (sum7 + (w64 (((w64 ((x1.tmod (atI t12 t14)) + (y2.tmod (atI t12 t14)))).tmod (atI t12 t14)) * unit8)))), (w64 (unit8 * (atI t12 t14))), (w64 (t14 + 1)))))))))
      none)
    (kA sum7)
def f_i_Group_add_r0 (t12 : List Sc) (t13 : Int) : (Int × Int × Int × Int × Int) → Option (Ro (Int × Int × Int × Int × Int) (Int) (Unit)) := fun s => f_i_Group_add_k0 t12 t13 s.1 s.2.1 s.2.2.1 s.2.2.2.1 s.2.2.2.2 (fun s => some (.again s)) (fun e => some (.one e))
def f_i_Group_add_k {R : Type} (g0 : List Sc) (x1 : Int) (y2 : Int) (kR : Int → Option R) : Option R :=
  bl1 (loopL (f_i_Group_add_r0 g0 (g0.length : Int)) (x1, y2, 0, 1, 0)) 0 fun e1 =>
  kR e1
def f_i_Group_add (g0 : List Sc) (x1 : Int) (y2 : Int) : Option (Int) := f_i_Group_add_k g0 x1 y2 some

def f_i_Group_shift_k0 {R : Type} (a1 : Int) (x2 : Int) (g3 : List Sc) (out7 : Int) (y8 : Int) (kN : Int × Int → Option R) (kA : Int → Option R) : Option R :=
  br (decide (y8 < 0))
    none
    (br (((shr64 a1 y8) != 0))
      (br (decide (y8 < 0))
        none
        (br (((and64 (shr64 a1 y8) 1) == 1))
          (bo (f_i_Group_add g3 x2 y8) 0 fun r1 =>
          br (decide (r1 < 0))
            none
            (kN ((or64 out7 (shl64 1 r1)), (w64 (y8 + 1)))))
          (kN (out7, (w64 (y8 + 1))))))
      (kA out7))
def f_i_Group_shift_r0 (a1 : Int) (x2 : Int) (g3 : List Sc) : (Int × Int) → Option (Ro (Int × Int) (Int) (Unit)) := fun s => f_i_Group_shift_k0 a1 x2 g3 s.1 s.2 (fun s => some (.again s)) (fun e => some (.one e))
def f_i_Group_shift_k {R : Type} (g0 : List Sc) (a1 : Int) (x2 : Int) (kR : Int → Option R) : Option R :=
  bl1 (loopL (f_i_Group_shift_r0 a1 x2 g0) (0, 0)) 0 fun e2 =>
  kR e2
def f_i_Group_shift (g0 : List Sc) (a1 : Int) (x2 : Int) : Option (Int) := f_i_Group_shift_k g0 a1 x2 some

def f_i_in_k {R : Type} (a0 : Int) (x1 : Int) (kR : Bool → Option R) : Option R :=
  br (decide (x1 < 0))
    none
    (kR ((and64 (shr64 a0 x1) 1) == 1))
def f_i_in (a0 : Int) (x1 : Int) : Option (Bool) := f_i_in_k a0 x1 some

def f_i_copyInts_k {R : Type} (l0 : List Sc) (kR : List Sc → Option R) : Option R :=
  br (decide (([] : List Sc).length + l0.length ≤ lim))
    (kR ([] ++ l0))
    none
def f_i_copyInts (l0 : List Sc) : Option (List Sc) := f_i_copyInts_k l0 some

def f_i_zeroFree_CountZeroFree_1_k0 {R : Type} (self : (List Sc × List Sc × Int × Int × Int) → Option (Int)) (l1 : List Sc) (sums2 : Int) (visit3 : Int) (g4 : List Sc) (v0 : Int) (x9 : Int) (kN : Int × Int → Option R) (kA : Int → Option R) : Option R :=
  bo (f_i_OrderOf g4) 0 fun r2 =>
  br ((decide (x9 < r2)))
    (bo (f_i_Group_shift g4 sums2 x9) 0 fun r3 =>
    br (decide (x9 < 0))
      none
      (bo (f_i_in (or64 (or64 sums2 r3) (shl64 1 x9)) 0) false fun r4 =>
      br ((!r4))
        (bo (f_i_copyInts l1) [] fun r5 =>
        br (decide (r5.length + [(Sc.n .i64 x9)].length ≤ lim))
          (bo (self (g4, (r5 ++ [(Sc.n .i64 x9)]), (or64 (or64 sums2 r3) (shl64 1 x9)), visit3, v0)) 0 fun r6 =>
          kN (r6, (w64 (x9 + 1))))
          none)
        (kN (v0, (w64 (x9 + 1))))))
    (kA v0)
def f_i_zeroFree_CountZeroFree_1_r0 (self : (List Sc × List Sc × Int × Int × Int) → Option (Int)) (l1 : List Sc) (sums2 : Int) (visit3 : Int) (g4 : List Sc) : (Int × Int) → Option (Ro (Int × Int) (Int) (Unit)) := fun s => f_i_zeroFree_CountZeroFree_1_k0 self l1 sums2 visit3 g4 s.1 s.2 (fun s => some (.again s)) (fun e => some (.one e))
def f_i_zeroFree_CountZeroFree_1_k {R : Type} (self : (List Sc × List Sc × Int × Int × Int) → Option (Int)) (g0 : List Sc) (l1 : List Sc) (sums2 : Int) (visit3 : Int) (h0 : Int) (kR : Int → Option R) : Option R :=
  bo (f_i_CountZeroFree_1 l1 sums2 visit3 h0) 0 fun r1 =>
  br ((decide ((l1.length : Int) > 0)))
    (br (okAt l1 (w64 ((l1.length : Int) - 1)))
      (bl1 (loopL (f_i_zeroFree_CountZeroFree_1_r0 self l1 sums2 visit3 g0) (r1, (atI l1 (w64 ((l1.length : Int) - 1))))) 0 fun e7 =>
      kR e7)
      none)
    (bl1 (loopL (f_i_zeroFree_CountZeroFree_1_r0 self l1 sums2 visit3 g0) (r1, 1)) 0 fun e8 =>
    kR e8)
def f_i_zeroFree_CountZeroFree_1_n : Nat → (List Sc × List Sc × Int × Int × Int) → Option (Int)
  | 0, _ => none
  | n + 1, a => f_i_zeroFree_CountZeroFree_1_k (f_i_zeroFree_CountZeroFree_1_n n) a.1 a.2.1 a.2.2.1 a.2.2.2.1 a.2.2.2.2 some
def f_i_zeroFree_CountZeroFree_1 (g0 : List Sc) (l1 : List Sc) (sums2 : Int) (visit3 : Int) (h0 : Int) : Option (Int) := limF f_i_zeroFree_CountZeroFree_1_n (g0, l1, sums2, visit3, h0)

def f_i_CountZeroFree_k {R : Type} (g0 : List Sc) (n1 : Int) (kR : Int → Option R) : Option R :=
  bo (f_i_IsGroup g0) false fun r1 =>
  br ((!r1) == false)
    (bo (f_i_OrderOf g0) 0 fun r2 =>
    br ((decide (r2 > 9)) == false)
      (bo (f_i_within n1 0 8) false fun r3 =>
      br ((!r3))
        (kR (-1))
        (bo (f_i_zeroFree_CountZeroFree_1 g0 [] 0 n1 0) 0 fun r4 =>
        kR r4))
      (kR (-1)))
    (kR (-1))
def f_i_CountZeroFree (g0 : List Sc) (n1 : Int) : Option (Int) := f_i_CountZeroFree_k g0 n1 some

def f_l_eqIntS_k0 {R : Type} (a0 : List Sc) (b1 : List Sc) (i5 : Int) (kN : Int → Option R) (kA : Unit → Option R) (kB : Unit → Option R) : Option R :=
  br ((decide (i5 < (a0.length : Int))))
    (br (okAt a0 i5)
      (br (okAt b1 i5)
        (br (((atI a0 i5) != (atI b1 i5)))
          (kB ())
          (kN (w64 (i5 + 1))))
        none)
      none)
    (kA ())
def f_l_eqIntS_r0 (a0 : List Sc) (b1 : List Sc) : Int → Option (Ro (Int) (Unit) (Unit)) := fun s => f_l_eqIntS_k0 a0 b1 s (fun s => some (.again s)) (fun e => some (.one e)) (fun e => some (.two e))
def f_l_eqIntS_k {R : Type} (a0 : List Sc) (b1 : List Sc) (kR : Bool → Option R) : Option R :=
  br (((a0.length : Int) != (b1.length : Int)))
    (kR false)
    (bl (loopL (f_l_eqIntS_r0 a0 b1) 0) () ()
      (fun e1 =>
        kR true)
      (fun e1 =>
        kR false))
def f_l_eqIntS (a0 : List Sc) (b1 : List Sc) : Option (Bool) := f_l_eqIntS_k a0 b1 some

def f_l_eqGroup_k {R : Type} (a0 : List Sc) (b1 : List Sc) (kR : Bool → Option R) : Option R :=
  bo (f_l_eqIntS a0 b1) false fun r1 =>
  br ((!r1))
    (kR false)
    (kR true)
def f_l_eqGroup (a0 : List Sc) (b1 : List Sc) : Option (Bool) := f_l_eqGroup_k a0 b1 some

def f_l_FnExactCountZeroFree_k {R : Type} (aG0 : List Sc) (aN1 : Int) (kR : Bool → Option R) : Option R :=
  bo (f_l_szGroup aG0 1048576) 0 fun r1 =>
  br ((decide (r1 < 0)))
    (kR true)
    (bo (f_l_toGroup aG0) [] fun r2 =>
    bo (f_s_CountZeroFree r2 aN1) 0 fun r3 =>
    bo (f_l_toGroup aG0) [] fun r4 =>
    bo (f_i_CountZeroFree r4 aN1) 0 fun r5 =>
    br ((r5 != r3))
      (kR false)
      (bo (f_l_toGroup aG0) [] fun r6 =>
      bo (f_l_eqGroup r4 r6) false fun r7 =>
      br ((!r7))
        (kR false)
        (kR true)))
def f_l_FnExactCountZeroFree (aG0 : List Sc) (aN1 : Int) : Option (Bool) := f_l_FnExactCountZeroFree_k aG0 aN1 some

def f_s_l17Longest_k0 {R : Type} (self : (List Sc × List Sc × Int × Int) → Option (List Sc)) (l1 : List Sc) (sums2 : Int) (g4 : List Sc) (best9 : List Sc) (x10 : Int) (kN : List Sc × Int → Option R) (kA : List Sc × Int → Option R) : Option R :=
  bo (f_s_l2Order g4) 0 fun r1 =>
  br ((decide (x10 < r1)))
    (bo (f_s_l3Shift g4 sums2 x10) 0 fun r2 =>
    br (decide (x10 < 0))
      none
      (br (((and64 (or64 (or64 sums2 r2) (shl64 1 x10)) 1) == 1))
        (kN (best9, (w64 (x10 + 1))))
        (br (decide (([] : List Sc).length + l1.length ≤ lim))
          (br (decide (([] ++ l1).length + [(Sc.n .i64 x10)].length ≤ lim))
            (bo (self (g4, (([] ++ l1) ++ [(Sc.n .i64 x10)]), (or64 (or64 sums2 r2) (shl64 1 x10)), x10)) [] fun r3 =>
            br ((decide ((r3.length : Int) > (best9.length : Int))))
              (kN (r3, (w64 (x10 + 1))))
              (kN (best9, (w64 (x10 + 1)))))
            none)
          none)))
    (kA (best9, x10))
def f_s_l17Longest_r0 (self : (List Sc × List Sc × Int × Int) → Option (List Sc)) (l1 : List Sc) (sums2 : Int) (g4 : List Sc) : (List Sc × Int) → Option (Ro (List Sc × Int) (List Sc × Int) (Unit)) := fun s => f_s_l17Longest_k0 self l1 sums2 g4 s.1 s.2 (fun s => some (.again s)) (fun e => some (.one e))
def f_s_l17Longest_k {R : Type} (self : (List Sc × List Sc × Int × Int) → Option (List Sc)) (g0 : List Sc) (l1 : List Sc) (sums2 : Int) (least3 : Int) (kR : List Sc → Option R) : Option R :=
  bl1 (loopL (f_s_l17Longest_r0 self l1 sums2 g0) (l1, least3)) ([], 0) fun e4 =>
  kR e4.1
def f_s_l17Longest_n : Nat → (List Sc × List Sc × Int × Int) → Option (List Sc)
  | 0, _ => none
  | n + 1, a => f_s_l17Longest_k (f_s_l17Longest_n n) a.1 a.2.1 a.2.2.1 a.2.2.2 some
def f_s_l17Longest (g0 : List Sc) (l1 : List Sc) (sums2 : Int) (least3 : Int) : Option (List Sc) := limF f_s_l17Longest_n (g0, l1, sums2, least3)

def f_s_LongestZeroFree_k {R : Type} (g0 : List Sc) (kR : List Sc × Bool → Option R) : Option R :=
  bo (f_s_IsGroup g0) false fun r1 =>
  br ((!r1) == false)
    (bo (f_s_l2Order g0) 0 fun r2 =>
    br ((decide (r2 > 9)))
      (kR ([], false))
      (bo (f_s_l17Longest g0 [] 0 1) [] fun r3 =>
      kR (r3, true)))
    (kR ([], false))
def f_s_LongestZeroFree (g0 : List Sc) : Option (List Sc × Bool) := f_s_LongestZeroFree_k g0 some

def f_s_DavenportConstant_k {R : Type} (g0 : List Sc) (kR : Int → Option R) : Option R :=
  bo (f_s_LongestZeroFree g0) ([], false) fun r1 =>
  br ((!r1.2))
    (kR (-1))
    (kR (w64 ((r1.1.length : Int) + 1)))
def f_s_DavenportConstant (g0 : List Sc) : Option (Int) := f_s_DavenportConstant_k g0 some

def f_i_LongestZeroFree_1_k {R : Type} (l0 : List Sc) (sums1 : Int) (h0 : List Sc) (kR : List Sc → Option R) : Option R :=
  br ((decide ((l0.length : Int) > (h0.length : Int))))
    (kR l0)
    (kR h0)
def f_i_LongestZeroFree_1 (l0 : List Sc) (sums1 : Int) (h0 : List Sc) : Option (List Sc) := f_i_LongestZeroFree_1_k l0 sums1 h0 some

def f_i_zeroFree_LongestZeroFree_1_k0 {R : Type} (self : (List Sc × List Sc × Int × List Sc) → Option (List Sc)) (l1 : List Sc) (sums2 : Int) (g4 : List Sc) (v0 : List Sc) (x9 : Int) (kN : List Sc × Int → Option R) (kA : List Sc → Option R) : Option R :=
  bo (f_i_OrderOf g4) 0 fun r2 =>
  br ((decide (x9 < r2)))
    (bo (f_i_Group_shift g4 sums2 x9) 0 fun r3 =>
    br (decide (x9 < 0))
      none
      (bo (f_i_in (or64 (or64 sums2 r3) (shl64 1 x9)) 0) false fun r4 =>
      br ((!r4))
        (bo (f_i_copyInts l1) [] fun r5 =>
        br (decide (r5.length + [(Sc.n .i64 x9)].length ≤ lim))
          (bo (self (g4, (r5 ++ [(Sc.n .i64 x9)]), (or64 (or64 sums2 r3) (shl64 1 x9)), v0)) [] fun r6 =>
          kN (r6, (w64 (x9 + 1))))
          none)
        (kN (v0, (w64 (x9 + 1))))))
    (kA v0)
def f_i_zeroFree_LongestZeroFree_1_r0 (self : (List Sc × List Sc × Int × List Sc) → Option (List Sc)) (l1 : List Sc) (sums2 : Int) (g4 : List Sc) : (List Sc × Int) → Option (Ro (List Sc × Int) (List Sc) (Unit)) := fun s => f_i_zeroFree_LongestZeroFree_1_k0 self l1 sums2 g4 s.1 s.2 (fun s => some (.again s)) (fun e => some (.one e))
def f_i_zeroFree_LongestZeroFree_1_k {R : Type} (self : (List Sc × List Sc × Int × List Sc) → Option (List Sc)) (g0 : List Sc) (l1 : List Sc) (sums2 : Int) (h0 : List Sc) (kR : List Sc → Option R) : Option R :=
  bo (f_i_LongestZeroFree_1 l1 sums2 h0) [] fun r1 =>
  br ((decide ((l1.length : Int) > 0)))
    (br (okAt l1 (w64 ((l1.length : Int) - 1)))
      (bl1 (loopL (f_i_zeroFree_LongestZeroFree_1_r0 self l1 sums2 g0) (r1, (atI l1 (w64 ((l1.length : Int) - 1))))) [] fun e7 =>
      kR e7)
      none)
    (bl1 (loopL (f_i_zeroFree_LongestZeroFree_1_r0 self l1 sums2 g0) (r1, 1)) [] fun e8 =>
    kR e8)
def f_i_zeroFree_LongestZeroFree_1_n : Nat → (List Sc × List Sc × Int × List Sc) → Option (List Sc)
  | 0, _ => none
  | n + 1, a => f_i_zeroFree_LongestZeroFree_1_k (f_i_zeroFree_LongestZeroFree_1_n n) a.1 a.2.1 a.2.2.1 a.2.2.2 some
def f_i_zeroFree_LongestZeroFree_1 (g0 : List Sc) (l1 : List Sc) (sums2 : Int) (h0 : List Sc) : Option (List Sc) := limF f_i_zeroFree_LongestZeroFree_1_n (g0, l1, sums2, h0)

def f_i_LongestZeroFree_k {R : Type} (g0 : List Sc) (kR : List Sc × Bool → Option R) : Option R :=
  bo (f_i_IsGroup g0) false fun r1 =>
  br ((!r1) == false)
    (bo (f_i_OrderOf g0) 0 fun r2 =>
    br ((decide (r2 > 9)))
      (kR ([], false))
      (bo (f_i_zeroFree_LongestZeroFree_1 g0 [] 0 []) [] fun r3 =>
      kR (r3, true)))
    (kR ([], false))
def f_i_LongestZeroFree (g0 : List Sc) : Option (List Sc × Bool) := f_i_LongestZeroFree_k g0 some

def f_i_DavenportConstant_k {R : Type} (g0 : List Sc) (kR : Int → Option R) : Option R :=
  bo (f_i_LongestZeroFree g0) ([], false) fun r1 =>
  br ((!r1.2))
    (kR (-1))
    (kR (w64 ((r1.1.length : Int) + 1)))
def f_i_DavenportConstant (g0 : List Sc) : Option (Int) := f_i_DavenportConstant_k g0 some

def f_l_FnExactDavenportConstant_k {R : Type} (aG0 : List Sc) (kR : Bool → Option R) : Option R :=
  bo (f_l_szGroup aG0 1048576) 0 fun r1 =>
  br ((decide (r1 < 0)))
    (kR true)
    (bo (f_l_toGroup aG0) [] fun r2 =>
    bo (f_s_DavenportConstant r2) 0 fun r3 =>
    bo (f_l_toGroup aG0) [] fun r4 =>
    bo (f_i_DavenportConstant r4) 0 fun r5 =>
    br ((r5 != r3))
      (kR false)
      (bo (f_l_toGroup aG0) [] fun r6 =>
      bo (f_l_eqGroup r4 r6) false fun r7 =>
      br ((!r7))
        (kR false)
        (kR true)))
def f_l_FnExactDavenportConstant (aG0 : List Sc) : Option (Bool) := f_l_FnExactDavenportConstant_k aG0 some

def f_l_markIntS_io_k0 {R : Type} (v0 : List Sc) (k1 : Int) (i5 : Int) (kN : List Sc × Int × Int → Option R) (kA : List Sc × Int → Option R) : Option R :=
  br ((decide (i5 < (v0.length : Int))))
    (br (inRange i5 (v0).length)
      (kN ((v0.set i5.toNat (Sc.n .i64 k1)), (w64 (k1 + 1)), (w64 (i5 + 1))))
      none)
    (kA (v0, k1))
def f_l_markIntS_io_r0 : (List Sc × Int × Int) → Option (Ro (List Sc × Int × Int) (List Sc × Int) (Unit)) := fun s => f_l_markIntS_io_k0 s.1 s.2.1 s.2.2 (fun s => some (.again s)) (fun e => some (.one e))
def f_l_markIntS_io_k {R : Type} (k1 : Int) (h0 : List Sc) (kR : Int × List Sc → Option R) : Option R :=
  bl1 (loopL (f_l_markIntS_io_r0) (h0, k1, 0)) ([], 0) fun e1 =>
  kR (e1.2, e1.1)
def f_l_markIntS_io (k1 : Int) (h0 : List Sc) : Option (Int × List Sc) := f_l_markIntS_io_k k1 h0 some

def f_l_markGroup_io_k {R : Type} (k1 : Int) (h0 : List Sc) (kR : Int × List Sc → Option R) : Option R :=
  bo (f_l_markIntS_io k1 h0) (0, []) fun r1 =>
  kR (r1.1, r1.2)
def f_l_markGroup_io (k1 : Int) (h0 : List Sc) : Option (Int × List Sc) := f_l_markGroup_io_k k1 h0 some

def f_l_heldIntS_k0 {R : Type} (a0 : List Sc) (k1 : Int) (i5 : Int) (kN : Int × Int → Option R) (kA : Int → Option R) (kB : Unit → Option R) : Option R :=
  br ((decide (i5 < (a0.length : Int))))
    (br (okAt a0 i5)
      (br (((atI a0 i5) != k1))
        (kB ())
        (kN ((w64 (k1 + 1)), (w64 (i5 + 1)))))
      none)
    (kA k1)
def f_l_heldIntS_r0 (a0 : List Sc) : (Int × Int) → Option (Ro (Int × Int) (Int) (Unit)) := fun s => f_l_heldIntS_k0 a0 s.1 s.2 (fun s => some (.again s)) (fun e => some (.one e)) (fun e => some (.two e))
def f_l_heldIntS_k {R : Type} (a0 : List Sc) (k1 : Int) (kR : Int → Option R) : Option R :=
  bl (loopL (f_l_heldIntS_r0 a0) (k1, 0)) 0 ()
    (fun e1 =>
      kR e1)
    (fun e1 =>
      kR (-1))
def f_l_heldIntS (a0 : List Sc) (k1 : Int) : Option (Int) := f_l_heldIntS_k a0 k1 some

def f_l_FnExactLongestZeroFree_k {R : Type} (L0 : List Sc) (kR : Bool → Option R) : Option R :=
  bo (f_l_szGroup L0 1048576) 0 fun r1 =>
  br ((decide (r1 < 0)))
    (kR true)
    (bo (f_l_toGroup L0) [] fun r2 =>
    bo (f_s_LongestZeroFree r2) ([], false) fun r3 =>
    bo (f_l_toGroup L0) [] fun r4 =>
    bo (f_i_LongestZeroFree r4) ([], false) fun r5 =>
    bo (f_l_eqIntS r5.1 r3.1) false fun r6 =>
    br ((!r6) == false)
      (br ((!(r5.2 == r3.2)))
        (kR false)
        (bo (f_l_toGroup L0) [] fun r7 =>
        bo (f_l_eqGroup r4 r7) false fun r8 =>
        br ((!r8))
          (kR false)
          (bo (f_l_markGroup_io 1 r4) (0, []) fun r9 =>
          br ((decide (r9.1 < 0)) == false)
            (bo (f_l_eqIntS r5.1 r3.1) false fun r10 =>
            br ((!r10) == false)
              (br ((!(r5.2 == r3.2)))
                (kR false)
                (bo (f_l_markIntS_io 1 r5.1) (0, []) fun r11 =>
                bo (f_l_heldIntS r11.2 1) 0 fun r12 =>
                br ((decide (r12 < 0)))
                  (kR false)
                  (br ((r12 != r11.1))
                    (kR false)
                    (bo (f_l_toGroup L0) [] fun r13 =>
                    bo (f_i_LongestZeroFree r13) ([], false) fun r14 =>
                    bo (f_l_eqIntS r14.1 r3.1) false fun r15 =>
                    br ((!r15) == false)
                      (br ((!(r14.2 == r3.2)))
                        (kR false)
                        (bo (f_l_heldIntS r11.2 1) 0 fun r16 =>
                        br ((decide (r16 < 0)))
                          (kR false)
                          (br ((r16 != r11.1))
                            (kR false)
                            (kR true))))
                      (kR false)))))
              (kR false))
            (kR false))))
      (kR false))
def f_l_FnExactLongestZeroFree (L0 : List Sc) : Option (Bool) := f_l_FnExactLongestZeroFree_k L0 some

def f_s_IsSet_k {R : Type} (g0 : List Sc) (a1 : Int) (kR : Bool → Option R) : Option R :=
  bo (f_s_IsGroup g0) false fun r1 =>
  br (r1 == true)
    (bo (f_s_l2Order g0) 0 fun r2 =>
    br (decide (r2 < 0))
      none
      (bo (f_s_l1In a1 0 (w64 ((shl64 1 r2) - 1))) false fun r3 =>
      kR r3))
    (kR false)
def f_s_IsSet (g0 : List Sc) (a1 : Int) : Option (Bool) := f_s_IsSet_k g0 a1 some

def f_s_l3Bits_k0 {R : Type} (n3 : Int) (x4 : Int) (kN : Int × Int → Option R) (kA : Int → Option R) : Option R :=
  br ((decide (x4 > 0)))
    (kN ((w64 (n3 + (and64 x4 1))), (shr64 x4 1)))
    (kA n3)
def f_s_l3Bits_r0 : (Int × Int) → Option (Ro (Int × Int) (Int) (Unit)) := fun s => f_s_l3Bits_k0 s.1 s.2 (fun s => some (.again s)) (fun e => some (.one e))
def f_s_l3Bits_k {R : Type} (a0 : Int) (kR : Int → Option R) : Option R :=
  bl1 (loopL (f_s_l3Bits_r0) (0, a0)) 0 fun e1 =>
  kR e1
def f_s_l3Bits (a0 : Int) : Option (Int) := f_s_l3Bits_k a0 some

def f_s_l15Keeps_k6 {R : Type} (t2 : List Sc) (t3 : List Sc) (t4 : List Sc) (t5 : List Sc) (t9 : Int) (t10 : Int) (t11 : Int) (t12 : Int) (kN : Int → Option R) (kA : Unit → Option R) (kB : Unit → Option R) : Option R :=
  br ((decide (t12 < (t2.length : Int))))
    (br (okAt t2 t9)
      (br (okAt t2 t10)
        (bo (f_s_l2Add t4 (atI t2 t9) (atI t2 t10)) 0 fun r1 =>
        br (okAt t2 t11)
          (br (okAt t2 t12)
            (bo (f_s_l2Add t4 (atI t2 t11) (atI t2 t12)) 0 fun r2 =>
            br ((r1 == r2) == true)
              (br (okAt t3 t9)
                (br (okAt t3 t10)
                  (bo (f_s_l2Add t5 (atI t3 t9) (atI t3 t10)) 0 fun r3 =>
                  br (okAt t3 t11)
                    (br (okAt t3 t12)
                      (bo (f_s_l2Add t5 (atI t3 t11) (atI t3 t12)) 0 fun r4 =>
                      br ((r3 != r4))
                        (kB ())
                        (kN (w64 (t12 + 1))))
                      none)
                    none)
                  none)
                none)
              (kN (w64 (t12 + 1))))
            none)
          none)
        none)
      none)
    (kA ())
def f_s_l15Keeps_r6 (t2 : List Sc) (t3 : List Sc) (t4 : List Sc) (t5 : List Sc) (t9 : Int) (t10 : Int) (t11 : Int) : Int → Option (Ro (Int) (Unit) (Unit)) := fun s => f_s_l15Keeps_k6 t2 t3 t4 t5 t9 t10 t11 s (fun s => some (.again s)) (fun e => some (.one e)) (fun e => some (.two e))
def f_s_l15Keeps_k4 {R : Type} (t2 : List Sc) (t3 : List Sc) (t4 : List Sc) (t5 : List Sc) (t9 : Int) (t10 : Int) (t11 : Int) (kN : Int → Option R) (kA : Int → Option R) (kB : Unit → Option R) : Option R :=
  br ((decide (t11 ≤ t9)))
    (bl (loopL (f_s_l15Keeps_r6 t2 t3 t4 t5 t9 t10 t11) t11) () ()
      (fun e5 =>
        kN (w64 (t11 + 1)))
      (fun e5 =>
        kB ()))
    (kA t11)
def f_s_l15Keeps_r4 (t2 : List Sc) (t3 : List Sc) (t4 : List Sc) (t5 : List Sc) (t9 : Int) (t10 : Int) : Int → Option (Ro (Int) (Int) (Unit)) := fun s => f_s_l15Keeps_k4 t2 t3 t4 t5 t9 t10 s (fun s => some (.again s)) (fun e => some (.one e)) (fun e => some (.two e))
def f_s_l15Keeps_k2 {R : Type} (t2 : List Sc) (t3 : List Sc) (t4 : List Sc) (t5 : List Sc) (t9 : Int) (t10 : Int) (kN : Int → Option R) (kA : Int → Option R) (kB : Unit → Option R) : Option R :=
  br ((decide (t10 < (t2.length : Int))))
    (bl (loopL (f_s_l15Keeps_r4 t2 t3 t4 t5 t9 t10) 0) 0 ()
      (fun e6 =>
        kN (w64 (t10 + 1)))
      (fun e6 =>
        kB ()))
    (kA t10)
def f_s_l15Keeps_r2 (t2 : List Sc) (t3 : List Sc) (t4 : List Sc) (t5 : List Sc) (t9 : Int) : Int → Option (Ro (Int) (Int) (Unit)) := fun s => f_s_l15Keeps_k2 t2 t3 t4 t5 t9 s (fun s => some (.again s)) (fun e => some (.one e)) (fun e => some (.two e))
def f_s_l15Keeps_k0 {R : Type} (t2 : List Sc) (t3 : List Sc) (t4 : List Sc) (t5 : List Sc) (t9 : Int) (kN : Int → Option R) (kA : Int → Option R) (kB : Unit → Option R) : Option R :=
  br ((decide (t9 < (t2.length : Int))))
    (bl (loopL (f_s_l15Keeps_r2 t2 t3 t4 t5 t9) t9) 0 ()
      (fun e7 =>
        kN (w64 (t9 + 1)))
      (fun e7 =>
        kB ()))
    (kA t9)
def f_s_l15Keeps_r0 (t2 : List Sc) (t3 : List Sc) (t4 : List Sc) (t5 : List Sc) : Int → Option (Ro (Int) (Int) (Unit)) := fun s => f_s_l15Keeps_k0 t2 t3 t4 t5 s (fun s => some (.again s)) (fun e => some (.one e)) (fun e => some (.two e))
def f_s_l15Keeps_k {R : Type} (L0 : List Sc) (p1 : List Sc) (p2 : List Sc) (p3 : List Sc) (kR : Bool → Option R) : Option R :=
  bl (loopL (f_s_l15Keeps_r0 p2 p3 L0 p1) 0) 0 ()
    (fun e8 =>
      kR true)
    (fun e8 =>
      kR false)
def f_s_l15Keeps (L0 : List Sc) (p1 : List Sc) (p2 : List Sc) (p3 : List Sc) : Option (Bool) := f_s_l15Keeps_k L0 p1 p2 p3 some

def f_s_l15Search_k0 {R : Type} (self : (List Sc × List Sc × List Sc × List Sc) → Option (Int)) (l2 : List Sc) (m3 : List Sc) (g4 : List Sc) (h5 : List Sc) (n9 : Int) (x10 : Int) (kN : Int × Int → Option R) (kA : Int → Option R) : Option R :=
  bo (f_s_l2Order h5) 0 fun r1 =>
  br ((decide (x10 < r1)))
    (br (decide (([] : List Sc).length + m3.length ≤ lim))
      (br (decide (([] ++ m3).length + [(Sc.n .i64 x10)].length ≤ lim))
        (br (decide (0 ≤ (0 : Int)) && (decide ((0 : Int) ≤ ((([] ++ m3) ++ [(Sc.n .i64 x10)]).length : Int)) && decide (((([] ++ m3) ++ [(Sc.n .i64 x10)]).length : Int) ≤ (l2.length : Int))))
          (bo (f_s_l15Keeps g4 h5 (sliceA l2 0 ((([] ++ m3) ++ [(Sc.n .i64 x10)]).length : Int)) (([] ++ m3) ++ [(Sc.n .i64 x10)])) false fun r2 =>
          br (r2)
            (bo (self (g4, h5, l2, (([] ++ m3) ++ [(Sc.n .i64 x10)]))) 0 fun r3 =>
            kN ((w64 (n9 + r3)), (w64 (x10 + 1))))
            (kN (n9, (w64 (x10 + 1)))))
          none)
        none)
      none)
    (kA n9)
def f_s_l15Search_r0 (self : (List Sc × List Sc × List Sc × List Sc) → Option (Int)) (l2 : List Sc) (m3 : List Sc) (g4 : List Sc) (h5 : List Sc) : (Int × Int) → Option (Ro (Int × Int) (Int) (Unit)) := fun s => f_s_l15Search_k0 self l2 m3 g4 h5 s.1 s.2 (fun s => some (.again s)) (fun e => some (.one e))
def f_s_l15Search_k {R : Type} (self : (List Sc × List Sc × List Sc × List Sc) → Option (Int)) (g0 : List Sc) (h1 : List Sc) (l2 : List Sc) (m3 : List Sc) (kR : Int → Option R) : Option R :=
  br (((m3.length : Int) == (l2.length : Int)))
    (kR 1)
    (bl1 (loopL (f_s_l15Search_r0 self l2 m3 g0 h1) (0, 0)) 0 fun e4 =>
    kR e4)
def f_s_l15Search_n : Nat → (List Sc × List Sc × List Sc × List Sc) → Option (Int)
  | 0, _ => none
  | n + 1, a => f_s_l15Search_k (f_s_l15Search_n n) a.1 a.2.1 a.2.2.1 a.2.2.2 some
def f_s_l15Search (g0 : List Sc) (h1 : List Sc) (l2 : List Sc) (m3 : List Sc) : Option (Int) := limF f_s_l15Search_n (g0, h1, l2, m3)

def f_s_CountFreimanMaps_k {R : Type} (g0 : List Sc) (h1 : List Sc) (a2 : Int) (kR : Int → Option R) : Option R :=
  bo (f_s_IsSet g0 a2) false fun r1 =>
  br ((!r1) == false)
    (bo (f_s_IsGroup h1) false fun r2 =>
    br ((!r2) == false)
      (bo (f_s_l2Order h1) 0 fun r3 =>
      br ((decide (r3 > 8)) == false)
        (bo (f_s_l3Bits a2) 0 fun r4 =>
        bo (f_s_l1In r4 1 4) false fun r5 =>
        br ((!r5))
          (kR (-1))
          (bo (f_s_l3List a2) [] fun r6 =>
          bo (f_s_l15Search g0 h1 r6 []) 0 fun r7 =>
          kR r7))
        (kR (-1)))
      (kR (-1)))
    (kR (-1))
def f_s_CountFreimanMaps (g0 : List Sc) (h1 : List Sc) (a2 : Int) : Option (Int) := f_s_CountFreimanMaps_k g0 h1 a2 some

def f_i_IsSet_k {R : Type} (g0 : List Sc) (a1 : Int) (kR : Bool → Option R) : Option R :=
  bo (f_i_IsGroup g0) false fun r1 =>
  br (r1 == true)
    (br ((decide (a1 ≥ 0)) == true)
      (bo (f_i_OrderOf g0) 0 fun r2 =>
      br (decide (r2 < 0))
        none
        (kR (decide (a1 < (shl64 1 r2)))))
      (kR false))
    (kR false)
def f_i_IsSet (g0 : List Sc) (a1 : Int) : Option (Bool) := f_i_IsSet_k g0 a1 some

def f_i_bits_k0 {R : Type} (a0 : Int) (n3 : Int) (kN : Int × Int → Option R) (kA : Int → Option R) : Option R :=
  br ((a0 != 0))
    (kN ((and64 a0 (w64 (a0 - 1))), (w64 (n3 + 1))))
    (kA n3)
def f_i_bits_r0 : (Int × Int) → Option (Ro (Int × Int) (Int) (Unit)) := fun s => f_i_bits_k0 s.1 s.2 (fun s => some (.again s)) (fun e => some (.one e))
def f_i_bits_k {R : Type} (a0 : Int) (kR : Int → Option R) : Option R :=
  bl1 (loopL (f_i_bits_r0) (a0, 0)) 0 fun e1 =>
  kR e1
def f_i_bits (a0 : Int) : Option (Int) := f_i_bits_k a0 some

def f_i_members_k0 {R : Type} (a0 : Int) (out3 : List Sc) (x4 : Int) (kN : List Sc × Int → Option R) (kA : List Sc → Option R) : Option R :=
  br (decide (x4 < 0))
    none
    (br (((shr64 a0 x4) != 0))
      (br (decide (x4 < 0))
        none
        (br (((and64 (shr64 a0 x4) 1) == 1))
          (br (decide (out3.length + [(Sc.n .i64 x4)].length ≤ lim))
            (kN ((out3 ++ [(Sc.n .i64 x4)]), (w64 (x4 + 1))))
            none)
          (kN (out3, (w64 (x4 + 1))))))
      (kA out3))
def f_i_members_r0 (a0 : Int) : (List Sc × Int) → Option (Ro (List Sc × Int) (List Sc) (Unit)) := fun s => f_i_members_k0 a0 s.1 s.2 (fun s => some (.again s)) (fun e => some (.one e))
def f_i_members_k {R : Type} (a0 : Int) (kR : List Sc → Option R) : Option R :=
  bl1 (loopL (f_i_members_r0 a0) ([], 0)) [] fun e1 =>
  kR e1
def f_i_members (a0 : Int) : Option (List Sc) := f_i_members_k a0 some

def f_i_keeps_k6 {R : Type} (t2 : List Sc) (t3 : List Sc) (t4 : List Sc) (t5 : List Sc) (t9 : Int) (t10 : Int) (t11 : Int) (t14 : Int) (t15 : Int) (t26 : Int) (t27 : Int) (t12 : Int) (kN : Int → Option R) (kA : Unit → Option R) (kB : Unit → Option R) : Option R :=
  br ((decide (t12 < (t2.length : Int))))
    (br (okAt t2 t9)
      (br (okAt t2 t10)
        (bo (f_i_Group_add t4 (atI t2 t9) (atI t2 t10)) 0 fun r1 =>
        br (okAt t2 t11)
          (br (okAt t2 t12)
            (bo (f_i_Group_add t4 (atI t2 t11) (atI t2 t12)) 0 fun r2 =>
            br ((r1 == r2) == true)
              (br (okAt t3 t9)
                (br (okAt t3 t10)
                  (bo (f_i_Group_add t5 (atI t3 t9) (atI t3 t10)) 0 fun r3 =>
                  br (okAt t3 t11)
                    (br (okAt t3 t12)
                      (bo (f_i_Group_add t5 (atI t3 t11) (atI t3 t12)) 0 fun r4 =>
                      br ((r3 != r4))
                        (kB ())
                        (kN (w64 (t12 + 1))))
                      none)
                    none)
                  none)
                none)
              (kN (w64 (t12 + 1))))
            none)
          none)
        none)
      none)
    (kA ())
def f_i_keeps_r6 (t2 : List Sc) (t3 : List Sc) (t4 : List Sc) (t5 : List Sc) (t9 : Int) (t10 : Int) (t11 : Int) (t14 : Int) (t15 : Int) (t26 : Int) (t27 : Int) : Int → Option (Ro (Int) (Unit) (Unit)) := fun s => f_i_keeps_k6 t2 t3 t4 t5 t9 t10 t11 t14 t15 t26 t27 s (fun s => some (.again s)) (fun e => some (.one e)) (fun e => some (.two e))
def f_i_keeps_k4 {R : Type} (t2 : List Sc) (t3 : List Sc) (t4 : List Sc) (t5 : List Sc) (t9 : Int) (t10 : Int) (t14 : Int) (t15 : Int) (t26 : Int) (t27 : Int) (kN : Int → Option R) (kA : Int → Option R) (kB : Unit → Option R) : Option R :=
  br ((decide (t27 < t26)))
    (bl (loopL (f_i_keeps_r6 t2 t3 t4 t5 t9 t10 t27 t14 t15 t26 t27) t27) () ()
      (fun e5 =>
        kN (w64 (t27 + 1)))
      (fun e5 =>
        kB ()))
    (kA t27)
def f_i_keeps_r4 (t2 : List Sc) (t3 : List Sc) (t4 : List Sc) (t5 : List Sc) (t9 : Int) (t10 : Int) (t14 : Int) (t15 : Int) (t26 : Int) : Int → Option (Ro (Int) (Int) (Unit)) := fun s => f_i_keeps_k4 t2 t3 t4 t5 t9 t10 t14 t15 t26 s (fun s => some (.again s)) (fun e => some (.one e)) (fun e => some (.two e))
def f_i_keeps_k2 {R : Type} (t2 : List Sc) (t3 : List Sc) (t4 : List Sc) (t5 : List Sc) (t9 : Int) (t14 : Int) (t15 : Int) (t10 : Int) (kN : Int → Option R) (kA : Int → Option R) (kB : Unit → Option R) : Option R :=
  br ((decide (t10 < (t2.length : Int))))
    (bl (loopL (f_i_keeps_r4 t2 t3 t4 t5 t9 t10 t14 t15 (t2.length : Int)) 0) 0 ()
      (fun e6 =>
        kN (w64 (t10 + 1)))
      (fun e6 =>
        kB ()))
    (kA t10)
def f_i_keeps_r2 (t2 : List Sc) (t3 : List Sc) (t4 : List Sc) (t5 : List Sc) (t9 : Int) (t14 : Int) (t15 : Int) : Int → Option (Ro (Int) (Int) (Unit)) := fun s => f_i_keeps_k2 t2 t3 t4 t5 t9 t14 t15 s (fun s => some (.again s)) (fun e => some (.one e)) (fun e => some (.two e))
def f_i_keeps_k0 {R : Type} (t2 : List Sc) (t3 : List Sc) (t4 : List Sc) (t5 : List Sc) (t14 : Int) (t15 : Int) (kN : Int → Option R) (kA : Int → Option R) (kB : Unit → Option R) : Option R :=
  br ((decide (t15 < t14)))
    (bl (loopL (f_i_keeps_r2 t2 t3 t4 t5 t15 t14 t15) t15) 0 ()
      (fun e7 =>
        kN (w64 (t15 + 1)))
      (fun e7 =>
        kB ()))
    (kA t15)
def f_i_keeps_r0 (t2 : List Sc) (t3 : List Sc) (t4 : List Sc) (t5 : List Sc) (t14 : Int) : Int → Option (Ro (Int) (Int) (Unit)) := fun s => f_i_keeps_k0 t2 t3 t4 t5 t14 s (fun s => some (.again s)) (fun e => some (.one e)) (fun e => some (.two e))
def f_i_keeps_k {R : Type} (L0 : List Sc) (p1 : List Sc) (p2 : List Sc) (p3 : List Sc) (kR : Bool → Option R) : Option R :=
  bl (loopL (f_i_keeps_r0 p2 p3 L0 p1 (p2.length : Int)) 0) 0 ()
    (fun e8 =>
      kR true)
    (fun e8 =>
      kR false)
def f_i_keeps (L0 : List Sc) (p1 : List Sc) (p2 : List Sc) (p3 : List Sc) : Option (Bool) := f_i_keeps_k L0 p1 p2 p3 some

def f_i_CountFreimanMaps_1_k0 {R : Type} (self : (Int × List Sc × List Sc × List Sc × List Sc × Int × List Sc × List Sc) → Option (List Sc × List Sc × Int × List Sc × List Sc)) (i0 : Int) (t21 : Int) (v0 : List Sc) (v1 : List Sc) (v2 : Int) (v3_0 : List Sc) (v3_1 : List Sc) (t22 : Int) (kN : List Sc × List Sc × Int × List Sc × List Sc × Int → Option R) (kA : List Sc × List Sc × Int × List Sc × List Sc → Option R) : Option R :=
  br ((decide (t22 < t21)))
    (br (inRange i0 (v1).length)
      (bo (self ((w64 (i0 + 1)), v3_0, v3_1, v0, (v1.set i0.toNat (Sc.n .i64 t22)), v2, v3_0, v3_1)) ([], [], 0, [], []) fun r3 =>
      kN (r3.1, r3.2.1, r3.2.2.1, r3.2.2.2.1, r3.2.2.2.2, (w64 (t22 + 1))))
      none)
    (kA (v0, v1, v2, v3_0, v3_1))
def f_i_CountFreimanMaps_1_r0 (self : (Int × List Sc × List Sc × List Sc × List Sc × Int × List Sc × List Sc) → Option (List Sc × List Sc × Int × List Sc × List Sc)) (i0 : Int) (t21 : Int) : (List Sc × List Sc × Int × List Sc × List Sc × Int) → Option (Ro (List Sc × List Sc × Int × List Sc × List Sc × Int) (List Sc × List Sc × Int × List Sc × List Sc) (Unit)) := fun s => f_i_CountFreimanMaps_1_k0 self i0 t21 s.1 s.2.1 s.2.2.1 s.2.2.2.1 s.2.2.2.2.1 s.2.2.2.2.2 (fun s => some (.again s)) (fun e => some (.one e))
def f_i_CountFreimanMaps_1_k {R : Type} (self : (Int × List Sc × List Sc × List Sc × List Sc × Int × List Sc × List Sc) → Option (List Sc × List Sc × Int × List Sc × List Sc)) (i0 : Int) (p2 : List Sc) (p3 : List Sc) (h0 : List Sc) (h1 : List Sc) (h2 : Int) (h3_0 : List Sc) (h3_1 : List Sc) (kR : List Sc × List Sc × Int × List Sc × List Sc → Option R) : Option R :=
  br ((i0 == (h0.length : Int)))
    (bo (f_i_keeps p2 p3 h0 h1) false fun r1 =>
    br (r1)
      (kR (h0, h1, (w64 (h2 + 1)), h3_0, h3_1))
      (kR (h0, h1, h2, h3_0, h3_1)))
    (bo (f_i_OrderOf p3) 0 fun r2 =>
    bl1 (loopL (f_i_CountFreimanMaps_1_r0 self i0 r2) (h0, h1, h2, h3_0, h3_1, 0)) ([], [], 0, [], []) fun e4 =>
    kR (e4.1, e4.2.1, e4.2.2.1, e4.2.2.2.1, e4.2.2.2.2))
def f_i_CountFreimanMaps_1_n : Nat → (Int × List Sc × List Sc × List Sc × List Sc × Int × List Sc × List Sc) → Option (List Sc × List Sc × Int × List Sc × List Sc)
  | 0, _ => none
  | n + 1, a => f_i_CountFreimanMaps_1_k (f_i_CountFreimanMaps_1_n n) a.1 a.2.1 a.2.2.1 a.2.2.2.1 a.2.2.2.2.1 a.2.2.2.2.2.1 a.2.2.2.2.2.2.1 a.2.2.2.2.2.2.2 some
def f_i_CountFreimanMaps_1 (i0 : Int) (p2 : List Sc) (p3 : List Sc) (h0 : List Sc) (h1 : List Sc) (h2 : Int) (h3_0 : List Sc) (h3_1 : List Sc) : Option (List Sc × List Sc × Int × List Sc × List Sc) := limF f_i_CountFreimanMaps_1_n (i0, p2, p3, h0, h1, h2, h3_0, h3_1)

def f_i_CountFreimanMaps_k {R : Type} (g0 : List Sc) (h1 : List Sc) (a2 : Int) (kR : Int → Option R) : Option R :=
  bo (f_i_IsSet g0 a2) false fun r1 =>
  br ((!r1) == false)
    (bo (f_i_bits a2) 0 fun r2 =>
    bo (f_i_within r2 1 4) false fun r3 =>
    br ((!r3) == false)
      (bo (f_i_OrderOf h1) 0 fun r4 =>
      bo (f_i_within r4 1 8) false fun r5 =>
      br ((!r5))
        (kR (-1))
        (bo (f_i_members a2) [] fun r6 =>
        br (decide (0 ≤ (r6.length : Int)) && (decide ((r6.length : Int) ≤ (r6.length : Int)) && decide ((r6.length : Int) ≤ (lim : Int))))
          (bo (f_i_CountFreimanMaps_1 0 g0 h1 r6 (List.replicate (r6.length : Int).toNat (Sc.n .i64 0)) 0 g0 h1) ([], [], 0, [], []) fun r7 =>
          kR r7.2.2.1)
          none))
      (kR (-1)))
    (kR (-1))
def f_i_CountFreimanMaps (g0 : List Sc) (h1 : List Sc) (a2 : Int) : Option (Int) := f_i_CountFreimanMaps_k g0 h1 a2 some

def f_l_FnExactCountFreimanMaps_k {R : Type} (aG0 : List Sc) (aH1 : List Sc) (aA2 : Int) (kR : Bool → Option R) : Option R :=
  bo (f_l_szGroup aG0 1048576) 0 fun r1 =>
  br ((decide (r1 < 0)))
    (kR true)
    (bo (f_l_szGroup aH1 r1) 0 fun r2 =>
    br ((decide (r2 < 0)))
      (kR true)
      (bo (f_l_toGroup aG0) [] fun r3 =>
      bo (f_l_toGroup aH1) [] fun r4 =>
      bo (f_s_CountFreimanMaps r3 r4 aA2) 0 fun r5 =>
      bo (f_l_toGroup aG0) [] fun r6 =>
      bo (f_l_toGroup aH1) [] fun r7 =>
      bo (f_i_CountFreimanMaps r6 r7 aA2) 0 fun r8 =>
      br ((r8 != r5))
        (kR false)
        (bo (f_l_toGroup aG0) [] fun r9 =>
        bo (f_l_eqGroup r6 r9) false fun r10 =>
        br ((!r10))
          (kR false)
          (bo (f_l_toGroup aH1) [] fun r11 =>
          bo (f_l_eqGroup r7 r11) false fun r12 =>
          br ((!r12))
            (kR false)
            (kR true)))))
def f_l_FnExactCountFreimanMaps (aG0 : List Sc) (aH1 : List Sc) (aA2 : Int) : Option (Bool) := f_l_FnExactCountFreimanMaps_k aG0 aH1 aA2 some

def f_s_l2Negate_k0 {R : Type} (g2 : List Sc) (x1 : Int) (z5 : Int) (step6 : Int) (i7 : Int) (kN : Int × Int × Int × Int → Option R) (kA : Int → Option R) : Option R :=
  br ((decide (i7 < (g2.length : Int))))
    (br (okAt g2 i7)
      (br ((atI g2 i7) == 0)
        none
        (br ((atI g2 i7) == 0)
          none
          (br ((atI g2 i7) == 0)
            none
            (kN ((w64 (x1.tdiv (atI g2 i7))), (w64 (z5 + (w64 (((w64 ((atI g2 i7) - (x1.tmod (atI g2 i7)))).tmod (atI g2 i7)) * step6)))), (w64 (step6 * (atI g2 i7))), (w64 (i7 + 1)))))))
      none)
    (kA z5)
def f_s_l2Negate_r0 (g2 : List Sc) : (Int × Int × Int × Int) → Option (Ro (Int × Int × Int × Int) (Int) (Unit)) := fun s => f_s_l2Negate_k0 g2 s.1 s.2.1 s.2.2.1 s.2.2.2 (fun s => some (.again s)) (fun e => some (.one e))
def f_s_l2Negate_k {R : Type} (g0 : List Sc) (x1 : Int) (kR : Int → Option R) : Option R :=
  bl1 (loopL (f_s_l2Negate_r0 g0) (x1, 0, 1, 0)) 0 fun e1 =>
  kR e1
def f_s_l2Negate (g0 : List Sc) (x1 : Int) : Option (Int) := f_s_l2Negate_k g0 x1 some

def f_s_l20Search_k0 {R : Type} (self : (List Sc × Int × Int × Int × Int × Int) → Option (List Sc)) (t1 : Int) (t2 : Int) (t3 : Int) (t4 : Int) (t5 : Int) (t6 : List Sc) (t13 : Int) (kN : Int → Option R) (kA : Int → Option R) : Option R :=
  br (decide (t13 < 0))
    none
    (br (((and64 (shr64 t3 t13) 1) == 1))
      (kN (w64 (t13 + 1)))
      (kA t13))
def f_s_l20Search_r0 (self : (List Sc × Int × Int × Int × Int × Int) → Option (List Sc)) (t1 : Int) (t2 : Int) (t3 : Int) (t4 : Int) (t5 : Int) (t6 : List Sc) : Int → Option (Ro (Int) (Int) (Unit)) := fun s => f_s_l20Search_k0 self t1 t2 t3 t4 t5 t6 s (fun s => some (.again s)) (fun e => some (.one e))
def f_s_l20Search_k2 {R : Type} (self : (List Sc × Int × Int × Int × Int × Int) → Option (List Sc)) (t1 : Int) (t2 : Int) (t3 : Int) (t4 : Int) (t5 : Int) (t6 : List Sc) (t13 : Int) (t14 : List Sc) (t15 : List Sc) (t16 : Int) (kN : List Sc × List Sc × Int → Option R) (kA : List Sc → Option R) : Option R :=
  br ((decide (t16 < (t15.length : Int))) == true)
    (br ((decide ((t14.length : Int) < t5)))
      (br (inRange t16 (t15).length)
        (br (kAt t15 t16.toNat)
          (bo (f_s_l2Negate t6 (atN t15 t16.toNat)) 0 fun r3 =>
          bo (f_s_l2Add t6 t13 r3) 0 fun r4 =>
          bo (f_s_l3Shift t6 t1 r4) 0 fun r5 =>
          br (((and64 r5 t3) == 0))
            (br (decide (r4 < 0))
              none
              (bo (self (t6, t1, t2, (or64 t3 r5), (or64 t4 (shl64 1 r4)), (w64 (t5 - (t14.length : Int))))) [] fun r6 =>
              br (decide (t14.length + r6.length ≤ lim))
                (kN ((t14 ++ r6), t15, (w64 (t16 + 1))))
                none))
            (kN (t14, t15, (w64 (t16 + 1)))))
          none)
        none)
      (kA t14))
    (kA t14)
def f_s_l20Search_r2 (self : (List Sc × Int × Int × Int × Int × Int) → Option (List Sc)) (t1 : Int) (t2 : Int) (t3 : Int) (t4 : Int) (t5 : Int) (t6 : List Sc) (t13 : Int) : (List Sc × List Sc × Int) → Option (Ro (List Sc × List Sc × Int) (List Sc) (Unit)) := fun s => f_s_l20Search_k2 self t1 t2 t3 t4 t5 t6 t13 s.1 s.2.1 s.2.2 (fun s => some (.again s)) (fun e => some (.one e))
def f_s_l20Search_k {R : Type} (self : (List Sc × Int × Int × Int × Int × Int) → Option (List Sc)) (L0 : List Sc) (p1 : Int) (p2 : Int) (p3 : Int) (p4 : Int) (p5 : Int) (kR : List Sc → Option R) : Option R :=
  br ((p3 == p2))
    (kR [(Sc.n .i64 p4)])
    (bl1 (loopL (f_s_l20Search_r0 self p1 p2 p3 p4 p5 L0) 0) 0 fun e1 =>
    bo (f_s_l3List p1) [] fun r2 =>
    bl1 (loopL (f_s_l20Search_r2 self p1 p2 p3 p4 p5 L0 e1) ([], r2, 0)) [] fun e7 =>
    kR e7)
def f_s_l20Search_n : Nat → (List Sc × Int × Int × Int × Int × Int) → Option (List Sc)
  | 0, _ => none
  | n + 1, a => f_s_l20Search_k (f_s_l20Search_n n) a.1 a.2.1 a.2.2.1 a.2.2.2.1 a.2.2.2.2.1 a.2.2.2.2.2 some
def f_s_l20Search (L0 : List Sc) (p1 : Int) (p2 : Int) (p3 : Int) (p4 : Int) (p5 : Int) : Option (List Sc) := limF f_s_l20Search_n (L0, p1, p2, p3, p4, p5)

def f_s_FindTile_k {R : Type} (g0 : List Sc) (a1 : Int) (kR : Int × Bool → Option R) : Option R :=
  bo (f_s_IsSet g0 a1) false fun r1 =>
  br ((!r1) == false)
    (br ((a1 == 0))
      (kR (0, false))
      (bo (f_s_l2Order g0) 0 fun r2 =>
      br (decide (r2 < 0))
        none
        (bo (f_s_l20Search g0 a1 (w64 ((shl64 1 r2) - 1)) a1 1 1) [] fun r3 =>
        br (((r3.length : Int) == 0))
          (kR (0, false))
          (br (inRange 0 (r3).length)
            (br (kAt r3 (0 : Int).toNat)
              (kR ((atN r3 (0 : Int).toNat), true))
              none)
            none))))
    (kR (0, false))
def f_s_FindTile (g0 : List Sc) (a1 : Int) : Option (Int × Bool) := f_s_FindTile_k g0 a1 some

def f_i_FullSet_k {R : Type} (g0 : List Sc) (kR : Int → Option R) : Option R :=
  bo (f_i_IsGroup g0) false fun r1 =>
  br ((!r1))
    (kR 0)
    (bo (f_i_OrderOf g0) 0 fun r2 =>
    br (decide (r2 < 0))
      none
      (kR (w64 ((shl64 1 r2) - 1))))
def f_i_FullSet (g0 : List Sc) : Option (Int) := f_i_FullSet_k g0 some

def f_i_Group_negate_k0 {R : Type} (t10 : List Sc) (t11 : Int) (x1 : Int) (sum5 : Int) (unit6 : Int) (t12 : Int) (kN : Int × Int × Int × Int → Option R) (kA : Int → Option R) : Option R :=
  br ((decide (t12 < t11)))
    (br (okAt t10 t12)
      (br ((atI t10 t12) == 0)
        none
        (br ((atI t10 t12) == 0)
          none
          (br ((atI t10 t12) == 0)
            none
            (kN ((w64 (x1.tdiv (atI t10 t12))), (w64 (sum5 + (w64 (((w64 ((atI t10 t12) - (x1.tmod (atI t10 t12)))).tmod (atI t10 t12)) * unit6)))), (w64 (unit6 * (atI t10 t12))), (w64 (t12 + 1)))))))
      none)
    (kA sum5)
def f_i_Group_negate_r0 (t10 : List Sc) (t11 : Int) : (Int × Int × Int × Int) → Option (Ro (Int × Int × Int × Int) (Int) (Unit)) := fun s => f_i_Group_negate_k0 t10 t11 s.1 s.2.1 s.2.2.1 s.2.2.2 (fun s => some (.again s)) (fun e => some (.one e))
def f_i_Group_negate_k {R : Type} (g0 : List Sc) (x1 : Int) (kR : Int → Option R) : Option R :=
  bl1 (loopL (f_i_Group_negate_r0 g0 (g0.length : Int)) (x1, 0, 1, 0)) 0 fun e1 =>
  kR e1
def f_i_Group_negate (g0 : List Sc) (x1 : Int) : Option (Int) := f_i_Group_negate_k g0 x1 some

def f_i_Group_minus_k {R : Type} (g0 : List Sc) (x1 : Int) (y2 : Int) (kR : Int → Option R) : Option R :=
  bo (f_i_Group_negate g0 y2) 0 fun r1 =>
  bo (f_i_Group_add g0 x1 r1) 0 fun r2 =>
  kR r2
def f_i_Group_minus (g0 : List Sc) (x1 : Int) (y2 : Int) : Option (Int) := f_i_Group_minus_k g0 x1 y2 some

def f_i_tiles_1_k0 {R : Type} (self : (Int × Int × List Sc × Int × Int × List Sc × List Sc × Int × Int) → Option (List Sc × List Sc × Int × Int)) (shifts0 : Int) (reached1 : Int) (t2 : List Sc) (t4 : Int) (t5 : Int) (v0 : List Sc) (v1_0 : List Sc) (v1_1 : Int) (v1_2 : Int) (e9 : Int) (kN : List Sc × List Sc × Int × Int × Int → Option R) (kA : List Sc × List Sc × Int × Int × Int → Option R) : Option R :=
  bo (f_i_in reached1 e9) false fun r2 =>
  br (r2)
    (kN (v0, v1_0, v1_1, v1_2, (w64 (e9 + 1))))
    (kA (v0, v1_0, v1_1, v1_2, e9))
def f_i_tiles_1_r0 (self : (Int × Int × List Sc × Int × Int × List Sc × List Sc × Int × Int) → Option (List Sc × List Sc × Int × Int)) (shifts0 : Int) (reached1 : Int) (t2 : List Sc) (t4 : Int) (t5 : Int) : (List Sc × List Sc × Int × Int × Int) → Option (Ro (List Sc × List Sc × Int × Int × Int) (List Sc × List Sc × Int × Int × Int) (Unit)) := fun s => f_i_tiles_1_k0 self shifts0 reached1 t2 t4 t5 s.1 s.2.1 s.2.2.1 s.2.2.2.1 s.2.2.2.2 (fun s => some (.again s)) (fun e => some (.one e))
def f_i_tiles_1_k2 {R : Type} (self : (Int × Int × List Sc × Int × Int × List Sc × List Sc × Int × Int) → Option (List Sc × List Sc × Int × Int)) (shifts0 : Int) (reached1 : Int) (t2 : List Sc) (t4 : Int) (t5 : Int) (e9 : Int) (t29 : Int) (v0 : List Sc) (v1_0 : List Sc) (v1_1 : Int) (v1_2 : Int) (t28 : List Sc) (t30 : Int) (kN : List Sc × List Sc × Int × Int × List Sc × Int → Option R) (kA : List Sc × List Sc × Int × Int → Option R) : Option R :=
  br ((decide (t30 < t29)))
    (br (inRange t30 (t28).length)
      (br (kAt t28 t30.toNat)
        (bo (f_i_Group_minus t2 e9 (atN t28 t30.toNat)) 0 fun r5 =>
        bo (f_i_Group_shift t2 t4 r5) 0 fun r6 =>
        br (((and64 r6 reached1) == 0) == true)
          (br ((decide ((v0.length : Int) < t5)))
            (br (decide (r5 < 0))
              none
              (bo (self ((or64 shifts0 (shl64 1 r5)), (or64 reached1 r6), v1_0, v1_1, v1_2, v0, v1_0, v1_1, v1_2)) ([], [], 0, 0) fun r7 =>
              kN (r7.1, r7.2.1, r7.2.2.1, r7.2.2.2, t28, (w64 (t30 + 1)))))
            (kN (v0, v1_0, v1_1, v1_2, t28, (w64 (t30 + 1)))))
          (kN (v0, v1_0, v1_1, v1_2, t28, (w64 (t30 + 1)))))
        none)
      none)
    (kA (v0, v1_0, v1_1, v1_2))
def f_i_tiles_1_r2 (self : (Int × Int × List Sc × Int × Int × List Sc × List Sc × Int × Int) → Option (List Sc × List Sc × Int × Int)) (shifts0 : Int) (reached1 : Int) (t2 : List Sc) (t4 : Int) (t5 : Int) (e9 : Int) (t29 : Int) : (List Sc × List Sc × Int × Int × List Sc × Int) → Option (Ro (List Sc × List Sc × Int × Int × List Sc × Int) (List Sc × List Sc × Int × Int) (Unit)) := fun s => f_i_tiles_1_k2 self shifts0 reached1 t2 t4 t5 e9 t29 s.1 s.2.1 s.2.2.1 s.2.2.2.1 s.2.2.2.2.1 s.2.2.2.2.2 (fun s => some (.again s)) (fun e => some (.one e))
def f_i_tiles_1_k {R : Type} (self : (Int × Int × List Sc × Int × Int × List Sc × List Sc × Int × Int) → Option (List Sc × List Sc × Int × Int)) (shifts0 : Int) (reached1 : Int) (p2 : List Sc) (p4 : Int) (p5 : Int) (h0 : List Sc) (h1_0 : List Sc) (h1_1 : Int) (h1_2 : Int) (kR : List Sc × List Sc × Int × Int → Option R) : Option R :=
  bo (f_i_FullSet p2) 0 fun r1 =>
  br ((reached1 == r1))
    (br (decide (h0.length + [(Sc.n .i64 shifts0)].length ≤ lim))
      (kR ((h0 ++ [(Sc.n .i64 shifts0)]), h1_0, h1_1, h1_2))
      none)
    (bl1 (loopL (f_i_tiles_1_r0 self shifts0 reached1 p2 p4 p5) (h0, h1_0, h1_1, h1_2, 0)) ([], [], 0, 0, 0) fun e3 =>
    bo (f_i_members p4) [] fun r4 =>
    bl1 (loopL (f_i_tiles_1_r2 self shifts0 reached1 p2 p4 p5 e3.2.2.2.2 (r4.length : Int)) (e3.1, e3.2.1, e3.2.2.1, e3.2.2.2.1, r4, 0)) ([], [], 0, 0) fun e8 =>
    kR (e8.1, e8.2.1, e8.2.2.1, e8.2.2.2))
def f_i_tiles_1_n : Nat → (Int × Int × List Sc × Int × Int × List Sc × List Sc × Int × Int) → Option (List Sc × List Sc × Int × Int)
  | 0, _ => none
  | n + 1, a => f_i_tiles_1_k (f_i_tiles_1_n n) a.1 a.2.1 a.2.2.1 a.2.2.2.1 a.2.2.2.2.1 a.2.2.2.2.2.1 a.2.2.2.2.2.2.1 a.2.2.2.2.2.2.2.1 a.2.2.2.2.2.2.2.2 some
def f_i_tiles_1 (shifts0 : Int) (reached1 : Int) (p2 : List Sc) (p4 : Int) (p5 : Int) (h0 : List Sc) (h1_0 : List Sc) (h1_1 : Int) (h1_2 : Int) : Option (List Sc × List Sc × Int × Int) := limF f_i_tiles_1_n (shifts0, reached1, p2, p4, p5, h0, h1_0, h1_1, h1_2)

def f_i_tiles_k {R : Type} (g0 : List Sc) (a1 : Int) (most2 : Int) (kR : List Sc → Option R) : Option R :=
  bo (f_i_tiles_1 1 a1 g0 a1 most2 [] g0 a1 most2) ([], [], 0, 0) fun r1 =>
  kR r1.1
def f_i_tiles (g0 : List Sc) (a1 : Int) (most2 : Int) : Option (List Sc) := f_i_tiles_k g0 a1 most2 some

def f_i_FindTile_k {R : Type} (g0 : List Sc) (a1 : Int) (kR : Int × Bool → Option R) : Option R :=
  bo (f_i_IsSet g0 a1) false fun r1 =>
  br ((!r1) == false)
    (br ((a1 == 0))
      (kR (0, false))
      (bo (f_i_tiles g0 a1 1) [] fun r2 =>
      br (((r2.length : Int) == 0))
        (kR (0, false))
        (br (inRange 0 (r2).length)
          (br (kAt r2 (0 : Int).toNat)
            (kR ((atN r2 (0 : Int).toNat), true))
            none)
          none)))
    (kR (0, false))
def f_i_FindTile (g0 : List Sc) (a1 : Int) : Option (Int × Bool) := f_i_FindTile_k g0 a1 some

def f_l_FnExactFindTile_k {R : Type} (aG0 : List Sc) (aA1 : Int) (kR : Bool → Option R) : Option R :=
  bo (f_l_szGroup aG0 1048576) 0 fun r1 =>
  br ((decide (r1 < 0)))
    (kR true)
    (bo (f_l_toGroup aG0) [] fun r2 =>
    bo (f_s_FindTile r2 aA1) (0, false) fun r3 =>
    bo (f_l_toGroup aG0) [] fun r4 =>
    bo (f_i_FindTile r4 aA1) (0, false) fun r5 =>
    br ((r5.1 != r3.1) == false)
      (br ((!(r5.2 == r3.2)))
        (kR false)
        (bo (f_l_toGroup aG0) [] fun r6 =>
        bo (f_l_eqGroup r4 r6) false fun r7 =>
        br ((!r7))
          (kR false)
          (kR true)))
      (kR false))
def f_l_FnExactFindTile (aG0 : List Sc) (aA1 : Int) : Option (Bool) := f_l_FnExactFindTile_k aG0 aA1 some

def f_s_OrderOf_k {R : Type} (g0 : List Sc) (kR : Int → Option R) : Option R :=
  bo (f_s_IsGroup g0) false fun r1 =>
  br ((!r1))
    (kR 0)
    (bo (f_s_l2Order g0) 0 fun r2 =>
    kR r2)
def f_s_OrderOf (g0 : List Sc) : Option (Int) := f_s_OrderOf_k g0 some

def f_s_l2Is_k {R : Type} (g0 : List Sc) (x1 : Int) (kR : Bool → Option R) : Option R :=
  br ((decide (x1 ≥ 0)) == true)
    (bo (f_s_OrderOf g0) 0 fun r1 =>
    kR (decide (x1 < r1)))
    (kR false)
def f_s_l2Is (g0 : List Sc) (x1 : Int) : Option (Bool) := f_s_l2Is_k g0 x1 some

def f_s_IsSequence_k0 {R : Type} (l1 : List Sc) (g2 : List Sc) (i5 : Int) (kN : Int → Option R) (kA : Unit → Option R) (kB : Unit → Option R) : Option R :=
  br ((decide (i5 < (l1.length : Int))))
    (br (okAt l1 i5)
      (bo (f_s_l2Is g2 (atI l1 i5)) false fun r1 =>
      br ((!r1) == false)
        (br ((decide (i5 > 0)) == true)
          (br (okAt l1 i5)
            (br (okAt l1 (w64 (i5 - 1)))
              (br ((decide ((atI l1 i5) < (atI l1 (w64 (i5 - 1))))))
                (kB ())
                (kN (w64 (i5 + 1))))
              none)
            none)
          (kN (w64 (i5 + 1))))
        (kB ()))
      none)
    (kA ())
def f_s_IsSequence_r0 (l1 : List Sc) (g2 : List Sc) : Int → Option (Ro (Int) (Unit) (Unit)) := fun s => f_s_IsSequence_k0 l1 g2 s (fun s => some (.again s)) (fun e => some (.one e)) (fun e => some (.two e))
def f_s_IsSequence_k {R : Type} (g0 : List Sc) (l1 : List Sc) (kR : Bool → Option R) : Option R :=
  bl (loopL (f_s_IsSequence_r0 l1 g0) 0) () ()
    (fun e2 =>
      bo (f_s_IsGroup g0) false fun r3 =>
      br (r3 == true)
        (kR (decide ((l1.length : Int) ≤ 12)))
        (kR false))
    (fun e2 =>
      kR false)
def f_s_IsSequence (g0 : List Sc) (l1 : List Sc) : Option (Bool) := f_s_IsSequence_k g0 l1 some

def f_s_WeightedZero_k0 {R : Type} (t1 : List Sc) (t2 : List Sc) (t6 : Int) (t7 : Int) (kN : Int × Int → Option R) (kA : Int → Option R) : Option R :=
  br ((decide (t7 < (t1.length : Int))))
    (kN ((w64 (t6 * 3)), (w64 (t7 + 1))))
    (kA t6)
def f_s_WeightedZero_r0 (t1 : List Sc) (t2 : List Sc) : (Int × Int) → Option (Ro (Int × Int) (Int) (Unit)) := fun s => f_s_WeightedZero_k0 t1 t2 s.1 s.2 (fun s => some (.again s)) (fun e => some (.one e))
def f_s_WeightedZero_k4 {R : Type} (t1 : List Sc) (t2 : List Sc) (t6 : Int) (t8 : Int) (t9 : List Sc) (t10 : Int) (t11 : Int) (t12 : Int) (kN : List Sc × Int × Int × Int → Option R) (kA : List Sc × Int → Option R) : Option R :=
  br ((decide (t12 ≥ 0)))
    (br (((t10.tmod 3) == 1))
      (br (inRange t12 (t9).length)
        (br (okAt t1 t12)
          (bo (f_s_l2Add t2 t11 (atI t1 t12)) 0 fun r3 =>
          kN ((t9.set t12.toNat (Sc.n .i64 1)), (w64 (t10.tdiv 3)), r3, (w64 (t12 - 1))))
          none)
        none)
      (br (((t10.tmod 3) == 2))
        (br (inRange t12 (t9).length)
          (br (okAt t1 t12)
            (bo (f_s_l2Negate t2 (atI t1 t12)) 0 fun r4 =>
            bo (f_s_l2Add t2 t11 r4) 0 fun r5 =>
            kN ((t9.set t12.toNat (Sc.n .i64 (-1))), (w64 (t10.tdiv 3)), r5, (w64 (t12 - 1))))
            none)
          none)
        (kN (t9, (w64 (t10.tdiv 3)), t11, (w64 (t12 - 1))))))
    (kA (t9, t11))
def f_s_WeightedZero_r4 (t1 : List Sc) (t2 : List Sc) (t6 : Int) (t8 : Int) : (List Sc × Int × Int × Int) → Option (Ro (List Sc × Int × Int × Int) (List Sc × Int) (Unit)) := fun s => f_s_WeightedZero_k4 t1 t2 t6 t8 s.1 s.2.1 s.2.2.1 s.2.2.2 (fun s => some (.again s)) (fun e => some (.one e))
def f_s_WeightedZero_k2 {R : Type} (t1 : List Sc) (t2 : List Sc) (t6 : Int) (t8 : Int) (kN : Int → Option R) (kA : Int → Option R) (kB : List Sc → Option R) : Option R :=
  br ((decide (t8 < t6)))
    (br (decide (0 ≤ (t1.length : Int)) && (decide ((t1.length : Int) ≤ (t1.length : Int)) && decide ((t1.length : Int) ≤ (lim : Int))))
      (bl1 (loopL (f_s_WeightedZero_r4 t1 t2 t6 t8) ((List.replicate (t1.length : Int).toNat (Sc.n .i64 0)), t8, 0, (w64 ((t1.length : Int) - 1)))) ([], 0) fun e6 =>
      br ((e6.2 == 0))
        (kB e6.1)
        (kN (w64 (t8 + 1))))
      none)
    (kA t8)
def f_s_WeightedZero_r2 (t1 : List Sc) (t2 : List Sc) (t6 : Int) : Int → Option (Ro (Int) (Int) (List Sc)) := fun s => f_s_WeightedZero_k2 t1 t2 t6 s (fun s => some (.again s)) (fun e => some (.one e)) (fun e => some (.two e))
def f_s_WeightedZero_k {R : Type} (L0 : List Sc) (p1 : List Sc) (kR : List Sc × Bool → Option R) : Option R :=
  bo (f_s_IsSequence L0 p1) false fun r1 =>
  br ((!r1) == false)
    (br ((decide ((p1.length : Int) > 7)))
      (kR ([], false))
      (bl1 (loopL (f_s_WeightedZero_r0 p1 L0) (1, 0)) 0 fun e2 =>
      bl (loopL (f_s_WeightedZero_r2 p1 L0 e2) 1) 0 []
        (fun e7 =>
          kR ([], false))
        (fun e7 =>
          kR (e7, true))))
    (kR ([], false))
def f_s_WeightedZero (L0 : List Sc) (p1 : List Sc) : Option (List Sc × Bool) := f_s_WeightedZero_k L0 p1 some

def f_i_Group_has_k {R : Type} (g0 : List Sc) (x1 : Int) (kR : Bool → Option R) : Option R :=
  bo (f_i_OrderOf g0) 0 fun r1 =>
  bo (f_i_within x1 0 (w64 (r1 - 1))) false fun r2 =>
  kR r2
def f_i_Group_has (g0 : List Sc) (x1 : Int) : Option (Bool) := f_i_Group_has_k g0 x1 some

def f_cmp_isNaN_k {R : Type} (x0 : Int) (kR : Bool → Option R) : Option R :=
  kR (x0 != x0)
def f_cmp_isNaN (x0 : Int) : Option (Bool) := f_cmp_isNaN_k x0 some

def f_cmp_Less_k {R : Type} (x0 : Int) (y1 : Int) (kR : Bool → Option R) : Option R :=
  bo (f_cmp_isNaN x0) false fun r1 =>
  br (r1 == true)
    (bo (f_cmp_isNaN y1) false fun r2 =>
    br ((!r2) == false)
      (kR (decide (x0 < y1)))
      (kR true))
    (kR (decide (x0 < y1)))
def f_cmp_Less (x0 : Int) (y1 : Int) : Option (Bool) := f_cmp_Less_k x0 y1 some

def f_slices_IsSorted_k0 {R : Type} (x0 : List Sc) (i3 : Int) (kN : Int → Option R) (kA : Unit → Option R) (kB : Unit → Option R) : Option R :=
  br ((decide (i3 > 0)))
    (br (okAt x0 i3)
      (br (okAt x0 (w64 (i3 - 1)))
        (bo (f_cmp_Less (atI x0 i3) (atI x0 (w64 (i3 - 1)))) false fun r1 =>
        br (r1)
          (kB ())
          (kN (w64 (i3 - 1))))
        none)
      none)
    (kA ())
def f_slices_IsSorted_r0 (x0 : List Sc) : Int → Option (Ro (Int) (Unit) (Unit)) := fun s => f_slices_IsSorted_k0 x0 s (fun s => some (.again s)) (fun e => some (.one e)) (fun e => some (.two e))
def f_slices_IsSorted_k {R : Type} (x0 : List Sc) (kR : Bool → Option R) : Option R :=
  bl (loopL (f_slices_IsSorted_r0 x0) (w64 ((x0.length : Int) - 1))) () ()
    (fun e2 =>
      kR true)
    (fun e2 =>
      kR false)
def f_slices_IsSorted (x0 : List Sc) : Option (Bool) := f_slices_IsSorted_k x0 some

def f_i_IsSequence_k0 {R : Type} (l1 : List Sc) (g2 : List Sc) (t7 : List Sc) (t8 : Int) (t9 : Int) (kN : Int → Option R) (kA : Unit → Option R) (kB : Unit → Option R) : Option R :=
  br ((decide (t9 < t8)))
    (br (okAt t7 t9)
      (bo (f_i_Group_has g2 (atI t7 t9)) false fun r1 =>
      br ((!r1))
        (kB ())
        (kN (w64 (t9 + 1))))
      none)
    (kA ())
def f_i_IsSequence_r0 (l1 : List Sc) (g2 : List Sc) (t7 : List Sc) (t8 : Int) : Int → Option (Ro (Int) (Unit) (Unit)) := fun s => f_i_IsSequence_k0 l1 g2 t7 t8 s (fun s => some (.again s)) (fun e => some (.one e)) (fun e => some (.two e))
def f_i_IsSequence_k {R : Type} (g0 : List Sc) (l1 : List Sc) (kR : Bool → Option R) : Option R :=
  bl (loopL (f_i_IsSequence_r0 l1 g0 l1 (l1.length : Int)) 0) () ()
    (fun e2 =>
      bo (f_i_IsGroup g0) false fun r3 =>
      br (r3 == true)
        (br ((decide ((l1.length : Int) ≤ 12)) == true)
          (bo (f_slices_IsSorted l1) false fun r4 =>
          kR r4)
          (kR false))
        (kR false))
    (fun e2 =>
      kR false)
def f_i_IsSequence (g0 : List Sc) (l1 : List Sc) : Option (Bool) := f_i_IsSequence_k g0 l1 some

def f_i_Group_times_k0 {R : Type} (x1 : Int) (g3 : List Sc) (t15 : Int) (sum7 : Int) (t16 : Int) (kN : Int × Int → Option R) (kA : Int → Option R) : Option R :=
  br ((decide (t16 < t15)))
    (bo (f_i_Group_add g3 sum7 x1) 0 fun r2 =>
    kN (r2, (w64 (t16 + 1))))
    (kA sum7)
def f_i_Group_times_r0 (x1 : Int) (g3 : List Sc) (t15 : Int) : (Int × Int) → Option (Ro (Int × Int) (Int) (Unit)) := fun s => f_i_Group_times_k0 x1 g3 t15 s.1 s.2 (fun s => some (.again s)) (fun e => some (.one e))
def f_i_Group_times_k {R : Type} (g0 : List Sc) (x1 : Int) (n2 : Int) (kR : Int → Option R) : Option R :=
  br ((decide (n2 < 0)))
    (bo (f_i_Group_negate g0 x1) 0 fun r1 =>
    bl1 (loopL (f_i_Group_times_r0 r1 g0 (w64 (0 - n2))) (0, 0)) 0 fun e3 =>
    kR e3)
    (bl1 (loopL (f_i_Group_times_r0 x1 g0 n2) (0, 0)) 0 fun e4 =>
    kR e4)
def f_i_Group_times (g0 : List Sc) (x1 : Int) (n2 : Int) : Option (Int) := f_i_Group_times_k g0 x1 n2 some

def f_i_WeightedZero_1_k0 {R : Type} (self : (Int × Int × Bool × List Sc × List Sc × List Sc × List Sc × List Sc) → Option (Bool × List Sc × List Sc × List Sc)) (i0 : Int) (sum1 : Int) (some2 : Bool) (t3 : List Sc) (t6 : List Sc) (t23 : Int) (v0 : List Sc) (v1_0 : List Sc) (v1_1 : List Sc) (t22 : List Sc) (t24 : Int) (kN : List Sc × List Sc × List Sc × List Sc × Int → Option R) (kA : List Sc × List Sc × List Sc → Option R) (kB : List Sc × List Sc × List Sc → Option R) : Option R :=
  br ((decide (t24 < t23)))
    (br (inRange t24 (t22).length)
      (br (kAt t22 t24.toNat)
        (br (inRange i0 (v0).length)
          (br (okAt t3 i0)
            (bo (f_i_Group_times t6 (atI t3 i0) (atN t22 t24.toNat)) 0 fun r1 =>
            bo (f_i_Group_add t6 sum1 r1) 0 fun r2 =>
            br (some2 == false)
              (bo (self ((w64 (i0 + 1)), r2, ((atN t22 t24.toNat) != 0), v1_0, v1_1, (v0.set i0.toNat (Sc.n .i64 (atN t22 t24.toNat))), v1_0, v1_1)) (false, [], [], []) fun r3 =>
              br (r3.1)
                (kB (r3.2.1, r3.2.2.1, r3.2.2.2))
                (kN (r3.2.1, r3.2.2.1, r3.2.2.2, t22, (w64 (t24 + 1)))))
              (bo (self ((w64 (i0 + 1)), r2, true, v1_0, v1_1, (v0.set i0.toNat (Sc.n .i64 (atN t22 t24.toNat))), v1_0, v1_1)) (false, [], [], []) fun r4 =>
              br (r4.1)
                (kB (r4.2.1, r4.2.2.1, r4.2.2.2))
                (kN (r4.2.1, r4.2.2.1, r4.2.2.2, t22, (w64 (t24 + 1))))))
            none)
          none)
        none)
      none)
    (kA (v0, v1_0, v1_1))
def f_i_WeightedZero_1_r0 (self : (Int × Int × Bool × List Sc × List Sc × List Sc × List Sc × List Sc) → Option (Bool × List Sc × List Sc × List Sc)) (i0 : Int) (sum1 : Int) (some2 : Bool) (t3 : List Sc) (t6 : List Sc) (t23 : Int) : (List Sc × List Sc × List Sc × List Sc × Int) → Option (Ro (List Sc × List Sc × List Sc × List Sc × Int) (List Sc × List Sc × List Sc) (List Sc × List Sc × List Sc)) := fun s => f_i_WeightedZero_1_k0 self i0 sum1 some2 t3 t6 t23 s.1 s.2.1 s.2.2.1 s.2.2.2.1 s.2.2.2.2 (fun s => some (.again s)) (fun e => some (.one e)) (fun e => some (.two e))
def f_i_WeightedZero_1_k {R : Type} (self : (Int × Int × Bool × List Sc × List Sc × List Sc × List Sc × List Sc) → Option (Bool × List Sc × List Sc × List Sc)) (i0 : Int) (sum1 : Int) (some2 : Bool) (p3 : List Sc) (p6 : List Sc) (h0 : List Sc) (h1_0 : List Sc) (h1_1 : List Sc) (kR : Bool × List Sc × List Sc × List Sc → Option R) : Option R :=
  br ((i0 == (p3.length : Int)))
    (br (some2 == true)
      (kR ((sum1 == 0), h0, h1_0, h1_1))
      (kR (false, h0, h1_0, h1_1)))
    (bl (loopL (f_i_WeightedZero_1_r0 self i0 sum1 some2 p3 p6 ([(Sc.n .i64 0), (Sc.n .i64 1), (Sc.n .i64 (-1))].length : Int)) (h0, h1_0, h1_1, [(Sc.n .i64 0), (Sc.n .i64 1), (Sc.n .i64 (-1))], 0)) ([], [], []) ([], [], [])
      (fun e5 =>
        kR (false, e5.1, e5.2.1, e5.2.2))
      (fun e5 =>
        kR (true, e5.1, e5.2.1, e5.2.2)))
def f_i_WeightedZero_1_n : Nat → (Int × Int × Bool × List Sc × List Sc × List Sc × List Sc × List Sc) → Option (Bool × List Sc × List Sc × List Sc)
  | 0, _ => none
  | n + 1, a => f_i_WeightedZero_1_k (f_i_WeightedZero_1_n n) a.1 a.2.1 a.2.2.1 a.2.2.2.1 a.2.2.2.2.1 a.2.2.2.2.2.1 a.2.2.2.2.2.2.1 a.2.2.2.2.2.2.2 some
def f_i_WeightedZero_1 (i0 : Int) (sum1 : Int) (some2 : Bool) (p3 : List Sc) (p6 : List Sc) (h0 : List Sc) (h1_0 : List Sc) (h1_1 : List Sc) : Option (Bool × List Sc × List Sc × List Sc) := limF f_i_WeightedZero_1_n (i0, sum1, some2, p3, p6, h0, h1_0, h1_1)

def f_i_WeightedZero_k {R : Type} (g0 : List Sc) (l1 : List Sc) (kR : List Sc × Bool → Option R) : Option R :=
  bo (f_i_IsSequence g0 l1) false fun r1 =>
  br ((!r1) == false)
    (br ((decide ((l1.length : Int) > 7)))
      (kR ([], false))
      (br (decide (0 ≤ (l1.length : Int)) && (decide ((l1.length : Int) ≤ (l1.length : Int)) && decide ((l1.length : Int) ≤ (lim : Int))))
        (bo (f_i_WeightedZero_1 0 0 false l1 g0 (List.replicate (l1.length : Int).toNat (Sc.n .i64 0)) l1 g0) (false, [], [], []) fun r2 =>
        br ((!r2.1))
          (kR ([], false))
          (kR (r2.2.1, true)))
        none))
    (kR ([], false))
def f_i_WeightedZero (g0 : List Sc) (l1 : List Sc) : Option (List Sc × Bool) := f_i_WeightedZero_k g0 l1 some

def f_l_FnExactWeightedZero_k {R : Type} (L0 : List Sc) (p1 : List Sc) (kR : Bool → Option R) : Option R :=
  br ((decide ((p1.length : Int) > 1048576)))
    (kR true)
    (bo (f_l_szGroup L0 1048576) 0 fun r1 =>
    br ((decide (r1 < 0)))
      (kR true)
      (bo (f_l_toGroup L0) [] fun r2 =>
      bo (f_l_toIntS p1) [] fun r3 =>
      bo (f_s_WeightedZero r2 r3) ([], false) fun r4 =>
      bo (f_l_toGroup L0) [] fun r5 =>
      bo (f_l_toIntS p1) [] fun r6 =>
      bo (f_i_WeightedZero r5 r6) ([], false) fun r7 =>
      bo (f_l_eqIntS r7.1 r4.1) false fun r8 =>
      br ((!r8) == false)
        (br ((!(r7.2 == r4.2)))
          (kR false)
          (bo (f_l_toGroup L0) [] fun r9 =>
          bo (f_l_eqGroup r5 r9) false fun r10 =>
          br ((!r10))
            (kR false)
            (bo (f_l_toIntS p1) [] fun r11 =>
            bo (f_l_eqIntS r6 r11) false fun r12 =>
            br ((!r12))
              (kR false)
              (bo (f_l_markGroup_io 1 r5) (0, []) fun r13 =>
              bo (f_l_markIntS_io r13.1 r6) (0, []) fun r14 =>
              br ((decide (r14.1 < 0)) == false)
                (bo (f_l_eqIntS r7.1 r4.1) false fun r15 =>
                br ((!r15) == false)
                  (br ((!(r7.2 == r4.2)))
                    (kR false)
                    (bo (f_l_markIntS_io 1 r7.1) (0, []) fun r16 =>
                    bo (f_l_heldIntS r16.2 1) 0 fun r17 =>
                    br ((decide (r17 < 0)))
                      (kR false)
                      (br ((r17 != r16.1))
                        (kR false)
                        (bo (f_l_toGroup L0) [] fun r18 =>
                        bo (f_l_toIntS p1) [] fun r19 =>
                        bo (f_i_WeightedZero r18 r19) ([], false) fun r20 =>
                        bo (f_l_eqIntS r20.1 r4.1) false fun r21 =>
                        br ((!r21) == false)
                          (br ((!(r20.2 == r4.2)))
                            (kR false)
                            (bo (f_l_heldIntS r16.2 1) 0 fun r22 =>
                            br ((decide (r22 < 0)))
                              (kR false)
                              (br ((r22 != r16.1))
                                (kR false)
                                (kR true))))
                          (kR false)))))
                  (kR false))
                (kR false)))))
        (kR false)))
def f_l_FnExactWeightedZero (L0 : List Sc) (p1 : List Sc) : Option (Bool) := f_l_FnExactWeightedZero_k L0 p1 some

def f_s_ExponentOf_k2 {R : Type} (g1 : List Sc) (e3 : Int) (i4 : Int) (x5 : Int) (kN : Int → Option R) (kA : Int → Option R) : Option R :=
  br (okAt g1 i4)
    (br ((atI g1 i4) == 0)
      none
      (br (((x5.tmod (atI g1 i4)) != 0))
        (kN (w64 (x5 + e3)))
        (kA x5)))
    none
def f_s_ExponentOf_r2 (g1 : List Sc) (e3 : Int) (i4 : Int) : Int → Option (Ro (Int) (Int) (Unit)) := fun s => f_s_ExponentOf_k2 g1 e3 i4 s (fun s => some (.again s)) (fun e => some (.one e))
def f_s_ExponentOf_k0 {R : Type} (g1 : List Sc) (e3 : Int) (i4 : Int) (kN : Int × Int → Option R) (kA : Int × Int → Option R) : Option R :=
  br ((decide (i4 < (g1.length : Int))))
    (bl1 (loopL (f_s_ExponentOf_r2 g1 e3 i4) e3) 0 fun e2 =>
    kN (e2, (w64 (i4 + 1))))
    (kA (e3, i4))
def f_s_ExponentOf_r0 (g1 : List Sc) : (Int × Int) → Option (Ro (Int × Int) (Int × Int) (Unit)) := fun s => f_s_ExponentOf_k0 g1 s.1 s.2 (fun s => some (.again s)) (fun e => some (.one e))
def f_s_ExponentOf_k {R : Type} (g0 : List Sc) (kR : Int → Option R) : Option R :=
  bo (f_s_IsGroup g0) false fun r1 =>
  br ((!r1))
    (kR 0)
    (bl1 (loopL (f_s_ExponentOf_r0 g0) (1, 0)) (0, 0) fun e3 =>
    kR e3.1)
def f_s_ExponentOf (g0 : List Sc) : Option (Int) := f_s_ExponentOf_k g0 some

def f_s_SubsumsOfLength_k2 {R : Type} (l1 : List Sc) (k2 : Int) (g3 : List Sc) (i8 : Int) (t7 : List Sc) (n9 : Int) (kN : List Sc × Int → Option R) (kA : List Sc → Option R) : Option R :=
  br ((decide (n9 ≥ 1)))
    (br (inRange n9 (t7).length)
      (br (kAt t7 n9.toNat)
        (br (inRange (w64 (n9 - 1)) (t7).length)
          (br (kAt t7 (w64 (n9 - 1)).toNat)
            (br (okAt l1 i8)
              (bo (f_s_l3Shift g3 (atN t7 (w64 (n9 - 1)).toNat) (atI l1 i8)) 0 fun r3 =>
              br (inRange n9 (t7).length)
                (kN ((t7.set n9.toNat (Sc.n .i64 (or64 (atN t7 n9.toNat) r3))), (w64 (n9 - 1))))
                none)
              none)
            none)
          none)
        none)
      none)
    (kA t7)
def f_s_SubsumsOfLength_r2 (l1 : List Sc) (k2 : Int) (g3 : List Sc) (i8 : Int) : (List Sc × Int) → Option (Ro (List Sc × Int) (List Sc) (Unit)) := fun s => f_s_SubsumsOfLength_k2 l1 k2 g3 i8 s.1 s.2 (fun s => some (.again s)) (fun e => some (.one e))
def f_s_SubsumsOfLength_k0 {R : Type} (l1 : List Sc) (k2 : Int) (g3 : List Sc) (t7 : List Sc) (i8 : Int) (kN : List Sc × Int → Option R) (kA : List Sc × Int → Option R) : Option R :=
  br ((decide (i8 < (l1.length : Int))))
    (bl1 (loopL (f_s_SubsumsOfLength_r2 l1 k2 g3 i8) (t7, k2)) [] fun e4 =>
    kN (e4, (w64 (i8 + 1))))
    (kA (t7, i8))
def f_s_SubsumsOfLength_r0 (l1 : List Sc) (k2 : Int) (g3 : List Sc) : (List Sc × Int) → Option (Ro (List Sc × Int) (List Sc × Int) (Unit)) := fun s => f_s_SubsumsOfLength_k0 l1 k2 g3 s.1 s.2 (fun s => some (.again s)) (fun e => some (.one e))
def f_s_SubsumsOfLength_k {R : Type} (g0 : List Sc) (l1 : List Sc) (k2 : Int) (kR : Int → Option R) : Option R :=
  bo (f_s_IsSequence g0 l1) false fun r1 =>
  br ((!r1) == false)
    (bo (f_s_l1In k2 0 (l1.length : Int)) false fun r2 =>
    br ((!r2))
      (kR (-1))
      (br (decide (0 ≤ (w64 (k2 + 1))) && (decide ((w64 (k2 + 1)) ≤ (w64 (k2 + 1))) && decide ((w64 (k2 + 1)) ≤ (lim : Int))))
        (br (inRange 0 ((List.replicate (w64 (k2 + 1)).toNat (Sc.n .i64 0))).length)
          (bl1 (loopL (f_s_SubsumsOfLength_r0 l1 k2 g0) (((List.replicate (w64 (k2 + 1)).toNat (Sc.n .i64 0)).set ((0 : Int).toNat) (Sc.n .i64 1)), 0)) ([], 0) fun e5 =>
          br (inRange k2 (e5.1).length)
            (br (kAt e5.1 k2.toNat)
              (kR (atN e5.1 k2.toNat))
              none)
            none)
          none)
        none))
    (kR (-1))
def f_s_SubsumsOfLength (g0 : List Sc) (l1 : List Sc) (k2 : Int) : Option (Int) := f_s_SubsumsOfLength_k g0 l1 k2 some

def f_s_l18Has_k {R : Type} (g0 : List Sc) (l1 : List Sc) (e2 : Int) (kR : Bool → Option R) : Option R :=
  br ((decide ((l1.length : Int) ≥ e2)) == true)
    (bo (f_s_SubsumsOfLength g0 l1 e2) 0 fun r1 =>
    kR ((and64 r1 1) == 1))
    (kR false)
def f_s_l18Has (g0 : List Sc) (l1 : List Sc) (e2 : Int) : Option (Bool) := f_s_l18Has_k g0 l1 e2 some

def f_s_l18Longest_k0 {R : Type} (self : (List Sc × List Sc × Int × Int) → Option (List Sc)) (l1 : List Sc) (e2 : Int) (g4 : List Sc) (best9 : List Sc) (x10 : Int) (kN : List Sc × Int → Option R) (kA : List Sc × Int → Option R) : Option R :=
  bo (f_s_l2Order g4) 0 fun r1 =>
  br ((decide (x10 < r1)))
    (br (decide (([] : List Sc).length + l1.length ≤ lim))
      (br (decide (([] ++ l1).length + [(Sc.n .i64 x10)].length ≤ lim))
        (br ((decide (((([] ++ l1) ++ [(Sc.n .i64 x10)]).length : Int) > 12)) == false)
          (bo (f_s_l18Has g4 (([] ++ l1) ++ [(Sc.n .i64 x10)]) e2) false fun r2 =>
          br (r2)
            (kN (best9, (w64 (x10 + 1))))
            (bo (self (g4, (([] ++ l1) ++ [(Sc.n .i64 x10)]), e2, x10)) [] fun r3 =>
            br ((decide ((r3.length : Int) > (best9.length : Int))))
              (kN (r3, (w64 (x10 + 1))))
              (kN (best9, (w64 (x10 + 1))))))
          (kN (best9, (w64 (x10 + 1)))))
        none)
      none)
    (kA (best9, x10))
def f_s_l18Longest_r0 (self : (List Sc × List Sc × Int × Int) → Option (List Sc)) (l1 : List Sc) (e2 : Int) (g4 : List Sc) : (List Sc × Int) → Option (Ro (List Sc × Int) (List Sc × Int) (Unit)) := fun s => f_s_l18Longest_k0 self l1 e2 g4 s.1 s.2 (fun s => some (.again s)) (fun e => some (.one e))
def f_s_l18Longest_k {R : Type} (self : (List Sc × List Sc × Int × Int) → Option (List Sc)) (g0 : List Sc) (l1 : List Sc) (e2 : Int) (least3 : Int) (kR : List Sc → Option R) : Option R :=
  bl1 (loopL (f_s_l18Longest_r0 self l1 e2 g0) (l1, least3)) ([], 0) fun e4 =>
  kR e4.1
def f_s_l18Longest_n : Nat → (List Sc × List Sc × Int × Int) → Option (List Sc)
  | 0, _ => none
  | n + 1, a => f_s_l18Longest_k (f_s_l18Longest_n n) a.1 a.2.1 a.2.2.1 a.2.2.2 some
def f_s_l18Longest (g0 : List Sc) (l1 : List Sc) (e2 : Int) (least3 : Int) : Option (List Sc) := limF f_s_l18Longest_n (g0, l1, e2, least3)

def f_s_EgzExample_k {R : Type} (g0 : List Sc) (kR : List Sc × Bool → Option R) : Option R :=
  bo (f_s_IsGroup g0) false fun r1 =>
  br ((!r1) == false)
    (bo (f_s_l2Order g0) 0 fun r2 =>
    br ((decide (r2 > 5)))
      (kR ([], false))
      (bo (f_s_ExponentOf g0) 0 fun r3 =>
      bo (f_s_l18Longest g0 [] r3 0) [] fun r4 =>
      kR (r4, true)))
    (kR ([], false))
def f_s_EgzExample (g0 : List Sc) : Option (List Sc × Bool) := f_s_EgzExample_k g0 some

def f_s_EgzConstant_k {R : Type} (g0 : List Sc) (kR : Int → Option R) : Option R :=
  bo (f_s_EgzExample g0) ([], false) fun r1 =>
  br ((!r1.2))
    (kR (-1))
    (kR (w64 ((r1.1.length : Int) + 1)))
def f_s_EgzConstant (g0 : List Sc) : Option (Int) := f_s_EgzConstant_k g0 some

def f_i_gcd_k0 {R : Type} (a0 : Int) (b1 : Int) (kN : Int × Int → Option R) (kA : Int → Option R) : Option R :=
  br ((b1 != 0))
    (br (b1 == 0)
      none
      (kN (b1, (a0.tmod b1))))
    (kA a0)
def f_i_gcd_r0 : (Int × Int) → Option (Ro (Int × Int) (Int) (Unit)) := fun s => f_i_gcd_k0 s.1 s.2 (fun s => some (.again s)) (fun e => some (.one e))
def f_i_gcd_k {R : Type} (a0 : Int) (b1 : Int) (kR : Int → Option R) : Option R :=
  bl1 (loopL (f_i_gcd_r0) (a0, b1)) 0 fun e1 =>
  kR e1
def f_i_gcd (a0 : Int) (b1 : Int) : Option (Int) := f_i_gcd_k a0 b1 some

def f_i_ExponentOf_k0 {R : Type} (t10 : List Sc) (t11 : Int) (n3 : Int) (t12 : Int) (kN : Int × Int → Option R) (kA : Int → Option R) : Option R :=
  br ((decide (t12 < t11)))
    (br (okAt t10 t12)
      (bo (f_i_gcd n3 (atI t10 t12)) 0 fun r2 =>
      br (r2 == 0)
        none
        (kN ((w64 ((w64 (n3.tdiv r2)) * (atI t10 t12))), (w64 (t12 + 1)))))
      none)
    (kA n3)
def f_i_ExponentOf_r0 (t10 : List Sc) (t11 : Int) : (Int × Int) → Option (Ro (Int × Int) (Int) (Unit)) := fun s => f_i_ExponentOf_k0 t10 t11 s.1 s.2 (fun s => some (.again s)) (fun e => some (.one e))
def f_i_ExponentOf_k {R : Type} (g0 : List Sc) (kR : Int → Option R) : Option R :=
  bo (f_i_IsGroup g0) false fun r1 =>
  br ((!r1))
    (kR 0)
    (bl1 (loopL (f_i_ExponentOf_r0 g0 (g0.length : Int)) (1, 0)) 0 fun e3 =>
    kR e3)
def f_i_ExponentOf (g0 : List Sc) : Option (Int) := f_i_ExponentOf_k g0 some

def f_i_Group_byLength_k2 {R : Type} (g2 : List Sc) (x7 : Int) (t15 : List Sc) (t16 : Int) (t17 : Int) (out5 : List Sc) (k8 : Int) (kN : List Sc × Int → Option R) (kA : List Sc → Option R) : Option R :=
  br ((decide (k8 ≥ 0)))
    (br (inRange (w64 (k8 + 1)) (out5).length)
      (br (kAt out5 (w64 (k8 + 1)).toNat)
        (br (inRange k8 (out5).length)
          (br (kAt out5 k8.toNat)
            (bo (f_i_Group_shift g2 (atN out5 k8.toNat) x7) 0 fun r1 =>
            br (inRange (w64 (k8 + 1)) (out5).length)
              (kN ((out5.set ((w64 (k8 + 1)).toNat) (Sc.n .i64 (or64 (atN out5 (w64 (k8 + 1)).toNat) r1))), (w64 (k8 - 1))))
              none)
            none)
          none)
        none)
      none)
    (kA out5)
def f_i_Group_byLength_r2 (g2 : List Sc) (x7 : Int) (t15 : List Sc) (t16 : Int) (t17 : Int) : (List Sc × Int) → Option (Ro (List Sc × Int) (List Sc) (Unit)) := fun s => f_i_Group_byLength_k2 g2 x7 t15 t16 t17 s.1 s.2 (fun s => some (.again s)) (fun e => some (.one e))
def f_i_Group_byLength_k0 {R : Type} (g2 : List Sc) (t15 : List Sc) (t16 : Int) (out5 : List Sc) (t17 : Int) (kN : List Sc × Int → Option R) (kA : List Sc × Int → Option R) : Option R :=
  br ((decide (t17 < t16)))
    (br (okAt t15 t17)
      (bl1 (loopL (f_i_Group_byLength_r2 g2 (atI t15 t17) t15 t16 t17) (out5, t17)) [] fun e2 =>
      kN (e2, (w64 (t17 + 1))))
      none)
    (kA (out5, t17))
def f_i_Group_byLength_r0 (g2 : List Sc) (t15 : List Sc) (t16 : Int) : (List Sc × Int) → Option (Ro (List Sc × Int) (List Sc × Int) (Unit)) := fun s => f_i_Group_byLength_k0 g2 t15 t16 s.1 s.2 (fun s => some (.again s)) (fun e => some (.one e))
def f_i_Group_byLength_k {R : Type} (g0 : List Sc) (l1 : List Sc) (kR : List Sc → Option R) : Option R :=
  br (decide (0 ≤ (w64 ((l1.length : Int) + 1))) && (decide ((w64 ((l1.length : Int) + 1)) ≤ (w64 ((l1.length : Int) + 1))) && decide ((w64 ((l1.length : Int) + 1)) ≤ (lim : Int))))
    (br (inRange 0 ((List.replicate (w64 ((l1.length : Int) + 1)).toNat (Sc.n .i64 0))).length)
      (bl1 (loopL (f_i_Group_byLength_r0 g0 l1 (l1.length : Int)) (((List.replicate (w64 ((l1.length : Int) + 1)).toNat (Sc.n .i64 0)).set ((0 : Int).toNat) (Sc.n .i64 1)), 0)) ([], 0) fun e3 =>
      kR e3.1)
      none)
    none
def f_i_Group_byLength (g0 : List Sc) (l1 : List Sc) : Option (List Sc) := f_i_Group_byLength_k g0 l1 some

def f_i_EgzExample_1_k0 {R : Type} (self : (List Sc × List Sc × Int × List Sc × List Sc) → Option (Int × List Sc × List Sc)) (l0 : List Sc) (t2 : List Sc) (v0 : Int) (v1 : List Sc) (v2 : List Sc) (x7 : Int) (kN : Int × List Sc × List Sc × Int → Option R) (kA : Int × List Sc × List Sc → Option R) : Option R :=
  bo (f_i_OrderOf t2) 0 fun r3 =>
  br ((decide (x7 < r3)))
    (bo (f_i_copyInts l0) [] fun r4 =>
    br (decide (r4.length + [(Sc.n .i64 x7)].length ≤ lim))
      (bo (self ((r4 ++ [(Sc.n .i64 x7)]), v2, v0, v1, v2)) (0, [], []) fun r5 =>
      kN (r5.1, r5.2.1, r5.2.2, (w64 (x7 + 1))))
      none)
    (kA (v0, v1, v2))
def f_i_EgzExample_1_r0 (self : (List Sc × List Sc × Int × List Sc × List Sc) → Option (Int × List Sc × List Sc)) (l0 : List Sc) (t2 : List Sc) : (Int × List Sc × List Sc × Int) → Option (Ro (Int × List Sc × List Sc × Int) (Int × List Sc × List Sc) (Unit)) := fun s => f_i_EgzExample_1_k0 self l0 t2 s.1 s.2.1 s.2.2.1 s.2.2.2 (fun s => some (.again s)) (fun e => some (.one e))
def f_i_EgzExample_1_k {R : Type} (self : (List Sc × List Sc × Int × List Sc × List Sc) → Option (Int × List Sc × List Sc)) (l0 : List Sc) (p2 : List Sc) (h0 : Int) (h1 : List Sc) (h2 : List Sc) (kR : Int × List Sc × List Sc → Option R) : Option R :=
  br ((decide ((l0.length : Int) ≥ h0)) == true)
    (bo (f_i_Group_byLength p2 l0) [] fun r1 =>
    br (inRange h0 (r1).length)
      (br (kAt r1 h0.toNat)
        (bo (f_i_in (atN r1 h0.toNat) 0) false fun r2 =>
        br (r2)
          (kR (h0, h1, h2))
          (br ((decide ((l0.length : Int) > (h1.length : Int))))
            (br ((decide ((l0.length : Int) > 0)))
              (br (okAt l0 (w64 ((l0.length : Int) - 1)))
                (bl1 (loopL (f_i_EgzExample_1_r0 self l0 p2) (h0, l0, h2, (atI l0 (w64 ((l0.length : Int) - 1))))) (0, [], []) fun e6 =>
                kR (e6.1, e6.2.1, e6.2.2))
                none)
              (bl1 (loopL (f_i_EgzExample_1_r0 self l0 p2) (h0, l0, h2, 0)) (0, [], []) fun e7 =>
              kR (e7.1, e7.2.1, e7.2.2)))
            (br ((decide ((l0.length : Int) > 0)))
              (br (okAt l0 (w64 ((l0.length : Int) - 1)))
                (bl1 (loopL (f_i_EgzExample_1_r0 self l0 p2) (h0, h1, h2, (atI l0 (w64 ((l0.length : Int) - 1))))) (0, [], []) fun e8 =>
                kR (e8.1, e8.2.1, e8.2.2))
                none)
              (bl1 (loopL (f_i_EgzExample_1_r0 self l0 p2) (h0, h1, h2, 0)) (0, [], []) fun e9 =>
              kR (e9.1, e9.2.1, e9.2.2)))))
        none)
      none)
    (br ((decide ((l0.length : Int) > (h1.length : Int))))
      (br ((decide ((l0.length : Int) > 0)))
        (br (okAt l0 (w64 ((l0.length : Int) - 1)))
          (bl1 (loopL (f_i_EgzExample_1_r0 self l0 p2) (h0, l0, h2, (atI l0 (w64 ((l0.length : Int) - 1))))) (0, [], []) fun e10 =>
          kR (e10.1, e10.2.1, e10.2.2))
          none)
        (bl1 (loopL (f_i_EgzExample_1_r0 self l0 p2) (h0, l0, h2, 0)) (0, [], []) fun e11 =>
        kR (e11.1, e11.2.1, e11.2.2)))
      (br ((decide ((l0.length : Int) > 0)))
        (br (okAt l0 (w64 ((l0.length : Int) - 1)))
          (bl1 (loopL (f_i_EgzExample_1_r0 self l0 p2) (h0, h1, h2, (atI l0 (w64 ((l0.length : Int) - 1))))) (0, [], []) fun e12 =>
          kR (e12.1, e12.2.1, e12.2.2))
          none)
        (bl1 (loopL (f_i_EgzExample_1_r0 self l0 p2) (h0, h1, h2, 0)) (0, [], []) fun e13 =>
        kR (e13.1, e13.2.1, e13.2.2))))
def f_i_EgzExample_1_n : Nat → (List Sc × List Sc × Int × List Sc × List Sc) → Option (Int × List Sc × List Sc)
  | 0, _ => none
  | n + 1, a => f_i_EgzExample_1_k (f_i_EgzExample_1_n n) a.1 a.2.1 a.2.2.1 a.2.2.2.1 a.2.2.2.2 some
def f_i_EgzExample_1 (l0 : List Sc) (p2 : List Sc) (h0 : Int) (h1 : List Sc) (h2 : List Sc) : Option (Int × List Sc × List Sc) := limF f_i_EgzExample_1_n (l0, p2, h0, h1, h2)

def f_i_EgzExample_k {R : Type} (g0 : List Sc) (kR : List Sc × Bool → Option R) : Option R :=
  bo (f_i_IsGroup g0) false fun r1 =>
  br ((!r1) == false)
    (bo (f_i_OrderOf g0) 0 fun r2 =>
    br ((decide (r2 > 5)))
      (kR ([], false))
      (bo (f_i_ExponentOf g0) 0 fun r3 =>
      bo (f_i_EgzExample_1 [] g0 r3 [] g0) (0, [], []) fun r4 =>
      kR (r4.2.1, true)))
    (kR ([], false))
def f_i_EgzExample (g0 : List Sc) : Option (List Sc × Bool) := f_i_EgzExample_k g0 some

def f_i_EgzConstant_k {R : Type} (g0 : List Sc) (kR : Int → Option R) : Option R :=
  bo (f_i_EgzExample g0) ([], false) fun r1 =>
  br ((!r1.2))
    (kR (-1))
    (kR (w64 ((r1.1.length : Int) + 1)))
def f_i_EgzConstant (g0 : List Sc) : Option (Int) := f_i_EgzConstant_k g0 some

def f_l_FnExactEgzConstant_k {R : Type} (aG0 : List Sc) (kR : Bool → Option R) : Option R :=
  bo (f_l_szGroup aG0 1048576) 0 fun r1 =>
  br ((decide (r1 < 0)))
    (kR true)
    (bo (f_l_toGroup aG0) [] fun r2 =>
    bo (f_s_EgzConstant r2) 0 fun r3 =>
    bo (f_l_toGroup aG0) [] fun r4 =>
    bo (f_i_EgzConstant r4) 0 fun r5 =>
    br ((r5 != r3))
      (kR false)
      (bo (f_l_toGroup aG0) [] fun r6 =>
      bo (f_l_eqGroup r4 r6) false fun r7 =>
      br ((!r7))
        (kR false)
        (kR true)))
def f_l_FnExactEgzConstant (aG0 : List Sc) : Option (Bool) := f_l_FnExactEgzConstant_k aG0 some

def f_s_SetOf_k0 {R : Type} (l1 : List Sc) (g2 : List Sc) (a6 : Int) (i7 : Int) (kN : Int × Int → Option R) (kA : Int → Option R) (kB : Unit → Option R) : Option R :=
  br ((decide (i7 < (l1.length : Int))))
    (br (okAt l1 i7)
      (bo (f_s_l2Is g2 (atI l1 i7)) false fun r1 =>
      br ((!r1) == false)
        (br (okAt l1 i7)
          (br (decide ((atI l1 i7) < 0))
            none
            (br (((and64 (shr64 a6 (atI l1 i7)) 1) == 1))
              (kB ())
              (br (okAt l1 i7)
                (br (decide ((atI l1 i7) < 0))
                  none
                  (kN ((w64 (a6 + (shl64 1 (atI l1 i7)))), (w64 (i7 + 1)))))
                none)))
          none)
        (kB ()))
      none)
    (kA a6)
def f_s_SetOf_r0 (l1 : List Sc) (g2 : List Sc) : (Int × Int) → Option (Ro (Int × Int) (Int) (Unit)) := fun s => f_s_SetOf_k0 l1 g2 s.1 s.2 (fun s => some (.again s)) (fun e => some (.one e)) (fun e => some (.two e))
def f_s_SetOf_k {R : Type} (g0 : List Sc) (l1 : List Sc) (kR : Int × Bool → Option R) : Option R :=
  bl (loopL (f_s_SetOf_r0 l1 g0) (0, 0)) 0 ()
    (fun e2 =>
      bo (f_s_IsGroup g0) false fun r3 =>
      kR (e2, r3))
    (fun e2 =>
      kR (0, false))
def f_s_SetOf (g0 : List Sc) (l1 : List Sc) : Option (Int × Bool) := f_s_SetOf_k g0 l1 some

def f_s_FreimanRank_k0 {R : Type} (k8 : Int) (x9 : Int) (kN : Int × Int → Option R) (kA : Int → Option R) : Option R :=
  br ((decide (x9 > 1)))
    (kN ((w64 (k8 + 1)), (w64 (x9.tdiv 2))))
    (kA k8)
def f_s_FreimanRank_r0 : (Int × Int) → Option (Ro (Int × Int) (Int) (Unit)) := fun s => f_s_FreimanRank_k0 s.1 s.2 (fun s => some (.again s)) (fun e => some (.one e))
def f_s_FreimanRank_k {R : Type} (g0 : List Sc) (l1 : List Sc) (kR : Int → Option R) : Option R :=
  bo (f_s_SetOf g0 l1) (0, false) fun r1 =>
  br ((!r1.2))
    (kR (-1))
    (bo (f_s_CountFreimanMaps g0 [(Sc.n .i64 2)] r1.1) 0 fun r2 =>
    bl1 (loopL (f_s_FreimanRank_r0) ((-1), r2)) 0 fun e3 =>
    kR e3)
def f_s_FreimanRank (g0 : List Sc) (l1 : List Sc) : Option (Int) := f_s_FreimanRank_k g0 l1 some

def f_i_SetOf_k0 {R : Type} (g2 : List Sc) (t9 : List Sc) (t10 : Int) (a6 : Int) (t11 : Int) (kN : Int × Int → Option R) (kA : Int → Option R) (kB : Unit → Option R) : Option R :=
  br ((decide (t11 < t10)))
    (br (okAt t9 t11)
      (bo (f_i_Group_has g2 (atI t9 t11)) false fun r1 =>
      br ((!r1) == false)
        (bo (f_i_in a6 (atI t9 t11)) false fun r2 =>
        br (r2)
          (kB ())
          (br (decide ((atI t9 t11) < 0))
            none
            (kN ((or64 a6 (shl64 1 (atI t9 t11))), (w64 (t11 + 1))))))
        (kB ()))
      none)
    (kA a6)
def f_i_SetOf_r0 (g2 : List Sc) (t9 : List Sc) (t10 : Int) : (Int × Int) → Option (Ro (Int × Int) (Int) (Unit)) := fun s => f_i_SetOf_k0 g2 t9 t10 s.1 s.2 (fun s => some (.again s)) (fun e => some (.one e)) (fun e => some (.two e))
def f_i_SetOf_k {R : Type} (g0 : List Sc) (l1 : List Sc) (kR : Int × Bool → Option R) : Option R :=
  bl (loopL (f_i_SetOf_r0 g0 l1 (l1.length : Int)) (0, 0)) 0 ()
    (fun e3 =>
      bo (f_i_IsGroup g0) false fun r4 =>
      kR (e3, r4))
    (fun e3 =>
      kR (0, false))
def f_i_SetOf (g0 : List Sc) (l1 : List Sc) : Option (Int × Bool) := f_i_SetOf_k g0 l1 some

def f_i_FreimanRank_k0 {R : Type} (n7 : Int) (e8 : Int) (kN : Int × Int → Option R) (kA : Int → Option R) : Option R :=
  br (((n7.tmod 2) == 0))
    (kN ((w64 (n7.tdiv 2)), (w64 (e8 + 1))))
    (kA e8)
def f_i_FreimanRank_r0 : (Int × Int) → Option (Ro (Int × Int) (Int) (Unit)) := fun s => f_i_FreimanRank_k0 s.1 s.2 (fun s => some (.again s)) (fun e => some (.one e))
def f_i_FreimanRank_k {R : Type} (g0 : List Sc) (l1 : List Sc) (kR : Int → Option R) : Option R :=
  bo (f_i_SetOf g0 l1) (0, false) fun r1 =>
  br ((!r1.2))
    (kR (-1))
    (bo (f_i_CountFreimanMaps g0 [(Sc.n .i64 2)] r1.1) 0 fun r2 =>
    br ((decide (r2 < 0)))
      (kR (-1))
      (bl1 (loopL (f_i_FreimanRank_r0) (r2, 0)) 0 fun e3 =>
      kR (w64 (e3 - 1))))
def f_i_FreimanRank (g0 : List Sc) (l1 : List Sc) : Option (Int) := f_i_FreimanRank_k g0 l1 some

def f_l_FnExactFreimanRank_k {R : Type} (aG0 : List Sc) (aL1 : List Sc) (kR : Bool → Option R) : Option R :=
  br ((decide ((aL1.length : Int) > 1048576)))
    (kR true)
    (bo (f_l_szGroup aG0 1048576) 0 fun r1 =>
    br ((decide (r1 < 0)))
      (kR true)
      (bo (f_l_toGroup aG0) [] fun r2 =>
      bo (f_l_toIntS aL1) [] fun r3 =>
      bo (f_s_FreimanRank r2 r3) 0 fun r4 =>
      bo (f_l_toGroup aG0) [] fun r5 =>
      bo (f_l_toIntS aL1) [] fun r6 =>
      bo (f_i_FreimanRank r5 r6) 0 fun r7 =>
      br ((r7 != r4))
        (kR false)
        (bo (f_l_toGroup aG0) [] fun r8 =>
        bo (f_l_eqGroup r5 r8) false fun r9 =>
        br ((!r9))
          (kR false)
          (bo (f_l_toIntS aL1) [] fun r10 =>
          bo (f_l_eqIntS r6 r10) false fun r11 =>
          br ((!r11))
            (kR false)
            (kR true)))))
def f_l_FnExactFreimanRank (aG0 : List Sc) (aL1 : List Sc) : Option (Bool) := f_l_FnExactFreimanRank_k aG0 aL1 some

def f_l_FnExactEgzExample_k {R : Type} (L0 : List Sc) (kR : Bool → Option R) : Option R :=
  bo (f_l_szGroup L0 1048576) 0 fun r1 =>
  br ((decide (r1 < 0)))
    (kR true)
    (bo (f_l_toGroup L0) [] fun r2 =>
    bo (f_s_EgzExample r2) ([], false) fun r3 =>
    bo (f_l_toGroup L0) [] fun r4 =>
    bo (f_i_EgzExample r4) ([], false) fun r5 =>
    bo (f_l_eqIntS r5.1 r3.1) false fun r6 =>
    br ((!r6) == false)
      (br ((!(r5.2 == r3.2)))
        (kR false)
        (bo (f_l_toGroup L0) [] fun r7 =>
        bo (f_l_eqGroup r4 r7) false fun r8 =>
        br ((!r8))
          (kR false)
          (bo (f_l_markGroup_io 1 r4) (0, []) fun r9 =>
          br ((decide (r9.1 < 0)) == false)
            (bo (f_l_eqIntS r5.1 r3.1) false fun r10 =>
            br ((!r10) == false)
              (br ((!(r5.2 == r3.2)))
                (kR false)
                (bo (f_l_markIntS_io 1 r5.1) (0, []) fun r11 =>
                bo (f_l_heldIntS r11.2 1) 0 fun r12 =>
                br ((decide (r12 < 0)))
                  (kR false)
                  (br ((r12 != r11.1))
                    (kR false)
                    (bo (f_l_toGroup L0) [] fun r13 =>
                    bo (f_i_EgzExample r13) ([], false) fun r14 =>
                    bo (f_l_eqIntS r14.1 r3.1) false fun r15 =>
                    br ((!r15) == false)
                      (br ((!(r14.2 == r3.2)))
                        (kR false)
                        (bo (f_l_heldIntS r11.2 1) 0 fun r16 =>
                        br ((decide (r16 < 0)))
                          (kR false)
                          (br ((r16 != r11.1))
                            (kR false)
                            (kR true))))
                      (kR false)))))
              (kR false))
            (kR false))))
      (kR false))
def f_l_FnExactEgzExample (L0 : List Sc) : Option (Bool) := f_l_FnExactEgzExample_k L0 some

def f_s_l15Fine_k0 {R : Type} (l2 : List Sc) (m3 : List Sc) (h5 : List Sc) (is10 : Bool) (i11 : Int) (kN : Int → Option R) (kA : Unit → Option R) (kB : Unit → Option R) : Option R :=
  br ((decide (i11 < (m3.length : Int))))
    (br (okAt m3 i11)
      (bo (f_s_l2Is h5 (atI m3 i11)) false fun r2 =>
      br ((!r2))
        (kB ())
        (kN (w64 (i11 + 1))))
      none)
    (kA ())
def f_s_l15Fine_r0 (l2 : List Sc) (m3 : List Sc) (h5 : List Sc) (is10 : Bool) : Int → Option (Ro (Int) (Unit) (Unit)) := fun s => f_s_l15Fine_k0 l2 m3 h5 is10 s (fun s => some (.again s)) (fun e => some (.one e)) (fun e => some (.two e))
def f_s_l15Fine_k {R : Type} (g0 : List Sc) (h1 : List Sc) (l2 : List Sc) (m3 : List Sc) (kR : Bool → Option R) : Option R :=
  bo (f_s_SetOf g0 l2) (0, false) fun r1 =>
  bl (loopL (f_s_l15Fine_r0 l2 m3 h1 r1.2) 0) () ()
    (fun e3 =>
      br (r1.2 == true)
        (bo (f_s_IsGroup h1) false fun r4 =>
        br (r4 == true)
          (br (((l2.length : Int) == (m3.length : Int)) == true)
            (bo (f_s_l1In (l2.length : Int) 1 6) false fun r5 =>
            kR r5)
            (kR false))
          (kR false))
        (kR false))
    (fun e3 =>
      kR false)
def f_s_l15Fine (g0 : List Sc) (h1 : List Sc) (l2 : List Sc) (m3 : List Sc) : Option (Bool) := f_s_l15Fine_k g0 h1 l2 m3 some

def f_s_IsFreimanMap_k {R : Type} (g0 : List Sc) (h1 : List Sc) (l2 : List Sc) (m3 : List Sc) (kR : Bool → Option R) : Option R :=
  bo (f_s_l15Fine g0 h1 l2 m3) false fun r1 =>
  br (r1 == true)
    (bo (f_s_l15Keeps g0 h1 l2 m3) false fun r2 =>
    kR r2)
    (kR false)
def f_s_IsFreimanMap (g0 : List Sc) (h1 : List Sc) (l2 : List Sc) (m3 : List Sc) : Option (Bool) := f_s_IsFreimanMap_k g0 h1 l2 m3 some

def f_s_IsFreimanIso_k {R : Type} (g0 : List Sc) (h1 : List Sc) (l2 : List Sc) (m3 : List Sc) (kR : Bool → Option R) : Option R :=
  bo (f_s_IsFreimanMap g0 h1 l2 m3) false fun r1 =>
  br (r1 == true)
    (bo (f_s_IsFreimanMap h1 g0 m3 l2) false fun r2 =>
    kR r2)
    (kR false)
def f_s_IsFreimanIso (g0 : List Sc) (h1 : List Sc) (l2 : List Sc) (m3 : List Sc) : Option (Bool) := f_s_IsFreimanIso_k g0 h1 l2 m3 some

def f_s_l15Find_k0 {R : Type} (self : (List Sc × List Sc × List Sc × List Sc × Int) → Option (List Sc × Bool)) (t2 : List Sc) (t3 : List Sc) (t4 : Int) (t5 : List Sc) (t6 : List Sc) (t12 : List Sc) (t13 : Int) (kN : List Sc × Int → Option R) (kA : List Sc × Int → Option R) (kB : List Sc → Option R) : Option R :=
  br ((decide (t13 < (t12.length : Int))))
    (br (decide (([] : List Sc).length + t3.length ≤ lim))
      (br (inRange t13 (t12).length)
        (br (kAt t12 t13.toNat)
          (br (decide (([] ++ t3).length + [(Sc.n .i64 (atN t12 t13.toNat))].length ≤ lim))
            (bo (f_s_SetOf t6 (([] ++ t3) ++ [(Sc.n .i64 (atN t12 t13.toNat))])) (0, false) fun r3 =>
            br ((!r3.2) == false)
              (br (decide (0 ≤ (0 : Int)) && (decide ((0 : Int) ≤ ((([] ++ t3) ++ [(Sc.n .i64 (atN t12 t13.toNat))]).length : Int)) && decide (((([] ++ t3) ++ [(Sc.n .i64 (atN t12 t13.toNat))]).length : Int) ≤ (t2.length : Int))))
                (bo (f_s_l15Keeps t5 t6 (sliceA t2 0 ((([] ++ t3) ++ [(Sc.n .i64 (atN t12 t13.toNat))]).length : Int)) (([] ++ t3) ++ [(Sc.n .i64 (atN t12 t13.toNat))])) false fun r4 =>
                br ((!r4))
                  (kN (t12, (w64 (t13 + 1))))
                  (bo (self (t5, t6, t2, (([] ++ t3) ++ [(Sc.n .i64 (atN t12 t13.toNat))]), t4)) ([], false) fun r5 =>
                  br (r5.2)
                    (kB r5.1)
                    (kN (t12, (w64 (t13 + 1))))))
                none)
              (kN (t12, (w64 (t13 + 1)))))
            none)
          none)
        none)
      none)
    (kA (t12, t13))
def f_s_l15Find_r0 (self : (List Sc × List Sc × List Sc × List Sc × Int) → Option (List Sc × Bool)) (t2 : List Sc) (t3 : List Sc) (t4 : Int) (t5 : List Sc) (t6 : List Sc) : (List Sc × Int) → Option (Ro (List Sc × Int) (List Sc × Int) (List Sc)) := fun s => f_s_l15Find_k0 self t2 t3 t4 t5 t6 s.1 s.2 (fun s => some (.again s)) (fun e => some (.one e)) (fun e => some (.two e))
def f_s_l15Find_k {R : Type} (self : (List Sc × List Sc × List Sc × List Sc × Int) → Option (List Sc × Bool)) (L0 : List Sc) (p1 : List Sc) (p2 : List Sc) (p3 : List Sc) (p4 : Int) (kR : List Sc × Bool → Option R) : Option R :=
  br (((p3.length : Int) == (p2.length : Int)))
    (bo (f_s_IsFreimanIso L0 p1 p2 p3) false fun r1 =>
    kR (p3, r1))
    (bo (f_s_l3List p4) [] fun r2 =>
    bl (loopL (f_s_l15Find_r0 self p2 p3 p4 L0 p1) (r2, 0)) ([], 0) []
      (fun e6 =>
        kR ([], false))
      (fun e6 =>
        kR (e6, true)))
def f_s_l15Find_n : Nat → (List Sc × List Sc × List Sc × List Sc × Int) → Option (List Sc × Bool)
  | 0, _ => none
  | n + 1, a => f_s_l15Find_k (f_s_l15Find_n n) a.1 a.2.1 a.2.2.1 a.2.2.2.1 a.2.2.2.2 some
def f_s_l15Find (L0 : List Sc) (p1 : List Sc) (p2 : List Sc) (p3 : List Sc) (p4 : Int) : Option (List Sc × Bool) := limF f_s_l15Find_n (L0, p1, p2, p3, p4)

def f_s_FindFreimanIso_k {R : Type} (g0 : List Sc) (h1 : List Sc) (a2 : Int) (b3 : Int) (kR : List Sc × Bool → Option R) : Option R :=
  bo (f_s_IsSet g0 a2) false fun r1 =>
  br ((!r1) == false)
    (bo (f_s_IsSet h1 b3) false fun r2 =>
    br ((!r2) == false)
      (bo (f_s_l3Bits a2) 0 fun r3 =>
      bo (f_s_l3Bits b3) 0 fun r4 =>
      br ((r3 != r4) == false)
        (bo (f_s_l3Bits a2) 0 fun r5 =>
        bo (f_s_l1In r5 1 5) false fun r6 =>
        br ((!r6))
          (kR ([], false))
          (bo (f_s_l3List a2) [] fun r7 =>
          bo (f_s_l15Find g0 h1 r7 [] b3) ([], false) fun r8 =>
          kR (r8.1, r8.2)))
        (kR ([], false)))
      (kR ([], false)))
    (kR ([], false))
def f_s_FindFreimanIso (g0 : List Sc) (h1 : List Sc) (a2 : Int) (b3 : Int) : Option (List Sc × Bool) := f_s_FindFreimanIso_k g0 h1 a2 b3 some

def f_i_FindFreimanIso_1_k0 {R : Type} (self : (List Sc × List Sc × List Sc × List Sc × List Sc × Int × List Sc × List Sc) → Option (Bool × List Sc × List Sc × List Sc × Int × List Sc × List Sc)) (t27 : List Sc) (t28 : Int) (v0 : List Sc) (v1 : List Sc) (v2 : List Sc) (v3 : Int) (v4_0 : List Sc) (v4_1 : List Sc) (t29 : Int) (kN : List Sc × List Sc × List Sc × Int × List Sc × List Sc × Int → Option R) (kA : List Sc × List Sc × List Sc × Int × List Sc × List Sc × Int → Option R) (kB : List Sc × List Sc × List Sc × Int × List Sc × List Sc → Option R) : Option R :=
  br ((decide (t29 < t28)))
    (br (okAt t27 t29)
      (bo (f_i_in v3 (atI t27 t29)) false fun r3 =>
      br (r3)
        (kN (v0, v1, v2, v3, v4_0, v4_1, (w64 (t29 + 1))))
        (br (decide ((atI t27 t29) < 0))
          none
          (br (decide (v0.length + [(Sc.n .i64 (atI t27 t29))].length ≤ lim))
            (bo (self (v4_0, v4_1, (v0 ++ [(Sc.n .i64 (atI t27 t29))]), v1, v2, (or64 v3 (shl64 1 (atI t27 t29))), v4_0, v4_1)) (false, [], [], [], 0, [], []) fun r4 =>
            br (r4.1)
              (kB (r4.2.1, r4.2.2.1, r4.2.2.2.1, r4.2.2.2.2.1, r4.2.2.2.2.2.1, r4.2.2.2.2.2.2))
              (br (decide ((atI t27 t29) < 0))
                none
                (br (decide (0 ≤ (w64 ((r4.2.1.length : Int) - 1))) && decide ((w64 ((r4.2.1.length : Int) - 1)) ≤ (r4.2.1.length : Int)))
                  (kN ((r4.2.1.take (w64 ((r4.2.1.length : Int) - 1)).toNat), r4.2.2.1, r4.2.2.2.1, (andNot64 r4.2.2.2.2.1 (shl64 1 (atI t27 t29))), r4.2.2.2.2.2.1, r4.2.2.2.2.2.2, (w64 (t29 + 1))))
                  none)))
            none)))
      none)
    (kA (v0, v1, v2, v3, v4_0, v4_1, t29))
def f_i_FindFreimanIso_1_r0 (self : (List Sc × List Sc × List Sc × List Sc × List Sc × Int × List Sc × List Sc) → Option (Bool × List Sc × List Sc × List Sc × Int × List Sc × List Sc)) (t27 : List Sc) (t28 : Int) : (List Sc × List Sc × List Sc × Int × List Sc × List Sc × Int) → Option (Ro (List Sc × List Sc × List Sc × Int × List Sc × List Sc × Int) (List Sc × List Sc × List Sc × Int × List Sc × List Sc × Int) (List Sc × List Sc × List Sc × Int × List Sc × List Sc)) := fun s => f_i_FindFreimanIso_1_k0 self t27 t28 s.1 s.2.1 s.2.2.1 s.2.2.2.1 s.2.2.2.2.1 s.2.2.2.2.2.1 s.2.2.2.2.2.2 (fun s => some (.again s)) (fun e => some (.one e)) (fun e => some (.two e))
def f_i_FindFreimanIso_1_k {R : Type} (self : (List Sc × List Sc × List Sc × List Sc × List Sc × Int × List Sc × List Sc) → Option (Bool × List Sc × List Sc × List Sc × Int × List Sc × List Sc)) (p2 : List Sc) (p3 : List Sc) (h0 : List Sc) (h1 : List Sc) (h2 : List Sc) (h3 : Int) (h4_0 : List Sc) (h4_1 : List Sc) (kR : Bool × List Sc × List Sc × List Sc × Int × List Sc × List Sc → Option R) : Option R :=
  br (((h0.length : Int) == (h1.length : Int)))
    (bo (f_i_keeps p2 p3 h1 h0) false fun r1 =>
    br (r1 == true)
      (bo (f_i_keeps p3 p2 h0 h1) false fun r2 =>
      kR (r2, h0, h1, h2, h3, h4_0, h4_1))
      (kR (false, h0, h1, h2, h3, h4_0, h4_1)))
    (bl (loopL (f_i_FindFreimanIso_1_r0 self h2 (h2.length : Int)) (h0, h1, h2, h3, h4_0, h4_1, 0)) ([], [], [], 0, [], [], 0) ([], [], [], 0, [], [])
      (fun e5 =>
        kR (false, e5.1, e5.2.1, e5.2.2.1, e5.2.2.2.1, e5.2.2.2.2.1, e5.2.2.2.2.2.1))
      (fun e5 =>
        kR (true, e5.1, e5.2.1, e5.2.2.1, e5.2.2.2.1, e5.2.2.2.2.1, e5.2.2.2.2.2)))
def f_i_FindFreimanIso_1_n : Nat → (List Sc × List Sc × List Sc × List Sc × List Sc × Int × List Sc × List Sc) → Option (Bool × List Sc × List Sc × List Sc × Int × List Sc × List Sc)
  | 0, _ => none
  | n + 1, a => f_i_FindFreimanIso_1_k (f_i_FindFreimanIso_1_n n) a.1 a.2.1 a.2.2.1 a.2.2.2.1 a.2.2.2.2.1 a.2.2.2.2.2.1 a.2.2.2.2.2.2.1 a.2.2.2.2.2.2.2 some
def f_i_FindFreimanIso_1 (p2 : List Sc) (p3 : List Sc) (h0 : List Sc) (h1 : List Sc) (h2 : List Sc) (h3 : Int) (h4_0 : List Sc) (h4_1 : List Sc) : Option (Bool × List Sc × List Sc × List Sc × Int × List Sc × List Sc) := limF f_i_FindFreimanIso_1_n (p2, p3, h0, h1, h2, h3, h4_0, h4_1)

def f_i_FindFreimanIso_k {R : Type} (g0 : List Sc) (h1 : List Sc) (a2 : Int) (b3 : Int) (kR : List Sc × Bool → Option R) : Option R :=
  bo (f_i_IsSet g0 a2) false fun r1 =>
  br ((!r1) == false)
    (bo (f_i_IsSet h1 b3) false fun r2 =>
    br ((!r2) == false)
      (bo (f_i_bits a2) 0 fun r3 =>
      bo (f_i_bits b3) 0 fun r4 =>
      br ((r3 != r4) == false)
        (bo (f_i_bits a2) 0 fun r5 =>
        bo (f_i_within r5 1 5) false fun r6 =>
        br ((!r6))
          (kR ([], false))
          (bo (f_i_members a2) [] fun r7 =>
          bo (f_i_members b3) [] fun r8 =>
          bo (f_i_FindFreimanIso_1 g0 h1 [] r7 r8 0 g0 h1) (false, [], [], [], 0, [], []) fun r9 =>
          br ((!r9.1))
            (kR ([], false))
            (kR (r9.2.1, true))))
        (kR ([], false)))
      (kR ([], false)))
    (kR ([], false))
def f_i_FindFreimanIso (g0 : List Sc) (h1 : List Sc) (a2 : Int) (b3 : Int) : Option (List Sc × Bool) := f_i_FindFreimanIso_k g0 h1 a2 b3 some

def f_l_FnExactFindFreimanIso_k {R : Type} (L0 : List Sc) (p1 : List Sc) (p2 : Int) (p3 : Int) (kR : Bool → Option R) : Option R :=
  bo (f_l_szGroup L0 1048576) 0 fun r1 =>
  br ((decide (r1 < 0)))
    (kR true)
    (bo (f_l_szGroup p1 r1) 0 fun r2 =>
    br ((decide (r2 < 0)))
      (kR true)
      (bo (f_l_toGroup L0) [] fun r3 =>
      bo (f_l_toGroup p1) [] fun r4 =>
      bo (f_s_FindFreimanIso r3 r4 p2 p3) ([], false) fun r5 =>
      bo (f_l_toGroup L0) [] fun r6 =>
      bo (f_l_toGroup p1) [] fun r7 =>
      bo (f_i_FindFreimanIso r6 r7 p2 p3) ([], false) fun r8 =>
      bo (f_l_eqIntS r8.1 r5.1) false fun r9 =>
      br ((!r9) == false)
        (br ((!(r8.2 == r5.2)))
          (kR false)
          (bo (f_l_toGroup L0) [] fun r10 =>
          bo (f_l_eqGroup r6 r10) false fun r11 =>
          br ((!r11))
            (kR false)
            (bo (f_l_toGroup p1) [] fun r12 =>
            bo (f_l_eqGroup r7 r12) false fun r13 =>
            br ((!r13))
              (kR false)
              (bo (f_l_markGroup_io 1 r6) (0, []) fun r14 =>
              bo (f_l_markGroup_io r14.1 r7) (0, []) fun r15 =>
              br ((decide (r15.1 < 0)) == false)
                (bo (f_l_eqIntS r8.1 r5.1) false fun r16 =>
                br ((!r16) == false)
                  (br ((!(r8.2 == r5.2)))
                    (kR false)
                    (bo (f_l_markIntS_io 1 r8.1) (0, []) fun r17 =>
                    bo (f_l_heldIntS r17.2 1) 0 fun r18 =>
                    br ((decide (r18 < 0)))
                      (kR false)
                      (br ((r18 != r17.1))
                        (kR false)
                        (bo (f_l_toGroup L0) [] fun r19 =>
                        bo (f_l_toGroup p1) [] fun r20 =>
                        bo (f_i_FindFreimanIso r19 r20 p2 p3) ([], false) fun r21 =>
                        bo (f_l_eqIntS r21.1 r5.1) false fun r22 =>
                        br ((!r22) == false)
                          (br ((!(r21.2 == r5.2)))
                            (kR false)
                            (bo (f_l_heldIntS r17.2 1) 0 fun r23 =>
                            br ((decide (r23 < 0)))
                              (kR false)
                              (br ((r23 != r17.1))
                                (kR false)
                                (kR true))))
                          (kR false)))))
                  (kR false))
                (kR false)))))
        (kR false)))
def f_l_FnExactFindFreimanIso (L0 : List Sc) (p1 : List Sc) (p2 : Int) (p3 : Int) : Option (Bool) := f_l_FnExactFindFreimanIso_k L0 p1 p2 p3 some
end
end Go.Proofs.Ytdlofeehgkijhaa
