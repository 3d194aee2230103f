/-
  What the functions compute, as plain functions (printed by gen2.py).
-/
import Derived.Test.YtdlofeehgkijhaaVSort
set_option linter.unusedVariables false
namespace Go.Proofs.Ytdlofeehgkijhaa
open Go Ev
noncomputable section
def f_l_szIntS_k {R : Type} (a0 : List Sc) (left1 : Int) (kR : Int → Option R) : Option R :=
  br ((decide ((w64 (left1 - (a0.length : Int))) < 0)))
    (kR (-1))
    (kR (w64 (left1 - (a0.length : Int))))
def f_l_szIntS (a0 : List Sc) (left1 : Int) : Option (Int) := f_l_szIntS_k a0 left1 some

def f_l_szGroup_k {R : Type} (a0 : List Sc) (left1 : Int) (kR : Int → Option R) : Option R :=
  bo (f_l_szIntS a0 left1) 0 fun r1 =>
  br ((decide (r1 < 0)))
    (kR (-1))
    (kR r1)
def f_l_szGroup (a0 : List Sc) (left1 : Int) : Option (Int) := f_l_szGroup_k a0 left1 some

def f_l_toIntS_k0 {R : Type} (a0 : List Sc) (out3 : List Sc) (i4 : Int) (kN : List Sc × Int → Option R) (kA : List Sc → Option R) : Option R :=
  br ((decide (i4 < (a0.length : Int))))
    (br (okAt a0 i4)
      (br (inRange i4 (out3).length)
        (kN ((out3.set i4.toNat (Sc.n .i64 (atI a0 i4))), (w64 (i4 + 1))))
        none)
      none)
    (kA out3)
def f_l_toIntS_r0 (a0 : List Sc) : (List Sc × Int) → Option (Ro (List Sc × Int) (List Sc) (Unit)) := fun s => f_l_toIntS_k0 a0 s.1 s.2 (fun s => some (.again s)) (fun e => some (.one e))
def f_l_toIntS_k {R : Type} (a0 : List Sc) (kR : List Sc → Option R) : Option R :=
  br (decide (0 ≤ (a0.length : Int)) && (decide ((a0.length : Int) ≤ (a0.length : Int)) && decide ((a0.length : Int) ≤ (lim : Int))))
    (bl1 (loopL (f_l_toIntS_r0 a0) ((List.replicate (a0.length : Int).toNat (Sc.n .i64 0)), 0)) [] fun e1 =>
    kR e1)
    none
def f_l_toIntS (a0 : List Sc) : Option (List Sc) := f_l_toIntS_k a0 some

def f_l_toGroup_k {R : Type} (a0 : List Sc) (kR : List Sc → Option R) : Option R :=
  bo (f_l_toIntS a0) [] fun r1 =>
  kR r1
def f_l_toGroup (a0 : List Sc) : Option (List Sc) := f_l_toGroup_k a0 some

def f_s_l1In_k {R : Type} (x0 : Int) (low1 : Int) (high2 : Int) (kR : Bool → Option R) : Option R :=
  br ((decide (x0 ≥ low1)) == true)
    (kR (decide (x0 ≤ high2)))
    (kR false)
def f_s_l1In (x0 : Int) (low1 : Int) (high2 : Int) : Option (Bool) := f_s_l1In_k x0 low1 high2 some

def f_s_IsGroup_k0 {R : Type} (g1 : List Sc) (n3 : Int) (i4 : Int) (kN : Int × Int → Option R) (kA : Int → Option R) (kB : Unit → Option R) : Option R :=
  br ((decide (i4 < (g1.length : Int))))
    (br (okAt g1 i4)
      (bo (f_s_l1In (atI g1 i4) 2 24) false fun r1 =>
      br ((!r1) == false)
        (br ((decide (i4 > 2)))
          (kB ())
          (br (okAt g1 i4)
            (kN ((w64 (n3 * (atI g1 i4))), (w64 (i4 + 1))))
            none))
        (kB ()))
      none)
    (kA n3)
def f_s_IsGroup_r0 (g1 : List Sc) : (Int × Int) → Option (Ro (Int × Int) (Int) (Unit)) := fun s => f_s_IsGroup_k0 g1 s.1 s.2 (fun s => some (.again s)) (fun e => some (.one e)) (fun e => some (.two e))
def f_s_IsGroup_k {R : Type} (g0 : List Sc) (kR : Bool → Option R) : Option R :=
  bl (loopL (f_s_IsGroup_r0 g0) (1, 0)) 0 ()
    (fun e2 =>
      kR (decide (e2 ≤ 24)))
    (fun e2 =>
      kR false)
def f_s_IsGroup (g0 : List Sc) : Option (Bool) := f_s_IsGroup_k g0 some

def f_s_l2Order_k0 {R : Type} (g1 : List Sc) (n3 : Int) (i4 : Int) (kN : Int × Int → Option R) (kA : Int → Option R) : Option R :=
  br ((decide (i4 < (g1.length : Int))))
    (br (okAt g1 i4)
      (kN ((w64 (n3 * (atI g1 i4))), (w64 (i4 + 1))))
      none)
    (kA n3)
def f_s_l2Order_r0 (g1 : List Sc) : (Int × Int) → Option (Ro (Int × Int) (Int) (Unit)) := fun s => f_s_l2Order_k0 g1 s.1 s.2 (fun s => some (.again s)) (fun e => some (.one e))
def f_s_l2Order_k {R : Type} (g0 : List Sc) (kR : Int → Option R) : Option R :=
  bl1 (loopL (f_s_l2Order_r0 g0) (1, 0)) 0 fun e1 =>
  kR e1
def f_s_l2Order (g0 : List Sc) : Option (Int) := f_s_l2Order_k g0 some

def f_s_IsSet_k {R : Type} (g0 : List Sc) (a1 : Int) (kR : Bool → Option R) : Option R :=
  bo (f_s_IsGroup g0) false fun r1 =>
  br (r1 == true)
    (bo (f_s_l2Order g0) 0 fun r2 =>
    br (decide (r2 < 0))
      none
      (bo (f_s_l1In a1 0 (w64 ((shl64 1 r2) - 1))) false fun r3 =>
      kR r3))
    (kR false)
def f_s_IsSet (g0 : List Sc) (a1 : Int) : Option (Bool) := f_s_IsSet_k g0 a1 some

def f_s_l3List_k0 {R : Type} (out3 : List Sc) (i4 : Int) (x5 : Int) (kN : List Sc × Int × Int → Option R) (kA : List Sc → Option R) : Option R :=
  br ((decide (x5 > 0)))
    (br (((and64 x5 1) == 1))
      (br (decide (out3.length + [(Sc.n .i64 i4)].length ≤ lim))
        (kN ((out3 ++ [(Sc.n .i64 i4)]), (w64 (i4 + 1)), (shr64 x5 1)))
        none)
      (kN (out3, (w64 (i4 + 1)), (shr64 x5 1))))
    (kA out3)
def f_s_l3List_r0 : (List Sc × Int × Int) → Option (Ro (List Sc × Int × Int) (List Sc) (Unit)) := fun s => f_s_l3List_k0 s.1 s.2.1 s.2.2 (fun s => some (.again s)) (fun e => some (.one e))
def f_s_l3List_k {R : Type} (a0 : Int) (kR : List Sc → Option R) : Option R :=
  bl1 (loopL (f_s_l3List_r0) ([], 0, a0)) [] fun e1 =>
  kR e1
def f_s_l3List (a0 : Int) : Option (List Sc) := f_s_l3List_k a0 some

def f_s_l2Negate_k0 {R : Type} (g2 : List Sc) (x1 : Int) (z5 : Int) (step6 : Int) (i7 : Int) (kN : Int × Int × Int × Int → Option R) (kA : Int → Option R) : Option R :=
  br ((decide (i7 < (g2.length : Int))))
    (br (okAt g2 i7)
      (br ((atI g2 i7) == 0)
        none
        (br ((atI g2 i7) == 0)
          none
          (br ((atI g2 i7) == 0)
            none
            (kN ((w64 (x1.tdiv (atI g2 i7))), (w64 (z5 + (w64 (((w64 ((atI g2 i7) - (x1.tmod (atI g2 i7)))).tmod (atI g2 i7)) * step6)))), (w64 (step6 * (atI g2 i7))), (w64 (i7 + 1)))))))
      none)
    (kA z5)
def f_s_l2Negate_r0 (g2 : List Sc) : (Int × Int × Int × Int) → Option (Ro (Int × Int × Int × Int) (Int) (Unit)) := fun s => f_s_l2Negate_k0 g2 s.1 s.2.1 s.2.2.1 s.2.2.2 (fun s => some (.again s)) (fun e => some (.one e))
def f_s_l2Negate_k {R : Type} (g0 : List Sc) (x1 : Int) (kR : Int → Option R) : Option R :=
  bl1 (loopL (f_s_l2Negate_r0 g0) (x1, 0, 1, 0)) 0 fun e1 =>
  kR e1
def f_s_l2Negate (g0 : List Sc) (x1 : Int) : Option (Int) := f_s_l2Negate_k g0 x1 some

def f_s_l2Add_k0 {R : Type} (g3 : List Sc) (x1 : Int) (y2 : Int) (z7 : Int) (step8 : Int) (i9 : Int) (kN : Int × Int × Int × Int × Int → Option R) (kA : Int → Option R) : Option R :=
  br ((decide (i9 < (g3.length : Int))))
    (br (okAt g3 i9)
      (br ((atI g3 i9) == 0)
        none
        (br ((atI g3 i9) == 0)
          none
          (br ((atI g3 i9) == 0)
            none
            (br ((atI g3 i9) == 0)
              none
              (br ((atI g3 i9) == 0)
                none
                (kN ((w64 (x1.tdiv (atI g3 i9))), (w64 (y2.tdiv (atI g3 i9))), (w64 (z7 + (w64 (((w64 ((x1.tmod (atI g3 i9)) + (y2.tmod (atI g3 i9)))).tmod (atI g3 i9)) * step8)))), (w64 (step8 * (atI g3 i9))), (w64 (i9 + 1)))))))))
      none)
    (kA z7)
def f_s_l2Add_r0 (g3 : List Sc) : (Int × Int × Int × Int × Int) → Option (Ro (Int × Int × Int × Int × Int) (Int) (Unit)) := fun s => f_s_l2Add_k0 g3 s.1 s.2.1 s.2.2.1 s.2.2.2.1 s.2.2.2.2 (fun s => some (.again s)) (fun e => some (.one e))
def f_s_l2Add_k {R : Type} (g0 : List Sc) (x1 : Int) (y2 : Int) (kR : Int → Option R) : Option R :=
  bl1 (loopL (f_s_l2Add_r0 g0) (x1, y2, 0, 1, 0)) 0 fun e1 =>
  kR e1
def f_s_l2Add (g0 : List Sc) (x1 : Int) (y2 : Int) : Option (Int) := f_s_l2Add_k g0 x1 y2 some

def f_s_l3Shift_k0 {R : Type} (x2 : Int) (g3 : List Sc) (out7 : Int) (l8 : List Sc) (i9 : Int) (kN : Int × List Sc × Int → Option R) (kA : Int → Option R) : Option R :=
  br ((decide (i9 < (l8.length : Int))))
    (br (inRange i9 (l8).length)
      (br (kAt l8 i9.toNat)
        (bo (f_s_l2Add g3 (atN l8 i9.toNat) x2) 0 fun r2 =>
        br (decide (r2 < 0))
          none
          (kN ((or64 out7 (shl64 1 r2)), l8, (w64 (i9 + 1)))))
        none)
      none)
    (kA out7)
def f_s_l3Shift_r0 (x2 : Int) (g3 : List Sc) : (Int × List Sc × Int) → Option (Ro (Int × List Sc × Int) (Int) (Unit)) := fun s => f_s_l3Shift_k0 x2 g3 s.1 s.2.1 s.2.2 (fun s => some (.again s)) (fun e => some (.one e))
def f_s_l3Shift_k {R : Type} (g0 : List Sc) (a1 : Int) (x2 : Int) (kR : Int → Option R) : Option R :=
  bo (f_s_l3List a1) [] fun r1 =>
  bl1 (loopL (f_s_l3Shift_r0 x2 g0) (0, r1, 0)) 0 fun e3 =>
  kR e3
def f_s_l3Shift (g0 : List Sc) (a1 : Int) (x2 : Int) : Option (Int) := f_s_l3Shift_k g0 a1 x2 some

def f_s_l20Search_k0 {R : Type} (self : (List Sc × Int × Int × Int × Int × Int) → Option (List Sc)) (t1 : Int) (t2 : Int) (t3 : Int) (t4 : Int) (t5 : Int) (t6 : List Sc) (t13 : Int) (kN : Int → Option R) (kA : Int → Option R) : Option R :=
  br (decide (t13 < 0))
    none
    (br (((and64 (shr64 t3 t13) 1) == 1))
      (kN (w64 (t13 + 1)))
      (kA t13))
def f_s_l20Search_r0 (self : (List Sc × Int × Int × Int × Int × Int) → Option (List Sc)) (t1 : Int) (t2 : Int) (t3 : Int) (t4 : Int) (t5 : Int) (t6 : List Sc) : Int → Option (Ro (Int) (Int) (Unit)) := fun s => f_s_l20Search_k0 self t1 t2 t3 t4 t5 t6 s (fun s => some (.again s)) (fun e => some (.one e))
def f_s_l20Search_k2 {R : Type} (self : (List Sc × Int × Int × Int × Int × Int) → Option (List Sc)) (t1 : Int) (t2 : Int) (t3 : Int) (t4 : Int) (t5 : Int) (t6 : List Sc) (t13 : Int) (t14 : List Sc) (t15 : List Sc) (t16 : Int) (kN : List Sc × List Sc × Int → Option R) (kA : List Sc → Option R) : Option R :=
  br ((decide (t16 < (t15.length : Int))) == true)
    (br ((decide ((t14.length : Int) < t5)))
      (br (inRange t16 (t15).length)
        (br (kAt t15 t16.toNat)
          (bo (f_s_l2Negate t6 (atN t15 t16.toNat)) 0 fun r3 =>
          bo (f_s_l2Add t6 t13 r3) 0 fun r4 =>
          bo (f_s_l3Shift t6 t1 r4) 0 fun r5 =>
          br (((and64 r5 t3) == 0))
            (br (decide (r4 < 0))
              none
              (bo (self (t6, t1, t2, (or64 t3 r5), (or64 t4 (shl64 1 r4)), (w64 (t5 - (t14.length : Int))))) [] fun r6 =>
              br (decide (t14.length + r6.length ≤ lim))
                (kN ((t14 ++ r6), t15, (w64 (t16 + 1))))
                none))
            (kN (t14, t15, (w64 (t16 + 1)))))
          none)
        none)
      (kA t14))
    (kA t14)
def f_s_l20Search_r2 (self : (List Sc × Int × Int × Int × Int × Int) → Option (List Sc)) (t1 : Int) (t2 : Int) (t3 : Int) (t4 : Int) (t5 : Int) (t6 : List Sc) (t13 : Int) : (List Sc × List Sc × Int) → Option (Ro (List Sc × List Sc × Int) (List Sc) (Unit)) := fun s => f_s_l20Search_k2 self t1 t2 t3 t4 t5 t6 t13 s.1 s.2.1 s.2.2 (fun s => some (.again s)) (fun e => some (.one e))
def f_s_l20Search_k {R : Type} (self : (List Sc × Int × Int × Int × Int × Int) → Option (List Sc)) (L0 : List Sc) (p1 : Int) (p2 : Int) (p3 : Int) (p4 : Int) (p5 : Int) (kR : List Sc → Option R) : Option R :=
  br ((p3 == p2))
    (kR [(Sc.n .i64 p4)])
    (bl1 (loopL (f_s_l20Search_r0 self p1 p2 p3 p4 p5 L0) 0) 0 fun e1 =>
    bo (f_s_l3List p1) [] fun r2 =>
    bl1 (loopL (f_s_l20Search_r2 self p1 p2 p3 p4 p5 L0 e1) ([], r2, 0)) [] fun e7 =>
    kR e7)
def f_s_l20Search_n : Nat → (List Sc × Int × Int × Int × Int × Int) → Option (List Sc)
  | 0, _ => none
  | n + 1, a => f_s_l20Search_k (f_s_l20Search_n n) a.1 a.2.1 a.2.2.1 a.2.2.2.1 a.2.2.2.2.1 a.2.2.2.2.2 some
def f_s_l20Search (L0 : List Sc) (p1 : Int) (p2 : Int) (p3 : Int) (p4 : Int) (p5 : Int) : Option (List Sc) := limF f_s_l20Search_n (L0, p1, p2, p3, p4, p5)

def f_s_l5Put_k0 {R : Type} (l0 : List Sc) (n1 : Int) (k5 : Int) (kN : Int → Option R) (kA : Int → Option R) : Option R :=
  br ((decide (k5 > 0)) == true)
    (br (okAt l0 (w64 (k5 - 1)))
      (br ((decide ((atI l0 (w64 (k5 - 1))) > n1)))
        (kN (w64 (k5 - 1)))
        (kA k5))
      none)
    (kA k5)
def f_s_l5Put_r0 (l0 : List Sc) (n1 : Int) : Int → Option (Ro (Int) (Int) (Unit)) := fun s => f_s_l5Put_k0 l0 n1 s (fun s => some (.again s)) (fun e => some (.one e))
def f_s_l5Put_k {R : Type} (l0 : List Sc) (n1 : Int) (kR : List Sc → Option R) : Option R :=
  bl1 (loopL (f_s_l5Put_r0 l0 n1) (l0.length : Int)) 0 fun e1 =>
  br ((decide (e1 > 0)) == true)
    (br (okAt l0 (w64 (e1 - 1)))
      (br (((atI l0 (w64 (e1 - 1))) == n1))
        (kR l0)
        (br (decide (0 ≤ (0 : Int)) && (decide ((0 : Int) ≤ e1) && decide (e1 ≤ (l0.length : Int))))
          (br (decide (([] : List Sc).length + (sliceA l0 0 e1).length ≤ lim))
            (br (decide (([] ++ (sliceA l0 0 e1)).length + [(Sc.n .i64 n1)].length ≤ lim))
              (br (decide (0 ≤ e1) && (decide (e1 ≤ (l0.length : Int)) && decide ((l0.length : Int) ≤ (l0.length : Int))))
                (br (decide ((([] ++ (sliceA l0 0 e1)) ++ [(Sc.n .i64 n1)]).length + (sliceA l0 e1 (l0.length : Int)).length ≤ lim))
                  (kR ((([] ++ (sliceA l0 0 e1)) ++ [(Sc.n .i64 n1)]) ++ (sliceA l0 e1 (l0.length : Int))))
                  none)
                none)
              none)
            none)
          none))
      none)
    (br (decide (0 ≤ (0 : Int)) && (decide ((0 : Int) ≤ e1) && decide (e1 ≤ (l0.length : Int))))
      (br (decide (([] : List Sc).length + (sliceA l0 0 e1).length ≤ lim))
        (br (decide (([] ++ (sliceA l0 0 e1)).length + [(Sc.n .i64 n1)].length ≤ lim))
          (br (decide (0 ≤ e1) && (decide (e1 ≤ (l0.length : Int)) && decide ((l0.length : Int) ≤ (l0.length : Int))))
            (br (decide ((([] ++ (sliceA l0 0 e1)) ++ [(Sc.n .i64 n1)]).length + (sliceA l0 e1 (l0.length : Int)).length ≤ lim))
              (kR ((([] ++ (sliceA l0 0 e1)) ++ [(Sc.n .i64 n1)]) ++ (sliceA l0 e1 (l0.length : Int))))
              none)
            none)
          none)
        none)
      none)
def f_s_l5Put (l0 : List Sc) (n1 : Int) : Option (List Sc) := f_s_l5Put_k l0 n1 some

def f_s_TilesOf_k0 {R : Type} (out6 : List Sc) (l7 : List Sc) (i8 : Int) (kN : List Sc × List Sc × Int → Option R) (kA : List Sc → Option R) : Option R :=
  br ((decide (i8 < (l7.length : Int))))
    (br (inRange i8 (l7).length)
      (br (kAt l7 i8.toNat)
        (bo (f_s_l5Put out6 (atN l7 i8.toNat)) [] fun r4 =>
        kN (r4, l7, (w64 (i8 + 1))))
        none)
      none)
    (kA out6)
def f_s_TilesOf_r0 : (List Sc × List Sc × Int) → Option (Ro (List Sc × List Sc × Int) (List Sc) (Unit)) := fun s => f_s_TilesOf_k0 s.1 s.2.1 s.2.2 (fun s => some (.again s)) (fun e => some (.one e))
def f_s_TilesOf_k {R : Type} (g0 : List Sc) (a1 : Int) (kR : List Sc × Bool → Option R) : Option R :=
  bo (f_s_IsSet g0 a1) false fun r1 =>
  br ((!r1) == false)
    (br ((a1 == 0))
      (kR ([], false))
      (bo (f_s_l2Order g0) 0 fun r2 =>
      br (decide (r2 < 0))
        none
        (bo (f_s_l20Search g0 a1 (w64 ((shl64 1 r2) - 1)) a1 1 200) [] fun r3 =>
        bl1 (loopL (f_s_TilesOf_r0) ([], r3, 0)) [] fun e5 =>
        kR (e5, true))))
    (kR ([], false))
def f_s_TilesOf (g0 : List Sc) (a1 : Int) : Option (List Sc × Bool) := f_s_TilesOf_k g0 a1 some

def f_s_SplitsOf_k {R : Type} (g0 : List Sc) (a1 : Int) (kR : Int → Option R) : Option R :=
  bo (f_s_TilesOf g0 a1) ([], false) fun r1 =>
  br ((!r1.2))
    (kR (-1))
    (kR (r1.1.length : Int))
def f_s_SplitsOf (g0 : List Sc) (a1 : Int) : Option (Int) := f_s_SplitsOf_k g0 a1 some

def f_i_within_k {R : Type} (x0 : Int) (lo1 : Int) (hi2 : Int) (kR : Bool → Option R) : Option R :=
  br ((decide (x0 ≥ lo1)) == true)
    (kR (decide (x0 ≤ hi2)))
    (kR false)
def f_i_within (x0 : Int) (lo1 : Int) (hi2 : Int) : Option (Bool) := f_i_within_k x0 lo1 hi2 some

def f_i_IsGroup_k0 {R : Type} (t11 : List Sc) (t12 : Int) (n3 : Int) (t13 : Int) (kN : Int × Int → Option R) (kA : Int → Option R) (kB : Unit → Option R) : Option R :=
  br ((decide (t13 < t12)))
    (br (okAt t11 t13)
      (bo (f_i_within (atI t11 t13) 2 24) false fun r1 =>
      br ((!r1))
        (kB ())
        (kN ((w64 (n3 * (atI t11 t13))), (w64 (t13 + 1)))))
      none)
    (kA n3)
def f_i_IsGroup_r0 (t11 : List Sc) (t12 : Int) : (Int × Int) → Option (Ro (Int × Int) (Int) (Unit)) := fun s => f_i_IsGroup_k0 t11 t12 s.1 s.2 (fun s => some (.again s)) (fun e => some (.one e)) (fun e => some (.two e))
def f_i_IsGroup_k {R : Type} (g0 : List Sc) (kR : Bool → Option R) : Option R :=
  br ((decide ((g0.length : Int) > 3)))
    (kR false)
    (bl (loopL (f_i_IsGroup_r0 g0 (g0.length : Int)) (1, 0)) 0 ()
      (fun e2 =>
        kR (decide (e2 ≤ 24)))
      (fun e2 =>
        kR false))
def f_i_IsGroup (g0 : List Sc) : Option (Bool) := f_i_IsGroup_k g0 some

def f_i_OrderOf_k0 {R : Type} (t10 : List Sc) (t11 : Int) (n3 : Int) (t12 : Int) (kN : Int × Int → Option R) (kA : Int → Option R) : Option R :=
  br ((decide (t12 < t11)))
    (br (okAt t10 t12)
      (kN ((w64 (n3 * (atI t10 t12))), (w64 (t12 + 1))))
      none)
    (kA n3)
def f_i_OrderOf_r0 (t10 : List Sc) (t11 : Int) : (Int × Int) → Option (Ro (Int × Int) (Int) (Unit)) := fun s => f_i_OrderOf_k0 t10 t11 s.1 s.2 (fun s => some (.again s)) (fun e => some (.one e))
def f_i_OrderOf_k {R : Type} (g0 : List Sc) (kR : Int → Option R) : Option R :=
  bo (f_i_IsGroup g0) false fun r1 =>
  br ((!r1))
    (kR 0)
    (bl1 (loopL (f_i_OrderOf_r0 g0 (g0.length : Int)) (1, 0)) 0 fun e2 =>
    kR e2)
def f_i_OrderOf (g0 : List Sc) : Option (Int) := f_i_OrderOf_k g0 some

def f_i_IsSet_k {R : Type} (g0 : List Sc) (a1 : Int) (kR : Bool → Option R) : Option R :=
  bo (f_i_IsGroup g0) false fun r1 =>
  br (r1 == true)
    (br ((decide (a1 ≥ 0)) == true)
      (bo (f_i_OrderOf g0) 0 fun r2 =>
      br (decide (r2 < 0))
        none
        (kR (decide (a1 < (shl64 1 r2)))))
      (kR false))
    (kR false)
def f_i_IsSet (g0 : List Sc) (a1 : Int) : Option (Bool) := f_i_IsSet_k g0 a1 some

def f_i_FullSet_k {R : Type} (g0 : List Sc) (kR : Int → Option R) : Option R :=
  bo (f_i_IsGroup g0) false fun r1 =>
  br ((!r1))
    (kR 0)
    (bo (f_i_OrderOf g0) 0 fun r2 =>
    br (decide (r2 < 0))
      none
      (kR (w64 ((shl64 1 r2) - 1))))
def f_i_FullSet (g0 : List Sc) : Option (Int) := f_i_FullSet_k g0 some

def f_i_in_k {R : Type} (a0 : Int) (x1 : Int) (kR : Bool → Option R) : Option R :=
  br (decide (x1 < 0))
    none
    (kR ((and64 (shr64 a0 x1) 1) == 1))
def f_i_in (a0 : Int) (x1 : Int) : Option (Bool) := f_i_in_k a0 x1 some

def f_i_members_k0 {R : Type} (a0 : Int) (out3 : List Sc) (x4 : Int) (kN : List Sc × Int → Option R) (kA : List Sc → Option R) : Option R :=
  br (decide (x4 < 0))
    none
    (br (((shr64 a0 x4) != 0))
      (br (decide (x4 < 0))
        none
        (br (((and64 (shr64 a0 x4) 1) == 1))
          (br (decide (out3.length + [(Sc.n .i64 x4)].length ≤ lim))
            (kN ((out3 ++ [(Sc.n .i64 x4)]), (w64 (x4 + 1))))
            none)
          (kN (out3, (w64 (x4 + 1))))))
      (kA out3))
def f_i_members_r0 (a0 : Int) : (List Sc × Int) → Option (Ro (List Sc × Int) (List Sc) (Unit)) := fun s => f_i_members_k0 a0 s.1 s.2 (fun s => some (.again s)) (fun e => some (.one e))
def f_i_members_k {R : Type} (a0 : Int) (kR : List Sc → Option R) : Option R :=
  bl1 (loopL (f_i_members_r0 a0) ([], 0)) [] fun e1 =>
  kR e1
def f_i_members (a0 : Int) : Option (List Sc) := f_i_members_k a0 some

def f_i_Group_negate_k0 {R : Type} (t10 : List Sc) (t11 : Int) (x1 : Int) (sum5 : Int) (unit6 : Int) (t12 : Int) (kN : Int × Int × Int × Int → Option R) (kA : Int → Option R) : Option R :=
  br ((decide (t12 < t11)))
    (br (okAt t10 t12)
      (br ((atI t10 t12) == 0)
        none
        (br ((atI t10 t12) == 0)
          none
          (br ((atI t10 t12) == 0)
            none
            (kN ((w64 (x1.tdiv (atI t10 t12))), (w64 (sum5 + (w64 (((w64 ((atI t10 t12) - (x1.tmod (atI t10 t12)))).tmod (atI t10 t12)) * unit6)))), (w64 (unit6 * (atI t10 t12))), (w64 (t12 + 1)))))))
      none)
    (kA sum5)
def f_i_Group_negate_r0 (t10 : List Sc) (t11 : Int) : (Int × Int × Int × Int) → Option (Ro (Int × Int × Int × Int) (Int) (Unit)) := fun s => f_i_Group_negate_k0 t10 t11 s.1 s.2.1 s.2.2.1 s.2.2.2 (fun s => some (.again s)) (fun e => some (.one e))
def f_i_Group_negate_k {R : Type} (g0 : List Sc) (x1 : Int) (kR : Int → Option R) : Option R :=
  bl1 (loopL (f_i_Group_negate_r0 g0 (g0.length : Int)) (x1, 0, 1, 0)) 0 fun e1 =>
  kR e1
def f_i_Group_negate (g0 : List Sc) (x1 : Int) : Option (Int) := f_i_Group_negate_k g0 x1 some

def f_i_Group_add_k0 {R : Type} (t12 : List Sc) (t13 : Int) (x1 : Int) (y2 : Int) (sum7 : Int) (unit8 : Int) (t14 : Int) (kN : Int × Int × Int × Int × Int → Option R) (kA : Int → Option R) : Option R :=
  br ((decide (t14 < t13)))
    (br (okAt t12 t14)
      (br ((atI t12 t14) == 0)
        none
        (br ((atI t12 t14) == 0)
          none
          (br ((atI t12 t14) == 0)
            none
            (br ((atI t12 t14) == 0)
              none
              (br ((atI t12 t14) == 0)
                none
                (kN ((w64 (x1.tdiv (atI t12 t14))), (w64 (y2.tdiv (atI t12 t14))), (w64 (sum7 + (w64 (((w64 ((x1.tmod (atI t12 t14)) + (y2.tmod (atI t12 t14)))).tmod (atI t12 t14)) * unit8)))), (w64 (unit8 * (atI t12 t14))), (w64 (t14 + 1)))))))))
      none)
    (kA sum7)
def f_i_Group_add_r0 (t12 : List Sc) (t13 : Int) : (Int × Int × Int × Int × Int) → Option (Ro (Int × Int × Int × Int × Int) (Int) (Unit)) := fun s => f_i_Group_add_k0 t12 t13 s.1 s.2.1 s.2.2.1 s.2.2.2.1 s.2.2.2.2 (fun s => some (.again s)) (fun e => some (.one e))
def f_i_Group_add_k {R : Type} (g0 : List Sc) (x1 : Int) (y2 : Int) (kR : Int → Option R) : Option R :=
  bl1 (loopL (f_i_Group_add_r0 g0 (g0.length : Int)) (x1, y2, 0, 1, 0)) 0 fun e1 =>
  kR e1
def f_i_Group_add (g0 : List Sc) (x1 : Int) (y2 : Int) : Option (Int) := f_i_Group_add_k g0 x1 y2 some

def f_i_Group_minus_k {R : Type} (g0 : List Sc) (x1 : Int) (y2 : Int) (kR : Int → Option R) : Option R :=
  bo (f_i_Group_negate g0 y2) 0 fun r1 =>
  bo (f_i_Group_add g0 x1 r1) 0 fun r2 =>
  kR r2
def f_i_Group_minus (g0 : List Sc) (x1 : Int) (y2 : Int) : Option (Int) := f_i_Group_minus_k g0 x1 y2 some

def f_i_Group_shift_k0 {R : Type} (a1 : Int) (x2 : Int) (g3 : List Sc) (out7 : Int) (y8 : Int) (kN : Int × Int → Option R) (kA : Int → Option R) : Option R :=
  br (decide (y8 < 0))
    none
    (br (((shr64 a1 y8) != 0))
      (br (decide (y8 < 0))
        none
        (br (((and64 (shr64 a1 y8) 1) == 1))
          (bo (f_i_Group_add g3 x2 y8) 0 fun r1 =>
          br (decide (r1 < 0))
            none
            (kN ((or64 out7 (shl64 1 r1)), (w64 (y8 + 1)))))
          (kN (out7, (w64 (y8 + 1))))))
      (kA out7))
def f_i_Group_shift_r0 (a1 : Int) (x2 : Int) (g3 : List Sc) : (Int × Int) → Option (Ro (Int × Int) (Int) (Unit)) := fun s => f_i_Group_shift_k0 a1 x2 g3 s.1 s.2 (fun s => some (.again s)) (fun e => some (.one e))
def f_i_Group_shift_k {R : Type} (g0 : List Sc) (a1 : Int) (x2 : Int) (kR : Int → Option R) : Option R :=
  bl1 (loopL (f_i_Group_shift_r0 a1 x2 g0) (0, 0)) 0 fun e2 =>
  kR e2
def f_i_Group_shift (g0 : List Sc) (a1 : Int) (x2 : Int) : Option (Int) := f_i_Group_shift_k g0 a1 x2 some

def f_i_tiles_1_k0 {R : Type} (self : (Int × Int × List Sc × Int × Int × List Sc × List Sc × Int × Int) → Option (List Sc × List Sc × Int × Int)) (shifts0 : Int) (reached1 : Int) (t2 : List Sc) (t4 : Int) (t5 : Int) (v0 : List Sc) (v1_0 : List Sc) (v1_1 : Int) (v1_2 : Int) (e9 : Int) (kN : List Sc × List Sc × Int × Int × Int → Option R) (kA : List Sc × List Sc × Int × Int × Int → Option R) : Option R :=
  bo (f_i_in reached1 e9) false fun r2 =>
  br (r2)
    (kN (v0, v1_0, v1_1, v1_2, (w64 (e9 + 1))))
    (kA (v0, v1_0, v1_1, v1_2, e9))
def f_i_tiles_1_r0 (self : (Int × Int × List Sc × Int × Int × List Sc × List Sc × Int × Int) → Option (List Sc × List Sc × Int × Int)) (shifts0 : Int) (reached1 : Int) (t2 : List Sc) (t4 : Int) (t5 : Int) : (List Sc × List Sc × Int × Int × Int) → Option (Ro (List Sc × List Sc × Int × Int × Int) (List Sc × List Sc × Int × Int × Int) (Unit)) := fun s => f_i_tiles_1_k0 self shifts0 reached1 t2 t4 t5 s.1 s.2.1 s.2.2.1 s.2.2.2.1 s.2.2.2.2 (fun s => some (.again s)) (fun e => some (.one e))
def f_i_tiles_1_k2 {R : Type} (self : (Int × Int × List Sc × Int × Int × List Sc × List Sc × Int × Int) → Option (List Sc × List Sc × Int × Int)) (shifts0 : Int) (reached1 : Int) (t2 : List Sc) (t4 : Int) (t5 : Int) (e9 : Int) (t29 : Int) (v0 : List Sc) (v1_0 : List Sc) (v1_1 : Int) (v1_2 : Int) (t28 : List Sc) (t30 : Int) (kN : List Sc × List Sc × Int × Int × List Sc × Int → Option R) (kA : List Sc × List Sc × Int × Int → Option R) : Option R :=
  br ((decide (t30 < t29)))
    (br (inRange t30 (t28).length)
      (br (kAt t28 t30.toNat)
        (bo (f_i_Group_minus t2 e9 (atN t28 t30.toNat)) 0 fun r5 =>
        bo (f_i_Group_shift t2 t4 r5) 0 fun r6 =>
        br (((and64 r6 reached1) == 0) == true)
          (br ((decide ((v0.length : Int) < t5)))
            (br (decide (r5 < 0))
              none
              (bo (self ((or64 shifts0 (shl64 1 r5)), (or64 reached1 r6), v1_0, v1_1, v1_2, v0, v1_0, v1_1, v1_2)) ([], [], 0, 0) fun r7 =>
              kN (r7.1, r7.2.1, r7.2.2.1, r7.2.2.2, t28, (w64 (t30 + 1)))))
            (kN (v0, v1_0, v1_1, v1_2, t28, (w64 (t30 + 1)))))
          (kN (v0, v1_0, v1_1, v1_2, t28, (w64 (t30 + 1)))))
        none)
      none)
    (kA (v0, v1_0, v1_1, v1_2))
def f_i_tiles_1_r2 (self : (Int × Int × List Sc × Int × Int × List Sc × List Sc × Int × Int) → Option (List Sc × List Sc × Int × Int)) (shifts0 : Int) (reached1 : Int) (t2 : List Sc) (t4 : Int) (t5 : Int) (e9 : Int) (t29 : Int) : (List Sc × List Sc × Int × Int × List Sc × Int) → Option (Ro (List Sc × List Sc × Int × Int × List Sc × Int) (List Sc × List Sc × Int × Int) (Unit)) := fun s => f_i_tiles_1_k2 self shifts0 reached1 t2 t4 t5 e9 t29 s.1 s.2.1 s.2.2.1 s.2.2.2.1 s.2.2.2.2.1 s.2.2.2.2.2 (fun s => some (.again s)) (fun e => some (.one e))
def f_i_tiles_1_k {R : Type} (self : (Int × Int × List Sc × Int × Int × List Sc × List Sc × Int × Int) → Option (List Sc × List Sc × Int × Int)) (shifts0 : Int) (reached1 : Int) (p2 : List Sc) (p4 : Int) (p5 : Int) (h0 : List Sc) (h1_0 : List Sc) (h1_1 : Int) (h1_2 : Int) (kR : List Sc × List Sc × Int × Int → Option R) : Option R :=
  bo (f_i_FullSet p2) 0 fun r1 =>
  br ((reached1 == r1))
    (br (decide (h0.length + [(Sc.n .i64 shifts0)].length ≤ lim))
      (kR ((h0 ++ [(Sc.n .i64 shifts0)]), h1_0, h1_1, h1_2))
      none)
    (bl1 (loopL (f_i_tiles_1_r0 self shifts0 reached1 p2 p4 p5) (h0, h1_0, h1_1, h1_2, 0)) ([], [], 0, 0, 0) fun e3 =>
    bo (f_i_members p4) [] fun r4 =>
    bl1 (loopL (f_i_tiles_1_r2 self shifts0 reached1 p2 p4 p5 e3.2.2.2.2 (r4.length : Int)) (e3.1, e3.2.1, e3.2.2.1, e3.2.2.2.1, r4, 0)) ([], [], 0, 0) fun e8 =>
    kR (e8.1, e8.2.1, e8.2.2.1, e8.2.2.2))
def f_i_tiles_1_n : Nat → (Int × Int × List Sc × Int × Int × List Sc × List Sc × Int × Int) → Option (List Sc × List Sc × Int × Int)
  | 0, _ => none
  | n + 1, a => f_i_tiles_1_k (f_i_tiles_1_n n) a.1 a.2.1 a.2.2.1 a.2.2.2.1 a.2.2.2.2.1 a.2.2.2.2.2.1 a.2.2.2.2.2.2.1 a.2.2.2.2.2.2.2.1 a.2.2.2.2.2.2.2.2 some
def f_i_tiles_1 (shifts0 : Int) (reached1 : Int) (p2 : List Sc) (p4 : Int) (p5 : Int) (h0 : List Sc) (h1_0 : List Sc) (h1_1 : Int) (h1_2 : Int) : Option (List Sc × List Sc × Int × Int) := limF f_i_tiles_1_n (shifts0, reached1, p2, p4, p5, h0, h1_0, h1_1, h1_2)

def f_i_tiles_k {R : Type} (g0 : List Sc) (a1 : Int) (most2 : Int) (kR : List Sc → Option R) : Option R :=
  bo (f_i_tiles_1 1 a1 g0 a1 most2 [] g0 a1 most2) ([], [], 0, 0) fun r1 =>
  kR r1.1
def f_i_tiles (g0 : List Sc) (a1 : Int) (most2 : Int) : Option (List Sc) := f_i_tiles_k g0 a1 most2 some

def f_slices_Sort (h0 : List Sc) : Option (List Sc) := sortSc h0

def f_i_TilesOf_k {R : Type} (g0 : List Sc) (a1 : Int) (kR : List Sc × Bool → Option R) : Option R :=
  bo (f_i_IsSet g0 a1) false fun r1 =>
  br ((!r1) == false)
    (br ((a1 == 0))
      (kR ([], false))
      (bo (f_i_tiles g0 a1 200) [] fun r2 =>
      bo (f_slices_Sort r2) [] fun r3 =>
      kR (r3, true)))
    (kR ([], false))
def f_i_TilesOf (g0 : List Sc) (a1 : Int) : Option (List Sc × Bool) := f_i_TilesOf_k g0 a1 some

def f_i_SplitsOf_k {R : Type} (g0 : List Sc) (a1 : Int) (kR : Int → Option R) : Option R :=
  bo (f_i_TilesOf g0 a1) ([], false) fun r1 =>
  br ((!r1.2))
    (kR (-1))
    (kR (r1.1.length : Int))
def f_i_SplitsOf (g0 : List Sc) (a1 : Int) : Option (Int) := f_i_SplitsOf_k g0 a1 some

def f_l_eqIntS_k0 {R : Type} (a0 : List Sc) (b1 : List Sc) (i5 : Int) (kN : Int → Option R) (kA : Unit → Option R) (kB : Unit → Option R) : Option R :=
  br ((decide (i5 < (a0.length : Int))))
    (br (okAt a0 i5)
      (br (okAt b1 i5)
        (br (((atI a0 i5) != (atI b1 i5)))
          (kB ())
          (kN (w64 (i5 + 1))))
        none)
      none)
    (kA ())
def f_l_eqIntS_r0 (a0 : List Sc) (b1 : List Sc) : Int → Option (Ro (Int) (Unit) (Unit)) := fun s => f_l_eqIntS_k0 a0 b1 s (fun s => some (.again s)) (fun e => some (.one e)) (fun e => some (.two e))
def f_l_eqIntS_k {R : Type} (a0 : List Sc) (b1 : List Sc) (kR : Bool → Option R) : Option R :=
  br (((a0.length : Int) != (b1.length : Int)))
    (kR false)
    (bl (loopL (f_l_eqIntS_r0 a0 b1) 0) () ()
      (fun e1 =>
        kR true)
      (fun e1 =>
        kR false))
def f_l_eqIntS (a0 : List Sc) (b1 : List Sc) : Option (Bool) := f_l_eqIntS_k a0 b1 some

def f_l_eqGroup_k {R : Type} (a0 : List Sc) (b1 : List Sc) (kR : Bool → Option R) : Option R :=
  bo (f_l_eqIntS a0 b1) false fun r1 =>
  br ((!r1))
    (kR false)
    (kR true)
def f_l_eqGroup (a0 : List Sc) (b1 : List Sc) : Option (Bool) := f_l_eqGroup_k a0 b1 some

def f_l_FnExactSplitsOf_k {R : Type} (aG0 : List Sc) (aA1 : Int) (kR : Bool → Option R) : Option R :=
  bo (f_l_szGroup aG0 1048576) 0 fun r1 =>
  br ((decide (r1 < 0)))
    (kR true)
    (bo (f_l_toGroup aG0) [] fun r2 =>
    bo (f_s_SplitsOf r2 aA1) 0 fun r3 =>
    bo (f_l_toGroup aG0) [] fun r4 =>
    bo (f_i_SplitsOf r4 aA1) 0 fun r5 =>
    br ((r5 != r3))
      (kR false)
      (bo (f_l_toGroup aG0) [] fun r6 =>
      bo (f_l_eqGroup r4 r6) false fun r7 =>
      br ((!r7))
        (kR false)
        (kR true)))
def f_l_FnExactSplitsOf (aG0 : List Sc) (aA1 : Int) : Option (Bool) := f_l_FnExactSplitsOf_k aG0 aA1 some

def f_l_markIntS_io_k0 {R : Type} (v0 : List Sc) (k1 : Int) (i5 : Int) (kN : List Sc × Int × Int → Option R) (kA : List Sc × Int → Option R) : Option R :=
  br ((decide (i5 < (v0.length : Int))))
    (br (inRange i5 (v0).length)
      (kN ((v0.set i5.toNat (Sc.n .i64 k1)), (w64 (k1 + 1)), (w64 (i5 + 1))))
      none)
    (kA (v0, k1))
def f_l_markIntS_io_r0 : (List Sc × Int × Int) → Option (Ro (List Sc × Int × Int) (List Sc × Int) (Unit)) := fun s => f_l_markIntS_io_k0 s.1 s.2.1 s.2.2 (fun s => some (.again s)) (fun e => some (.one e))
def f_l_markIntS_io_k {R : Type} (k1 : Int) (h0 : List Sc) (kR : Int × List Sc → Option R) : Option R :=
  bl1 (loopL (f_l_markIntS_io_r0) (h0, k1, 0)) ([], 0) fun e1 =>
  kR (e1.2, e1.1)
def f_l_markIntS_io (k1 : Int) (h0 : List Sc) : Option (Int × List Sc) := f_l_markIntS_io_k k1 h0 some

def f_l_markGroup_io_k {R : Type} (k1 : Int) (h0 : List Sc) (kR : Int × List Sc → Option R) : Option R :=
  bo (f_l_markIntS_io k1 h0) (0, []) fun r1 =>
  kR (r1.1, r1.2)
def f_l_markGroup_io (k1 : Int) (h0 : List Sc) : Option (Int × List Sc) := f_l_markGroup_io_k k1 h0 some

def f_l_heldIntS_k0 {R : Type} (a0 : List Sc) (k1 : Int) (i5 : Int) (kN : Int × Int → Option R) (kA : Int → Option R) (kB : Unit → Option R) : Option R :=
  br ((decide (i5 < (a0.length : Int))))
    (br (okAt a0 i5)
      (br (((atI a0 i5) != k1))
        (kB ())
        (kN ((w64 (k1 + 1)), (w64 (i5 + 1)))))
      none)
    (kA k1)
def f_l_heldIntS_r0 (a0 : List Sc) : (Int × Int) → Option (Ro (Int × Int) (Int) (Unit)) := fun s => f_l_heldIntS_k0 a0 s.1 s.2 (fun s => some (.again s)) (fun e => some (.one e)) (fun e => some (.two e))
def f_l_heldIntS_k {R : Type} (a0 : List Sc) (k1 : Int) (kR : Int → Option R) : Option R :=
  bl (loopL (f_l_heldIntS_r0 a0) (k1, 0)) 0 ()
    (fun e1 =>
      kR e1)
    (fun e1 =>
      kR (-1))
def f_l_heldIntS (a0 : List Sc) (k1 : Int) : Option (Int) := f_l_heldIntS_k a0 k1 some

def f_l_FnExactTilesOf_k {R : Type} (L0 : List Sc) (p1 : Int) (kR : Bool → Option R) : Option R :=
  bo (f_l_szGroup L0 1048576) 0 fun r1 =>
  br ((decide (r1 < 0)))
    (kR true)
    (bo (f_l_toGroup L0) [] fun r2 =>
    bo (f_s_TilesOf r2 p1) ([], false) fun r3 =>
    bo (f_l_toGroup L0) [] fun r4 =>
    bo (f_i_TilesOf r4 p1) ([], false) fun r5 =>
    bo (f_l_eqIntS r5.1 r3.1) false fun r6 =>
    br ((!r6) == false)
      (br ((!(r5.2 == r3.2)))
        (kR false)
        (bo (f_l_toGroup L0) [] fun r7 =>
        bo (f_l_eqGroup r4 r7) false fun r8 =>
        br ((!r8))
          (kR false)
          (bo (f_l_markGroup_io 1 r4) (0, []) fun r9 =>
          br ((decide (r9.1 < 0)) == false)
            (bo (f_l_eqIntS r5.1 r3.1) false fun r10 =>
            br ((!r10) == false)
              (br ((!(r5.2 == r3.2)))
                (kR false)
                (bo (f_l_markIntS_io 1 r5.1) (0, []) fun r11 =>
                bo (f_l_heldIntS r11.2 1) 0 fun r12 =>
                br ((decide (r12 < 0)))
                  (kR false)
                  (br ((r12 != r11.1))
                    (kR false)
                    (bo (f_l_toGroup L0) [] fun r13 =>
                    bo (f_i_TilesOf r13 p1) ([], false) fun r14 =>
                    bo (f_l_eqIntS r14.1 r3.1) false fun r15 =>
                    br ((!r15) == false)
                      (br ((!(r14.2 == r3.2)))
                        (kR false)
                        (bo (f_l_heldIntS r11.2 1) 0 fun r16 =>
                        br ((decide (r16 < 0)))
                          (kR false)
                          (br ((r16 != r11.1))
                            (kR false)
                            (kR true))))
                      (kR false)))))
              (kR false))
            (kR false))))
      (kR false))
def f_l_FnExactTilesOf (L0 : List Sc) (p1 : Int) : Option (Bool) := f_l_FnExactTilesOf_k L0 p1 some
end
end Go.Proofs.Ytdlofeehgkijhaa
