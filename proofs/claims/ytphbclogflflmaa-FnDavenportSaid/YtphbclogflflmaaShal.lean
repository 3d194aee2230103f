/-
  What the functions compute, as plain functions (printed by gen2.py).
-/
import Derived.Test.YtphbclogflflmaaVGen
set_option linter.unusedVariables false
namespace Go.Proofs.Ytphbclogflflmaa
open Go Ev
noncomputable section
def f_l_big_k {R : Type} (code0 : List Sc) (kR : Bool → Option R) : Option R :=
  kR (decide ((code0.length : Int) > 1048576))
def f_l_big (code0 : List Sc) : Option (Bool) := f_l_big_k code0 some

def f_s_l1New_k0 {R : Type} (code0 : List Sc) (h3 : Int) (i4 : Int) (kN : Int × Int → Option R) (kA : Int → Option R) : Option R :=
  br ((decide (i4 < (code0.length : Int))) == true)
    (br ((decide (i4 < 4000)))
      (br (okZ (.n .u8 0) code0 i4)
        (kN ((and64 (w64 ((w64 ((w64 (h3 * 131)) + (w64 (sAt code0 .u8 i4)))) + 7)) 1073741823), (w64 (i4 + 1))))
        none)
      (kA h3))
    (kA h3)
def f_s_l1New_r0 (code0 : List Sc) : (Int × Int) → Option (Ro (Int × Int) (Int) (Unit)) := fun s => f_s_l1New_k0 code0 s.1 s.2 (fun s => some (.again s)) (fun e => some (.one e))
def f_s_l1New_k {R : Type} (code0 : List Sc) (kR : List Sc × Int × Int → Option R) : Option R :=
  bl1 (loopL (f_s_l1New_r0 code0) ((w64 (10101 + (code0.length : Int))), 0)) 0 fun e1 =>
  kR (code0, 0, e1)
def f_s_l1New (code0 : List Sc) : Option (List Sc × Int × Int) := f_s_l1New_k code0 some

def f_s_l1Byte_io_k {R : Type} (h0 : List Sc) (h1 : Int) (h2 : Int) (kR : Int × List Sc × Int × Int → Option R) : Option R :=
  br ((decide (h1 < (h0.length : Int))))
    (br (okZ (.n .u8 0) h0 h1)
      (kR ((and64 (w64 ((and64 (xor64 (shr64 (w64 ((w64 (h2 * 6364136223846793005)) + 1442695040888963407)) 33) (shr64 (w64 ((w64 (h2 * 6364136223846793005)) + 1442695040888963407)) 45)) 255) + (w64 (sAt h0 .u8 h1)))) 255), h0, (w64 (h1 + 1)), (w64 ((w64 (h2 * 6364136223846793005)) + 1442695040888963407))))
      none)
    (kR ((and64 (xor64 (shr64 (w64 ((w64 (h2 * 6364136223846793005)) + 1442695040888963407)) 33) (shr64 (w64 ((w64 (h2 * 6364136223846793005)) + 1442695040888963407)) 45)) 255), h0, h1, (w64 ((w64 (h2 * 6364136223846793005)) + 1442695040888963407))))
def f_s_l1Byte_io (h0 : List Sc) (h1 : Int) (h2 : Int) : Option (Int × List Sc × Int × Int) := f_s_l1Byte_io_k h0 h1 h2 some

def f_s_l1Below_io_k {R : Type} (n1 : Int) (h0 : List Sc) (h1 : Int) (h2 : Int) (kR : Int × List Sc × Int × Int → Option R) : Option R :=
  br ((decide (n1 ≤ 0)))
    (kR (0, h0, h1, h2))
    (br ((decide (n1 ≤ 256)))
      (bo (f_s_l1Byte_io h0 h1 h2) (0, [], 0, 0) fun r1 =>
      br (n1 == 0)
        none
        (kR ((r1.1.tmod n1), r1.2.1, r1.2.2.1, r1.2.2.2)))
      (bo (f_s_l1Byte_io h0 h1 h2) (0, [], 0, 0) fun r2 =>
      bo (f_s_l1Byte_io r2.2.1 r2.2.2.1 r2.2.2.2) (0, [], 0, 0) fun r3 =>
      bo (f_s_l1Byte_io r3.2.1 r3.2.2.1 r3.2.2.2) (0, [], 0, 0) fun r4 =>
      bo (f_s_l1Byte_io r4.2.1 r4.2.2.1 r4.2.2.2) (0, [], 0, 0) fun r5 =>
      br (n1 == 0)
        none
        (kR (((w64 ((w64 ((w64 ((w64 (r2.1 * 16777216)) + (w64 (r3.1 * 65536)))) + (w64 (r4.1 * 256)))) + r5.1)).tmod n1), r5.2.1, r5.2.2.1, r5.2.2.2))))
def f_s_l1Below_io (n1 : Int) (h0 : List Sc) (h1 : Int) (h2 : Int) : Option (Int × List Sc × Int × Int) := f_s_l1Below_io_k n1 h0 h1 h2 some

def f_s_l1Once_io_k {R : Type} (n1 : Int) (h0 : List Sc) (h1 : Int) (h2 : Int) (kR : Bool × List Sc × Int × Int → Option R) : Option R :=
  bo (f_s_l1Below_io n1 h0 h1 h2) (0, [], 0, 0) fun r1 =>
  kR ((r1.1 == 0), r1.2.1, r1.2.2.1, r1.2.2.2)
def f_s_l1Once_io (n1 : Int) (h0 : List Sc) (h1 : Int) (h2 : Int) : Option (Bool × List Sc × Int × Int) := f_s_l1Once_io_k n1 h0 h1 h2 some

def f_s_l2Draw_io_k0 {R : Type} (most1 : Int) (o6 : List Sc) (v0 : List Sc) (v1 : Int) (v2 : Int) (v3 : List Sc) (n7 : Int) (i8 : Int) (kN : List Sc × Int × Int × List Sc × Int × Int → Option R) (kA : List Sc × Int × Int × List Sc × Int → Option R) : Option R :=
  br ((decide (i8 < (o6.length : Int))))
    (br (okAt o6 i8)
      (kN (v0, v1, v2, v3, (w64 (n7 * (atI o6 i8))), (w64 (i8 + 1))))
      none)
    (kA (v0, v1, v2, v3, n7))
def f_s_l2Draw_io_r0 (most1 : Int) (o6 : List Sc) : (List Sc × Int × Int × List Sc × Int × Int) → Option (Ro (List Sc × Int × Int × List Sc × Int × Int) (List Sc × Int × Int × List Sc × Int) (Unit)) := fun s => f_s_l2Draw_io_k0 most1 o6 s.1 s.2.1 s.2.2.1 s.2.2.2.1 s.2.2.2.2.1 s.2.2.2.2.2 (fun s => some (.again s)) (fun e => some (.one e))
def f_s_l2Draw_io_k {R : Type} (most1 : Int) (h0 : List Sc) (h1 : Int) (h2 : Int) (kR : List Sc × List Sc × Int × Int → Option R) : Option R :=
  bo (f_s_l1Below_io (([[], [(Sc.n .i64 2)], [(Sc.n .i64 3)], [(Sc.n .i64 4)], [(Sc.n .i64 5)], [(Sc.n .i64 6)], [(Sc.n .i64 7)], [(Sc.n .i64 8)], [(Sc.n .i64 9)], [(Sc.n .i64 10)], [(Sc.n .i64 11)], [(Sc.n .i64 12)], [(Sc.n .i64 2), (Sc.n .i64 2)], [(Sc.n .i64 2), (Sc.n .i64 4)], [(Sc.n .i64 3), (Sc.n .i64 3)], [(Sc.n .i64 2), (Sc.n .i64 6)], [(Sc.n .i64 2), (Sc.n .i64 2), (Sc.n .i64 2)], [(Sc.n .i64 13)], [(Sc.n .i64 16)], [(Sc.n .i64 4), (Sc.n .i64 4)], [(Sc.n .i64 2), (Sc.n .i64 2), (Sc.n .i64 3)], [(Sc.n .i64 2), (Sc.n .i64 3)], [(Sc.n .i64 24)]] : List (List Sc)).length : Int) h0 h1 h2) (0, [], 0, 0) fun r1 =>
  br (inRange r1.1 ([[], [(Sc.n .i64 2)], [(Sc.n .i64 3)], [(Sc.n .i64 4)], [(Sc.n .i64 5)], [(Sc.n .i64 6)], [(Sc.n .i64 7)], [(Sc.n .i64 8)], [(Sc.n .i64 9)], [(Sc.n .i64 10)], [(Sc.n .i64 11)], [(Sc.n .i64 12)], [(Sc.n .i64 2), (Sc.n .i64 2)], [(Sc.n .i64 2), (Sc.n .i64 4)], [(Sc.n .i64 3), (Sc.n .i64 3)], [(Sc.n .i64 2), (Sc.n .i64 6)], [(Sc.n .i64 2), (Sc.n .i64 2), (Sc.n .i64 2)], [(Sc.n .i64 13)], [(Sc.n .i64 16)], [(Sc.n .i64 4), (Sc.n .i64 4)], [(Sc.n .i64 2), (Sc.n .i64 2), (Sc.n .i64 3)], [(Sc.n .i64 2), (Sc.n .i64 3)], [(Sc.n .i64 24)]] : List (List Sc)).length)
    (bl1 (loopL (f_s_l2Draw_io_r0 most1 (([[], [(Sc.n .i64 2)], [(Sc.n .i64 3)], [(Sc.n .i64 4)], [(Sc.n .i64 5)], [(Sc.n .i64 6)], [(Sc.n .i64 7)], [(Sc.n .i64 8)], [(Sc.n .i64 9)], [(Sc.n .i64 10)], [(Sc.n .i64 11)], [(Sc.n .i64 12)], [(Sc.n .i64 2), (Sc.n .i64 2)], [(Sc.n .i64 2), (Sc.n .i64 4)], [(Sc.n .i64 3), (Sc.n .i64 3)], [(Sc.n .i64 2), (Sc.n .i64 6)], [(Sc.n .i64 2), (Sc.n .i64 2), (Sc.n .i64 2)], [(Sc.n .i64 13)], [(Sc.n .i64 16)], [(Sc.n .i64 4), (Sc.n .i64 4)], [(Sc.n .i64 2), (Sc.n .i64 2), (Sc.n .i64 3)], [(Sc.n .i64 2), (Sc.n .i64 3)], [(Sc.n .i64 24)]] : List (List Sc)).getD r1.1.toNat [])) (r1.2.1, r1.2.2.1, r1.2.2.2, [], 1, 0)) ([], 0, 0, [], 0) fun e2 =>
    br ((decide (e2.2.2.2.2 > most1)))
      (kR ([(Sc.n .i64 5)], e2.1, e2.2.1, e2.2.2.1))
      (br (decide (([] : List Sc).length + (([[], [(Sc.n .i64 2)], [(Sc.n .i64 3)], [(Sc.n .i64 4)], [(Sc.n .i64 5)], [(Sc.n .i64 6)], [(Sc.n .i64 7)], [(Sc.n .i64 8)], [(Sc.n .i64 9)], [(Sc.n .i64 10)], [(Sc.n .i64 11)], [(Sc.n .i64 12)], [(Sc.n .i64 2), (Sc.n .i64 2)], [(Sc.n .i64 2), (Sc.n .i64 4)], [(Sc.n .i64 3), (Sc.n .i64 3)], [(Sc.n .i64 2), (Sc.n .i64 6)], [(Sc.n .i64 2), (Sc.n .i64 2), (Sc.n .i64 2)], [(Sc.n .i64 13)], [(Sc.n .i64 16)], [(Sc.n .i64 4), (Sc.n .i64 4)], [(Sc.n .i64 2), (Sc.n .i64 2), (Sc.n .i64 3)], [(Sc.n .i64 2), (Sc.n .i64 3)], [(Sc.n .i64 24)]] : List (List Sc)).getD r1.1.toNat []).length ≤ lim))
        (kR (([] ++ (([[], [(Sc.n .i64 2)], [(Sc.n .i64 3)], [(Sc.n .i64 4)], [(Sc.n .i64 5)], [(Sc.n .i64 6)], [(Sc.n .i64 7)], [(Sc.n .i64 8)], [(Sc.n .i64 9)], [(Sc.n .i64 10)], [(Sc.n .i64 11)], [(Sc.n .i64 12)], [(Sc.n .i64 2), (Sc.n .i64 2)], [(Sc.n .i64 2), (Sc.n .i64 4)], [(Sc.n .i64 3), (Sc.n .i64 3)], [(Sc.n .i64 2), (Sc.n .i64 6)], [(Sc.n .i64 2), (Sc.n .i64 2), (Sc.n .i64 2)], [(Sc.n .i64 13)], [(Sc.n .i64 16)], [(Sc.n .i64 4), (Sc.n .i64 4)], [(Sc.n .i64 2), (Sc.n .i64 2), (Sc.n .i64 3)], [(Sc.n .i64 2), (Sc.n .i64 3)], [(Sc.n .i64 24)]] : List (List Sc)).getD r1.1.toNat [])), e2.1, e2.2.1, e2.2.2.1))
        none))
    none
def f_s_l2Draw_io (most1 : Int) (h0 : List Sc) (h1 : Int) (h2 : Int) : Option (List Sc × List Sc × Int × Int) := f_s_l2Draw_io_k most1 h0 h1 h2 some

def f_s_l1PickInt_io_k {R : Type} (list1 : List Sc) (h0 : List Sc) (h1 : Int) (h2 : Int) (kR : Int × List Sc × Int × Int → Option R) : Option R :=
  bo (f_s_l1Below_io (list1.length : Int) h0 h1 h2) (0, [], 0, 0) fun r1 =>
  br (okAt list1 r1.1)
    (kR ((atI list1 r1.1), r1.2.1, r1.2.2.1, r1.2.2.2))
    none
def f_s_l1PickInt_io (list1 : List Sc) (h0 : List Sc) (h1 : Int) (h2 : Int) : Option (Int × List Sc × Int × Int) := f_s_l1PickInt_io_k list1 h0 h1 h2 some

def f_s_l2Any_io_k {R : Type} (h0 : List Sc) (h1 : Int) (h2 : Int) (kR : List Sc × List Sc × Int × Int → Option R) : Option R :=
  bo (f_s_l2Draw_io 24 h0 h1 h2) ([], [], 0, 0) fun r1 =>
  bo (f_s_l1Below_io 16 r1.2.1 r1.2.2.1 r1.2.2.2) (0, [], 0, 0) fun r2 =>
  br ((r2.1 == 0))
    (bo (f_s_l1PickInt_io [(Sc.n .i64 0), (Sc.n .i64 1), (Sc.n .i64 (-1)), (Sc.n .i64 25), (Sc.n .i64 9223372036854775807)] r2.2.1 r2.2.2.1 r2.2.2.2) (0, [], 0, 0) fun r3 =>
    kR ([(Sc.n .i64 r3.1)], r3.2.1, r3.2.2.1, r3.2.2.2))
    (br ((r2.1 == 1))
      (kR ([(Sc.n .i64 2), (Sc.n .i64 2), (Sc.n .i64 2), (Sc.n .i64 2)], r2.2.1, r2.2.2.1, r2.2.2.2))
      (br ((r2.1 == 2))
        (kR ([(Sc.n .i64 5), (Sc.n .i64 5)], r2.2.1, r2.2.2.1, r2.2.2.2))
        (kR (r1.1, r2.2.1, r2.2.2.1, r2.2.2.2))))
def f_s_l2Any_io (h0 : List Sc) (h1 : Int) (h2 : Int) : Option (List Sc × List Sc × Int × Int) := f_s_l2Any_io_k h0 h1 h2 some

def f_s_l17Group_io_k {R : Type} (h0 : List Sc) (h1 : Int) (h2 : Int) (kR : List Sc × List Sc × Int × Int → Option R) : Option R :=
  bo (f_s_l1Once_io 8 h0 h1 h2) (false, [], 0, 0) fun r1 =>
  br (r1.1)
    (bo (f_s_l2Any_io r1.2.1 r1.2.2.1 r1.2.2.2) ([], [], 0, 0) fun r2 =>
    kR (r2.1, r2.2.1, r2.2.2.1, r2.2.2.2))
    (bo (f_s_l2Draw_io 8 r1.2.1 r1.2.2.1 r1.2.2.2) ([], [], 0, 0) fun r3 =>
    kR (r3.1, r3.2.1, r3.2.2.1, r3.2.2.2))
def f_s_l17Group_io (h0 : List Sc) (h1 : Int) (h2 : Int) : Option (List Sc × List Sc × Int × Int) := f_s_l17Group_io_k h0 h1 h2 some

def f_s_DrawLongestZeroFree_k {R : Type} (code0 : List Sc) (kR : List Sc → Option R) : Option R :=
  bo (f_s_l1New code0) ([], 0, 0) fun r1 =>
  bo (f_s_l17Group_io r1.1 r1.2.1 r1.2.2) ([], [], 0, 0) fun r2 =>
  kR r2.1
def f_s_DrawLongestZeroFree (code0 : List Sc) : Option (List Sc) := f_s_DrawLongestZeroFree_k code0 some

def f_i_within_k {R : Type} (x0 : Int) (lo1 : Int) (hi2 : Int) (kR : Bool → Option R) : Option R :=
  br ((decide (x0 ≥ lo1)) == true)
    (kR (decide (x0 ≤ hi2)))
    (kR false)
def f_i_within (x0 : Int) (lo1 : Int) (hi2 : Int) : Option (Bool) := f_i_within_k x0 lo1 hi2 some

def f_i_IsGroup_k0 {R : Type} (t11 : List Sc) (t12 : Int) (n3 : Int) (t13 : Int) (kN : Int × Int → Option R) (kA : Int → Option R) (kB : Unit → Option R) : Option R :=
  br ((decide (t13 < t12)))
    (br (okAt t11 t13)
      (bo (f_i_within (atI t11 t13) 2 24) false fun r1 =>
      br ((!r1))
        (kB ())
        (kN ((w64 (n3 * (atI t11 t13))), (w64 (t13 + 1)))))
      none)
    (kA n3)
def f_i_IsGroup_r0 (t11 : List Sc) (t12 : Int) : (Int × Int) → Option (Ro (Int × Int) (Int) (Unit)) := fun s => f_i_IsGroup_k0 t11 t12 s.1 s.2 (fun s => some (.again s)) (fun e => some (.one e)) (fun e => some (.two e))
def f_i_IsGroup_k {R : Type} (g0 : List Sc) (kR : Bool → Option R) : Option R :=
  br ((decide ((g0.length : Int) > 3)))
    (kR false)
    (bl (loopL (f_i_IsGroup_r0 g0 (g0.length : Int)) (1, 0)) 0 ()
      (fun e2 =>
        kR (decide (e2 ≤ 24)))
      (fun e2 =>
        kR false))
def f_i_IsGroup (g0 : List Sc) : Option (Bool) := f_i_IsGroup_k g0 some

def f_i_OrderOf_k0 {R : Type} (t10 : List Sc) (t11 : Int) (n3 : Int) (t12 : Int) (kN : Int × Int → Option R) (kA : Int → Option R) : Option R :=
  br ((decide (t12 < t11)))
    (br (okAt t10 t12)
      (kN ((w64 (n3 * (atI t10 t12))), (w64 (t12 + 1))))
      none)
    (kA n3)
def f_i_OrderOf_r0 (t10 : List Sc) (t11 : Int) : (Int × Int) → Option (Ro (Int × Int) (Int) (Unit)) := fun s => f_i_OrderOf_k0 t10 t11 s.1 s.2 (fun s => some (.again s)) (fun e => some (.one e))
def f_i_OrderOf_k {R : Type} (g0 : List Sc) (kR : Int → Option R) : Option R :=
  bo (f_i_IsGroup g0) false fun r1 =>
  br ((!r1))
    (kR 0)
    (bl1 (loopL (f_i_OrderOf_r0 g0 (g0.length : Int)) (1, 0)) 0 fun e2 =>
    kR e2)
def f_i_OrderOf (g0 : List Sc) : Option (Int) := f_i_OrderOf_k g0 some

def f_i_LongestZeroFree_1_k {R : Type} (l0 : List Sc) (sums1 : Int) (h0 : List Sc) (kR : List Sc → Option R) : Option R :=
  br ((decide ((l0.length : Int) > (h0.length : Int))))
    (kR l0)
    (kR h0)
def f_i_LongestZeroFree_1 (l0 : List Sc) (sums1 : Int) (h0 : List Sc) : Option (List Sc) := f_i_LongestZeroFree_1_k l0 sums1 h0 some

def f_i_Group_add_k0 {R : Type} (t12 : List Sc) (t13 : Int) (x1 : Int) (y2 : Int) (sum7 : Int) (unit8 : Int) (t14 : Int) (kN : Int × Int × Int × Int × Int → Option R) (kA : Int → Option R) : Option R :=
  br ((decide (t14 < t13)))
    (br (okAt t12 t14)
      (br ((atI t12 t14) == 0)
        none
        (br ((atI t12 t14) == 0)
          none
          (br ((atI t12 t14) == 0)
            none
            (br ((atI t12 t14) == 0)
              none
              (br ((atI t12 t14) == 0)
                none
                (kN ((w64 (x1.tdiv (atI t12 t14))), (w64 (y2.tdiv (atI t12 t14))), (w64 (sum7 + (w64 (((w64 ((x1.tmod (atI t12 t14)) + (y2.tmod (atI t12 t14)))).tmod (atI t12 t14)) * unit8)))), (w64 (unit8 * (atI t12 t14))), (w64 (t14 + 1)))))))))
      none)
    (kA sum7)
def f_i_Group_add_r0 (t12 : List Sc) (t13 : Int) : (Int × Int × Int × Int × Int) → Option (Ro (Int × Int × Int × Int × Int) (Int) (Unit)) := fun s => f_i_Group_add_k0 t12 t13 s.1 s.2.1 s.2.2.1 s.2.2.2.1 s.2.2.2.2 (fun s => some (.again s)) (fun e => some (.one e))
def f_i_Group_add_k {R : Type} (g0 : List Sc) (x1 : Int) (y2 : Int) (kR : Int → Option R) : Option R :=
  bl1 (loopL (f_i_Group_add_r0 g0 (g0.length : Int)) (x1, y2, 0, 1, 0)) 0 fun e1 =>
  kR e1
def f_i_Group_add (g0 : List Sc) (x1 : Int) (y2 : Int) : Option (Int) := f_i_Group_add_k g0 x1 y2 some

def f_i_Group_shift_k0 {R : Type} (a1 : Int) (x2 : Int) (g3 : List Sc) (out7 : Int) (y8 : Int) (kN : Int × Int → Option R) (kA : Int → Option R) : Option R :=
  br (decide (y8 < 0))
    none
    (br (((shr64 a1 y8) != 0))
      (br (decide (y8 < 0))
        none
        (br (((and64 (shr64 a1 y8) 1) == 1))
          (bo (f_i_Group_add g3 x2 y8) 0 fun r1 =>
          br (decide (r1 < 0))
            none
            (kN ((or64 out7 (shl64 1 r1)), (w64 (y8 + 1)))))
          (kN (out7, (w64 (y8 + 1))))))
      (kA out7))
def f_i_Group_shift_r0 (a1 : Int) (x2 : Int) (g3 : List Sc) : (Int × Int) → Option (Ro (Int × Int) (Int) (Unit)) := fun s => f_i_Group_shift_k0 a1 x2 g3 s.1 s.2 (fun s => some (.again s)) (fun e => some (.one e))
def f_i_Group_shift_k {R : Type} (g0 : List Sc) (a1 : Int) (x2 : Int) (kR : Int → Option R) : Option R :=
  bl1 (loopL (f_i_Group_shift_r0 a1 x2 g0) (0, 0)) 0 fun e2 =>
  kR e2
def f_i_Group_shift (g0 : List Sc) (a1 : Int) (x2 : Int) : Option (Int) := f_i_Group_shift_k g0 a1 x2 some

def f_i_in_k {R : Type} (a0 : Int) (x1 : Int) (kR : Bool → Option R) : Option R :=
  br (decide (x1 < 0))
    none
    (kR ((and64 (shr64 a0 x1) 1) == 1))
def f_i_in (a0 : Int) (x1 : Int) : Option (Bool) := f_i_in_k a0 x1 some

def f_i_copyInts_k {R : Type} (l0 : List Sc) (kR : List Sc → Option R) : Option R :=
  br (decide (([] : List Sc).length + l0.length ≤ lim))
    (kR ([] ++ l0))
    none
def f_i_copyInts (l0 : List Sc) : Option (List Sc) := f_i_copyInts_k l0 some

def f_i_zeroFree_LongestZeroFree_1_k0 {R : Type} (self : (List Sc × List Sc × Int × List Sc) → Option (List Sc)) (l1 : List Sc) (sums2 : Int) (g4 : List Sc) (v0 : List Sc) (x9 : Int) (kN : List Sc × Int → Option R) (kA : List Sc → Option R) : Option R :=
  bo (f_i_OrderOf g4) 0 fun r2 =>
  br ((decide (x9 < r2)))
    (bo (f_i_Group_shift g4 sums2 x9) 0 fun r3 =>
    br (decide (x9 < 0))
      none
      (bo (f_i_in (or64 (or64 sums2 r3) (shl64 1 x9)) 0) false fun r4 =>
      br ((!r4))
        (bo (f_i_copyInts l1) [] fun r5 =>
        br (decide (r5.length + [(Sc.n .i64 x9)].length ≤ lim))
          (bo (self (g4, (r5 ++ [(Sc.n .i64 x9)]), (or64 (or64 sums2 r3) (shl64 1 x9)), v0)) [] fun r6 =>
          kN (r6, (w64 (x9 + 1))))
          none)
        (kN (v0, (w64 (x9 + 1))))))
    (kA v0)
def f_i_zeroFree_LongestZeroFree_1_r0 (self : (List Sc × List Sc × Int × List Sc) → Option (List Sc)) (l1 : List Sc) (sums2 : Int) (g4 : List Sc) : (List Sc × Int) → Option (Ro (List Sc × Int) (List Sc) (Unit)) := fun s => f_i_zeroFree_LongestZeroFree_1_k0 self l1 sums2 g4 s.1 s.2 (fun s => some (.again s)) (fun e => some (.one e))
def f_i_zeroFree_LongestZeroFree_1_k {R : Type} (self : (List Sc × List Sc × Int × List Sc) → Option (List Sc)) (g0 : List Sc) (l1 : List Sc) (sums2 : Int) (h0 : List Sc) (kR : List Sc → Option R) : Option R :=
  bo (f_i_LongestZeroFree_1 l1 sums2 h0) [] fun r1 =>
  br ((decide ((l1.length : Int) > 0)))
    (br (okAt l1 (w64 ((l1.length : Int) - 1)))
      (bl1 (loopL (f_i_zeroFree_LongestZeroFree_1_r0 self l1 sums2 g0) (r1, (atI l1 (w64 ((l1.length : Int) - 1))))) [] fun e7 =>
      kR e7)
      none)
    (bl1 (loopL (f_i_zeroFree_LongestZeroFree_1_r0 self l1 sums2 g0) (r1, 1)) [] fun e8 =>
    kR e8)
def f_i_zeroFree_LongestZeroFree_1_n : Nat → (List Sc × List Sc × Int × List Sc) → Option (List Sc)
  | 0, _ => none
  | n + 1, a => f_i_zeroFree_LongestZeroFree_1_k (f_i_zeroFree_LongestZeroFree_1_n n) a.1 a.2.1 a.2.2.1 a.2.2.2 some
def f_i_zeroFree_LongestZeroFree_1 (g0 : List Sc) (l1 : List Sc) (sums2 : Int) (h0 : List Sc) : Option (List Sc) := limF f_i_zeroFree_LongestZeroFree_1_n (g0, l1, sums2, h0)

def f_i_LongestZeroFree_k {R : Type} (g0 : List Sc) (kR : List Sc × Bool → Option R) : Option R :=
  bo (f_i_IsGroup g0) false fun r1 =>
  br ((!r1) == false)
    (bo (f_i_OrderOf g0) 0 fun r2 =>
    br ((decide (r2 > 9)))
      (kR ([], false))
      (bo (f_i_zeroFree_LongestZeroFree_1 g0 [] 0 []) [] fun r3 =>
      kR (r3, true)))
    (kR ([], false))
def f_i_LongestZeroFree (g0 : List Sc) : Option (List Sc × Bool) := f_i_LongestZeroFree_k g0 some

def f_s_l1In_k {R : Type} (x0 : Int) (low1 : Int) (high2 : Int) (kR : Bool → Option R) : Option R :=
  br ((decide (x0 ≥ low1)) == true)
    (kR (decide (x0 ≤ high2)))
    (kR false)
def f_s_l1In (x0 : Int) (low1 : Int) (high2 : Int) : Option (Bool) := f_s_l1In_k x0 low1 high2 some

def f_s_IsGroup_k0 {R : Type} (g1 : List Sc) (n3 : Int) (i4 : Int) (kN : Int × Int → Option R) (kA : Int → Option R) (kB : Unit → Option R) : Option R :=
  br ((decide (i4 < (g1.length : Int))))
    (br (okAt g1 i4)
      (bo (f_s_l1In (atI g1 i4) 2 24) false fun r1 =>
      br ((!r1) == false)
        (br ((decide (i4 > 2)))
          (kB ())
          (br (okAt g1 i4)
            (kN ((w64 (n3 * (atI g1 i4))), (w64 (i4 + 1))))
            none))
        (kB ()))
      none)
    (kA n3)
def f_s_IsGroup_r0 (g1 : List Sc) : (Int × Int) → Option (Ro (Int × Int) (Int) (Unit)) := fun s => f_s_IsGroup_k0 g1 s.1 s.2 (fun s => some (.again s)) (fun e => some (.one e)) (fun e => some (.two e))
def f_s_IsGroup_k {R : Type} (g0 : List Sc) (kR : Bool → Option R) : Option R :=
  bl (loopL (f_s_IsGroup_r0 g0) (1, 0)) 0 ()
    (fun e2 =>
      kR (decide (e2 ≤ 24)))
    (fun e2 =>
      kR false)
def f_s_IsGroup (g0 : List Sc) : Option (Bool) := f_s_IsGroup_k g0 some

def f_s_l2Order_k0 {R : Type} (g1 : List Sc) (n3 : Int) (i4 : Int) (kN : Int × Int → Option R) (kA : Int → Option R) : Option R :=
  br ((decide (i4 < (g1.length : Int))))
    (br (okAt g1 i4)
      (kN ((w64 (n3 * (atI g1 i4))), (w64 (i4 + 1))))
      none)
    (kA n3)
def f_s_l2Order_r0 (g1 : List Sc) : (Int × Int) → Option (Ro (Int × Int) (Int) (Unit)) := fun s => f_s_l2Order_k0 g1 s.1 s.2 (fun s => some (.again s)) (fun e => some (.one e))
def f_s_l2Order_k {R : Type} (g0 : List Sc) (kR : Int → Option R) : Option R :=
  bl1 (loopL (f_s_l2Order_r0 g0) (1, 0)) 0 fun e1 =>
  kR e1
def f_s_l2Order (g0 : List Sc) : Option (Int) := f_s_l2Order_k g0 some

def f_s_l3List_k0 {R : Type} (out3 : List Sc) (i4 : Int) (x5 : Int) (kN : List Sc × Int × Int → Option R) (kA : List Sc → Option R) : Option R :=
  br ((decide (x5 > 0)))
    (br (((and64 x5 1) == 1))
      (br (decide (out3.length + [(Sc.n .i64 i4)].length ≤ lim))
        (kN ((out3 ++ [(Sc.n .i64 i4)]), (w64 (i4 + 1)), (shr64 x5 1)))
        none)
      (kN (out3, (w64 (i4 + 1)), (shr64 x5 1))))
    (kA out3)
def f_s_l3List_r0 : (List Sc × Int × Int) → Option (Ro (List Sc × Int × Int) (List Sc) (Unit)) := fun s => f_s_l3List_k0 s.1 s.2.1 s.2.2 (fun s => some (.again s)) (fun e => some (.one e))
def f_s_l3List_k {R : Type} (a0 : Int) (kR : List Sc → Option R) : Option R :=
  bl1 (loopL (f_s_l3List_r0) ([], 0, a0)) [] fun e1 =>
  kR e1
def f_s_l3List (a0 : Int) : Option (List Sc) := f_s_l3List_k a0 some

def f_s_l2Add_k0 {R : Type} (g3 : List Sc) (x1 : Int) (y2 : Int) (z7 : Int) (step8 : Int) (i9 : Int) (kN : Int × Int × Int × Int × Int → Option R) (kA : Int → Option R) : Option R :=
  br ((decide (i9 < (g3.length : Int))))
    (br (okAt g3 i9)
      (br ((atI g3 i9) == 0)
        none
        (br ((atI g3 i9) == 0)
          none
          (br ((atI g3 i9) == 0)
            none
            (br ((atI g3 i9) == 0)
              none
              (br ((atI g3 i9) == 0)
                none
                (kN ((w64 (x1.tdiv (atI g3 i9))), (w64 (y2.tdiv (atI g3 i9))), (w64 (z7 + (w64 (((w64 ((x1.tmod (atI g3 i9)) + (y2.tmod (atI g3 i9)))).tmod (atI g3 i9)) * step8)))), (w64 (step8 * (atI g3 i9))), (w64 (i9 + 1)))))))))
      none)
    (kA z7)
def f_s_l2Add_r0 (g3 : List Sc) : (Int × Int × Int × Int × Int) → Option (Ro (Int × Int × Int × Int × Int) (Int) (Unit)) := fun s => f_s_l2Add_k0 g3 s.1 s.2.1 s.2.2.1 s.2.2.2.1 s.2.2.2.2 (fun s => some (.again s)) (fun e => some (.one e))
def f_s_l2Add_k {R : Type} (g0 : List Sc) (x1 : Int) (y2 : Int) (kR : Int → Option R) : Option R :=
  bl1 (loopL (f_s_l2Add_r0 g0) (x1, y2, 0, 1, 0)) 0 fun e1 =>
  kR e1
def f_s_l2Add (g0 : List Sc) (x1 : Int) (y2 : Int) : Option (Int) := f_s_l2Add_k g0 x1 y2 some

def f_s_l3Shift_k0 {R : Type} (x2 : Int) (g3 : List Sc) (out7 : Int) (l8 : List Sc) (i9 : Int) (kN : Int × List Sc × Int → Option R) (kA : Int → Option R) : Option R :=
  br ((decide (i9 < (l8.length : Int))))
    (br (inRange i9 (l8).length)
      (br (kAt l8 i9.toNat)
        (bo (f_s_l2Add g3 (atN l8 i9.toNat) x2) 0 fun r2 =>
        br (decide (r2 < 0))
          none
          (kN ((or64 out7 (shl64 1 r2)), l8, (w64 (i9 + 1)))))
        none)
      none)
    (kA out7)
def f_s_l3Shift_r0 (x2 : Int) (g3 : List Sc) : (Int × List Sc × Int) → Option (Ro (Int × List Sc × Int) (Int) (Unit)) := fun s => f_s_l3Shift_k0 x2 g3 s.1 s.2.1 s.2.2 (fun s => some (.again s)) (fun e => some (.one e))
def f_s_l3Shift_k {R : Type} (g0 : List Sc) (a1 : Int) (x2 : Int) (kR : Int → Option R) : Option R :=
  bo (f_s_l3List a1) [] fun r1 =>
  bl1 (loopL (f_s_l3Shift_r0 x2 g0) (0, r1, 0)) 0 fun e3 =>
  kR e3
def f_s_l3Shift (g0 : List Sc) (a1 : Int) (x2 : Int) : Option (Int) := f_s_l3Shift_k g0 a1 x2 some

def f_s_l17Longest_k0 {R : Type} (self : (List Sc × List Sc × Int × Int) → Option (List Sc)) (l1 : List Sc) (sums2 : Int) (g4 : List Sc) (best9 : List Sc) (x10 : Int) (kN : List Sc × Int → Option R) (kA : List Sc × Int → Option R) : Option R :=
  bo (f_s_l2Order g4) 0 fun r1 =>
  br ((decide (x10 < r1)))
    (bo (f_s_l3Shift g4 sums2 x10) 0 fun r2 =>
    br (decide (x10 < 0))
      none
      (br (((and64 (or64 (or64 sums2 r2) (shl64 1 x10)) 1) == 1))
        (kN (best9, (w64 (x10 + 1))))
        (br (decide (([] : List Sc).length + l1.length ≤ lim))
          (br (decide (([] ++ l1).length + [(Sc.n .i64 x10)].length ≤ lim))
            (bo (self (g4, (([] ++ l1) ++ [(Sc.n .i64 x10)]), (or64 (or64 sums2 r2) (shl64 1 x10)), x10)) [] fun r3 =>
            br ((decide ((r3.length : Int) > (best9.length : Int))))
              (kN (r3, (w64 (x10 + 1))))
              (kN (best9, (w64 (x10 + 1)))))
            none)
          none)))
    (kA (best9, x10))
def f_s_l17Longest_r0 (self : (List Sc × List Sc × Int × Int) → Option (List Sc)) (l1 : List Sc) (sums2 : Int) (g4 : List Sc) : (List Sc × Int) → Option (Ro (List Sc × Int) (List Sc × Int) (Unit)) := fun s => f_s_l17Longest_k0 self l1 sums2 g4 s.1 s.2 (fun s => some (.again s)) (fun e => some (.one e))
def f_s_l17Longest_k {R : Type} (self : (List Sc × List Sc × Int × Int) → Option (List Sc)) (g0 : List Sc) (l1 : List Sc) (sums2 : Int) (least3 : Int) (kR : List Sc → Option R) : Option R :=
  bl1 (loopL (f_s_l17Longest_r0 self l1 sums2 g0) (l1, least3)) ([], 0) fun e4 =>
  kR e4.1
def f_s_l17Longest_n : Nat → (List Sc × List Sc × Int × Int) → Option (List Sc)
  | 0, _ => none
  | n + 1, a => f_s_l17Longest_k (f_s_l17Longest_n n) a.1 a.2.1 a.2.2.1 a.2.2.2 some
def f_s_l17Longest (g0 : List Sc) (l1 : List Sc) (sums2 : Int) (least3 : Int) : Option (List Sc) := limF f_s_l17Longest_n (g0, l1, sums2, least3)

def f_s_LongestZeroFree_k {R : Type} (g0 : List Sc) (kR : List Sc × Bool → Option R) : Option R :=
  bo (f_s_IsGroup g0) false fun r1 =>
  br ((!r1) == false)
    (bo (f_s_l2Order g0) 0 fun r2 =>
    br ((decide (r2 > 9)))
      (kR ([], false))
      (bo (f_s_l17Longest g0 [] 0 1) [] fun r3 =>
      kR (r3, true)))
    (kR ([], false))
def f_s_LongestZeroFree (g0 : List Sc) : Option (List Sc × Bool) := f_s_LongestZeroFree_k g0 some

def f_i_DavenportConstant_k {R : Type} (g0 : List Sc) (kR : Int → Option R) : Option R :=
  bo (f_i_LongestZeroFree g0) ([], false) fun r1 =>
  br ((!r1.2))
    (kR (-1))
    (kR (w64 ((r1.1.length : Int) + 1)))
def f_i_DavenportConstant (g0 : List Sc) : Option (Int) := f_i_DavenportConstant_k g0 some

def f_i_gcd_k0 {R : Type} (a0 : Int) (b1 : Int) (kN : Int × Int → Option R) (kA : Int → Option R) : Option R :=
  br ((b1 != 0))
    (br (b1 == 0)
      none
      (kN (b1, (a0.tmod b1))))
    (kA a0)
def f_i_gcd_r0 : (Int × Int) → Option (Ro (Int × Int) (Int) (Unit)) := fun s => f_i_gcd_k0 s.1 s.2 (fun s => some (.again s)) (fun e => some (.one e))
def f_i_gcd_k {R : Type} (a0 : Int) (b1 : Int) (kR : Int → Option R) : Option R :=
  bl1 (loopL (f_i_gcd_r0) (a0, b1)) 0 fun e1 =>
  kR e1
def f_i_gcd (a0 : Int) (b1 : Int) : Option (Int) := f_i_gcd_k a0 b1 some

def f_i_DavenportBound_k2 {R : Type} (t4 : Int) (t17 : Int) (t18 : Int) (t3 : List Sc) (t5 : Int) (kN : List Sc × Int → Option R) (kA : List Sc → Option R) : Option R :=
  br ((decide (t5 < (t3.length : Int))))
    (br (inRange t4 (t3).length)
      (br (kAt t3 t4.toNat)
        (br (inRange t5 (t3).length)
          (br (kAt t3 t5.toNat)
            (bo (f_i_gcd (atN t3 t4.toNat) (atN t3 t5.toNat)) 0 fun r3 =>
            br (inRange t4 (t3).length)
              (br (kAt t3 t4.toNat)
                (br (r3 == 0)
                  none
                  (br (inRange t5 (t3).length)
                    (br (kAt t3 t5.toNat)
                      (br (inRange t4 (t3).length)
                        (br (inRange t5 ((t3.set t4.toNat (Sc.n .i64 (w64 ((w64 ((atN t3 t4.toNat).tdiv r3)) * (atN t3 t5.toNat)))))).length)
                          (kN (((t3.set t4.toNat (Sc.n .i64 (w64 ((w64 ((atN t3 t4.toNat).tdiv r3)) * (atN t3 t5.toNat))))).set t5.toNat (Sc.n .i64 r3)), (w64 (t5 + 1))))
                          none)
                        none)
                      none)
                    none))
                none)
              none)
            none)
          none)
        none)
      none)
    (kA t3)
def f_i_DavenportBound_r2 (t4 : Int) (t17 : Int) (t18 : Int) : (List Sc × Int) → Option (Ro (List Sc × Int) (List Sc) (Unit)) := fun s => f_i_DavenportBound_k2 t4 t17 t18 s.1 s.2 (fun s => some (.again s)) (fun e => some (.one e))
def f_i_DavenportBound_k0 {R : Type} (t17 : Int) (t3 : List Sc) (t18 : Int) (kN : List Sc × Int → Option R) (kA : List Sc × Int → Option R) : Option R :=
  br ((decide (t18 < t17)))
    (bl1 (loopL (f_i_DavenportBound_r2 t18 t17 t18) (t3, (w64 (t18 + 1)))) [] fun e4 =>
    kN (e4, (w64 (t18 + 1))))
    (kA (t3, t18))
def f_i_DavenportBound_r0 (t17 : Int) : (List Sc × Int) → Option (Ro (List Sc × Int) (List Sc × Int) (Unit)) := fun s => f_i_DavenportBound_k0 t17 s.1 s.2 (fun s => some (.again s)) (fun e => some (.one e))
def f_i_DavenportBound_k4 {R : Type} (t58 : Int) (t3 : List Sc) (t7 : Int) (t59 : Int) (kN : List Sc × Int × Int → Option R) (kA : List Sc × Int → Option R) : Option R :=
  br ((decide (t59 < t58)))
    (br (inRange t59 (t3).length)
      (br (kAt t3 t59.toNat)
        (kN (t3, (w64 ((w64 (t7 + (atN t3 t59.toNat))) - 1)), (w64 (t59 + 1))))
        none)
      none)
    (kA (t3, t7))
def f_i_DavenportBound_r4 (t58 : Int) : (List Sc × Int × Int) → Option (Ro (List Sc × Int × Int) (List Sc × Int) (Unit)) := fun s => f_i_DavenportBound_k4 t58 s.1 s.2.1 s.2.2 (fun s => some (.again s)) (fun e => some (.one e))
def f_i_DavenportBound_k {R : Type} (L0 : List Sc) (kR : Int → Option R) : Option R :=
  bo (f_i_IsGroup L0) false fun r1 =>
  br ((!r1))
    (kR (-1))
    (bo (f_i_copyInts L0) [] fun r2 =>
    bl1 (loopL (f_i_DavenportBound_r0 (r2.length : Int)) (r2, 0)) ([], 0) fun e5 =>
    bl1 (loopL (f_i_DavenportBound_r4 (e5.1.length : Int)) (e5.1, 1, 0)) ([], 0) fun e6 =>
    kR e6.2)
def f_i_DavenportBound (L0 : List Sc) : Option (Int) := f_i_DavenportBound_k L0 some

def f_l_sameInts_k0 {R : Type} (a0 : List Sc) (b1 : List Sc) (i5 : Int) (kN : Int → Option R) (kA : Unit → Option R) (kB : Unit → Option R) : Option R :=
  br ((decide (i5 < (a0.length : Int))))
    (br (okAt a0 i5)
      (br (okAt b1 i5)
        (br (((atI a0 i5) != (atI b1 i5)))
          (kB ())
          (kN (w64 (i5 + 1))))
        none)
      none)
    (kA ())
def f_l_sameInts_r0 (a0 : List Sc) (b1 : List Sc) : Int → Option (Ro (Int) (Unit) (Unit)) := fun s => f_l_sameInts_k0 a0 b1 s (fun s => some (.again s)) (fun e => some (.one e)) (fun e => some (.two e))
def f_l_sameInts_k {R : Type} (a0 : List Sc) (b1 : List Sc) (kR : Bool → Option R) : Option R :=
  br (((a0.length : Int) != (b1.length : Int)))
    (kR false)
    (bl (loopL (f_l_sameInts_r0 a0 b1) 0) () ()
      (fun e1 =>
        kR true)
      (fun e1 =>
        kR false))
def f_l_sameInts (a0 : List Sc) (b1 : List Sc) : Option (Bool) := f_l_sameInts_k a0 b1 some

def f_s_DavenportConstant_k {R : Type} (g0 : List Sc) (kR : Int → Option R) : Option R :=
  bo (f_s_LongestZeroFree g0) ([], false) fun r1 =>
  br ((!r1.2))
    (kR (-1))
    (kR (w64 ((r1.1.length : Int) + 1)))
def f_s_DavenportConstant (g0 : List Sc) : Option (Int) := f_s_DavenportConstant_k g0 some

def f_s_l11Divisor_k0 {R : Type} (x0 : Int) (y1 : Int) (kN : Int × Int → Option R) (kA : Int → Option R) : Option R :=
  br ((decide (y1 > 0)))
    (br (y1 == 0)
      none
      (kN (y1, (x0.tmod y1))))
    (kA x0)
def f_s_l11Divisor_r0 : (Int × Int) → Option (Ro (Int × Int) (Int) (Unit)) := fun s => f_s_l11Divisor_k0 s.1 s.2 (fun s => some (.again s)) (fun e => some (.one e))
def f_s_l11Divisor_k {R : Type} (x0 : Int) (y1 : Int) (kR : Int → Option R) : Option R :=
  bl1 (loopL (f_s_l11Divisor_r0) (x0, y1)) 0 fun e1 =>
  kR e1
def f_s_l11Divisor (x0 : Int) (y1 : Int) : Option (Int) := f_s_l11Divisor_k x0 y1 some

def f_s_DavenportBound_k2 {R : Type} (t4 : Int) (t3 : List Sc) (t5 : Int) (kN : List Sc × Int → Option R) (kA : List Sc → Option R) : Option R :=
  br ((decide (t5 < (t3.length : Int))))
    (br (inRange t4 (t3).length)
      (br (kAt t3 t4.toNat)
        (br (inRange t5 (t3).length)
          (br (kAt t3 t5.toNat)
            (bo (f_s_l11Divisor (atN t3 t4.toNat) (atN t3 t5.toNat)) 0 fun r2 =>
            br (inRange t4 (t3).length)
              (br (kAt t3 t4.toNat)
                (br (r2 == 0)
                  none
                  (br (inRange t5 (t3).length)
                    (br (kAt t3 t5.toNat)
                      (br (inRange t4 (t3).length)
                        (br (inRange t5 ((t3.set t4.toNat (Sc.n .i64 r2))).length)
                          (kN (((t3.set t4.toNat (Sc.n .i64 r2)).set t5.toNat (Sc.n .i64 (w64 ((w64 ((atN t3 t4.toNat).tdiv r2)) * (atN t3 t5.toNat))))), (w64 (t5 + 1))))
                          none)
                        none)
                      none)
                    none))
                none)
              none)
            none)
          none)
        none)
      none)
    (kA t3)
def f_s_DavenportBound_r2 (t4 : Int) : (List Sc × Int) → Option (Ro (List Sc × Int) (List Sc) (Unit)) := fun s => f_s_DavenportBound_k2 t4 s.1 s.2 (fun s => some (.again s)) (fun e => some (.one e))
def f_s_DavenportBound_k0 {R : Type} (t3 : List Sc) (t4 : Int) (kN : List Sc × Int → Option R) (kA : List Sc × Int → Option R) : Option R :=
  br ((decide (t4 < (t3.length : Int))))
    (bl1 (loopL (f_s_DavenportBound_r2 t4) (t3, (w64 (t4 + 1)))) [] fun e3 =>
    kN (e3, (w64 (t4 + 1))))
    (kA (t3, t4))
def f_s_DavenportBound_r0 : (List Sc × Int) → Option (Ro (List Sc × Int) (List Sc × Int) (Unit)) := fun s => f_s_DavenportBound_k0 s.1 s.2 (fun s => some (.again s)) (fun e => some (.one e))
def f_s_DavenportBound_k4 {R : Type} (t3 : List Sc) (t8 : Int) (t9 : Int) (kN : List Sc × Int × Int → Option R) (kA : Int → Option R) : Option R :=
  br ((decide (t9 < (t3.length : Int))))
    (br (inRange t9 (t3).length)
      (br (kAt t3 t9.toNat)
        (kN (t3, (w64 ((w64 (t8 + (atN t3 t9.toNat))) - 1)), (w64 (t9 + 1))))
        none)
      none)
    (kA t8)
def f_s_DavenportBound_r4 : (List Sc × Int × Int) → Option (Ro (List Sc × Int × Int) (Int) (Unit)) := fun s => f_s_DavenportBound_k4 s.1 s.2.1 s.2.2 (fun s => some (.again s)) (fun e => some (.one e))
def f_s_DavenportBound_k {R : Type} (L0 : List Sc) (kR : Int → Option R) : Option R :=
  bo (f_s_IsGroup L0) false fun r1 =>
  br ((!r1))
    (kR (-1))
    (br (decide (([] : List Sc).length + L0.length ≤ lim))
      (bl1 (loopL (f_s_DavenportBound_r0) (([] ++ L0), 0)) ([], 0) fun e4 =>
      bl1 (loopL (f_s_DavenportBound_r4) (e4.1, 1, 0)) 0 fun e5 =>
      kR e5)
      none)
def f_s_DavenportBound (L0 : List Sc) : Option (Int) := f_s_DavenportBound_k L0 some

def f_i_Group_has_k {R : Type} (g0 : List Sc) (x1 : Int) (kR : Bool → Option R) : Option R :=
  bo (f_i_OrderOf g0) 0 fun r1 =>
  bo (f_i_within x1 0 (w64 (r1 - 1))) false fun r2 =>
  kR r2
def f_i_Group_has (g0 : List Sc) (x1 : Int) : Option (Bool) := f_i_Group_has_k g0 x1 some

def f_cmp_isNaN_k {R : Type} (x0 : Int) (kR : Bool → Option R) : Option R :=
  kR (x0 != x0)
def f_cmp_isNaN (x0 : Int) : Option (Bool) := f_cmp_isNaN_k x0 some

def f_cmp_Less_k {R : Type} (x0 : Int) (y1 : Int) (kR : Bool → Option R) : Option R :=
  bo (f_cmp_isNaN x0) false fun r1 =>
  br (r1 == true)
    (bo (f_cmp_isNaN y1) false fun r2 =>
    br ((!r2) == false)
      (kR (decide (x0 < y1)))
      (kR true))
    (kR (decide (x0 < y1)))
def f_cmp_Less (x0 : Int) (y1 : Int) : Option (Bool) := f_cmp_Less_k x0 y1 some

def f_slices_IsSorted_k0 {R : Type} (x0 : List Sc) (i3 : Int) (kN : Int → Option R) (kA : Unit → Option R) (kB : Unit → Option R) : Option R :=
  br ((decide (i3 > 0)))
    (br (okAt x0 i3)
      (br (okAt x0 (w64 (i3 - 1)))
        (bo (f_cmp_Less (atI x0 i3) (atI x0 (w64 (i3 - 1)))) false fun r1 =>
        br (r1)
          (kB ())
          (kN (w64 (i3 - 1))))
        none)
      none)
    (kA ())
def f_slices_IsSorted_r0 (x0 : List Sc) : Int → Option (Ro (Int) (Unit) (Unit)) := fun s => f_slices_IsSorted_k0 x0 s (fun s => some (.again s)) (fun e => some (.one e)) (fun e => some (.two e))
def f_slices_IsSorted_k {R : Type} (x0 : List Sc) (kR : Bool → Option R) : Option R :=
  bl (loopL (f_slices_IsSorted_r0 x0) (w64 ((x0.length : Int) - 1))) () ()
    (fun e2 =>
      kR true)
    (fun e2 =>
      kR false)
def f_slices_IsSorted (x0 : List Sc) : Option (Bool) := f_slices_IsSorted_k x0 some

def f_i_IsSequence_k0 {R : Type} (l1 : List Sc) (g2 : List Sc) (t7 : List Sc) (t8 : Int) (t9 : Int) (kN : Int → Option R) (kA : Unit → Option R) (kB : Unit → Option R) : Option R :=
  br ((decide (t9 < t8)))
    (br (okAt t7 t9)
      (bo (f_i_Group_has g2 (atI t7 t9)) false fun r1 =>
      br ((!r1))
        (kB ())
        (kN (w64 (t9 + 1))))
      none)
    (kA ())
def f_i_IsSequence_r0 (l1 : List Sc) (g2 : List Sc) (t7 : List Sc) (t8 : Int) : Int → Option (Ro (Int) (Unit) (Unit)) := fun s => f_i_IsSequence_k0 l1 g2 t7 t8 s (fun s => some (.again s)) (fun e => some (.one e)) (fun e => some (.two e))
def f_i_IsSequence_k {R : Type} (g0 : List Sc) (l1 : List Sc) (kR : Bool → Option R) : Option R :=
  bl (loopL (f_i_IsSequence_r0 l1 g0 l1 (l1.length : Int)) 0) () ()
    (fun e2 =>
      bo (f_i_IsGroup g0) false fun r3 =>
      br (r3 == true)
        (br ((decide ((l1.length : Int) ≤ 12)) == true)
          (bo (f_slices_IsSorted l1) false fun r4 =>
          kR r4)
          (kR false))
        (kR false))
    (fun e2 =>
      kR false)
def f_i_IsSequence (g0 : List Sc) (l1 : List Sc) : Option (Bool) := f_i_IsSequence_k g0 l1 some

def f_i_Group_subsums_k0 {R : Type} (g2 : List Sc) (t8 : List Sc) (t9 : Int) (out5 : Int) (t10 : Int) (kN : Int × Int → Option R) (kA : Int → Option R) : Option R :=
  br ((decide (t10 < t9)))
    (br (okAt t8 t10)
      (bo (f_i_Group_shift g2 out5 (atI t8 t10)) 0 fun r1 =>
      br (decide ((atI t8 t10) < 0))
        none
        (kN ((or64 (or64 out5 r1) (shl64 1 (atI t8 t10))), (w64 (t10 + 1)))))
      none)
    (kA out5)
def f_i_Group_subsums_r0 (g2 : List Sc) (t8 : List Sc) (t9 : Int) : (Int × Int) → Option (Ro (Int × Int) (Int) (Unit)) := fun s => f_i_Group_subsums_k0 g2 t8 t9 s.1 s.2 (fun s => some (.again s)) (fun e => some (.one e))
def f_i_Group_subsums_k {R : Type} (g0 : List Sc) (l1 : List Sc) (kR : Int → Option R) : Option R :=
  bl1 (loopL (f_i_Group_subsums_r0 g0 l1 (l1.length : Int)) (0, 0)) 0 fun e2 =>
  kR e2
def f_i_Group_subsums (g0 : List Sc) (l1 : List Sc) : Option (Int) := f_i_Group_subsums_k g0 l1 some

def f_i_IsZeroFree_k {R : Type} (g0 : List Sc) (l1 : List Sc) (kR : Bool → Option R) : Option R :=
  bo (f_i_IsSequence g0 l1) false fun r1 =>
  br (r1 == true)
    (bo (f_i_Group_subsums g0 l1) 0 fun r2 =>
    bo (f_i_in r2 0) false fun r3 =>
    kR (!r3))
    (kR false)
def f_i_IsZeroFree (g0 : List Sc) (l1 : List Sc) : Option (Bool) := f_i_IsZeroFree_k g0 l1 some

def f_s_OrderOf_k {R : Type} (g0 : List Sc) (kR : Int → Option R) : Option R :=
  bo (f_s_IsGroup g0) false fun r1 =>
  br ((!r1))
    (kR 0)
    (bo (f_s_l2Order g0) 0 fun r2 =>
    kR r2)
def f_s_OrderOf (g0 : List Sc) : Option (Int) := f_s_OrderOf_k g0 some

def f_i_MultiplicityIn_k0 {R : Type} (x1 : Int) (t8 : List Sc) (t9 : Int) (n5 : Int) (t10 : Int) (kN : Int × Int → Option R) (kA : Int → Option R) : Option R :=
  br ((decide (t10 < t9)))
    (br (okAt t8 t10)
      (br ((x1 == (atI t8 t10)))
        (kN ((w64 (n5 + 1)), (w64 (t10 + 1))))
        (kN (n5, (w64 (t10 + 1)))))
      none)
    (kA n5)
def f_i_MultiplicityIn_r0 (x1 : Int) (t8 : List Sc) (t9 : Int) : (Int × Int) → Option (Ro (Int × Int) (Int) (Unit)) := fun s => f_i_MultiplicityIn_k0 x1 t8 t9 s.1 s.2 (fun s => some (.again s)) (fun e => some (.one e))
def f_i_MultiplicityIn_k {R : Type} (l0 : List Sc) (x1 : Int) (kR : Int → Option R) : Option R :=
  bl1 (loopL (f_i_MultiplicityIn_r0 x1 l0 (l0.length : Int)) (0, 0)) 0 fun e1 =>
  kR e1
def f_i_MultiplicityIn (l0 : List Sc) (x1 : Int) : Option (Int) := f_i_MultiplicityIn_k l0 x1 some

def f_i_CyclicStructure_k {R : Type} (g0 : List Sc) (l1 : List Sc) (kR : Int × Bool → Option R) : Option R :=
  br (((g0.length : Int) != 1) == false)
    (bo (f_i_IsZeroFree g0 l1) false fun r1 =>
    br ((!r1) == false)
      (bo (f_i_OrderOf g0) 0 fun r2 =>
      br (((l1.length : Int) != (w64 (r2 - 1))) == false)
        (br (okAt l1 0)
          (bo (f_i_MultiplicityIn l1 (atI l1 0)) 0 fun r3 =>
          br ((r3 != (l1.length : Int)))
            (kR (0, false))
            (br (okAt l1 0)
              (kR ((atI l1 0), true))
              none))
          none)
        (kR (0, false)))
      (kR (0, false)))
    (kR (0, false))
def f_i_CyclicStructure (g0 : List Sc) (l1 : List Sc) : Option (Int × Bool) := f_i_CyclicStructure_k g0 l1 some

def f_i_OrderOfElement_k0 {R : Type} (x1 : Int) (g2 : List Sc) (n5 : Int) (y6 : Int) (kN : Int × Int → Option R) (kA : Int → Option R) : Option R :=
  br ((y6 != 0))
    (bo (f_i_Group_add g2 y6 x1) 0 fun r2 =>
    kN ((w64 (n5 + 1)), r2))
    (kA n5)
def f_i_OrderOfElement_r0 (x1 : Int) (g2 : List Sc) : (Int × Int) → Option (Ro (Int × Int) (Int) (Unit)) := fun s => f_i_OrderOfElement_k0 x1 g2 s.1 s.2 (fun s => some (.again s)) (fun e => some (.one e))
def f_i_OrderOfElement_k {R : Type} (g0 : List Sc) (x1 : Int) (kR : Int → Option R) : Option R :=
  bo (f_i_Group_has g0 x1) false fun r1 =>
  br ((!r1))
    (kR 0)
    (bl1 (loopL (f_i_OrderOfElement_r0 x1 g0) (1, x1)) 0 fun e3 =>
    kR e3)
def f_i_OrderOfElement (g0 : List Sc) (x1 : Int) : Option (Int) := f_i_OrderOfElement_k g0 x1 some

def f_s_DrawCountZeroFree_g3_k {R : Type} (v0 : List Sc) (v1 : List Sc) (v2 : List Sc) (v3 : Int) (v4 : Int) (kA : Int → Option R) : Option R :=
  bo (f_s_l1Below_io 6 v2 v3 v4) (0, [], 0, 0) fun r3 =>
  kA r3.1
def f_s_DrawCountZeroFree_g3 (v0 : List Sc) (v1 : List Sc) (v2 : List Sc) (v3 : Int) (v4 : Int) : Option (Int) := f_s_DrawCountZeroFree_g3_k v0 v1 v2 v3 v4 some
def f_s_DrawCountZeroFree_k {R : Type} (code0 : List Sc) (kR : List Sc × Int → Option R) : Option R :=
  bo (f_s_l1New code0) ([], 0, 0) fun r1 =>
  bo (f_s_l17Group_io r1.1 r1.2.1 r1.2.2) ([], [], 0, 0) fun r2 =>
  bo (f_s_DrawCountZeroFree_g3 [] r2.1 r2.2.1 r2.2.2.1 r2.2.2.2) 0 fun g8 =>
  kR (r2.1, g8)
def f_s_DrawCountZeroFree (code0 : List Sc) : Option (List Sc × Int) := f_s_DrawCountZeroFree_k code0 some

def f_i_CountZeroFree_1_k {R : Type} (l0 : List Sc) (sums1 : Int) (p2 : Int) (h0 : Int) (kR : Int → Option R) : Option R :=
  br (((l0.length : Int) == p2))
    (kR (w64 (h0 + 1)))
    (kR h0)
def f_i_CountZeroFree_1 (l0 : List Sc) (sums1 : Int) (p2 : Int) (h0 : Int) : Option (Int) := f_i_CountZeroFree_1_k l0 sums1 p2 h0 some

def f_i_zeroFree_CountZeroFree_1_k0 {R : Type} (self : (List Sc × List Sc × Int × Int × Int) → Option (Int)) (l1 : List Sc) (sums2 : Int) (visit3 : Int) (g4 : List Sc) (v0 : Int) (x9 : Int) (kN : Int × Int → Option R) (kA : Int → Option R) : Option R :=
  bo (f_i_OrderOf g4) 0 fun r2 =>
  br ((decide (x9 < r2)))
    (bo (f_i_Group_shift g4 sums2 x9) 0 fun r3 =>
    br (decide (x9 < 0))
      none
      (bo (f_i_in (or64 (or64 sums2 r3) (shl64 1 x9)) 0) false fun r4 =>
      br ((!r4))
        (bo (f_i_copyInts l1) [] fun r5 =>
        br (decide (r5.length + [(Sc.n .i64 x9)].length ≤ lim))
          (bo (self (g4, (r5 ++ [(Sc.n .i64 x9)]), (or64 (or64 sums2 r3) (shl64 1 x9)), visit3, v0)) 0 fun r6 =>
          kN (r6, (w64 (x9 + 1))))
          none)
        (kN (v0, (w64 (x9 + 1))))))
    (kA v0)
def f_i_zeroFree_CountZeroFree_1_r0 (self : (List Sc × List Sc × Int × Int × Int) → Option (Int)) (l1 : List Sc) (sums2 : Int) (visit3 : Int) (g4 : List Sc) : (Int × Int) → Option (Ro (Int × Int) (Int) (Unit)) := fun s => f_i_zeroFree_CountZeroFree_1_k0 self l1 sums2 visit3 g4 s.1 s.2 (fun s => some (.again s)) (fun e => some (.one e))
def f_i_zeroFree_CountZeroFree_1_k {R : Type} (self : (List Sc × List Sc × Int × Int × Int) → Option (Int)) (g0 : List Sc) (l1 : List Sc) (sums2 : Int) (visit3 : Int) (h0 : Int) (kR : Int → Option R) : Option R :=
  bo (f_i_CountZeroFree_1 l1 sums2 visit3 h0) 0 fun r1 =>
  br ((decide ((l1.length : Int) > 0)))
    (br (okAt l1 (w64 ((l1.length : Int) - 1)))
      (bl1 (loopL (f_i_zeroFree_CountZeroFree_1_r0 self l1 sums2 visit3 g0) (r1, (atI l1 (w64 ((l1.length : Int) - 1))))) 0 fun e7 =>
      kR e7)
      none)
    (bl1 (loopL (f_i_zeroFree_CountZeroFree_1_r0 self l1 sums2 visit3 g0) (r1, 1)) 0 fun e8 =>
    kR e8)
def f_i_zeroFree_CountZeroFree_1_n : Nat → (List Sc × List Sc × Int × Int × Int) → Option (Int)
  | 0, _ => none
  | n + 1, a => f_i_zeroFree_CountZeroFree_1_k (f_i_zeroFree_CountZeroFree_1_n n) a.1 a.2.1 a.2.2.1 a.2.2.2.1 a.2.2.2.2 some
def f_i_zeroFree_CountZeroFree_1 (g0 : List Sc) (l1 : List Sc) (sums2 : Int) (visit3 : Int) (h0 : Int) : Option (Int) := limF f_i_zeroFree_CountZeroFree_1_n (g0, l1, sums2, visit3, h0)

def f_i_CountZeroFree_k {R : Type} (g0 : List Sc) (n1 : Int) (kR : Int → Option R) : Option R :=
  bo (f_i_IsGroup g0) false fun r1 =>
  br ((!r1) == false)
    (bo (f_i_OrderOf g0) 0 fun r2 =>
    br ((decide (r2 > 9)) == false)
      (bo (f_i_within n1 0 8) false fun r3 =>
      br ((!r3))
        (kR (-1))
        (bo (f_i_zeroFree_CountZeroFree_1 g0 [] 0 n1 0) 0 fun r4 =>
        kR r4))
      (kR (-1)))
    (kR (-1))
def f_i_CountZeroFree (g0 : List Sc) (n1 : Int) : Option (Int) := f_i_CountZeroFree_k g0 n1 some

def f_s_l17Count_k0 {R : Type} (self : (List Sc × Int × Int × Int) → Option (Int)) (left1 : Int) (sums2 : Int) (g4 : List Sc) (n9 : Int) (x10 : Int) (kN : Int × Int → Option R) (kA : Int → Option R) : Option R :=
  bo (f_s_l2Order g4) 0 fun r1 =>
  br ((decide (x10 < r1)))
    (bo (f_s_l3Shift g4 sums2 x10) 0 fun r2 =>
    br (decide (x10 < 0))
      none
      (br (((and64 (or64 (or64 sums2 r2) (shl64 1 x10)) 1) == 0))
        (bo (self (g4, (w64 (left1 - 1)), (or64 (or64 sums2 r2) (shl64 1 x10)), x10)) 0 fun r3 =>
        kN ((w64 (n9 + r3)), (w64 (x10 + 1))))
        (kN (n9, (w64 (x10 + 1))))))
    (kA n9)
def f_s_l17Count_r0 (self : (List Sc × Int × Int × Int) → Option (Int)) (left1 : Int) (sums2 : Int) (g4 : List Sc) : (Int × Int) → Option (Ro (Int × Int) (Int) (Unit)) := fun s => f_s_l17Count_k0 self left1 sums2 g4 s.1 s.2 (fun s => some (.again s)) (fun e => some (.one e))
def f_s_l17Count_k {R : Type} (self : (List Sc × Int × Int × Int) → Option (Int)) (g0 : List Sc) (left1 : Int) (sums2 : Int) (least3 : Int) (kR : Int → Option R) : Option R :=
  br ((left1 == 0))
    (kR 1)
    (bl1 (loopL (f_s_l17Count_r0 self left1 sums2 g0) (0, least3)) 0 fun e4 =>
    kR e4)
def f_s_l17Count_n : Nat → (List Sc × Int × Int × Int) → Option (Int)
  | 0, _ => none
  | n + 1, a => f_s_l17Count_k (f_s_l17Count_n n) a.1 a.2.1 a.2.2.1 a.2.2.2 some
def f_s_l17Count (g0 : List Sc) (left1 : Int) (sums2 : Int) (least3 : Int) : Option (Int) := limF f_s_l17Count_n (g0, left1, sums2, least3)

def f_s_CountZeroFree_k {R : Type} (g0 : List Sc) (n1 : Int) (kR : Int → Option R) : Option R :=
  bo (f_s_IsGroup g0) false fun r1 =>
  br ((!r1) == false)
    (bo (f_s_l2Order g0) 0 fun r2 =>
    br ((decide (r2 > 9)) == false)
      (bo (f_s_l1In n1 0 8) false fun r3 =>
      br ((!r3))
        (kR (-1))
        (bo (f_s_l17Count g0 n1 0 1) 0 fun r4 =>
        kR r4))
      (kR (-1)))
    (kR (-1))
def f_s_CountZeroFree (g0 : List Sc) (n1 : Int) : Option (Int) := f_s_CountZeroFree_k g0 n1 some

def f_s_l16Sort_k2 {R : Type} (l0 : List Sc) (out3 : List Sc) (i4 : Int) (k5 : Int) (kN : Int → Option R) (kA : Int → Option R) : Option R :=
  br ((decide (k5 > 0)) == true)
    (br (okAt out3 (w64 (k5 - 1)))
      (br (okAt l0 i4)
        (br ((decide ((atI out3 (w64 (k5 - 1))) > (atI l0 i4))))
          (kN (w64 (k5 - 1)))
          (kA k5))
        none)
      none)
    (kA k5)
def f_s_l16Sort_r2 (l0 : List Sc) (out3 : List Sc) (i4 : Int) : Int → Option (Ro (Int) (Int) (Unit)) := fun s => f_s_l16Sort_k2 l0 out3 i4 s (fun s => some (.again s)) (fun e => some (.one e))
def f_s_l16Sort_k0 {R : Type} (l0 : List Sc) (out3 : List Sc) (i4 : Int) (kN : List Sc × Int → Option R) (kA : List Sc × Int → Option R) : Option R :=
  br ((decide (i4 < (l0.length : Int))))
    (bl1 (loopL (f_s_l16Sort_r2 l0 out3 i4) (out3.length : Int)) 0 fun e1 =>
    br (decide (0 ≤ (0 : Int)) && (decide ((0 : Int) ≤ e1) && decide (e1 ≤ (out3.length : Int))))
      (br (decide (([] : List Sc).length + (sliceA out3 0 e1).length ≤ lim))
        (br (okAt l0 i4)
          (br (decide (([] ++ (sliceA out3 0 e1)).length + [(Sc.n .i64 (atI l0 i4))].length ≤ lim))
            (br (decide (0 ≤ e1) && (decide (e1 ≤ (out3.length : Int)) && decide ((out3.length : Int) ≤ (out3.length : Int))))
              (br (decide ((([] ++ (sliceA out3 0 e1)) ++ [(Sc.n .i64 (atI l0 i4))]).length + (sliceA out3 e1 (out3.length : Int)).length ≤ lim))
                (kN (((([] ++ (sliceA out3 0 e1)) ++ [(Sc.n .i64 (atI l0 i4))]) ++ (sliceA out3 e1 (out3.length : Int))), (w64 (i4 + 1))))
                none)
              none)
            none)
          none)
        none)
      none)
    (kA (out3, i4))
def f_s_l16Sort_r0 (l0 : List Sc) : (List Sc × Int) → Option (Ro (List Sc × Int) (List Sc × Int) (Unit)) := fun s => f_s_l16Sort_k0 l0 s.1 s.2 (fun s => some (.again s)) (fun e => some (.one e))
def f_s_l16Sort_k {R : Type} (l0 : List Sc) (kR : List Sc → Option R) : Option R :=
  bl1 (loopL (f_s_l16Sort_r0 l0) ([], 0)) ([], 0) fun e2 =>
  kR e2.1
def f_s_l16Sort (l0 : List Sc) : Option (List Sc) := f_s_l16Sort_k l0 some

def f_s_l16Draw_io_k0 {R : Type} (v0 : List Sc) (v1 : Int) (v2 : Int) (v3 : List Sc) (v4 : List Sc) (l7 : List Sc) (x8 : Int) (n9 : Int) (kN : List Sc × Int × Int × List Sc × List Sc × List Sc × Int × Int → Option R) (kA : List Sc × Int × Int × List Sc × List Sc × List Sc → Option R) : Option R :=
  br ((decide (n9 > 0)))
    (bo (f_s_l1Once_io 2 v0 v1 v2) (false, [], 0, 0) fun r5 =>
    br (r5.1)
      (bo (f_s_OrderOf v4) 0 fun r6 =>
      bo (f_s_l1Below_io (if r6 > 1 then r6 else 1) r5.2.1 r5.2.2.1 r5.2.2.2) (0, [], 0, 0) fun r7 =>
      br (decide (l7.length + [(Sc.n .i64 r7.1)].length ≤ lim))
        (kN (r7.2.1, r7.2.2.1, r7.2.2.2, v3, v4, (l7 ++ [(Sc.n .i64 r7.1)]), r7.1, (w64 (n9 - 1))))
        none)
      (br (decide (l7.length + [(Sc.n .i64 x8)].length ≤ lim))
        (kN (r5.2.1, r5.2.2.1, r5.2.2.2, v3, v4, (l7 ++ [(Sc.n .i64 x8)]), x8, (w64 (n9 - 1))))
        none))
    (kA (v0, v1, v2, v3, v4, l7))
def f_s_l16Draw_io_r0 : (List Sc × Int × Int × List Sc × List Sc × List Sc × Int × Int) → Option (Ro (List Sc × Int × Int × List Sc × List Sc × List Sc × Int × Int) (List Sc × Int × Int × List Sc × List Sc × List Sc) (Unit)) := fun s => f_s_l16Draw_io_k0 s.1 s.2.1 s.2.2.1 s.2.2.2.1 s.2.2.2.2.1 s.2.2.2.2.2.1 s.2.2.2.2.2.2.1 s.2.2.2.2.2.2.2 (fun s => some (.again s)) (fun e => some (.one e))
def f_s_l16Draw_io_k {R : Type} (most1 : Int) (h0 : List Sc) (h1 : Int) (h2 : Int) (kR : List Sc × List Sc × List Sc × Int × Int → Option R) : Option R :=
  bo (f_s_l2Any_io h0 h1 h2) ([], [], 0, 0) fun r1 =>
  bo (f_s_OrderOf r1.1) 0 fun r2 =>
  bo (f_s_l1Below_io (if r2 > 1 then r2 else 1) r1.2.1 r1.2.2.1 r1.2.2.2) (0, [], 0, 0) fun r3 =>
  bo (f_s_l1Below_io (w64 (most1 + 1)) r3.2.1 r3.2.2.1 r3.2.2.2) (0, [], 0, 0) fun r4 =>
  bl1 (loopL (f_s_l16Draw_io_r0) (r4.2.1, r4.2.2.1, r4.2.2.2, [], r1.1, [], r3.1, r4.1)) ([], 0, 0, [], [], []) fun e8 =>
  bo (f_s_l1Once_io 12 e8.1 e8.2.1 e8.2.2.1) (false, [], 0, 0) fun r9 =>
  br (r9.1)
    (bo (f_s_l1PickInt_io [(Sc.n .i64 (-1)), (Sc.n .i64 0), (Sc.n .i64 24), (Sc.n .i64 9223372036854775807)] r9.2.1 r9.2.2.1 r9.2.2.2) (0, [], 0, 0) fun r10 =>
    br (decide (e8.2.2.2.2.2.length + [(Sc.n .i64 r10.1)].length ≤ lim))
      (kR (e8.2.2.2.2.1, (e8.2.2.2.2.2 ++ [(Sc.n .i64 r10.1)]), r10.2.1, r10.2.2.1, r10.2.2.2))
      none)
    (bo (f_s_l16Sort e8.2.2.2.2.2) [] fun r11 =>
    kR (e8.2.2.2.2.1, r11, r9.2.1, r9.2.2.1, r9.2.2.2))
def f_s_l16Draw_io (most1 : Int) (h0 : List Sc) (h1 : Int) (h2 : Int) : Option (List Sc × List Sc × List Sc × Int × Int) := f_s_l16Draw_io_k most1 h0 h1 h2 some

def f_s_DrawCyclicStructure_k0 {R : Type} (x7 : Int) (v0 : List Sc) (v1 : List Sc) (v3 : List Sc) (v4 : Int) (v5 : Int) (l6 : List Sc) (i8 : Int) (kN : List Sc × List Sc × List Sc × Int × Int × List Sc × Int → Option R) (kA : List Sc × List Sc × List Sc × Int × Int × List Sc → Option R) : Option R :=
  br (inRange 0 (v1).length)
    (br (kAt v1 (0 : Int).toNat)
      (br ((decide (i8 < (atN v1 (0 : Int).toNat))))
        (br (decide (l6.length + [(Sc.n .i64 x7)].length ≤ lim))
          (kN (v0, v1, v3, v4, v5, (l6 ++ [(Sc.n .i64 x7)]), (w64 (i8 + 1))))
          none)
        (kA (v0, v1, v3, v4, v5, l6)))
      none)
    none
def f_s_DrawCyclicStructure_r0 (x7 : Int) : (List Sc × List Sc × List Sc × Int × Int × List Sc × Int) → Option (Ro (List Sc × List Sc × List Sc × Int × Int × List Sc × Int) (List Sc × List Sc × List Sc × Int × Int × List Sc) (Unit)) := fun s => f_s_DrawCyclicStructure_k0 x7 s.1 s.2.1 s.2.2.1 s.2.2.2.1 s.2.2.2.2.1 s.2.2.2.2.2.1 s.2.2.2.2.2.2 (fun s => some (.again s)) (fun e => some (.one e))
def f_s_DrawCyclicStructure_k {R : Type} (code0 : List Sc) (kR : List Sc × List Sc → Option R) : Option R :=
  bo (f_s_l1New code0) ([], 0, 0) fun r1 =>
  bo (f_s_l1Below_io 8 r1.1 r1.2.1 r1.2.2) (0, [], 0, 0) fun r2 =>
  br (inRange 0 ([(Sc.n .i64 (w64 (2 + r2.1)))]).length)
    (br (kAt [(Sc.n .i64 (w64 (2 + r2.1)))] (0 : Int).toNat)
      (bo (f_s_l1Below_io (w64 ((atN [(Sc.n .i64 (w64 (2 + r2.1)))] (0 : Int).toNat) - 1)) r2.2.1 r2.2.2.1 r2.2.2.2) (0, [], 0, 0) fun r3 =>
      bl1 (loopL (f_s_DrawCyclicStructure_r0 (w64 (1 + r3.1))) ([], [(Sc.n .i64 (w64 (2 + r2.1)))], r3.2.1, r3.2.2.1, r3.2.2.2, [], 1)) ([], [], [], 0, 0, []) fun e4 =>
      bo (f_s_l1Once_io 4 e4.2.2.1 e4.2.2.2.1 e4.2.2.2.2.1) (false, [], 0, 0) fun r5 =>
      br (r5.1)
        (bo (f_s_l16Draw_io 6 r5.2.1 r5.2.2.1 r5.2.2.2) ([], [], [], 0, 0) fun r6 =>
        kR (r6.1, r6.2.1))
        (kR (e4.2.1, e4.2.2.2.2.2)))
      none)
    none
def f_s_DrawCyclicStructure (code0 : List Sc) : Option (List Sc × List Sc) := f_s_DrawCyclicStructure_k code0 some

def f_s_l2Is_k {R : Type} (g0 : List Sc) (x1 : Int) (kR : Bool → Option R) : Option R :=
  br ((decide (x1 ≥ 0)) == true)
    (bo (f_s_OrderOf g0) 0 fun r1 =>
    kR (decide (x1 < r1)))
    (kR false)
def f_s_l2Is (g0 : List Sc) (x1 : Int) : Option (Bool) := f_s_l2Is_k g0 x1 some

def f_s_IsSequence_k0 {R : Type} (l1 : List Sc) (g2 : List Sc) (i5 : Int) (kN : Int → Option R) (kA : Unit → Option R) (kB : Unit → Option R) : Option R :=
  br ((decide (i5 < (l1.length : Int))))
    (br (okAt l1 i5)
      (bo (f_s_l2Is g2 (atI l1 i5)) false fun r1 =>
      br ((!r1) == false)
        (br ((decide (i5 > 0)) == true)
          (br (okAt l1 i5)
            (br (okAt l1 (w64 (i5 - 1)))
              (br ((decide ((atI l1 i5) < (atI l1 (w64 (i5 - 1))))))
                (kB ())
                (kN (w64 (i5 + 1))))
              none)
            none)
          (kN (w64 (i5 + 1))))
        (kB ()))
      none)
    (kA ())
def f_s_IsSequence_r0 (l1 : List Sc) (g2 : List Sc) : Int → Option (Ro (Int) (Unit) (Unit)) := fun s => f_s_IsSequence_k0 l1 g2 s (fun s => some (.again s)) (fun e => some (.one e)) (fun e => some (.two e))
def f_s_IsSequence_k {R : Type} (g0 : List Sc) (l1 : List Sc) (kR : Bool → Option R) : Option R :=
  bl (loopL (f_s_IsSequence_r0 l1 g0) 0) () ()
    (fun e2 =>
      bo (f_s_IsGroup g0) false fun r3 =>
      br (r3 == true)
        (kR (decide ((l1.length : Int) ≤ 12)))
        (kR false))
    (fun e2 =>
      kR false)
def f_s_IsSequence (g0 : List Sc) (l1 : List Sc) : Option (Bool) := f_s_IsSequence_k g0 l1 some

def f_s_l16Subsums_k0 {R : Type} (l1 : List Sc) (g2 : List Sc) (out5 : Int) (i6 : Int) (kN : Int × Int → Option R) (kA : Int → Option R) : Option R :=
  br ((decide (i6 < (l1.length : Int))))
    (br (okAt l1 i6)
      (bo (f_s_l3Shift g2 out5 (atI l1 i6)) 0 fun r1 =>
      br (okAt l1 i6)
        (br (decide ((atI l1 i6) < 0))
          none
          (kN ((or64 (or64 out5 r1) (shl64 1 (atI l1 i6))), (w64 (i6 + 1)))))
        none)
      none)
    (kA out5)
def f_s_l16Subsums_r0 (l1 : List Sc) (g2 : List Sc) : (Int × Int) → Option (Ro (Int × Int) (Int) (Unit)) := fun s => f_s_l16Subsums_k0 l1 g2 s.1 s.2 (fun s => some (.again s)) (fun e => some (.one e))
def f_s_l16Subsums_k {R : Type} (g0 : List Sc) (l1 : List Sc) (kR : Int → Option R) : Option R :=
  bl1 (loopL (f_s_l16Subsums_r0 l1 g0) (0, 0)) 0 fun e2 =>
  kR e2
def f_s_l16Subsums (g0 : List Sc) (l1 : List Sc) : Option (Int) := f_s_l16Subsums_k g0 l1 some

def f_s_IsZeroFree_k {R : Type} (g0 : List Sc) (l1 : List Sc) (kR : Bool → Option R) : Option R :=
  bo (f_s_IsSequence g0 l1) false fun r1 =>
  br (r1 == true)
    (bo (f_s_l16Subsums g0 l1) 0 fun r2 =>
    kR ((and64 r2 1) == 0))
    (kR false)
def f_s_IsZeroFree (g0 : List Sc) (l1 : List Sc) : Option (Bool) := f_s_IsZeroFree_k g0 l1 some

def f_s_CyclicStructure_k0 {R : Type} (l1 : List Sc) (i6 : Int) (kN : Int → Option R) (kA : Unit → Option R) (kB : Unit → Option R) : Option R :=
  br ((decide (i6 < (l1.length : Int))))
    (br (okAt l1 i6)
      (br (okAt l1 0)
        (br (((atI l1 i6) != (atI l1 0)))
          (kB ())
          (kN (w64 (i6 + 1))))
        none)
      none)
    (kA ())
def f_s_CyclicStructure_r0 (l1 : List Sc) : Int → Option (Ro (Int) (Unit) (Unit)) := fun s => f_s_CyclicStructure_k0 l1 s (fun s => some (.again s)) (fun e => some (.one e)) (fun e => some (.two e))
def f_s_CyclicStructure_k {R : Type} (g0 : List Sc) (l1 : List Sc) (kR : Int × Bool → Option R) : Option R :=
  bo (f_s_IsZeroFree g0 l1) false fun r1 =>
  br ((!r1) == false)
    (br (((l1.length : Int) == 0) == false)
      (br (((g0.length : Int) != 1) == false)
        (bo (f_s_l2Order g0) 0 fun r2 =>
        br (((l1.length : Int) != (w64 (r2 - 1))))
          (kR (0, false))
          (bl (loopL (f_s_CyclicStructure_r0 l1) 1) () ()
            (fun e3 =>
              br (okAt l1 0)
                (kR ((atI l1 0), true))
                none)
            (fun e3 =>
              kR (0, false))))
        (kR (0, false)))
      (kR (0, false)))
    (kR (0, false))
def f_s_CyclicStructure (g0 : List Sc) (l1 : List Sc) : Option (Int × Bool) := f_s_CyclicStructure_k g0 l1 some

def f_s_DrawDavenportBound_k {R : Type} (code0 : List Sc) (kR : List Sc → Option R) : Option R :=
  bo (f_s_l1New code0) ([], 0, 0) fun r1 =>
  bo (f_s_l2Any_io r1.1 r1.2.1 r1.2.2) ([], [], 0, 0) fun r2 =>
  kR r2.1
def f_s_DrawDavenportBound (code0 : List Sc) : Option (List Sc) := f_s_DrawDavenportBound_k code0 some

def f_l_FnDavenport_w20_k {R : Type} (t0 : List Sc) (kA : Bool → Option R) : Option R :=
  bo (f_s_DrawCyclicStructure t0) ([], []) fun r19 =>
  bo (f_i_CyclicStructure r19.1 r19.2) (0, false) fun r20 =>
  bo (f_s_CyclicStructure r19.1 r19.2) (0, false) fun r21 =>
  bo (f_s_DrawDavenportBound t0) [] fun r22 =>
  br ((r20.1 == r21.1) == true)
    (br ((r20.2 == r21.2) == true)
      (br ((!r20.2) == false)
        (bo (f_i_OrderOfElement r19.1 r21.1) 0 fun r23 =>
        bo (f_s_OrderOf r19.1) 0 fun r24 =>
        br ((r23 == r24) == true)
          (bo (f_i_DavenportBound r22) 0 fun r25 =>
          bo (f_s_DavenportBound r22) 0 fun r26 =>
          kA (r25 == r26))
          (kA false))
        (bo (f_i_DavenportBound r22) 0 fun r27 =>
        bo (f_s_DavenportBound r22) 0 fun r28 =>
        kA (r27 == r28)))
      (kA false))
    (kA false)
def f_l_FnDavenport_w20 (t0 : List Sc) : Option (Bool) := f_l_FnDavenport_w20_k t0 some
def f_l_FnDavenport_w16_k {R : Type} (t0 : List Sc) (kA : Bool → Option R) : Option R :=
  bo (f_s_DrawCountZeroFree t0) ([], 0) fun r15 =>
  bo (f_i_CountZeroFree r15.1 r15.2) 0 fun r16 =>
  bo (f_s_CountZeroFree r15.1 r15.2) 0 fun r17 =>
  br ((r16 != r17) == false)
    (br ((decide (r16 > 0)) == true)
      (bo (f_s_OrderOf r15.1) 0 fun r18 =>
      br ((decide (r15.2 ≥ r18)))
        (kA false)
        (bo (f_l_FnDavenport_w20 t0) false fun w29 =>
        kA w29))
      (bo (f_l_FnDavenport_w20 t0) false fun w30 =>
      kA w30))
    (kA false)
def f_l_FnDavenport_w16 (t0 : List Sc) : Option (Bool) := f_l_FnDavenport_w16_k t0 some
def f_l_FnDavenport_w12_k {R : Type} (v0 : List Sc) (t0 : List Sc) (t5 : Bool) (t6 : List Sc) (kA : Bool → Option R) : Option R :=
  br (t5 == true)
    (br (((v0.length : Int) == 1))
      (bo (f_i_CyclicStructure v0 t6) (0, false) fun r12 =>
      br ((!r12.2) == false)
        (bo (f_i_OrderOfElement v0 r12.1) 0 fun r13 =>
        bo (f_s_OrderOf v0) 0 fun r14 =>
        br ((r13 != r14))
          (kA false)
          (bo (f_l_FnDavenport_w16 t0) false fun w31 =>
          kA w31))
        (kA false))
      (bo (f_l_FnDavenport_w16 t0) false fun w32 =>
      kA w32))
    (bo (f_l_FnDavenport_w16 t0) false fun w33 =>
    kA w33)
def f_l_FnDavenport_w12 (v0 : List Sc) (t0 : List Sc) (t5 : Bool) (t6 : List Sc) : Option (Bool) := f_l_FnDavenport_w12_k v0 t0 t5 t6 some
def f_l_FnDavenport_w10_k {R : Type} (v0 : List Sc) (t0 : List Sc) (t5 : Bool) (t6 : List Sc) (t8 : Int) (t9 : Int) (kA : Bool → Option R) : Option R :=
  br (t5 == true)
    (bo (f_i_IsZeroFree v0 t6) false fun r10 =>
    br ((!r10) == false)
      (br ((t8 != (w64 ((t6.length : Int) + 1))) == false)
        (br ((t8 != t9) == false)
          (bo (f_s_OrderOf v0) 0 fun r11 =>
          br ((decide (t8 > r11)))
            (kA false)
            (bo (f_l_FnDavenport_w12 v0 t0 t5 t6) false fun w34 =>
            kA w34))
          (kA false))
        (kA false))
      (kA false))
    (bo (f_l_FnDavenport_w12 v0 t0 t5 t6) false fun w35 =>
    kA w35)
def f_l_FnDavenport_w10 (v0 : List Sc) (t0 : List Sc) (t5 : Bool) (t6 : List Sc) (t8 : Int) (t9 : Int) : Option (Bool) := f_l_FnDavenport_w10_k v0 t0 t5 t6 t8 t9 some
def f_l_FnDavenport_w3_k {R : Type} (t0 : List Sc) (kA : Bool → Option R) : Option R :=
  bo (f_s_DrawLongestZeroFree t0) [] fun r2 =>
  bo (f_i_LongestZeroFree r2) ([], false) fun r3 =>
  bo (f_s_LongestZeroFree r2) ([], false) fun r4 =>
  bo (f_i_DavenportConstant r2) 0 fun r5 =>
  bo (f_i_DavenportBound r2) 0 fun r6 =>
  br ((!(r3.2 == r4.2)) == false)
    (bo (f_l_sameInts r3.1 r4.1) false fun r7 =>
    br ((!r7) == false)
      (bo (f_s_DavenportConstant r2) 0 fun r8 =>
      br ((r5 != r8) == false)
        (bo (f_s_DavenportBound r2) 0 fun r9 =>
        br ((r6 != r9))
          (kA false)
          (bo (f_l_FnDavenport_w10 r2 t0 r3.2 r4.1 r5 r6) false fun w36 =>
          kA w36))
        (kA false))
      (kA false))
    (kA false)
def f_l_FnDavenport_w3 (t0 : List Sc) : Option (Bool) := f_l_FnDavenport_w3_k t0 some
def f_l_FnDavenport_k {R : Type} (L0 : List Sc) (kR : Bool → Option R) : Option R :=
  bo (f_l_big L0) false fun r1 =>
  br (r1)
    (kR true)
    (bo (f_l_FnDavenport_w3 L0) false fun w37 =>
    kR w37)
def f_l_FnDavenport (L0 : List Sc) : Option (Bool) := f_l_FnDavenport_k L0 some
end
end Go.Proofs.Ytphbclogflflmaa
