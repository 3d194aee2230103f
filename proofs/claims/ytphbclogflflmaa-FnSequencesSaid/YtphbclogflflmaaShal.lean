/-
  What the functions compute, as plain functions (printed by gen2.py).
-/
import Derived.Test.YtphbclogflflmaaVSort
set_option linter.unusedVariables false
set_option linter.unusedSimpArgs false
namespace Go.Proofs.Ytphbclogflflmaa
open Go Ev
noncomputable section
def f_l_big_k {R : Type} (code0 : List Sc) (kR : Bool → Option R) : Option R :=
  kR (decide ((code0.length : Int) > 1048576))
def f_l_big (code0 : List Sc) : Option (Bool) := f_l_big_k code0 some

def f_s_l1New_k0 {R : Type} (code0 : List Sc) (h3 : Int) (i4 : Int) (kN : Int × Int → Option R) (kA : Int → Option R) : Option R :=
  br ((decide (i4 < (code0.length : Int))) == true)
    (br ((decide (i4 < 4000)))
      (br (okZ (.n .u8 0) code0 i4)
        (kN ((and64 (w64 ((w64 ((w64 (h3 * 131)) + (w64 (sAt code0 .u8 i4)))) + 7)) 1073741823), (w64 (i4 + 1))))
        none)
      (kA h3))
    (kA h3)
def f_s_l1New_r0 (code0 : List Sc) : (Int × Int) → Option (Ro (Int × Int) (Int) (Unit)) := fun s => f_s_l1New_k0 code0 s.1 s.2 (fun s => some (.again s)) (fun e => some (.one e))
def f_s_l1New_k {R : Type} (code0 : List Sc) (kR : List Sc × Int × Int → Option R) : Option R :=
  bl1 (loopL (f_s_l1New_r0 code0) ((w64 (10101 + (code0.length : Int))), 0)) 0 fun e1 =>
  kR (code0, 0, e1)
def f_s_l1New (code0 : List Sc) : Option (List Sc × Int × Int) := f_s_l1New_k code0 some

def f_s_l1Byte_io_k {R : Type} (h0 : List Sc) (h1 : Int) (h2 : Int) (kR : Int × List Sc × Int × Int → Option R) : Option R :=
  br ((decide (h1 < (h0.length : Int))))
    (br (okZ (.n .u8 0) h0 h1)
      (kR ((and64 (w64 ((and64 (xor64 (shr64 (w64 ((w64 (h2 * 6364136223846793005)) + 1442695040888963407)) 33) (shr64 (w64 ((w64 (h2 * 6364136223846793005)) + 1442695040888963407)) 45)) 255) + (w64 (sAt h0 .u8 h1)))) 255), h0, (w64 (h1 + 1)), (w64 ((w64 (h2 * 6364136223846793005)) + 1442695040888963407))))
      none)
    (kR ((and64 (xor64 (shr64 (w64 ((w64 (h2 * 6364136223846793005)) + 1442695040888963407)) 33) (shr64 (w64 ((w64 (h2 * 6364136223846793005)) + 1442695040888963407)) 45)) 255), h0, h1, (w64 ((w64 (h2 * 6364136223846793005)) + 1442695040888963407))))
def f_s_l1Byte_io (h0 : List Sc) (h1 : Int) (h2 : Int) : Option (Int × List Sc × Int × Int) := f_s_l1Byte_io_k h0 h1 h2 some

def f_s_l1Below_io_k {R : Type} (n1 : Int) (h0 : List Sc) (h1 : Int) (h2 : Int) (kR : Int × List Sc × Int × Int → Option R) : Option R :=
  br ((decide (n1 ≤ 0)))
    (kR (0, h0, h1, h2))
    (br ((decide (n1 ≤ 256)))
      (bo (f_s_l1Byte_io h0 h1 h2) (0, [], 0, 0) fun r1 =>
      br (n1 == 0)
        none
        (kR ((r1.1.tmod n1), r1.2.1, r1.2.2.1, r1.2.2.2)))
      (bo (f_s_l1Byte_io h0 h1 h2) (0, [], 0, 0) fun r2 =>
      bo (f_s_l1Byte_io r2.2.1 r2.2.2.1 r2.2.2.2) (0, [], 0, 0) fun r3 =>
      bo (f_s_l1Byte_io r3.2.1 r3.2.2.1 r3.2.2.2) (0, [], 0, 0) fun r4 =>
      bo (f_s_l1Byte_io r4.2.1 r4.2.2.1 r4.2.2.2) (0, [], 0, 0) fun r5 =>
      br (n1 == 0)
        none
        (kR (((w64 ((w64 ((w64 ((w64 (r2.1 * 16777216)) + (w64 (r3.1 * 65536)))) + (w64 (r4.1 * 256)))) + r5.1)).tmod n1), r5.2.1, r5.2.2.1, r5.2.2.2))))
def f_s_l1Below_io (n1 : Int) (h0 : List Sc) (h1 : Int) (h2 : Int) : Option (Int × List Sc × Int × Int) := f_s_l1Below_io_k n1 h0 h1 h2 some

def f_s_l2Draw_io_k0 {R : Type} (most1 : Int) (o6 : List Sc) (v0 : List Sc) (v1 : Int) (v2 : Int) (v3 : List Sc) (n7 : Int) (i8 : Int) (kN : List Sc × Int × Int × List Sc × Int × Int → Option R) (kA : List Sc × Int × Int × List Sc × Int → Option R) : Option R :=
  br ((decide (i8 < (o6.length : Int))))
    (br (okAt o6 i8)
      (kN (v0, v1, v2, v3, (w64 (n7 * (atI o6 i8))), (w64 (i8 + 1))))
      none)
    (kA (v0, v1, v2, v3, n7))
def f_s_l2Draw_io_r0 (most1 : Int) (o6 : List Sc) : (List Sc × Int × Int × List Sc × Int × Int) → Option (Ro (List Sc × Int × Int × List Sc × Int × Int) (List Sc × Int × Int × List Sc × Int) (Unit)) := fun s => f_s_l2Draw_io_k0 most1 o6 s.1 s.2.1 s.2.2.1 s.2.2.2.1 s.2.2.2.2.1 s.2.2.2.2.2 (fun s => some (.again s)) (fun e => some (.one e))
def f_s_l2Draw_io_k {R : Type} (most1 : Int) (h0 : List Sc) (h1 : Int) (h2 : Int) (kR : List Sc × List Sc × Int × Int → Option R) : Option R :=
  bo (f_s_l1Below_io (([[], [(Sc.n .i64 2)], [(Sc.n .i64 3)], [(Sc.n .i64 4)], [(Sc.n .i64 5)], [(Sc.n .i64 6)], [(Sc.n .i64 7)], [(Sc.n .i64 8)], [(Sc.n .i64 9)], [(Sc.n .i64 10)], [(Sc.n .i64 11)], [(Sc.n .i64 12)], [(Sc.n .i64 2), (Sc.n .i64 2)], [(Sc.n .i64 2), (Sc.n .i64 4)], [(Sc.n .i64 3), (Sc.n .i64 3)], [(Sc.n .i64 2), (Sc.n .i64 6)], [(Sc.n .i64 2), (Sc.n .i64 2), (Sc.n .i64 2)], [(Sc.n .i64 13)], [(Sc.n .i64 16)], [(Sc.n .i64 4), (Sc.n .i64 4)], [(Sc.n .i64 2), (Sc.n .i64 2), (Sc.n .i64 3)], [(Sc.n .i64 2), (Sc.n .i64 3)], [(Sc.n .i64 24)]] : List (List Sc)).length : Int) h0 h1 h2) (0, [], 0, 0) fun r1 =>
  br (inRange r1.1 ([[], [(Sc.n .i64 2)], [(Sc.n .i64 3)], [(Sc.n .i64 4)], [(Sc.n .i64 5)], [(Sc.n .i64 6)], [(Sc.n .i64 7)], [(Sc.n .i64 8)], [(Sc.n .i64 9)], [(Sc.n .i64 10)], [(Sc.n .i64 11)], [(Sc.n .i64 12)], [(Sc.n .i64 2), (Sc.n .i64 2)], [(Sc.n .i64 2), (Sc.n .i64 4)], [(Sc.n .i64 3), (Sc.n .i64 3)], [(Sc.n .i64 2), (Sc.n .i64 6)], [(Sc.n .i64 2), (Sc.n .i64 2), (Sc.n .i64 2)], [(Sc.n .i64 13)], [(Sc.n .i64 16)], [(Sc.n .i64 4), (Sc.n .i64 4)], [(Sc.n .i64 2), (Sc.n .i64 2), (Sc.n .i64 3)], [(Sc.n .i64 2), (Sc.n .i64 3)], [(Sc.n .i64 24)]] : List (List Sc)).length)
    (bl1 (loopL (f_s_l2Draw_io_r0 most1 (([[], [(Sc.n .i64 2)], [(Sc.n .i64 3)], [(Sc.n .i64 4)], [(Sc.n .i64 5)], [(Sc.n .i64 6)], [(Sc.n .i64 7)], [(Sc.n .i64 8)], [(Sc.n .i64 9)], [(Sc.n .i64 10)], [(Sc.n .i64 11)], [(Sc.n .i64 12)], [(Sc.n .i64 2), (Sc.n .i64 2)], [(Sc.n .i64 2), (Sc.n .i64 4)], [(Sc.n .i64 3), (Sc.n .i64 3)], [(Sc.n .i64 2), (Sc.n .i64 6)], [(Sc.n .i64 2), (Sc.n .i64 2), (Sc.n .i64 2)], [(Sc.n .i64 13)], [(Sc.n .i64 16)], [(Sc.n .i64 4), (Sc.n .i64 4)], [(Sc.n .i64 2), (Sc.n .i64 2), (Sc.n .i64 3)], [(Sc.n .i64 2), (Sc.n .i64 3)], [(Sc.n .i64 24)]] : List (List Sc)).getD r1.1.toNat [])) (r1.2.1, r1.2.2.1, r1.2.2.2, [], 1, 0)) ([], 0, 0, [], 0) fun e2 =>
    br ((decide (e2.2.2.2.2 > most1)))
      (kR ([(Sc.n .i64 5)], e2.1, e2.2.1, e2.2.2.1))
      (br (decide (([] : List Sc).length + (([[], [(Sc.n .i64 2)], [(Sc.n .i64 3)], [(Sc.n .i64 4)], [(Sc.n .i64 5)], [(Sc.n .i64 6)], [(Sc.n .i64 7)], [(Sc.n .i64 8)], [(Sc.n .i64 9)], [(Sc.n .i64 10)], [(Sc.n .i64 11)], [(Sc.n .i64 12)], [(Sc.n .i64 2), (Sc.n .i64 2)], [(Sc.n .i64 2), (Sc.n .i64 4)], [(Sc.n .i64 3), (Sc.n .i64 3)], [(Sc.n .i64 2), (Sc.n .i64 6)], [(Sc.n .i64 2), (Sc.n .i64 2), (Sc.n .i64 2)], [(Sc.n .i64 13)], [(Sc.n .i64 16)], [(Sc.n .i64 4), (Sc.n .i64 4)], [(Sc.n .i64 2), (Sc.n .i64 2), (Sc.n .i64 3)], [(Sc.n .i64 2), (Sc.n .i64 3)], [(Sc.n .i64 24)]] : List (List Sc)).getD r1.1.toNat []).length ≤ lim))
        (kR (([] ++ (([[], [(Sc.n .i64 2)], [(Sc.n .i64 3)], [(Sc.n .i64 4)], [(Sc.n .i64 5)], [(Sc.n .i64 6)], [(Sc.n .i64 7)], [(Sc.n .i64 8)], [(Sc.n .i64 9)], [(Sc.n .i64 10)], [(Sc.n .i64 11)], [(Sc.n .i64 12)], [(Sc.n .i64 2), (Sc.n .i64 2)], [(Sc.n .i64 2), (Sc.n .i64 4)], [(Sc.n .i64 3), (Sc.n .i64 3)], [(Sc.n .i64 2), (Sc.n .i64 6)], [(Sc.n .i64 2), (Sc.n .i64 2), (Sc.n .i64 2)], [(Sc.n .i64 13)], [(Sc.n .i64 16)], [(Sc.n .i64 4), (Sc.n .i64 4)], [(Sc.n .i64 2), (Sc.n .i64 2), (Sc.n .i64 3)], [(Sc.n .i64 2), (Sc.n .i64 3)], [(Sc.n .i64 24)]] : List (List Sc)).getD r1.1.toNat [])), e2.1, e2.2.1, e2.2.2.1))
        none))
    none
def f_s_l2Draw_io (most1 : Int) (h0 : List Sc) (h1 : Int) (h2 : Int) : Option (List Sc × List Sc × Int × Int) := f_s_l2Draw_io_k most1 h0 h1 h2 some

def f_s_l1PickInt_io_k {R : Type} (list1 : List Sc) (h0 : List Sc) (h1 : Int) (h2 : Int) (kR : Int × List Sc × Int × Int → Option R) : Option R :=
  bo (f_s_l1Below_io (list1.length : Int) h0 h1 h2) (0, [], 0, 0) fun r1 =>
  br (okAt list1 r1.1)
    (kR ((atI list1 r1.1), r1.2.1, r1.2.2.1, r1.2.2.2))
    none
def f_s_l1PickInt_io (list1 : List Sc) (h0 : List Sc) (h1 : Int) (h2 : Int) : Option (Int × List Sc × Int × Int) := f_s_l1PickInt_io_k list1 h0 h1 h2 some

def f_s_l2Any_io_k {R : Type} (h0 : List Sc) (h1 : Int) (h2 : Int) (kR : List Sc × List Sc × Int × Int → Option R) : Option R :=
  bo (f_s_l2Draw_io 24 h0 h1 h2) ([], [], 0, 0) fun r1 =>
  bo (f_s_l1Below_io 16 r1.2.1 r1.2.2.1 r1.2.2.2) (0, [], 0, 0) fun r2 =>
  br ((r2.1 == 0))
    (bo (f_s_l1PickInt_io [(Sc.n .i64 0), (Sc.n .i64 1), (Sc.n .i64 (-1)), (Sc.n .i64 25), (Sc.n .i64 9223372036854775807)] r2.2.1 r2.2.2.1 r2.2.2.2) (0, [], 0, 0) fun r3 =>
    kR ([(Sc.n .i64 r3.1)], r3.2.1, r3.2.2.1, r3.2.2.2))
    (br ((r2.1 == 1))
      (kR ([(Sc.n .i64 2), (Sc.n .i64 2), (Sc.n .i64 2), (Sc.n .i64 2)], r2.2.1, r2.2.2.1, r2.2.2.2))
      (br ((r2.1 == 2))
        (kR ([(Sc.n .i64 5), (Sc.n .i64 5)], r2.2.1, r2.2.2.1, r2.2.2.2))
        (kR (r1.1, r2.2.1, r2.2.2.1, r2.2.2.2))))
def f_s_l2Any_io (h0 : List Sc) (h1 : Int) (h2 : Int) : Option (List Sc × List Sc × Int × Int) := f_s_l2Any_io_k h0 h1 h2 some

def f_s_l1In_k {R : Type} (x0 : Int) (low1 : Int) (high2 : Int) (kR : Bool → Option R) : Option R :=
  br ((decide (x0 ≥ low1)) == true)
    (kR (decide (x0 ≤ high2)))
    (kR false)
def f_s_l1In (x0 : Int) (low1 : Int) (high2 : Int) : Option (Bool) := f_s_l1In_k x0 low1 high2 some

def f_s_IsGroup_k0 {R : Type} (g1 : List Sc) (n3 : Int) (i4 : Int) (kN : Int × Int → Option R) (kA : Int → Option R) (kB : Unit → Option R) : Option R :=
  br ((decide (i4 < (g1.length : Int))))
    (br (okAt g1 i4)
      (bo (f_s_l1In (atI g1 i4) 2 24) false fun r1 =>
      br ((!r1) == false)
        (br ((decide (i4 > 2)))
          (kB ())
          (br (okAt g1 i4)
            (kN ((w64 (n3 * (atI g1 i4))), (w64 (i4 + 1))))
            none))
        (kB ()))
      none)
    (kA n3)
def f_s_IsGroup_r0 (g1 : List Sc) : (Int × Int) → Option (Ro (Int × Int) (Int) (Unit)) := fun s => f_s_IsGroup_k0 g1 s.1 s.2 (fun s => some (.again s)) (fun e => some (.one e)) (fun e => some (.two e))
def f_s_IsGroup_k {R : Type} (g0 : List Sc) (kR : Bool → Option R) : Option R :=
  bl (loopL (f_s_IsGroup_r0 g0) (1, 0)) 0 ()
    (fun e2 =>
      kR (decide (e2 ≤ 24)))
    (fun e2 =>
      kR false)
def f_s_IsGroup (g0 : List Sc) : Option (Bool) := f_s_IsGroup_k g0 some

def f_s_l2Order_k0 {R : Type} (g1 : List Sc) (n3 : Int) (i4 : Int) (kN : Int × Int → Option R) (kA : Int → Option R) : Option R :=
  br ((decide (i4 < (g1.length : Int))))
    (br (okAt g1 i4)
      (kN ((w64 (n3 * (atI g1 i4))), (w64 (i4 + 1))))
      none)
    (kA n3)
def f_s_l2Order_r0 (g1 : List Sc) : (Int × Int) → Option (Ro (Int × Int) (Int) (Unit)) := fun s => f_s_l2Order_k0 g1 s.1 s.2 (fun s => some (.again s)) (fun e => some (.one e))
def f_s_l2Order_k {R : Type} (g0 : List Sc) (kR : Int → Option R) : Option R :=
  bl1 (loopL (f_s_l2Order_r0 g0) (1, 0)) 0 fun e1 =>
  kR e1
def f_s_l2Order (g0 : List Sc) : Option (Int) := f_s_l2Order_k g0 some

def f_s_OrderOf_k {R : Type} (g0 : List Sc) (kR : Int → Option R) : Option R :=
  bo (f_s_IsGroup g0) false fun r1 =>
  br ((!r1))
    (kR 0)
    (bo (f_s_l2Order g0) 0 fun r2 =>
    kR r2)
def f_s_OrderOf (g0 : List Sc) : Option (Int) := f_s_OrderOf_k g0 some

def f_s_l1Once_io_k {R : Type} (n1 : Int) (h0 : List Sc) (h1 : Int) (h2 : Int) (kR : Bool × List Sc × Int × Int → Option R) : Option R :=
  bo (f_s_l1Below_io n1 h0 h1 h2) (0, [], 0, 0) fun r1 =>
  kR ((r1.1 == 0), r1.2.1, r1.2.2.1, r1.2.2.2)
def f_s_l1Once_io (n1 : Int) (h0 : List Sc) (h1 : Int) (h2 : Int) : Option (Bool × List Sc × Int × Int) := f_s_l1Once_io_k n1 h0 h1 h2 some

def f_s_l16Sort_k2 {R : Type} (l0 : List Sc) (out3 : List Sc) (i4 : Int) (k5 : Int) (kN : Int → Option R) (kA : Int → Option R) : Option R :=
  br ((decide (k5 > 0)) == true)
    (br (okAt out3 (w64 (k5 - 1)))
      (br (okAt l0 i4)
        (br ((decide ((atI out3 (w64 (k5 - 1))) > (atI l0 i4))))
          (kN (w64 (k5 - 1)))
          (kA k5))
        none)
      none)
    (kA k5)
def f_s_l16Sort_r2 (l0 : List Sc) (out3 : List Sc) (i4 : Int) : Int → Option (Ro (Int) (Int) (Unit)) := fun s => f_s_l16Sort_k2 l0 out3 i4 s (fun s => some (.again s)) (fun e => some (.one e))
def f_s_l16Sort_k0 {R : Type} (l0 : List Sc) (out3 : List Sc) (i4 : Int) (kN : List Sc × Int → Option R) (kA : List Sc × Int → Option R) : Option R :=
  br ((decide (i4 < (l0.length : Int))))
    (bl1 (loopL (f_s_l16Sort_r2 l0 out3 i4) (out3.length : Int)) 0 fun e1 =>
    br (decide (0 ≤ (0 : Int)) && (decide ((0 : Int) ≤ e1) && decide (e1 ≤ (out3.length : Int))))
      (br (decide (([] : List Sc).length + (sliceA out3 0 e1).length ≤ lim))
        (br (okAt l0 i4)
          (br (decide (([] ++ (sliceA out3 0 e1)).length + [(Sc.n .i64 (atI l0 i4))].length ≤ lim))
            (br (decide (0 ≤ e1) && (decide (e1 ≤ (out3.length : Int)) && decide ((out3.length : Int) ≤ (out3.length : Int))))
              (br (decide ((([] ++ (sliceA out3 0 e1)) ++ [(Sc.n .i64 (atI l0 i4))]).length + (sliceA out3 e1 (out3.length : Int)).length ≤ lim))
                (kN (((([] ++ (sliceA out3 0 e1)) ++ [(Sc.n .i64 (atI l0 i4))]) ++ (sliceA out3 e1 (out3.length : Int))), (w64 (i4 + 1))))
                none)
              none)
            none)
          none)
        none)
      none)
    (kA (out3, i4))
def f_s_l16Sort_r0 (l0 : List Sc) : (List Sc × Int) → Option (Ro (List Sc × Int) (List Sc × Int) (Unit)) := fun s => f_s_l16Sort_k0 l0 s.1 s.2 (fun s => some (.again s)) (fun e => some (.one e))
def f_s_l16Sort_k {R : Type} (l0 : List Sc) (kR : List Sc → Option R) : Option R :=
  bl1 (loopL (f_s_l16Sort_r0 l0) ([], 0)) ([], 0) fun e2 =>
  kR e2.1
def f_s_l16Sort (l0 : List Sc) : Option (List Sc) := f_s_l16Sort_k l0 some

def f_s_l16Draw_io_k0 {R : Type} (v0 : List Sc) (v1 : Int) (v2 : Int) (v3 : List Sc) (v4 : List Sc) (l7 : List Sc) (x8 : Int) (n9 : Int) (kN : List Sc × Int × Int × List Sc × List Sc × List Sc × Int × Int → Option R) (kA : List Sc × Int × Int × List Sc × List Sc × List Sc → Option R) : Option R :=
  br ((decide (n9 > 0)))
    (bo (f_s_l1Once_io 2 v0 v1 v2) (false, [], 0, 0) fun r5 =>
    br (r5.1)
      (bo (f_s_OrderOf v4) 0 fun r6 =>
      bo (f_s_l1Below_io (if r6 > 1 then r6 else 1) r5.2.1 r5.2.2.1 r5.2.2.2) (0, [], 0, 0) fun r7 =>
      br (decide (l7.length + [(Sc.n .i64 r7.1)].length ≤ lim))
        (kN (r7.2.1, r7.2.2.1, r7.2.2.2, v3, v4, (l7 ++ [(Sc.n .i64 r7.1)]), r7.1, (w64 (n9 - 1))))
        none)
      (br (decide (l7.length + [(Sc.n .i64 x8)].length ≤ lim))
        (kN (r5.2.1, r5.2.2.1, r5.2.2.2, v3, v4, (l7 ++ [(Sc.n .i64 x8)]), x8, (w64 (n9 - 1))))
        none))
    (kA (v0, v1, v2, v3, v4, l7))
def f_s_l16Draw_io_r0 : (List Sc × Int × Int × List Sc × List Sc × List Sc × Int × Int) → Option (Ro (List Sc × Int × Int × List Sc × List Sc × List Sc × Int × Int) (List Sc × Int × Int × List Sc × List Sc × List Sc) (Unit)) := fun s => f_s_l16Draw_io_k0 s.1 s.2.1 s.2.2.1 s.2.2.2.1 s.2.2.2.2.1 s.2.2.2.2.2.1 s.2.2.2.2.2.2.1 s.2.2.2.2.2.2.2 (fun s => some (.again s)) (fun e => some (.one e))
def f_s_l16Draw_io_k {R : Type} (most1 : Int) (h0 : List Sc) (h1 : Int) (h2 : Int) (kR : List Sc × List Sc × List Sc × Int × Int → Option R) : Option R :=
  bo (f_s_l2Any_io h0 h1 h2) ([], [], 0, 0) fun r1 =>
  bo (f_s_OrderOf r1.1) 0 fun r2 =>
  bo (f_s_l1Below_io (if r2 > 1 then r2 else 1) r1.2.1 r1.2.2.1 r1.2.2.2) (0, [], 0, 0) fun r3 =>
  bo (f_s_l1Below_io (w64 (most1 + 1)) r3.2.1 r3.2.2.1 r3.2.2.2) (0, [], 0, 0) fun r4 =>
  bl1 (loopL (f_s_l16Draw_io_r0) (r4.2.1, r4.2.2.1, r4.2.2.2, [], r1.1, [], r3.1, r4.1)) ([], 0, 0, [], [], []) fun e8 =>
  bo (f_s_l1Once_io 12 e8.1 e8.2.1 e8.2.2.1) (false, [], 0, 0) fun r9 =>
  br (r9.1)
    (bo (f_s_l1PickInt_io [(Sc.n .i64 (-1)), (Sc.n .i64 0), (Sc.n .i64 24), (Sc.n .i64 9223372036854775807)] r9.2.1 r9.2.2.1 r9.2.2.2) (0, [], 0, 0) fun r10 =>
    br (decide (e8.2.2.2.2.2.length + [(Sc.n .i64 r10.1)].length ≤ lim))
      (kR (e8.2.2.2.2.1, (e8.2.2.2.2.2 ++ [(Sc.n .i64 r10.1)]), r10.2.1, r10.2.2.1, r10.2.2.2))
      none)
    (bo (f_s_l16Sort e8.2.2.2.2.2) [] fun r11 =>
    kR (e8.2.2.2.2.1, r11, r9.2.1, r9.2.2.1, r9.2.2.2))
def f_s_l16Draw_io (most1 : Int) (h0 : List Sc) (h1 : Int) (h2 : Int) : Option (List Sc × List Sc × List Sc × Int × Int) := f_s_l16Draw_io_k most1 h0 h1 h2 some

def f_s_l16Both_k {R : Type} (code0 : List Sc) (kR : List Sc × List Sc → Option R) : Option R :=
  bo (f_s_l1New code0) ([], 0, 0) fun r1 =>
  bo (f_s_l16Draw_io 7 r1.1 r1.2.1 r1.2.2) ([], [], [], 0, 0) fun r2 =>
  kR (r2.1, r2.2.1)
def f_s_l16Both (code0 : List Sc) : Option (List Sc × List Sc) := f_s_l16Both_k code0 some

def f_s_DrawShortestZero_k {R : Type} (code0 : List Sc) (kR : List Sc × List Sc → Option R) : Option R :=
  bo (f_s_l16Both code0) ([], []) fun r1 =>
  kR (r1.1, r1.2)
def f_s_DrawShortestZero (code0 : List Sc) : Option (List Sc × List Sc) := f_s_DrawShortestZero_k code0 some

def f_i_within_k {R : Type} (x0 : Int) (lo1 : Int) (hi2 : Int) (kR : Bool → Option R) : Option R :=
  br ((decide (x0 ≥ lo1)) == true)
    (kR (decide (x0 ≤ hi2)))
    (kR false)
def f_i_within (x0 : Int) (lo1 : Int) (hi2 : Int) : Option (Bool) := f_i_within_k x0 lo1 hi2 some

def f_i_IsGroup_k0 {R : Type} (t11 : List Sc) (t12 : Int) (n3 : Int) (t13 : Int) (kN : Int × Int → Option R) (kA : Int → Option R) (kB : Unit → Option R) : Option R :=
  br ((decide (t13 < t12)))
    (br (okAt t11 t13)
      (bo (f_i_within (atI t11 t13) 2 24) false fun r1 =>
      br ((!r1))
        (kB ())
        (kN ((w64 (n3 * (atI t11 t13))), (w64 (t13 + 1)))))
      none)
    (kA n3)
def f_i_IsGroup_r0 (t11 : List Sc) (t12 : Int) : (Int × Int) → Option (Ro (Int × Int) (Int) (Unit)) := fun s => f_i_IsGroup_k0 t11 t12 s.1 s.2 (fun s => some (.again s)) (fun e => some (.one e)) (fun e => some (.two e))
def f_i_IsGroup_k {R : Type} (g0 : List Sc) (kR : Bool → Option R) : Option R :=
  br ((decide ((g0.length : Int) > 3)))
    (kR false)
    (bl (loopL (f_i_IsGroup_r0 g0 (g0.length : Int)) (1, 0)) 0 ()
      (fun e2 =>
        kR (decide (e2 ≤ 24)))
      (fun e2 =>
        kR false))
def f_i_IsGroup (g0 : List Sc) : Option (Bool) := f_i_IsGroup_k g0 some

def f_i_OrderOf_k0 {R : Type} (t10 : List Sc) (t11 : Int) (n3 : Int) (t12 : Int) (kN : Int × Int → Option R) (kA : Int → Option R) : Option R :=
  br ((decide (t12 < t11)))
    (br (okAt t10 t12)
      (kN ((w64 (n3 * (atI t10 t12))), (w64 (t12 + 1))))
      none)
    (kA n3)
def f_i_OrderOf_r0 (t10 : List Sc) (t11 : Int) : (Int × Int) → Option (Ro (Int × Int) (Int) (Unit)) := fun s => f_i_OrderOf_k0 t10 t11 s.1 s.2 (fun s => some (.again s)) (fun e => some (.one e))
def f_i_OrderOf_k {R : Type} (g0 : List Sc) (kR : Int → Option R) : Option R :=
  bo (f_i_IsGroup g0) false fun r1 =>
  br ((!r1))
    (kR 0)
    (bl1 (loopL (f_i_OrderOf_r0 g0 (g0.length : Int)) (1, 0)) 0 fun e2 =>
    kR e2)
def f_i_OrderOf (g0 : List Sc) : Option (Int) := f_i_OrderOf_k g0 some

def f_i_Group_has_k {R : Type} (g0 : List Sc) (x1 : Int) (kR : Bool → Option R) : Option R :=
  bo (f_i_OrderOf g0) 0 fun r1 =>
  bo (f_i_within x1 0 (w64 (r1 - 1))) false fun r2 =>
  kR r2
def f_i_Group_has (g0 : List Sc) (x1 : Int) : Option (Bool) := f_i_Group_has_k g0 x1 some

def f_cmp_isNaN_k {R : Type} (x0 : Int) (kR : Bool → Option R) : Option R :=
  kR (x0 != x0)
def f_cmp_isNaN (x0 : Int) : Option (Bool) := f_cmp_isNaN_k x0 some

def f_cmp_Less_k {R : Type} (x0 : Int) (y1 : Int) (kR : Bool → Option R) : Option R :=
  bo (f_cmp_isNaN x0) false fun r1 =>
  br (r1 == true)
    (bo (f_cmp_isNaN y1) false fun r2 =>
    br ((!r2) == false)
      (kR (decide (x0 < y1)))
      (kR true))
    (kR (decide (x0 < y1)))
def f_cmp_Less (x0 : Int) (y1 : Int) : Option (Bool) := f_cmp_Less_k x0 y1 some

def f_slices_IsSorted_k0 {R : Type} (x0 : List Sc) (i3 : Int) (kN : Int → Option R) (kA : Unit → Option R) (kB : Unit → Option R) : Option R :=
  br ((decide (i3 > 0)))
    (br (okAt x0 i3)
      (br (okAt x0 (w64 (i3 - 1)))
        (bo (f_cmp_Less (atI x0 i3) (atI x0 (w64 (i3 - 1)))) false fun r1 =>
        br (r1)
          (kB ())
          (kN (w64 (i3 - 1))))
        none)
      none)
    (kA ())
def f_slices_IsSorted_r0 (x0 : List Sc) : Int → Option (Ro (Int) (Unit) (Unit)) := fun s => f_slices_IsSorted_k0 x0 s (fun s => some (.again s)) (fun e => some (.one e)) (fun e => some (.two e))
def f_slices_IsSorted_k {R : Type} (x0 : List Sc) (kR : Bool → Option R) : Option R :=
  bl (loopL (f_slices_IsSorted_r0 x0) (w64 ((x0.length : Int) - 1))) () ()
    (fun e2 =>
      kR true)
    (fun e2 =>
      kR false)
def f_slices_IsSorted (x0 : List Sc) : Option (Bool) := f_slices_IsSorted_k x0 some

def f_i_IsSequence_k0 {R : Type} (l1 : List Sc) (g2 : List Sc) (t7 : List Sc) (t8 : Int) (t9 : Int) (kN : Int → Option R) (kA : Unit → Option R) (kB : Unit → Option R) : Option R :=
  br ((decide (t9 < t8)))
    (br (okAt t7 t9)
      (bo (f_i_Group_has g2 (atI t7 t9)) false fun r1 =>
      br ((!r1))
        (kB ())
        (kN (w64 (t9 + 1))))
      none)
    (kA ())
def f_i_IsSequence_r0 (l1 : List Sc) (g2 : List Sc) (t7 : List Sc) (t8 : Int) : Int → Option (Ro (Int) (Unit) (Unit)) := fun s => f_i_IsSequence_k0 l1 g2 t7 t8 s (fun s => some (.again s)) (fun e => some (.one e)) (fun e => some (.two e))
def f_i_IsSequence_k {R : Type} (g0 : List Sc) (l1 : List Sc) (kR : Bool → Option R) : Option R :=
  bl (loopL (f_i_IsSequence_r0 l1 g0 l1 (l1.length : Int)) 0) () ()
    (fun e2 =>
      bo (f_i_IsGroup g0) false fun r3 =>
      br (r3 == true)
        (br ((decide ((l1.length : Int) ≤ 12)) == true)
          (bo (f_slices_IsSorted l1) false fun r4 =>
          kR r4)
          (kR false))
        (kR false))
    (fun e2 =>
      kR false)
def f_i_IsSequence (g0 : List Sc) (l1 : List Sc) : Option (Bool) := f_i_IsSequence_k g0 l1 some

def f_i_bits_k0 {R : Type} (a0 : Int) (n3 : Int) (kN : Int × Int → Option R) (kA : Int → Option R) : Option R :=
  br ((a0 != 0))
    (kN ((and64 a0 (w64 (a0 - 1))), (w64 (n3 + 1))))
    (kA n3)
def f_i_bits_r0 : (Int × Int) → Option (Ro (Int × Int) (Int) (Unit)) := fun s => f_i_bits_k0 s.1 s.2 (fun s => some (.again s)) (fun e => some (.one e))
def f_i_bits_k {R : Type} (a0 : Int) (kR : Int → Option R) : Option R :=
  bl1 (loopL (f_i_bits_r0) (a0, 0)) 0 fun e1 =>
  kR e1
def f_i_bits (a0 : Int) : Option (Int) := f_i_bits_k a0 some

def f_i_in_k {R : Type} (a0 : Int) (x1 : Int) (kR : Bool → Option R) : Option R :=
  br (decide (x1 < 0))
    none
    (kR ((and64 (shr64 a0 x1) 1) == 1))
def f_i_in (a0 : Int) (x1 : Int) : Option (Bool) := f_i_in_k a0 x1 some

def f_i_part_k0 {R : Type} (mask1 : Int) (t9 : List Sc) (t10 : Int) (out5 : List Sc) (t11 : Int) (kN : List Sc × Int → Option R) (kA : List Sc → Option R) : Option R :=
  br ((decide (t11 < t10)))
    (br (okAt t9 t11)
      (bo (f_i_in mask1 t11) false fun r1 =>
      br (r1)
        (br (decide (out5.length + [(Sc.n .i64 (atI t9 t11))].length ≤ lim))
          (kN ((out5 ++ [(Sc.n .i64 (atI t9 t11))]), (w64 (t11 + 1))))
          none)
        (kN (out5, (w64 (t11 + 1)))))
      none)
    (kA out5)
def f_i_part_r0 (mask1 : Int) (t9 : List Sc) (t10 : Int) : (List Sc × Int) → Option (Ro (List Sc × Int) (List Sc) (Unit)) := fun s => f_i_part_k0 mask1 t9 t10 s.1 s.2 (fun s => some (.again s)) (fun e => some (.one e))
def f_i_part_k {R : Type} (l0 : List Sc) (mask1 : Int) (kR : List Sc → Option R) : Option R :=
  bl1 (loopL (f_i_part_r0 mask1 l0 (l0.length : Int)) ([], 0)) [] fun e2 =>
  kR e2
def f_i_part (l0 : List Sc) (mask1 : Int) : Option (List Sc) := f_i_part_k l0 mask1 some

def f_i_Group_add_k0 {R : Type} (t12 : List Sc) (t13 : Int) (x1 : Int) (y2 : Int) (sum7 : Int) (unit8 : Int) (t14 : Int) (kN : Int × Int × Int × Int × Int → Option R) (kA : Int → Option R) : Option R :=
  br ((decide (t14 < t13)))
    (br (okAt t12 t14)
      (br ((atI t12 t14) == 0)
        none
        (br ((atI t12 t14) == 0)
          none
          (br ((atI t12 t14) == 0)
            none
            (br ((atI t12 t14) == 0)
              none
              (br ((atI t12 t14) == 0)
                none
                (kN ((w64 (x1.tdiv (atI t12 t14))), (w64 (y2.tdiv (atI t12 t14))), (w64 (sum7 + (w64 (((w64 ((x1.tmod (atI t12 t14)) + (y2.tmod (atI t12 t14)))).tmod (atI t12 t14)) * unit8)))), (w64 (unit8 * (atI t12 t14))), (w64 (t14 + 1)))))))))
      none)
    (kA sum7)
def f_i_Group_add_r0 (t12 : List Sc) (t13 : Int) : (Int × Int × Int × Int × Int) → Option (Ro (Int × Int × Int × Int × Int) (Int) (Unit)) := fun s => f_i_Group_add_k0 t12 t13 s.1 s.2.1 s.2.2.1 s.2.2.2.1 s.2.2.2.2 (fun s => some (.again s)) (fun e => some (.one e))
def f_i_Group_add_k {R : Type} (g0 : List Sc) (x1 : Int) (y2 : Int) (kR : Int → Option R) : Option R :=
  bl1 (loopL (f_i_Group_add_r0 g0 (g0.length : Int)) (x1, y2, 0, 1, 0)) 0 fun e1 =>
  kR e1
def f_i_Group_add (g0 : List Sc) (x1 : Int) (y2 : Int) : Option (Int) := f_i_Group_add_k g0 x1 y2 some

def f_i_Group_total_k0 {R : Type} (g2 : List Sc) (t8 : List Sc) (t9 : Int) (s5 : Int) (t10 : Int) (kN : Int × Int → Option R) (kA : Int → Option R) : Option R :=
  br ((decide (t10 < t9)))
    (br (okAt t8 t10)
      (bo (f_i_Group_add g2 s5 (atI t8 t10)) 0 fun r1 =>
      kN (r1, (w64 (t10 + 1))))
      none)
    (kA s5)
def f_i_Group_total_r0 (g2 : List Sc) (t8 : List Sc) (t9 : Int) : (Int × Int) → Option (Ro (Int × Int) (Int) (Unit)) := fun s => f_i_Group_total_k0 g2 t8 t9 s.1 s.2 (fun s => some (.again s)) (fun e => some (.one e))
def f_i_Group_total_k {R : Type} (g0 : List Sc) (l1 : List Sc) (kR : Int → Option R) : Option R :=
  bl1 (loopL (f_i_Group_total_r0 g0 l1 (l1.length : Int)) (0, 0)) 0 fun e2 =>
  kR e2
def f_i_Group_total (g0 : List Sc) (l1 : List Sc) : Option (Int) := f_i_Group_total_k g0 l1 some

def f_i_ZeroOfLength_k0 {R : Type} (l1 : List Sc) (k2 : Int) (g3 : List Sc) (t23 : Int) (t24 : Int) (kN : Int → Option R) (kA : Unit → Option R) (kB : List Sc → Option R) : Option R :=
  br ((decide (t24 < t23)))
    (bo (f_i_bits t24) 0 fun r3 =>
    br ((r3 == k2) == true)
      (bo (f_i_part l1 t24) [] fun r4 =>
      bo (f_i_Group_total g3 r4) 0 fun r5 =>
      br ((r5 == 0))
        (bo (f_i_part l1 t24) [] fun r6 =>
        kB r6)
        (kN (w64 (t24 + 1))))
      (kN (w64 (t24 + 1))))
    (kA ())
def f_i_ZeroOfLength_r0 (l1 : List Sc) (k2 : Int) (g3 : List Sc) (t23 : Int) : Int → Option (Ro (Int) (Unit) (List Sc)) := fun s => f_i_ZeroOfLength_k0 l1 k2 g3 t23 s (fun s => some (.again s)) (fun e => some (.one e)) (fun e => some (.two e))
def f_i_ZeroOfLength_k {R : Type} (g0 : List Sc) (l1 : List Sc) (k2 : Int) (kR : List Sc × Bool → Option R) : Option R :=
  bo (f_i_IsSequence g0 l1) false fun r1 =>
  br ((!r1) == false)
    (bo (f_i_within k2 1 (l1.length : Int)) false fun r2 =>
    br ((!r2))
      (kR ([], false))
      (br (decide ((l1.length : Int) < 0))
        none
        (bl (loopL (f_i_ZeroOfLength_r0 l1 k2 g0 (shl64 1 (l1.length : Int))) 0) () []
          (fun e7 =>
            kR ([], false))
          (fun e7 =>
            kR (e7, true)))))
    (kR ([], false))
def f_i_ZeroOfLength (g0 : List Sc) (l1 : List Sc) (k2 : Int) : Option (List Sc × Bool) := f_i_ZeroOfLength_k g0 l1 k2 some

def f_i_ShortestZero_k0 {R : Type} (l1 : List Sc) (g2 : List Sc) (k6 : Int) (kN : Int → Option R) (kA : Unit → Option R) (kB : List Sc → Option R) : Option R :=
  br ((decide (k6 ≤ (l1.length : Int))) == true)
    (bo (f_i_IsSequence g2 l1) false fun r1 =>
    br (r1)
      (bo (f_i_ZeroOfLength g2 l1 k6) ([], false) fun r2 =>
      br (r2.2)
        (kB r2.1)
        (kN (w64 (k6 + 1))))
      (kA ()))
    (kA ())
def f_i_ShortestZero_r0 (l1 : List Sc) (g2 : List Sc) : Int → Option (Ro (Int) (Unit) (List Sc)) := fun s => f_i_ShortestZero_k0 l1 g2 s (fun s => some (.again s)) (fun e => some (.one e)) (fun e => some (.two e))
def f_i_ShortestZero_k {R : Type} (g0 : List Sc) (l1 : List Sc) (kR : List Sc × Bool → Option R) : Option R :=
  bl (loopL (f_i_ShortestZero_r0 l1 g0) 1) () []
    (fun e3 =>
      kR ([], false))
    (fun e3 =>
      kR (e3, true))
def f_i_ShortestZero (g0 : List Sc) (l1 : List Sc) : Option (List Sc × Bool) := f_i_ShortestZero_k g0 l1 some

def f_s_l2Is_k {R : Type} (g0 : List Sc) (x1 : Int) (kR : Bool → Option R) : Option R :=
  br ((decide (x1 ≥ 0)) == true)
    (bo (f_s_OrderOf g0) 0 fun r1 =>
    kR (decide (x1 < r1)))
    (kR false)
def f_s_l2Is (g0 : List Sc) (x1 : Int) : Option (Bool) := f_s_l2Is_k g0 x1 some

def f_s_IsSequence_k0 {R : Type} (l1 : List Sc) (g2 : List Sc) (i5 : Int) (kN : Int → Option R) (kA : Unit → Option R) (kB : Unit → Option R) : Option R :=
  br ((decide (i5 < (l1.length : Int))))
    (br (okAt l1 i5)
      (bo (f_s_l2Is g2 (atI l1 i5)) false fun r1 =>
      br ((!r1) == false)
        (br ((decide (i5 > 0)) == true)
          (br (okAt l1 i5)
            (br (okAt l1 (w64 (i5 - 1)))
              (br ((decide ((atI l1 i5) < (atI l1 (w64 (i5 - 1))))))
                (kB ())
                (kN (w64 (i5 + 1))))
              none)
            none)
          (kN (w64 (i5 + 1))))
        (kB ()))
      none)
    (kA ())
def f_s_IsSequence_r0 (l1 : List Sc) (g2 : List Sc) : Int → Option (Ro (Int) (Unit) (Unit)) := fun s => f_s_IsSequence_k0 l1 g2 s (fun s => some (.again s)) (fun e => some (.one e)) (fun e => some (.two e))
def f_s_IsSequence_k {R : Type} (g0 : List Sc) (l1 : List Sc) (kR : Bool → Option R) : Option R :=
  bl (loopL (f_s_IsSequence_r0 l1 g0) 0) () ()
    (fun e2 =>
      bo (f_s_IsGroup g0) false fun r3 =>
      br (r3 == true)
        (kR (decide ((l1.length : Int) ≤ 12)))
        (kR false))
    (fun e2 =>
      kR false)
def f_s_IsSequence (g0 : List Sc) (l1 : List Sc) : Option (Bool) := f_s_IsSequence_k g0 l1 some

def f_s_l16Part_k0 {R : Type} (l0 : List Sc) (code1 : Int) (out5 : List Sc) (i6 : Int) (kN : List Sc × Int → Option R) (kA : List Sc → Option R) : Option R :=
  br ((decide (i6 < (l0.length : Int))))
    (br (decide (i6 < 0))
      none
      (br (((and64 (shr64 code1 i6) 1) == 1))
        (br (okAt l0 i6)
          (br (decide (out5.length + [(Sc.n .i64 (atI l0 i6))].length ≤ lim))
            (kN ((out5 ++ [(Sc.n .i64 (atI l0 i6))]), (w64 (i6 + 1))))
            none)
          none)
        (kN (out5, (w64 (i6 + 1))))))
    (kA out5)
def f_s_l16Part_r0 (l0 : List Sc) (code1 : Int) : (List Sc × Int) → Option (Ro (List Sc × Int) (List Sc) (Unit)) := fun s => f_s_l16Part_k0 l0 code1 s.1 s.2 (fun s => some (.again s)) (fun e => some (.one e))
def f_s_l16Part_k {R : Type} (l0 : List Sc) (code1 : Int) (kR : List Sc → Option R) : Option R :=
  bl1 (loopL (f_s_l16Part_r0 l0 code1) ([], 0)) [] fun e1 =>
  kR e1
def f_s_l16Part (l0 : List Sc) (code1 : Int) : Option (List Sc) := f_s_l16Part_k l0 code1 some

def f_s_l2Add_k0 {R : Type} (g3 : List Sc) (x1 : Int) (y2 : Int) (z7 : Int) (step8 : Int) (i9 : Int) (kN : Int × Int × Int × Int × Int → Option R) (kA : Int → Option R) : Option R :=
  br ((decide (i9 < (g3.length : Int))))
    (br (okAt g3 i9)
      (br ((atI g3 i9) == 0)
        none
        (br ((atI g3 i9) == 0)
          none
          (br ((atI g3 i9) == 0)
            none
            (br ((atI g3 i9) == 0)
              none
              (br ((atI g3 i9) == 0)
                none
                (kN ((w64 (x1.tdiv (atI g3 i9))), (w64 (y2.tdiv (atI g3 i9))), (w64 (z7 + (w64 (((w64 ((x1.tmod (atI g3 i9)) + (y2.tmod (atI g3 i9)))).tmod (atI g3 i9)) * step8)))), (w64 (step8 * (atI g3 i9))), (w64 (i9 + 1)))))))))
      none)
    (kA z7)
def f_s_l2Add_r0 (g3 : List Sc) : (Int × Int × Int × Int × Int) → Option (Ro (Int × Int × Int × Int × Int) (Int) (Unit)) := fun s => f_s_l2Add_k0 g3 s.1 s.2.1 s.2.2.1 s.2.2.2.1 s.2.2.2.2 (fun s => some (.again s)) (fun e => some (.one e))
def f_s_l2Add_k {R : Type} (g0 : List Sc) (x1 : Int) (y2 : Int) (kR : Int → Option R) : Option R :=
  bl1 (loopL (f_s_l2Add_r0 g0) (x1, y2, 0, 1, 0)) 0 fun e1 =>
  kR e1
def f_s_l2Add (g0 : List Sc) (x1 : Int) (y2 : Int) : Option (Int) := f_s_l2Add_k g0 x1 y2 some

def f_s_l16Sum_k0 {R : Type} (l1 : List Sc) (g2 : List Sc) (z5 : Int) (i6 : Int) (kN : Int × Int → Option R) (kA : Int → Option R) : Option R :=
  br ((decide (i6 < (l1.length : Int))))
    (br (okAt l1 i6)
      (bo (f_s_l2Add g2 z5 (atI l1 i6)) 0 fun r1 =>
      kN (r1, (w64 (i6 + 1))))
      none)
    (kA z5)
def f_s_l16Sum_r0 (l1 : List Sc) (g2 : List Sc) : (Int × Int) → Option (Ro (Int × Int) (Int) (Unit)) := fun s => f_s_l16Sum_k0 l1 g2 s.1 s.2 (fun s => some (.again s)) (fun e => some (.one e))
def f_s_l16Sum_k {R : Type} (g0 : List Sc) (l1 : List Sc) (kR : Int → Option R) : Option R :=
  bl1 (loopL (f_s_l16Sum_r0 l1 g0) (0, 0)) 0 fun e2 =>
  kR e2
def f_s_l16Sum (g0 : List Sc) (l1 : List Sc) : Option (Int) := f_s_l16Sum_k g0 l1 some

def f_s_ShortestZero_k0 {R : Type} (l1 : List Sc) (g2 : List Sc) (best6 : List Sc) (code7 : Int) (kN : List Sc × Int → Option R) (kA : List Sc → Option R) : Option R :=
  br (decide ((l1.length : Int) < 0))
    none
    (br ((decide (code7 < (shl64 1 (l1.length : Int)))) == true)
      (bo (f_s_IsSequence g2 l1) false fun r1 =>
      br (r1)
        (bo (f_s_l16Part l1 code7) [] fun r2 =>
        bo (f_s_l16Sum g2 r2) 0 fun r3 =>
        br ((r3 == 0) == true)
          (br (((best6.length : Int) == 0) == false)
            (br ((decide ((r2.length : Int) < (best6.length : Int))))
              (kN (r2, (w64 (code7 + 1))))
              (kN (best6, (w64 (code7 + 1)))))
            (kN (r2, (w64 (code7 + 1)))))
          (kN (best6, (w64 (code7 + 1)))))
        (kA best6))
      (kA best6))
def f_s_ShortestZero_r0 (l1 : List Sc) (g2 : List Sc) : (List Sc × Int) → Option (Ro (List Sc × Int) (List Sc) (Unit)) := fun s => f_s_ShortestZero_k0 l1 g2 s.1 s.2 (fun s => some (.again s)) (fun e => some (.one e))
def f_s_ShortestZero_k {R : Type} (g0 : List Sc) (l1 : List Sc) (kR : List Sc × Bool → Option R) : Option R :=
  bl1 (loopL (f_s_ShortestZero_r0 l1 g0) ([], 1)) [] fun e4 =>
  kR (e4, (decide ((e4.length : Int) > 0)))
def f_s_ShortestZero (g0 : List Sc) (l1 : List Sc) : Option (List Sc × Bool) := f_s_ShortestZero_k g0 l1 some

def f_l_sameInts_k0 {R : Type} (a0 : List Sc) (b1 : List Sc) (i5 : Int) (kN : Int → Option R) (kA : Unit → Option R) (kB : Unit → Option R) : Option R :=
  br ((decide (i5 < (a0.length : Int))))
    (br (okAt a0 i5)
      (br (okAt b1 i5)
        (br (((atI a0 i5) != (atI b1 i5)))
          (kB ())
          (kN (w64 (i5 + 1))))
        none)
      none)
    (kA ())
def f_l_sameInts_r0 (a0 : List Sc) (b1 : List Sc) : Int → Option (Ro (Int) (Unit) (Unit)) := fun s => f_l_sameInts_k0 a0 b1 s (fun s => some (.again s)) (fun e => some (.one e)) (fun e => some (.two e))
def f_l_sameInts_k {R : Type} (a0 : List Sc) (b1 : List Sc) (kR : Bool → Option R) : Option R :=
  br (((a0.length : Int) != (b1.length : Int)))
    (kR false)
    (bl (loopL (f_l_sameInts_r0 a0 b1) 0) () ()
      (fun e1 =>
        kR true)
      (fun e1 =>
        kR false))
def f_l_sameInts (a0 : List Sc) (b1 : List Sc) : Option (Bool) := f_l_sameInts_k a0 b1 some

def f_i_IsZeroSum_k {R : Type} (g0 : List Sc) (l1 : List Sc) (kR : Bool → Option R) : Option R :=
  bo (f_i_IsSequence g0 l1) false fun r1 =>
  br (r1 == true)
    (bo (f_i_Group_total g0 l1) 0 fun r2 =>
    kR (r2 == 0))
    (kR false)
def f_i_IsZeroSum (g0 : List Sc) (l1 : List Sc) : Option (Bool) := f_i_IsZeroSum_k g0 l1 some

def f_i_IsAtom_k0 {R : Type} (l1 : List Sc) (g2 : List Sc) (mask5 : Int) (kN : Int → Option R) (kA : Unit → Option R) (kB : Unit → Option R) : Option R :=
  br (decide ((l1.length : Int) < 0))
    none
    (br ((decide (mask5 < (w64 ((shl64 1 (l1.length : Int)) - 1)))))
      (bo (f_i_part l1 mask5) [] fun r2 =>
      bo (f_i_Group_total g2 r2) 0 fun r3 =>
      br ((r3 == 0))
        (kB ())
        (kN (w64 (mask5 + 1))))
      (kA ()))
def f_i_IsAtom_r0 (l1 : List Sc) (g2 : List Sc) : Int → Option (Ro (Int) (Unit) (Unit)) := fun s => f_i_IsAtom_k0 l1 g2 s (fun s => some (.again s)) (fun e => some (.one e)) (fun e => some (.two e))
def f_i_IsAtom_k {R : Type} (g0 : List Sc) (l1 : List Sc) (kR : Bool → Option R) : Option R :=
  bo (f_i_IsZeroSum g0 l1) false fun r1 =>
  br ((!r1) == false)
    (br (((l1.length : Int) == 0))
      (kR false)
      (bl (loopL (f_i_IsAtom_r0 l1 g0) 1) () ()
        (fun e4 =>
          kR true)
        (fun e4 =>
          kR false)))
    (kR false)
def f_i_IsAtom (g0 : List Sc) (l1 : List Sc) : Option (Bool) := f_i_IsAtom_k g0 l1 some

def f_i_Group_shift_k0 {R : Type} (a1 : Int) (x2 : Int) (g3 : List Sc) (out7 : Int) (y8 : Int) (kN : Int × Int → Option R) (kA : Int → Option R) : Option R :=
  br (decide (y8 < 0))
    none
    (br (((shr64 a1 y8) != 0))
      (br (decide (y8 < 0))
        none
        (br (((and64 (shr64 a1 y8) 1) == 1))
          (bo (f_i_Group_add g3 x2 y8) 0 fun r1 =>
          br (decide (r1 < 0))
            none
            (kN ((or64 out7 (shl64 1 r1)), (w64 (y8 + 1)))))
          (kN (out7, (w64 (y8 + 1))))))
      (kA out7))
def f_i_Group_shift_r0 (a1 : Int) (x2 : Int) (g3 : List Sc) : (Int × Int) → Option (Ro (Int × Int) (Int) (Unit)) := fun s => f_i_Group_shift_k0 a1 x2 g3 s.1 s.2 (fun s => some (.again s)) (fun e => some (.one e))
def f_i_Group_shift_k {R : Type} (g0 : List Sc) (a1 : Int) (x2 : Int) (kR : Int → Option R) : Option R :=
  bl1 (loopL (f_i_Group_shift_r0 a1 x2 g0) (0, 0)) 0 fun e2 =>
  kR e2
def f_i_Group_shift (g0 : List Sc) (a1 : Int) (x2 : Int) : Option (Int) := f_i_Group_shift_k g0 a1 x2 some

def f_i_Group_subsums_k0 {R : Type} (g2 : List Sc) (t8 : List Sc) (t9 : Int) (out5 : Int) (t10 : Int) (kN : Int × Int → Option R) (kA : Int → Option R) : Option R :=
  br ((decide (t10 < t9)))
    (br (okAt t8 t10)
      (bo (f_i_Group_shift g2 out5 (atI t8 t10)) 0 fun r1 =>
      br (decide ((atI t8 t10) < 0))
        none
        (kN ((or64 (or64 out5 r1) (shl64 1 (atI t8 t10))), (w64 (t10 + 1)))))
      none)
    (kA out5)
def f_i_Group_subsums_r0 (g2 : List Sc) (t8 : List Sc) (t9 : Int) : (Int × Int) → Option (Ro (Int × Int) (Int) (Unit)) := fun s => f_i_Group_subsums_k0 g2 t8 t9 s.1 s.2 (fun s => some (.again s)) (fun e => some (.one e))
def f_i_Group_subsums_k {R : Type} (g0 : List Sc) (l1 : List Sc) (kR : Int → Option R) : Option R :=
  bl1 (loopL (f_i_Group_subsums_r0 g0 l1 (l1.length : Int)) (0, 0)) 0 fun e2 =>
  kR e2
def f_i_Group_subsums (g0 : List Sc) (l1 : List Sc) : Option (Int) := f_i_Group_subsums_k g0 l1 some

def f_i_IsZeroFree_k {R : Type} (g0 : List Sc) (l1 : List Sc) (kR : Bool → Option R) : Option R :=
  bo (f_i_IsSequence g0 l1) false fun r1 =>
  br (r1 == true)
    (bo (f_i_Group_subsums g0 l1) 0 fun r2 =>
    bo (f_i_in r2 0) false fun r3 =>
    kR (!r3))
    (kR false)
def f_i_IsZeroFree (g0 : List Sc) (l1 : List Sc) : Option (Bool) := f_i_IsZeroFree_k g0 l1 some

def f_i_SubsumsOf_k {R : Type} (g0 : List Sc) (l1 : List Sc) (kR : Int → Option R) : Option R :=
  bo (f_i_IsSequence g0 l1) false fun r1 =>
  br ((!r1))
    (kR (-1))
    (bo (f_i_Group_subsums g0 l1) 0 fun r2 =>
    kR r2)
def f_i_SubsumsOf (g0 : List Sc) (l1 : List Sc) : Option (Int) := f_i_SubsumsOf_k g0 l1 some

def f_s_l3List_k0 {R : Type} (out3 : List Sc) (i4 : Int) (x5 : Int) (kN : List Sc × Int × Int → Option R) (kA : List Sc → Option R) : Option R :=
  br ((decide (x5 > 0)))
    (br (((and64 x5 1) == 1))
      (br (decide (out3.length + [(Sc.n .i64 i4)].length ≤ lim))
        (kN ((out3 ++ [(Sc.n .i64 i4)]), (w64 (i4 + 1)), (shr64 x5 1)))
        none)
      (kN (out3, (w64 (i4 + 1)), (shr64 x5 1))))
    (kA out3)
def f_s_l3List_r0 : (List Sc × Int × Int) → Option (Ro (List Sc × Int × Int) (List Sc) (Unit)) := fun s => f_s_l3List_k0 s.1 s.2.1 s.2.2 (fun s => some (.again s)) (fun e => some (.one e))
def f_s_l3List_k {R : Type} (a0 : Int) (kR : List Sc → Option R) : Option R :=
  bl1 (loopL (f_s_l3List_r0) ([], 0, a0)) [] fun e1 =>
  kR e1
def f_s_l3List (a0 : Int) : Option (List Sc) := f_s_l3List_k a0 some

def f_s_l3Shift_k0 {R : Type} (x2 : Int) (g3 : List Sc) (out7 : Int) (l8 : List Sc) (i9 : Int) (kN : Int × List Sc × Int → Option R) (kA : Int → Option R) : Option R :=
  br ((decide (i9 < (l8.length : Int))))
    (br (inRange i9 (l8).length)
      (br (kAt l8 i9.toNat)
        (bo (f_s_l2Add g3 (atN l8 i9.toNat) x2) 0 fun r2 =>
        br (decide (r2 < 0))
          none
          (kN ((or64 out7 (shl64 1 r2)), l8, (w64 (i9 + 1)))))
        none)
      none)
    (kA out7)
def f_s_l3Shift_r0 (x2 : Int) (g3 : List Sc) : (Int × List Sc × Int) → Option (Ro (Int × List Sc × Int) (Int) (Unit)) := fun s => f_s_l3Shift_k0 x2 g3 s.1 s.2.1 s.2.2 (fun s => some (.again s)) (fun e => some (.one e))
def f_s_l3Shift_k {R : Type} (g0 : List Sc) (a1 : Int) (x2 : Int) (kR : Int → Option R) : Option R :=
  bo (f_s_l3List a1) [] fun r1 =>
  bl1 (loopL (f_s_l3Shift_r0 x2 g0) (0, r1, 0)) 0 fun e3 =>
  kR e3
def f_s_l3Shift (g0 : List Sc) (a1 : Int) (x2 : Int) : Option (Int) := f_s_l3Shift_k g0 a1 x2 some

def f_s_l16Subsums_k0 {R : Type} (l1 : List Sc) (g2 : List Sc) (out5 : Int) (i6 : Int) (kN : Int × Int → Option R) (kA : Int → Option R) : Option R :=
  br ((decide (i6 < (l1.length : Int))))
    (br (okAt l1 i6)
      (bo (f_s_l3Shift g2 out5 (atI l1 i6)) 0 fun r1 =>
      br (okAt l1 i6)
        (br (decide ((atI l1 i6) < 0))
          none
          (kN ((or64 (or64 out5 r1) (shl64 1 (atI l1 i6))), (w64 (i6 + 1)))))
        none)
      none)
    (kA out5)
def f_s_l16Subsums_r0 (l1 : List Sc) (g2 : List Sc) : (Int × Int) → Option (Ro (Int × Int) (Int) (Unit)) := fun s => f_s_l16Subsums_k0 l1 g2 s.1 s.2 (fun s => some (.again s)) (fun e => some (.one e))
def f_s_l16Subsums_k {R : Type} (g0 : List Sc) (l1 : List Sc) (kR : Int → Option R) : Option R :=
  bl1 (loopL (f_s_l16Subsums_r0 l1 g0) (0, 0)) 0 fun e2 =>
  kR e2
def f_s_l16Subsums (g0 : List Sc) (l1 : List Sc) : Option (Int) := f_s_l16Subsums_k g0 l1 some

def f_s_SubsumsOf_k {R : Type} (g0 : List Sc) (l1 : List Sc) (kR : Int → Option R) : Option R :=
  bo (f_s_IsSequence g0 l1) false fun r1 =>
  br ((!r1))
    (kR (-1))
    (bo (f_s_l16Subsums g0 l1) 0 fun r2 =>
    kR r2)
def f_s_SubsumsOf (g0 : List Sc) (l1 : List Sc) : Option (Int) := f_s_SubsumsOf_k g0 l1 some

def f_i_SumOfSequence_k {R : Type} (g0 : List Sc) (l1 : List Sc) (kR : Int → Option R) : Option R :=
  bo (f_i_IsSequence g0 l1) false fun r1 =>
  br ((!r1))
    (kR (-1))
    (bo (f_i_Group_total g0 l1) 0 fun r2 =>
    kR r2)
def f_i_SumOfSequence (g0 : List Sc) (l1 : List Sc) : Option (Int) := f_i_SumOfSequence_k g0 l1 some

def f_s_SumOfSequence_k {R : Type} (g0 : List Sc) (l1 : List Sc) (kR : Int → Option R) : Option R :=
  bo (f_s_IsSequence g0 l1) false fun r1 =>
  br ((!r1))
    (kR (-1))
    (bo (f_s_l16Sum g0 l1) 0 fun r2 =>
    kR r2)
def f_s_SumOfSequence (g0 : List Sc) (l1 : List Sc) : Option (Int) := f_s_SumOfSequence_k g0 l1 some

def f_i_Group_byLength_k2 {R : Type} (g2 : List Sc) (x7 : Int) (t15 : List Sc) (t16 : Int) (t17 : Int) (out5 : List Sc) (k8 : Int) (kN : List Sc × Int → Option R) (kA : List Sc → Option R) : Option R :=
  br ((decide (k8 ≥ 0)))
    (br (inRange (w64 (k8 + 1)) (out5).length)
      (br (kAt out5 (w64 (k8 + 1)).toNat)
        (br (inRange k8 (out5).length)
          (br (kAt out5 k8.toNat)
            (bo (f_i_Group_shift g2 (atN out5 k8.toNat) x7) 0 fun r1 =>
            br (inRange (w64 (k8 + 1)) (out5).length)
              (kN ((out5.set ((w64 (k8 + 1)).toNat) (Sc.n .i64 (or64 (atN out5 (w64 (k8 + 1)).toNat) r1))), (w64 (k8 - 1))))
              none)
            none)
          none)
        none)
      none)
    (kA out5)
def f_i_Group_byLength_r2 (g2 : List Sc) (x7 : Int) (t15 : List Sc) (t16 : Int) (t17 : Int) : (List Sc × Int) → Option (Ro (List Sc × Int) (List Sc) (Unit)) := fun s => f_i_Group_byLength_k2 g2 x7 t15 t16 t17 s.1 s.2 (fun s => some (.again s)) (fun e => some (.one e))
def f_i_Group_byLength_k0 {R : Type} (g2 : List Sc) (t15 : List Sc) (t16 : Int) (out5 : List Sc) (t17 : Int) (kN : List Sc × Int → Option R) (kA : List Sc × Int → Option R) : Option R :=
  br ((decide (t17 < t16)))
    (br (okAt t15 t17)
      (bl1 (loopL (f_i_Group_byLength_r2 g2 (atI t15 t17) t15 t16 t17) (out5, t17)) [] fun e2 =>
      kN (e2, (w64 (t17 + 1))))
      none)
    (kA (out5, t17))
def f_i_Group_byLength_r0 (g2 : List Sc) (t15 : List Sc) (t16 : Int) : (List Sc × Int) → Option (Ro (List Sc × Int) (List Sc × Int) (Unit)) := fun s => f_i_Group_byLength_k0 g2 t15 t16 s.1 s.2 (fun s => some (.again s)) (fun e => some (.one e))
def f_i_Group_byLength_k {R : Type} (g0 : List Sc) (l1 : List Sc) (kR : List Sc → Option R) : Option R :=
  br (decide (0 ≤ (w64 ((l1.length : Int) + 1))) && (decide ((w64 ((l1.length : Int) + 1)) ≤ (w64 ((l1.length : Int) + 1))) && decide ((w64 ((l1.length : Int) + 1)) ≤ (lim : Int))))
    (br (inRange 0 ((List.replicate (w64 ((l1.length : Int) + 1)).toNat (Sc.n .i64 0))).length)
      (bl1 (loopL (f_i_Group_byLength_r0 g0 l1 (l1.length : Int)) (((List.replicate (w64 ((l1.length : Int) + 1)).toNat (Sc.n .i64 0)).set ((0 : Int).toNat) (Sc.n .i64 1)), 0)) ([], 0) fun e3 =>
      kR e3.1)
      none)
    none
def f_i_Group_byLength (g0 : List Sc) (l1 : List Sc) : Option (List Sc) := f_i_Group_byLength_k g0 l1 some

def f_i_SubsumsOfLength_k {R : Type} (g0 : List Sc) (l1 : List Sc) (k2 : Int) (kR : Int → Option R) : Option R :=
  bo (f_i_IsSequence g0 l1) false fun r1 =>
  br ((!r1) == false)
    (bo (f_i_within k2 0 (l1.length : Int)) false fun r2 =>
    br ((!r2))
      (kR (-1))
      (bo (f_i_Group_byLength g0 l1) [] fun r3 =>
      br (inRange k2 (r3).length)
        (br (kAt r3 k2.toNat)
          (kR (atN r3 k2.toNat))
          none)
        none))
    (kR (-1))
def f_i_SubsumsOfLength (g0 : List Sc) (l1 : List Sc) (k2 : Int) : Option (Int) := f_i_SubsumsOfLength_k g0 l1 k2 some

def f_s_DrawSortSequence_k {R : Type} (code0 : List Sc) (kR : List Sc × List Sc → Option R) : Option R :=
  bo (f_s_l16Both code0) ([], []) fun r1 =>
  br ((decide ((r1.2.length : Int) > 1)))
    (br (inRange 0 (r1.2).length)
      (br (kAt r1.2 (0 : Int).toNat)
        (br (inRange 1 (r1.2).length)
          (br (kAt r1.2 (1 : Int).toNat)
            (br (inRange 0 (r1.2).length)
              (br (inRange 1 ((r1.2.set ((0 : Int).toNat) (Sc.n .i64 (atN r1.2 (1 : Int).toNat)))).length)
                (kR (r1.1, ((r1.2.set ((0 : Int).toNat) (Sc.n .i64 (atN r1.2 (1 : Int).toNat))).set ((1 : Int).toNat) (Sc.n .i64 (atN r1.2 (0 : Int).toNat)))))
                none)
              none)
            none)
          none)
        none)
      none)
    (kR (r1.1, r1.2))
def f_s_DrawSortSequence (code0 : List Sc) : Option (List Sc × List Sc) := f_s_DrawSortSequence_k code0 some

def f_i_copyInts_k {R : Type} (l0 : List Sc) (kR : List Sc → Option R) : Option R :=
  br (decide (([] : List Sc).length + l0.length ≤ lim))
    (kR ([] ++ l0))
    none
def f_i_copyInts (l0 : List Sc) : Option (List Sc) := f_i_copyInts_k l0 some

def f_slices_Sort (h0 : List Sc) : Option (List Sc) := sortSc h0

def f_i_SortSequence_k {R : Type} (g0 : List Sc) (l1 : List Sc) (kR : List Sc × Bool → Option R) : Option R :=
  bo (f_i_copyInts l1) [] fun r1 =>
  bo (f_slices_Sort r1) [] fun r2 =>
  bo (f_i_IsSequence g0 r2) false fun r3 =>
  br ((!r3))
    (kR ([], false))
    (kR (r2, true))
def f_i_SortSequence (g0 : List Sc) (l1 : List Sc) : Option (List Sc × Bool) := f_i_SortSequence_k g0 l1 some

def f_s_SortSequence_k {R : Type} (g0 : List Sc) (l1 : List Sc) (kR : List Sc × Bool → Option R) : Option R :=
  br ((decide ((l1.length : Int) > 12)))
    (kR ([], false))
    (bo (f_s_l16Sort l1) [] fun r1 =>
    bo (f_s_IsSequence g0 r1) false fun r2 =>
    br ((!r2))
      (kR ([], false))
      (kR (r1, true)))
def f_s_SortSequence (g0 : List Sc) (l1 : List Sc) : Option (List Sc × Bool) := f_s_SortSequence_k g0 l1 some

def f_s_DrawSubsumsOfLength_g2_k {R : Type} (v0 : List Sc) (v1 : List Sc) (t0 : List Sc) (t6 : List Sc) (kA : Int → Option R) : Option R :=
  br (inRange ((t0.length : Int).tmod 6) ([(Sc.n .i64 0), (Sc.n .i64 1), (Sc.n .i64 2), (Sc.n .i64 3), (Sc.n .i64 (-1)), (Sc.n .i64 13)]).length)
    (br (kAt [(Sc.n .i64 0), (Sc.n .i64 1), (Sc.n .i64 2), (Sc.n .i64 3), (Sc.n .i64 (-1)), (Sc.n .i64 13)] ((t0.length : Int).tmod 6).toNat)
      (kA (atN [(Sc.n .i64 0), (Sc.n .i64 1), (Sc.n .i64 2), (Sc.n .i64 3), (Sc.n .i64 (-1)), (Sc.n .i64 13)] ((t0.length : Int).tmod 6).toNat))
      none)
    none
def f_s_DrawSubsumsOfLength_g2 (v0 : List Sc) (v1 : List Sc) (t0 : List Sc) (t6 : List Sc) : Option (Int) := f_s_DrawSubsumsOfLength_g2_k v0 v1 t0 t6 some
def f_s_DrawSubsumsOfLength_k {R : Type} (code0 : List Sc) (kR : List Sc × List Sc × Int → Option R) : Option R :=
  bo (f_s_l16Both code0) ([], []) fun r1 =>
  bo (f_s_DrawSubsumsOfLength_g2 [] r1.1 code0 r1.2) 0 fun g2 =>
  kR (r1.1, r1.2, g2)
def f_s_DrawSubsumsOfLength (code0 : List Sc) : Option (List Sc × List Sc × Int) := f_s_DrawSubsumsOfLength_k code0 some

def f_s_l2Element_io_k {R : Type} (g1 : List Sc) (h0 : List Sc) (h1 : Int) (h2 : Int) (kR : Int × List Sc × Int × Int → Option R) : Option R :=
  bo (f_s_l1Once_io 16 h0 h1 h2) (false, [], 0, 0) fun r1 =>
  br (r1.1)
    (bo (f_s_l1PickInt_io [(Sc.n .i64 (-1)), (Sc.n .i64 24), (Sc.n .i64 9223372036854775807)] r1.2.1 r1.2.2.1 r1.2.2.2) (0, [], 0, 0) fun r2 =>
    kR (r2.1, r2.2.1, r2.2.2.1, r2.2.2.2))
    (bo (f_s_OrderOf g1) 0 fun r3 =>
    bo (f_s_l1Below_io (if r3 > 1 then r3 else 1) r1.2.1 r1.2.2.1 r1.2.2.2) (0, [], 0, 0) fun r4 =>
    kR (r4.1, r4.2.1, r4.2.2.1, r4.2.2.2))
def f_s_l2Element_io (g1 : List Sc) (h0 : List Sc) (h1 : Int) (h2 : Int) : Option (Int × List Sc × Int × Int) := f_s_l2Element_io_k g1 h0 h1 h2 some

def f_s_DrawMultiplicityIn_g2_k {R : Type} (v0 : List Sc) (t0 : List Sc) (t5 : List Sc) (kA : Int → Option R) : Option R :=
  bo (f_s_l1New t0) ([], 0, 0) fun r2 =>
  bo (f_s_l2Element_io v0 r2.1 r2.2.1 r2.2.2) (0, [], 0, 0) fun r3 =>
  kA r3.1
def f_s_DrawMultiplicityIn_g2 (v0 : List Sc) (t0 : List Sc) (t5 : List Sc) : Option (Int) := f_s_DrawMultiplicityIn_g2_k v0 t0 t5 some
def f_s_DrawMultiplicityIn_k {R : Type} (code0 : List Sc) (kR : List Sc × Int → Option R) : Option R :=
  bo (f_s_l16Both code0) ([], []) fun r1 =>
  bo (f_s_DrawMultiplicityIn_g2 r1.1 code0 r1.2) 0 fun g16 =>
  kR (r1.2, g16)
def f_s_DrawMultiplicityIn (code0 : List Sc) : Option (List Sc × Int) := f_s_DrawMultiplicityIn_k code0 some

def f_s_DrawFormatSequence_k {R : Type} (code0 : List Sc) (kR : List Sc × List Sc → Option R) : Option R :=
  bo (f_s_l16Both code0) ([], []) fun r1 =>
  kR (r1.1, r1.2)
def f_s_DrawFormatSequence (code0 : List Sc) : Option (List Sc × List Sc) := f_s_DrawFormatSequence_k code0 some

def f_s_SubsumsOfLength_k2 {R : Type} (l1 : List Sc) (k2 : Int) (g3 : List Sc) (i8 : Int) (t7 : List Sc) (n9 : Int) (kN : List Sc × Int → Option R) (kA : List Sc → Option R) : Option R :=
  br ((decide (n9 ≥ 1)))
    (br (inRange n9 (t7).length)
      (br (kAt t7 n9.toNat)
        (br (inRange (w64 (n9 - 1)) (t7).length)
          (br (kAt t7 (w64 (n9 - 1)).toNat)
            (br (okAt l1 i8)
              (bo (f_s_l3Shift g3 (atN t7 (w64 (n9 - 1)).toNat) (atI l1 i8)) 0 fun r3 =>
              br (inRange n9 (t7).length)
                (kN ((t7.set n9.toNat (Sc.n .i64 (or64 (atN t7 n9.toNat) r3))), (w64 (n9 - 1))))
                none)
              none)
            none)
          none)
        none)
      none)
    (kA t7)
def f_s_SubsumsOfLength_r2 (l1 : List Sc) (k2 : Int) (g3 : List Sc) (i8 : Int) : (List Sc × Int) → Option (Ro (List Sc × Int) (List Sc) (Unit)) := fun s => f_s_SubsumsOfLength_k2 l1 k2 g3 i8 s.1 s.2 (fun s => some (.again s)) (fun e => some (.one e))
def f_s_SubsumsOfLength_k0 {R : Type} (l1 : List Sc) (k2 : Int) (g3 : List Sc) (t7 : List Sc) (i8 : Int) (kN : List Sc × Int → Option R) (kA : List Sc × Int → Option R) : Option R :=
  br ((decide (i8 < (l1.length : Int))))
    (bl1 (loopL (f_s_SubsumsOfLength_r2 l1 k2 g3 i8) (t7, k2)) [] fun e4 =>
    kN (e4, (w64 (i8 + 1))))
    (kA (t7, i8))
def f_s_SubsumsOfLength_r0 (l1 : List Sc) (k2 : Int) (g3 : List Sc) : (List Sc × Int) → Option (Ro (List Sc × Int) (List Sc × Int) (Unit)) := fun s => f_s_SubsumsOfLength_k0 l1 k2 g3 s.1 s.2 (fun s => some (.again s)) (fun e => some (.one e))
def f_s_SubsumsOfLength_k {R : Type} (g0 : List Sc) (l1 : List Sc) (k2 : Int) (kR : Int → Option R) : Option R :=
  bo (f_s_IsSequence g0 l1) false fun r1 =>
  br ((!r1) == false)
    (bo (f_s_l1In k2 0 (l1.length : Int)) false fun r2 =>
    br ((!r2))
      (kR (-1))
      (br (decide (0 ≤ (w64 (k2 + 1))) && (decide ((w64 (k2 + 1)) ≤ (w64 (k2 + 1))) && decide ((w64 (k2 + 1)) ≤ (lim : Int))))
        (br (inRange 0 ((List.replicate (w64 (k2 + 1)).toNat (Sc.n .i64 0))).length)
          (bl1 (loopL (f_s_SubsumsOfLength_r0 l1 k2 g0) (((List.replicate (w64 (k2 + 1)).toNat (Sc.n .i64 0)).set ((0 : Int).toNat) (Sc.n .i64 1)), 0)) ([], 0) fun e5 =>
          br (inRange k2 (e5.1).length)
            (br (kAt e5.1 k2.toNat)
              (kR (atN e5.1 k2.toNat))
              none)
            none)
          none)
        none))
    (kR (-1))
def f_s_SubsumsOfLength (g0 : List Sc) (l1 : List Sc) (k2 : Int) : Option (Int) := f_s_SubsumsOfLength_k g0 l1 k2 some

def f_i_MultiplicityIn_k0 {R : Type} (x1 : Int) (t8 : List Sc) (t9 : Int) (n5 : Int) (t10 : Int) (kN : Int × Int → Option R) (kA : Int → Option R) : Option R :=
  br ((decide (t10 < t9)))
    (br (okAt t8 t10)
      (br ((x1 == (atI t8 t10)))
        (kN ((w64 (n5 + 1)), (w64 (t10 + 1))))
        (kN (n5, (w64 (t10 + 1)))))
      none)
    (kA n5)
def f_i_MultiplicityIn_r0 (x1 : Int) (t8 : List Sc) (t9 : Int) : (Int × Int) → Option (Ro (Int × Int) (Int) (Unit)) := fun s => f_i_MultiplicityIn_k0 x1 t8 t9 s.1 s.2 (fun s => some (.again s)) (fun e => some (.one e))
def f_i_MultiplicityIn_k {R : Type} (l0 : List Sc) (x1 : Int) (kR : Int → Option R) : Option R :=
  bl1 (loopL (f_i_MultiplicityIn_r0 x1 l0 (l0.length : Int)) (0, 0)) 0 fun e1 =>
  kR e1
def f_i_MultiplicityIn (l0 : List Sc) (x1 : Int) : Option (Int) := f_i_MultiplicityIn_k l0 x1 some

def f_s_MultiplicityIn_k0 {R : Type} (l0 : List Sc) (x1 : Int) (n5 : Int) (i6 : Int) (kN : Int × Int → Option R) (kA : Int → Option R) : Option R :=
  br ((decide (i6 < (l0.length : Int))))
    (br (okAt l0 i6)
      (br (((atI l0 i6) == x1))
        (kN ((w64 (n5 + 1)), (w64 (i6 + 1))))
        (kN (n5, (w64 (i6 + 1)))))
      none)
    (kA n5)
def f_s_MultiplicityIn_r0 (l0 : List Sc) (x1 : Int) : (Int × Int) → Option (Ro (Int × Int) (Int) (Unit)) := fun s => f_s_MultiplicityIn_k0 l0 x1 s.1 s.2 (fun s => some (.again s)) (fun e => some (.one e))
def f_s_MultiplicityIn_k {R : Type} (l0 : List Sc) (x1 : Int) (kR : Int → Option R) : Option R :=
  bl1 (loopL (f_s_MultiplicityIn_r0 l0 x1) (0, 0)) 0 fun e1 =>
  kR e1
def f_s_MultiplicityIn (l0 : List Sc) (x1 : Int) : Option (Int) := f_s_MultiplicityIn_k l0 x1 some

def f_i_FormatInt_k0 {R : Type} (n0 : Int) (out3 : List Sc) (m4 : Int) (kN : List Sc × Int → Option R) (kA : List Sc → Option R) : Option R :=
  br ((m4 != 0))
    (br ((decide ((m4.tmod 10) < 0)))
      (br (decide (out3.length + [(Sc.n .u8 (IntKind.u8.wrap (w64 (48 + (w64 (0 - (m4.tmod 10)))))))].length ≤ lim))
        (kN ((out3 ++ [(Sc.n .u8 (IntKind.u8.wrap (w64 (48 + (w64 (0 - (m4.tmod 10)))))))]), (w64 (m4.tdiv 10))))
        none)
      (br (decide (out3.length + [(Sc.n .u8 (IntKind.u8.wrap (w64 (48 + (m4.tmod 10)))))].length ≤ lim))
        (kN ((out3 ++ [(Sc.n .u8 (IntKind.u8.wrap (w64 (48 + (m4.tmod 10)))))]), (w64 (m4.tdiv 10))))
        none))
    (kA out3)
def f_i_FormatInt_r0 (n0 : Int) : (List Sc × Int) → Option (Ro (List Sc × Int) (List Sc) (Unit)) := fun s => f_i_FormatInt_k0 n0 s.1 s.2 (fun s => some (.again s)) (fun e => some (.one e))
def f_i_FormatInt_k2 {R : Type} (out3 : List Sc) (i6 : Int) (j7 : Int) (kN : List Sc × Int × Int → Option R) (kA : List Sc → Option R) : Option R :=
  br ((decide (i6 < j7)))
    (br (inRange j7 (out3).length)
      (br (kZ (.n .u8 0) out3 j7.toNat)
        (br (inRange i6 (out3).length)
          (br (kZ (.n .u8 0) out3 i6.toNat)
            (br (inRange i6 (out3).length)
              (br (inRange j7 ((out3.set i6.toNat (Sc.n .u8 (nAt out3 .u8 j7.toNat)))).length)
                (kN (((out3.set i6.toNat (Sc.n .u8 (nAt out3 .u8 j7.toNat))).set j7.toNat (Sc.n .u8 (nAt out3 .u8 i6.toNat))), (w64 (i6 + 1)), (w64 (j7 - 1))))
                none)
              none)
            none)
          none)
        none)
      none)
    (kA out3)
def f_i_FormatInt_r2 : (List Sc × Int × Int) → Option (Ro (List Sc × Int × Int) (List Sc) (Unit)) := fun s => f_i_FormatInt_k2 s.1 s.2.1 s.2.2 (fun s => some (.again s)) (fun e => some (.one e))
def f_i_FormatInt_k {R : Type} (n0 : Int) (kR : ByteArray → Option R) : Option R :=
  br ((n0 == 0))
    (kR (ByteArray.mk #[48]))
    (bl1 (loopL (f_i_FormatInt_r0 n0) ([], n0)) [] fun e1 =>
    br ((decide (n0 < 0)))
      (br (decide (e1.length + [(Sc.n .u8 45)].length ≤ lim))
        (bl1 (loopL (f_i_FormatInt_r2) ((e1 ++ [(Sc.n .u8 45)]), 0, (w64 (((e1 ++ [(Sc.n .u8 45)]).length : Int) - 1)))) [] fun e2 =>
        br (allU e2)
          (kR (bytesOf e2))
          none)
        none)
      (bl1 (loopL (f_i_FormatInt_r2) (e1, 0, (w64 ((e1.length : Int) - 1)))) [] fun e3 =>
      br (allU e3)
        (kR (bytesOf e3))
        none))
def f_i_FormatInt (n0 : Int) : Option (ByteArray) := f_i_FormatInt_k n0 some

def f_i_glued_k0 {R : Type} (by1 : ByteArray) (t8 : List Sc) (t9 : Int) (s5 : ByteArray) (t10 : Int) (kN : ByteArray × Int → Option R) (kA : ByteArray → Option R) : Option R :=
  br ((decide (t10 < t9)))
    (br (okZ (.s ByteArray.empty) t8 t10)
      (br ((decide (t10 > 0)))
        (br (decide (s5.size + by1.size ≤ lim))
          (br (decide ((s5 ++ by1).size + (atU t8 t10).size ≤ lim))
            (kN (((s5 ++ by1) ++ (atU t8 t10)), (w64 (t10 + 1))))
            none)
          none)
        (br (decide (s5.size + (atU t8 t10).size ≤ lim))
          (kN ((s5 ++ (atU t8 t10)), (w64 (t10 + 1))))
          none))
      none)
    (kA s5)
def f_i_glued_r0 (by1 : ByteArray) (t8 : List Sc) (t9 : Int) : (ByteArray × Int) → Option (Ro (ByteArray × Int) (ByteArray) (Unit)) := fun s => f_i_glued_k0 by1 t8 t9 s.1 s.2 (fun s => some (.again s)) (fun e => some (.one e))
def f_i_glued_k {R : Type} (l0 : List Sc) (by1 : ByteArray) (kR : ByteArray → Option R) : Option R :=
  bl1 (loopL (f_i_glued_r0 by1 l0 (l0.length : Int)) (ByteArray.empty, 0)) ByteArray.empty fun e1 =>
  kR e1
def f_i_glued (l0 : List Sc) (by1 : ByteArray) : Option (ByteArray) := f_i_glued_k l0 by1 some

def f_i_FormatSequence_k0 {R : Type} (l1 : List Sc) (t18 : List Sc) (t19 : Int) (out5 : List Sc) (t20 : Int) (kN : List Sc × Int → Option R) (kA : List Sc × Int → Option R) : Option R :=
  br ((decide (t20 < t19)))
    (br (okAt t18 t20)
      (br ((decide (t20 > 0)) == true)
        (br (okAt l1 (w64 (t20 - 1)))
          (br (((atI l1 (w64 (t20 - 1))) == (atI t18 t20)))
            (kN (out5, (w64 (t20 + 1))))
            (bo (f_i_FormatInt (atI t18 t20)) ByteArray.empty fun r2 =>
            bo (f_i_MultiplicityIn l1 (atI t18 t20)) 0 fun r3 =>
            br ((decide (r3 > 1)))
              (br (decide (r2.size + (ByteArray.mk #[94]).size ≤ lim))
                (bo (f_i_FormatInt r3) ByteArray.empty fun r4 =>
                br (decide ((r2 ++ (ByteArray.mk #[94])).size + r4.size ≤ lim))
                  (br (decide (out5.length + [(Sc.s ((r2 ++ (ByteArray.mk #[94])) ++ r4))].length ≤ lim))
                    (kN ((out5 ++ [(Sc.s ((r2 ++ (ByteArray.mk #[94])) ++ r4))]), (w64 (t20 + 1))))
                    none)
                  none)
                none)
              (br (decide (out5.length + [(Sc.s r2)].length ≤ lim))
                (kN ((out5 ++ [(Sc.s r2)]), (w64 (t20 + 1))))
                none)))
          none)
        (bo (f_i_FormatInt (atI t18 t20)) ByteArray.empty fun r5 =>
        bo (f_i_MultiplicityIn l1 (atI t18 t20)) 0 fun r6 =>
        br ((decide (r6 > 1)))
          (br (decide (r5.size + (ByteArray.mk #[94]).size ≤ lim))
            (bo (f_i_FormatInt r6) ByteArray.empty fun r7 =>
            br (decide ((r5 ++ (ByteArray.mk #[94])).size + r7.size ≤ lim))
              (br (decide (out5.length + [(Sc.s ((r5 ++ (ByteArray.mk #[94])) ++ r7))].length ≤ lim))
                (kN ((out5 ++ [(Sc.s ((r5 ++ (ByteArray.mk #[94])) ++ r7))]), (w64 (t20 + 1))))
                none)
              none)
            none)
          (br (decide (out5.length + [(Sc.s r5)].length ≤ lim))
            (kN ((out5 ++ [(Sc.s r5)]), (w64 (t20 + 1))))
            none)))
      none)
    (kA (out5, t20))
def f_i_FormatSequence_r0 (l1 : List Sc) (t18 : List Sc) (t19 : Int) : (List Sc × Int) → Option (Ro (List Sc × Int) (List Sc × Int) (Unit)) := fun s => f_i_FormatSequence_k0 l1 t18 t19 s.1 s.2 (fun s => some (.again s)) (fun e => some (.one e))
def f_i_FormatSequence_k {R : Type} (g0 : List Sc) (l1 : List Sc) (kR : ByteArray → Option R) : Option R :=
  bo (f_i_IsSequence g0 l1) false fun r1 =>
  br ((!r1))
    (kR ByteArray.empty)
    (br (((l1.length : Int) == 0))
      (kR (ByteArray.mk #[110, 111, 110, 101]))
      (bl1 (loopL (f_i_FormatSequence_r0 l1 l1 (l1.length : Int)) ([], 0)) ([], 0) fun e8 =>
      bo (f_i_glued e8.1 (ByteArray.mk #[32])) ByteArray.empty fun r9 =>
      kR r9))
def f_i_FormatSequence (g0 : List Sc) (l1 : List Sc) : Option (ByteArray) := f_i_FormatSequence_k g0 l1 some

def f_s_FormatInt_k0 {R : Type} (neg4 : Bool) (n0 : Int) (out3 : ByteArray) (kN : Int × ByteArray → Option R) (kA : ByteArray → Option R) : Option R :=
  br ((n0 != 0))
    (br ((decide ((n0.tmod 10) < 0)))
      (br (allU [(Sc.n .u8 (IntKind.u8.wrap (w64 (48 + (w64 (0 - (n0.tmod 10)))))))])
        (br (decide ((bytesOf [(Sc.n .u8 (IntKind.u8.wrap (w64 (48 + (w64 (0 - (n0.tmod 10)))))))]).size + out3.size ≤ lim))
          (kN ((w64 (n0.tdiv 10)), ((bytesOf [(Sc.n .u8 (IntKind.u8.wrap (w64 (48 + (w64 (0 - (n0.tmod 10)))))))]) ++ out3)))
          none)
        none)
      (br (allU [(Sc.n .u8 (IntKind.u8.wrap (w64 (48 + (n0.tmod 10)))))])
        (br (decide ((bytesOf [(Sc.n .u8 (IntKind.u8.wrap (w64 (48 + (n0.tmod 10)))))]).size + out3.size ≤ lim))
          (kN ((w64 (n0.tdiv 10)), ((bytesOf [(Sc.n .u8 (IntKind.u8.wrap (w64 (48 + (n0.tmod 10)))))]) ++ out3)))
          none)
        none))
    (kA out3)
def f_s_FormatInt_r0 (neg4 : Bool) : (Int × ByteArray) → Option (Ro (Int × ByteArray) (ByteArray) (Unit)) := fun s => f_s_FormatInt_k0 neg4 s.1 s.2 (fun s => some (.again s)) (fun e => some (.one e))
def f_s_FormatInt_k {R : Type} (n0 : Int) (kR : ByteArray → Option R) : Option R :=
  br ((n0 == 0))
    (kR (ByteArray.mk #[48]))
    (bl1 (loopL (f_s_FormatInt_r0 (decide (n0 < 0))) (n0, ByteArray.empty)) ByteArray.empty fun e1 =>
    br ((decide (n0 < 0)))
      (br (decide ((ByteArray.mk #[45]).size + e1.size ≤ lim))
        (kR ((ByteArray.mk #[45]) ++ e1))
        none)
      (kR e1))
def f_s_FormatInt (n0 : Int) : Option (ByteArray) := f_s_FormatInt_k n0 some

def f_s_FormatSequence_k0 {R : Type} (t1 : List Sc) (t2 : List Sc) (t5 : ByteArray) (t6 : Int) (kN : ByteArray × Int → Option R) (kA : ByteArray × Int → Option R) : Option R :=
  br ((decide (t6 < (t1.length : Int))) == true)
    (bo (f_s_IsSequence t2 t1) false fun r1 =>
    br (r1)
      (br ((decide (t6 > 0)) == true)
        (br (okAt t1 t6)
          (br (okAt t1 (w64 (t6 - 1)))
            (br (((atI t1 t6) == (atI t1 (w64 (t6 - 1)))))
              (kN (t5, (w64 (t6 + 1))))
              (br ((!(t5.toList == ByteArray.empty.toList)))
                (br (decide (t5.size + (ByteArray.mk #[32]).size ≤ lim))
                  (br (okAt t1 t6)
                    (bo (f_s_FormatInt (atI t1 t6)) ByteArray.empty fun r2 =>
                    br (decide ((t5 ++ (ByteArray.mk #[32])).size + r2.size ≤ lim))
                      (br (okAt t1 t6)
                        (bo (f_s_MultiplicityIn t1 (atI t1 t6)) 0 fun r3 =>
                        br ((decide (r3 > 1)))
                          (br (decide (((t5 ++ (ByteArray.mk #[32])) ++ r2).size + (ByteArray.mk #[94]).size ≤ lim))
                            (bo (f_s_FormatInt r3) ByteArray.empty fun r4 =>
                            br (decide ((((t5 ++ (ByteArray.mk #[32])) ++ r2) ++ (ByteArray.mk #[94])).size + r4.size ≤ lim))
                              (kN (((((t5 ++ (ByteArray.mk #[32])) ++ r2) ++ (ByteArray.mk #[94])) ++ r4), (w64 (t6 + 1))))
                              none)
                            none)
                          (kN (((t5 ++ (ByteArray.mk #[32])) ++ r2), (w64 (t6 + 1)))))
                        none)
                      none)
                    none)
                  none)
                (br (okAt t1 t6)
                  (bo (f_s_FormatInt (atI t1 t6)) ByteArray.empty fun r5 =>
                  br (decide (t5.size + r5.size ≤ lim))
                    (br (okAt t1 t6)
                      (bo (f_s_MultiplicityIn t1 (atI t1 t6)) 0 fun r6 =>
                      br ((decide (r6 > 1)))
                        (br (decide ((t5 ++ r5).size + (ByteArray.mk #[94]).size ≤ lim))
                          (bo (f_s_FormatInt r6) ByteArray.empty fun r7 =>
                          br (decide (((t5 ++ r5) ++ (ByteArray.mk #[94])).size + r7.size ≤ lim))
                            (kN ((((t5 ++ r5) ++ (ByteArray.mk #[94])) ++ r7), (w64 (t6 + 1))))
                            none)
                          none)
                        (kN ((t5 ++ r5), (w64 (t6 + 1)))))
                      none)
                    none)
                  none)))
            none)
          none)
        (br ((!(t5.toList == ByteArray.empty.toList)))
          (br (decide (t5.size + (ByteArray.mk #[32]).size ≤ lim))
            (br (okAt t1 t6)
              (bo (f_s_FormatInt (atI t1 t6)) ByteArray.empty fun r8 =>
              br (decide ((t5 ++ (ByteArray.mk #[32])).size + r8.size ≤ lim))
                (br (okAt t1 t6)
                  (bo (f_s_MultiplicityIn t1 (atI t1 t6)) 0 fun r9 =>
                  br ((decide (r9 > 1)))
                    (br (decide (((t5 ++ (ByteArray.mk #[32])) ++ r8).size + (ByteArray.mk #[94]).size ≤ lim))
                      (bo (f_s_FormatInt r9) ByteArray.empty fun r10 =>
                      br (decide ((((t5 ++ (ByteArray.mk #[32])) ++ r8) ++ (ByteArray.mk #[94])).size + r10.size ≤ lim))
                        (kN (((((t5 ++ (ByteArray.mk #[32])) ++ r8) ++ (ByteArray.mk #[94])) ++ r10), (w64 (t6 + 1))))
                        none)
                      none)
                    (kN (((t5 ++ (ByteArray.mk #[32])) ++ r8), (w64 (t6 + 1)))))
                  none)
                none)
              none)
            none)
          (br (okAt t1 t6)
            (bo (f_s_FormatInt (atI t1 t6)) ByteArray.empty fun r11 =>
            br (decide (t5.size + r11.size ≤ lim))
              (br (okAt t1 t6)
                (bo (f_s_MultiplicityIn t1 (atI t1 t6)) 0 fun r12 =>
                br ((decide (r12 > 1)))
                  (br (decide ((t5 ++ r11).size + (ByteArray.mk #[94]).size ≤ lim))
                    (bo (f_s_FormatInt r12) ByteArray.empty fun r13 =>
                    br (decide (((t5 ++ r11) ++ (ByteArray.mk #[94])).size + r13.size ≤ lim))
                      (kN ((((t5 ++ r11) ++ (ByteArray.mk #[94])) ++ r13), (w64 (t6 + 1))))
                      none)
                    none)
                  (kN ((t5 ++ r11), (w64 (t6 + 1)))))
                none)
              none)
            none)))
      (kA (t5, t6)))
    (kA (t5, t6))
def f_s_FormatSequence_r0 (t1 : List Sc) (t2 : List Sc) : (ByteArray × Int) → Option (Ro (ByteArray × Int) (ByteArray × Int) (Unit)) := fun s => f_s_FormatSequence_k0 t1 t2 s.1 s.2 (fun s => some (.again s)) (fun e => some (.one e))
def f_s_FormatSequence_k {R : Type} (L0 : List Sc) (p1 : List Sc) (kR : ByteArray → Option R) : Option R :=
  bl1 (loopL (f_s_FormatSequence_r0 p1 L0) (ByteArray.empty, 0)) (ByteArray.empty, 0) fun e14 =>
  br ((e14.1.toList == ByteArray.empty.toList) == true)
    (bo (f_s_IsSequence L0 p1) false fun r15 =>
    br (r15)
      (kR (ByteArray.mk #[110, 111, 110, 101]))
      (kR e14.1))
    (kR e14.1)
def f_s_FormatSequence (L0 : List Sc) (p1 : List Sc) : Option (ByteArray) := f_s_FormatSequence_k L0 p1 some

def f_s_IsZeroFree_k {R : Type} (g0 : List Sc) (l1 : List Sc) (kR : Bool → Option R) : Option R :=
  bo (f_s_IsSequence g0 l1) false fun r1 =>
  br (r1 == true)
    (bo (f_s_l16Subsums g0 l1) 0 fun r2 =>
    kR ((and64 r2 1) == 0))
    (kR false)
def f_s_IsZeroFree (g0 : List Sc) (l1 : List Sc) : Option (Bool) := f_s_IsZeroFree_k g0 l1 some

def f_l_FnSequences_k0 {R : Type} (L0 : List Sc) (t9 : Int) (v0 : List Sc) (t4 : List Sc) (t7 : List Sc) (t10 : Int) (t11 : Int) (kN : List Sc × List Sc × List Sc × Int × Int → Option R) (kA : List Sc × List Sc × List Sc × Int → Option R) : Option R :=
  br ((decide (t11 ≤ (t4.length : Int))))
    (bo (f_i_SubsumsOfLength v0 t4 t11) 0 fun r15 =>
    kN (v0, t4, t7, (or64 t10 r15), (w64 (t11 + 1))))
    (kA (v0, t4, t7, t10))
def f_l_FnSequences_r0 (L0 : List Sc) (t9 : Int) : (List Sc × List Sc × List Sc × Int × Int) → Option (Ro (List Sc × List Sc × List Sc × Int × Int) (List Sc × List Sc × List Sc × Int) (Unit)) := fun s => f_l_FnSequences_k0 L0 t9 s.1 s.2.1 s.2.2.1 s.2.2.2.1 s.2.2.2.2 (fun s => some (.again s)) (fun e => some (.one e))
def f_l_FnSequences_m25_0_k {R : Type} (zv1 : List Sc) (zv2 : List Sc) (zv3 : List Sc) (zt13 : List Sc) (zt14 : List Sc) (zt15 : Bool) (zt16 : List Sc) (zt17 : Bool) (zt19 : List Sc) (zt20 : Int) (zt21 : List Sc) (zt22 : Int) (zt24 : List Sc) (zt173 : Bool) (zt174 : Bool) (zt175 : Bool) (zt179 : Bool) (zt180 : Bool) (zt182 : Bool) (zt183 : Bool) (zt187 : Bool) (zt190 : Int) (zt192 : Int) (zt193 : Bool) (zt194 : Bool) (zt195 : Bool) (zt196 : Bool) (kA : Bool → Option R) : Option R :=
  br (zt196 == true)
    (bo (f_i_SubsumsOfLength zv2 zt19 zt20) 0 fun r27 =>
    bo (f_s_SubsumsOfLength zv2 zt19 zt20) 0 fun r28 =>
    br ((r27 == r28) == true)
      (bo (f_i_MultiplicityIn zt21 zt22) 0 fun r29 =>
      bo (f_s_MultiplicityIn zt21 zt22) 0 fun r30 =>
      br ((r29 == r30) == true)
        (bo (f_i_FormatSequence zv3 zt24) ByteArray.empty fun r31 =>
        bo (f_s_FormatSequence zv3 zt24) ByteArray.empty fun r32 =>
        br ((r31.toList == r32.toList) == true)
          (bo (f_i_IsZeroFree zv3 zt24) false fun r33 =>
          bo (f_s_IsZeroFree zv3 zt24) false fun r34 =>
          kA (r33 == r34))
          (kA false))
        (kA false))
      (kA false))
    (kA false)
def f_l_FnSequences_m25_1_k {R : Type} (zv1 : List Sc) (zv2 : List Sc) (zv3 : List Sc) (zt13 : List Sc) (zt14 : List Sc) (zt15 : Bool) (zt16 : List Sc) (zt17 : Bool) (zt19 : List Sc) (zt20 : Int) (zt21 : List Sc) (zt22 : Int) (zt24 : List Sc) (zt173 : Bool) (zt174 : Bool) (zt175 : Bool) (zt179 : Bool) (zt180 : Bool) (zt182 : Bool) (zt183 : Bool) (zt187 : Bool) (kA : Bool → Option R) : Option R :=
  kA false
def f_l_FnSequences_m25_2_k {R : Type} (zv1 : List Sc) (zv2 : List Sc) (zv3 : List Sc) (zt13 : List Sc) (zt14 : List Sc) (zt15 : Bool) (zt16 : List Sc) (zt17 : Bool) (zt19 : List Sc) (zt20 : Int) (zt21 : List Sc) (zt22 : Int) (zt24 : List Sc) (zt173 : Bool) (zt174 : Bool) (zt175 : Bool) (zt179 : Bool) (zt180 : Bool) (zt182 : Bool) (zt183 : Bool) (kA : Bool → Option R) : Option R :=
  bo (f_i_SubsumsOfLength zv2 zt19 zt20) 0 fun r35 =>
  bo (f_s_SubsumsOfLength zv2 zt19 zt20) 0 fun r36 =>
  br ((r35 == r36) == true)
    (bo (f_i_MultiplicityIn zt21 zt22) 0 fun r37 =>
    bo (f_s_MultiplicityIn zt21 zt22) 0 fun r38 =>
    br ((r37 == r38) == true)
      (bo (f_i_FormatSequence zv3 zt24) ByteArray.empty fun r39 =>
      bo (f_s_FormatSequence zv3 zt24) ByteArray.empty fun r40 =>
      br ((r39.toList == r40.toList) == true)
        (bo (f_i_IsZeroFree zv3 zt24) false fun r41 =>
        bo (f_s_IsZeroFree zv3 zt24) false fun r42 =>
        kA (r41 == r42))
        (kA false))
      (kA false))
    (kA false)
def f_l_FnSequences_m25_3_k {R : Type} (zv1 : List Sc) (zv2 : List Sc) (zv3 : List Sc) (zt13 : List Sc) (zt14 : List Sc) (zt15 : Bool) (zt16 : List Sc) (zt17 : Bool) (zt19 : List Sc) (zt20 : Int) (zt21 : List Sc) (zt22 : Int) (zt24 : List Sc) (zt173 : Bool) (zt174 : Bool) (zt175 : Bool) (zt179 : Bool) (zt180 : Bool) (kA : Bool → Option R) : Option R :=
  kA false
def f_l_FnSequences_m25_4_k {R : Type} (zv1 : List Sc) (zv2 : List Sc) (zv3 : List Sc) (zt13 : List Sc) (zt14 : List Sc) (zt15 : Bool) (zt16 : List Sc) (zt17 : Bool) (zt19 : List Sc) (zt20 : Int) (zt21 : List Sc) (zt22 : Int) (zt24 : List Sc) (zt173 : Bool) (zt174 : Bool) (zt175 : Bool) (kA : Bool → Option R) : Option R :=
  kA false
def f_l_FnSequences_w25_k {R : Type} (v1 : List Sc) (v2 : List Sc) (v3 : List Sc) (t13 : List Sc) (t14 : List Sc) (t15 : Bool) (t16 : List Sc) (t17 : Bool) (t19 : List Sc) (t20 : Int) (t21 : List Sc) (t22 : Int) (t24 : List Sc) (kA : Bool → Option R) : Option R :=
  br ((t15 == t17) == true)
    (bo (f_l_sameInts t14 t16) false fun r25 =>
    br (r25 == true)
      (br ((!t15) == false)
        (bo (f_i_IsSequence v1 t16) false fun r26 =>
        br (r26 == true)
          (f_l_FnSequences_m25_0_k v1 v2 v3 t13 t14 t15 t16 t17 t19 t20 t21 t22 t24 t15 t17 (t15 == t17) r25 r25 t15 (!t15) r26 (t16.length : Int) (t13.length : Int) ((t16.length : Int) == (t13.length : Int)) ((t16.length : Int) == (t13.length : Int)) ((t16.length : Int) == (t13.length : Int)) ((t16.length : Int) == (t13.length : Int)) kA)
          (f_l_FnSequences_m25_1_k v1 v2 v3 t13 t14 t15 t16 t17 t19 t20 t21 t22 t24 t15 t17 (t15 == t17) r25 r25 t15 (!t15) r26 kA))
        (f_l_FnSequences_m25_2_k v1 v2 v3 t13 t14 t15 t16 t17 t19 t20 t21 t22 t24 t15 t17 (t15 == t17) r25 r25 t15 (!t15) kA))
      (f_l_FnSequences_m25_3_k v1 v2 v3 t13 t14 t15 t16 t17 t19 t20 t21 t22 t24 t15 t17 (t15 == t17) r25 r25 kA))
    (f_l_FnSequences_m25_4_k v1 v2 v3 t13 t14 t15 t16 t17 t19 t20 t21 t22 t24 t15 t17 (t15 == t17) kA)
def f_l_FnSequences_w25 (v1 : List Sc) (v2 : List Sc) (v3 : List Sc) (t13 : List Sc) (t14 : List Sc) (t15 : Bool) (t16 : List Sc) (t17 : Bool) (t19 : List Sc) (t20 : Int) (t21 : List Sc) (t22 : Int) (t24 : List Sc) : Option (Bool) := f_l_FnSequences_w25_k v1 v2 v3 t13 t14 t15 t16 t17 t19 t20 t21 t22 t24 some
def f_l_FnSequences_w19_k {R : Type} (t0 : List Sc) (kA : Bool → Option R) : Option R :=
  bo (f_s_DrawSortSequence t0) ([], []) fun r19 =>
  bo (f_i_SortSequence r19.1 r19.2) ([], false) fun r20 =>
  bo (f_s_SortSequence r19.1 r19.2) ([], false) fun r21 =>
  bo (f_s_DrawSubsumsOfLength t0) ([], [], 0) fun r22 =>
  bo (f_s_DrawMultiplicityIn t0) ([], 0) fun r23 =>
  bo (f_s_DrawFormatSequence t0) ([], []) fun r24 =>
  bo (f_l_FnSequences_w25 r19.1 r22.1 r24.1 r19.2 r20.1 r20.2 r21.1 r21.2 r22.2.1 r22.2.2 r23.1 r23.2 r24.2) false fun w43 =>
  kA w43
def f_l_FnSequences_w19 (t0 : List Sc) : Option (Bool) := f_l_FnSequences_w19_k t0 some
def f_l_FnSequences_w11_k {R : Type} (v0 : List Sc) (t0 : List Sc) (t4 : List Sc) (t7 : List Sc) (t9 : Int) (kA : Bool → Option R) : Option R :=
  br ((decide (t9 ≥ 0)))
    (bl1 (loopL (f_l_FnSequences_r0 t0 t9) (v0, t4, t7, 0, 1)) ([], [], [], 0) fun e16 =>
    br ((e16.2.2.2 != t9) == false)
      (bo (f_i_SubsumsOfLength e16.1 e16.2.1 0) 0 fun r17 =>
      br ((r17 != 1) == false)
        (br ((decide ((e16.2.1.length : Int) > 0)) == true)
          (br ((decide ((e16.2.2.1.length : Int) > 0)) == true)
            (bo (f_s_OrderOf e16.1) 0 fun r18 =>
            br ((decide ((e16.2.2.1.length : Int) > r18)))
              (kA false)
              (bo (f_l_FnSequences_w19 t0) false fun w44 =>
              kA w44))
            (bo (f_l_FnSequences_w19 t0) false fun w45 =>
            kA w45))
          (bo (f_l_FnSequences_w19 t0) false fun w46 =>
          kA w46))
        (kA false))
      (kA false))
    (bo (f_l_FnSequences_w19 t0) false fun w47 =>
    kA w47)
def f_l_FnSequences_w11 (v0 : List Sc) (t0 : List Sc) (t4 : List Sc) (t7 : List Sc) (t9 : Int) : Option (Bool) := f_l_FnSequences_w11_k v0 t0 t4 t7 t9 some
def f_l_FnSequences_w8_k {R : Type} (v0 : List Sc) (t0 : List Sc) (t4 : List Sc) (t7 : List Sc) (kA : Bool → Option R) : Option R :=
  bo (f_i_SubsumsOf v0 t4) 0 fun r9 =>
  bo (f_s_SubsumsOf v0 t4) 0 fun r10 =>
  br ((r9 != r10) == false)
    (bo (f_i_IsSequence v0 t4) false fun r11 =>
    bo (f_s_IsSequence v0 t4) false fun r12 =>
    br ((!(r11 == r12)) == false)
      (bo (f_i_SumOfSequence v0 t4) 0 fun r13 =>
      bo (f_s_SumOfSequence v0 t4) 0 fun r14 =>
      br ((r13 != r14))
        (kA false)
        (bo (f_l_FnSequences_w11 v0 t0 t4 t7 r9) false fun w48 =>
        kA w48))
      (kA false))
    (kA false)
def f_l_FnSequences_w8 (v0 : List Sc) (t0 : List Sc) (t4 : List Sc) (t7 : List Sc) : Option (Bool) := f_l_FnSequences_w8_k v0 t0 t4 t7 some
def f_l_FnSequences_w3_k {R : Type} (t0 : List Sc) (kA : Bool → Option R) : Option R :=
  bo (f_s_DrawShortestZero t0) ([], []) fun r2 =>
  bo (f_i_ShortestZero r2.1 r2.2) ([], false) fun r3 =>
  bo (f_s_ShortestZero r2.1 r2.2) ([], false) fun r4 =>
  br ((!(r3.2 == r4.2)) == false)
    (bo (f_l_sameInts r3.1 r4.1) false fun r5 =>
    br ((!r5) == false)
      (br (r3.2 == true)
        (bo (f_i_IsAtom r2.1 r4.1) false fun r6 =>
        br ((!r6) == false)
          (bo (f_s_IsSequence r2.1 r2.2) false fun r7 =>
          br (r7 == true)
            (bo (f_i_IsZeroFree r2.1 r2.2) false fun r8 =>
            br ((r3.2 == r8))
              (kA false)
              (bo (f_l_FnSequences_w8 r2.1 t0 r2.2 r4.1) false fun w49 =>
              kA w49))
            (bo (f_l_FnSequences_w8 r2.1 t0 r2.2 r4.1) false fun w50 =>
            kA w50))
          (kA false))
        (bo (f_s_IsSequence r2.1 r2.2) false fun r51 =>
        br (r51 == true)
          (bo (f_i_IsZeroFree r2.1 r2.2) false fun r52 =>
          br ((r3.2 == r52))
            (kA false)
            (bo (f_l_FnSequences_w8 r2.1 t0 r2.2 r4.1) false fun w53 =>
            kA w53))
          (bo (f_l_FnSequences_w8 r2.1 t0 r2.2 r4.1) false fun w54 =>
          kA w54)))
      (kA false))
    (kA false)
def f_l_FnSequences_w3 (t0 : List Sc) : Option (Bool) := f_l_FnSequences_w3_k t0 some
def f_l_FnSequences_k {R : Type} (L0 : List Sc) (kR : Bool → Option R) : Option R :=
  bo (f_l_big L0) false fun r1 =>
  br (r1)
    (kR true)
    (bo (f_l_FnSequences_w3 L0) false fun w55 =>
    kR w55)
def f_l_FnSequences (L0 : List Sc) : Option (Bool) := f_l_FnSequences_k L0 some
end
end Go.Proofs.Ytphbclogflflmaa
