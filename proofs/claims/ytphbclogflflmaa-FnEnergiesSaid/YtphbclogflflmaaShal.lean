/-
  What the functions compute, as plain functions (printed by gen2.py).
-/
import Derived.Test.YtphbclogflflmaaVGen
set_option linter.unusedVariables false
set_option linter.unusedSimpArgs false
namespace Go.Proofs.Ytphbclogflflmaa
open Go Ev
noncomputable section
def f_l_big_k {R : Type} (code0 : List Sc) (kR : Bool → Option R) : Option R :=
  kR (decide ((code0.length : Int) > 1048576))
def f_l_big (code0 : List Sc) : Option (Bool) := f_l_big_k code0 some

def f_s_l1New_k0 {R : Type} (code0 : List Sc) (h3 : Int) (i4 : Int) (kN : Int × Int → Option R) (kA : Int → Option R) : Option R :=
  br ((decide (i4 < (code0.length : Int))) == true)
    (br ((decide (i4 < 4000)))
      (br (okZ (.n .u8 0) code0 i4)
        (kN ((and64 (w64 ((w64 ((w64 (h3 * 131)) + (w64 (sAt code0 .u8 i4)))) + 7)) 1073741823), (w64 (i4 + 1))))
        none)
      (kA h3))
    (kA h3)
def f_s_l1New_r0 (code0 : List Sc) : (Int × Int) → Option (Ro (Int × Int) (Int) (Unit)) := fun s => f_s_l1New_k0 code0 s.1 s.2 (fun s => some (.again s)) (fun e => some (.one e))
def f_s_l1New_k {R : Type} (code0 : List Sc) (kR : List Sc × Int × Int → Option R) : Option R :=
  bl1 (loopL (f_s_l1New_r0 code0) ((w64 (10101 + (code0.length : Int))), 0)) 0 fun e1 =>
  kR (code0, 0, e1)
def f_s_l1New (code0 : List Sc) : Option (List Sc × Int × Int) := f_s_l1New_k code0 some

def f_s_l1Byte_io_k {R : Type} (h0 : List Sc) (h1 : Int) (h2 : Int) (kR : Int × List Sc × Int × Int → Option R) : Option R :=
  br ((decide (h1 < (h0.length : Int))))
    (br (okZ (.n .u8 0) h0 h1)
      (kR ((and64 (w64 ((and64 (xor64 (shr64 (w64 ((w64 (h2 * 6364136223846793005)) + 1442695040888963407)) 33) (shr64 (w64 ((w64 (h2 * 6364136223846793005)) + 1442695040888963407)) 45)) 255) + (w64 (sAt h0 .u8 h1)))) 255), h0, (w64 (h1 + 1)), (w64 ((w64 (h2 * 6364136223846793005)) + 1442695040888963407))))
      none)
    (kR ((and64 (xor64 (shr64 (w64 ((w64 (h2 * 6364136223846793005)) + 1442695040888963407)) 33) (shr64 (w64 ((w64 (h2 * 6364136223846793005)) + 1442695040888963407)) 45)) 255), h0, h1, (w64 ((w64 (h2 * 6364136223846793005)) + 1442695040888963407))))
def f_s_l1Byte_io (h0 : List Sc) (h1 : Int) (h2 : Int) : Option (Int × List Sc × Int × Int) := f_s_l1Byte_io_k h0 h1 h2 some

def f_s_l1Below_io_k {R : Type} (n1 : Int) (h0 : List Sc) (h1 : Int) (h2 : Int) (kR : Int × List Sc × Int × Int → Option R) : Option R :=
  br ((decide (n1 ≤ 0)))
    (kR (0, h0, h1, h2))
    (br ((decide (n1 ≤ 256)))
      (bo (f_s_l1Byte_io h0 h1 h2) (0, [], 0, 0) fun r1 =>
      br (n1 == 0)
        none
        (kR ((r1.1.tmod n1), r1.2.1, r1.2.2.1, r1.2.2.2)))
      (bo (f_s_l1Byte_io h0 h1 h2) (0, [], 0, 0) fun r2 =>
      bo (f_s_l1Byte_io r2.2.1 r2.2.2.1 r2.2.2.2) (0, [], 0, 0) fun r3 =>
      bo (f_s_l1Byte_io r3.2.1 r3.2.2.1 r3.2.2.2) (0, [], 0, 0) fun r4 =>
      bo (f_s_l1Byte_io r4.2.1 r4.2.2.1 r4.2.2.2) (0, [], 0, 0) fun r5 =>
      br (n1 == 0)
        none
        (kR (((w64 ((w64 ((w64 ((w64 (r2.1 * 16777216)) + (w64 (r3.1 * 65536)))) + (w64 (r4.1 * 256)))) + r5.1)).tmod n1), r5.2.1, r5.2.2.1, r5.2.2.2))))
def f_s_l1Below_io (n1 : Int) (h0 : List Sc) (h1 : Int) (h2 : Int) : Option (Int × List Sc × Int × Int) := f_s_l1Below_io_k n1 h0 h1 h2 some

def f_s_l2Draw_io_k0 {R : Type} (most1 : Int) (o6 : List Sc) (v0 : List Sc) (v1 : Int) (v2 : Int) (v3 : List Sc) (n7 : Int) (i8 : Int) (kN : List Sc × Int × Int × List Sc × Int × Int → Option R) (kA : List Sc × Int × Int × List Sc × Int → Option R) : Option R :=
  br ((decide (i8 < (o6.length : Int))))
    (br (okAt o6 i8)
      (kN (v0, v1, v2, v3, (w64 (n7 * (atI o6 i8))), (w64 (i8 + 1))))
      none)
    (kA (v0, v1, v2, v3, n7))
def f_s_l2Draw_io_r0 (most1 : Int) (o6 : List Sc) : (List Sc × Int × Int × List Sc × Int × Int) → Option (Ro (List Sc × Int × Int × List Sc × Int × Int) (List Sc × Int × Int × List Sc × Int) (Unit)) := fun s => f_s_l2Draw_io_k0 most1 o6 s.1 s.2.1 s.2.2.1 s.2.2.2.1 s.2.2.2.2.1 s.2.2.2.2.2 (fun s => some (.again s)) (fun e => some (.one e))
def f_s_l2Draw_io_k {R : Type} (most1 : Int) (h0 : List Sc) (h1 : Int) (h2 : Int) (kR : List Sc × List Sc × Int × Int → Option R) : Option R :=
  bo (f_s_l1Below_io (([[], [(Sc.n .i64 2)], [(Sc.n .i64 3)], [(Sc.n .i64 4)], [(Sc.n .i64 5)], [(Sc.n .i64 6)], [(Sc.n .i64 7)], [(Sc.n .i64 8)], [(Sc.n .i64 9)], [(Sc.n .i64 10)], [(Sc.n .i64 11)], [(Sc.n .i64 12)], [(Sc.n .i64 2), (Sc.n .i64 2)], [(Sc.n .i64 2), (Sc.n .i64 4)], [(Sc.n .i64 3), (Sc.n .i64 3)], [(Sc.n .i64 2), (Sc.n .i64 6)], [(Sc.n .i64 2), (Sc.n .i64 2), (Sc.n .i64 2)], [(Sc.n .i64 13)], [(Sc.n .i64 16)], [(Sc.n .i64 4), (Sc.n .i64 4)], [(Sc.n .i64 2), (Sc.n .i64 2), (Sc.n .i64 3)], [(Sc.n .i64 2), (Sc.n .i64 3)], [(Sc.n .i64 24)]] : List (List Sc)).length : Int) h0 h1 h2) (0, [], 0, 0) fun r1 =>
  br (inRange r1.1 ([[], [(Sc.n .i64 2)], [(Sc.n .i64 3)], [(Sc.n .i64 4)], [(Sc.n .i64 5)], [(Sc.n .i64 6)], [(Sc.n .i64 7)], [(Sc.n .i64 8)], [(Sc.n .i64 9)], [(Sc.n .i64 10)], [(Sc.n .i64 11)], [(Sc.n .i64 12)], [(Sc.n .i64 2), (Sc.n .i64 2)], [(Sc.n .i64 2), (Sc.n .i64 4)], [(Sc.n .i64 3), (Sc.n .i64 3)], [(Sc.n .i64 2), (Sc.n .i64 6)], [(Sc.n .i64 2), (Sc.n .i64 2), (Sc.n .i64 2)], [(Sc.n .i64 13)], [(Sc.n .i64 16)], [(Sc.n .i64 4), (Sc.n .i64 4)], [(Sc.n .i64 2), (Sc.n .i64 2), (Sc.n .i64 3)], [(Sc.n .i64 2), (Sc.n .i64 3)], [(Sc.n .i64 24)]] : List (List Sc)).length)
    (bl1 (loopL (f_s_l2Draw_io_r0 most1 (([[], [(Sc.n .i64 2)], [(Sc.n .i64 3)], [(Sc.n .i64 4)], [(Sc.n .i64 5)], [(Sc.n .i64 6)], [(Sc.n .i64 7)], [(Sc.n .i64 8)], [(Sc.n .i64 9)], [(Sc.n .i64 10)], [(Sc.n .i64 11)], [(Sc.n .i64 12)], [(Sc.n .i64 2), (Sc.n .i64 2)], [(Sc.n .i64 2), (Sc.n .i64 4)], [(Sc.n .i64 3), (Sc.n .i64 3)], [(Sc.n .i64 2), (Sc.n .i64 6)], [(Sc.n .i64 2), (Sc.n .i64 2), (Sc.n .i64 2)], [(Sc.n .i64 13)], [(Sc.n .i64 16)], [(Sc.n .i64 4), (Sc.n .i64 4)], [(Sc.n .i64 2), (Sc.n .i64 2), (Sc.n .i64 3)], [(Sc.n .i64 2), (Sc.n .i64 3)], [(Sc.n .i64 24)]] : List (List Sc)).getD r1.1.toNat [])) (r1.2.1, r1.2.2.1, r1.2.2.2, [], 1, 0)) ([], 0, 0, [], 0) fun e2 =>
    br ((decide (e2.2.2.2.2 > most1)))
      (kR ([(Sc.n .i64 5)], e2.1, e2.2.1, e2.2.2.1))
      (br (decide (([] : List Sc).length + (([[], [(Sc.n .i64 2)], [(Sc.n .i64 3)], [(Sc.n .i64 4)], [(Sc.n .i64 5)], [(Sc.n .i64 6)], [(Sc.n .i64 7)], [(Sc.n .i64 8)], [(Sc.n .i64 9)], [(Sc.n .i64 10)], [(Sc.n .i64 11)], [(Sc.n .i64 12)], [(Sc.n .i64 2), (Sc.n .i64 2)], [(Sc.n .i64 2), (Sc.n .i64 4)], [(Sc.n .i64 3), (Sc.n .i64 3)], [(Sc.n .i64 2), (Sc.n .i64 6)], [(Sc.n .i64 2), (Sc.n .i64 2), (Sc.n .i64 2)], [(Sc.n .i64 13)], [(Sc.n .i64 16)], [(Sc.n .i64 4), (Sc.n .i64 4)], [(Sc.n .i64 2), (Sc.n .i64 2), (Sc.n .i64 3)], [(Sc.n .i64 2), (Sc.n .i64 3)], [(Sc.n .i64 24)]] : List (List Sc)).getD r1.1.toNat []).length ≤ lim))
        (kR (([] ++ (([[], [(Sc.n .i64 2)], [(Sc.n .i64 3)], [(Sc.n .i64 4)], [(Sc.n .i64 5)], [(Sc.n .i64 6)], [(Sc.n .i64 7)], [(Sc.n .i64 8)], [(Sc.n .i64 9)], [(Sc.n .i64 10)], [(Sc.n .i64 11)], [(Sc.n .i64 12)], [(Sc.n .i64 2), (Sc.n .i64 2)], [(Sc.n .i64 2), (Sc.n .i64 4)], [(Sc.n .i64 3), (Sc.n .i64 3)], [(Sc.n .i64 2), (Sc.n .i64 6)], [(Sc.n .i64 2), (Sc.n .i64 2), (Sc.n .i64 2)], [(Sc.n .i64 13)], [(Sc.n .i64 16)], [(Sc.n .i64 4), (Sc.n .i64 4)], [(Sc.n .i64 2), (Sc.n .i64 2), (Sc.n .i64 3)], [(Sc.n .i64 2), (Sc.n .i64 3)], [(Sc.n .i64 24)]] : List (List Sc)).getD r1.1.toNat [])), e2.1, e2.2.1, e2.2.2.1))
        none))
    none
def f_s_l2Draw_io (most1 : Int) (h0 : List Sc) (h1 : Int) (h2 : Int) : Option (List Sc × List Sc × Int × Int) := f_s_l2Draw_io_k most1 h0 h1 h2 some

def f_s_l1PickInt_io_k {R : Type} (list1 : List Sc) (h0 : List Sc) (h1 : Int) (h2 : Int) (kR : Int × List Sc × Int × Int → Option R) : Option R :=
  bo (f_s_l1Below_io (list1.length : Int) h0 h1 h2) (0, [], 0, 0) fun r1 =>
  br (okAt list1 r1.1)
    (kR ((atI list1 r1.1), r1.2.1, r1.2.2.1, r1.2.2.2))
    none
def f_s_l1PickInt_io (list1 : List Sc) (h0 : List Sc) (h1 : Int) (h2 : Int) : Option (Int × List Sc × Int × Int) := f_s_l1PickInt_io_k list1 h0 h1 h2 some

def f_s_l2Any_io_k {R : Type} (h0 : List Sc) (h1 : Int) (h2 : Int) (kR : List Sc × List Sc × Int × Int → Option R) : Option R :=
  bo (f_s_l2Draw_io 24 h0 h1 h2) ([], [], 0, 0) fun r1 =>
  bo (f_s_l1Below_io 16 r1.2.1 r1.2.2.1 r1.2.2.2) (0, [], 0, 0) fun r2 =>
  br ((r2.1 == 0))
    (bo (f_s_l1PickInt_io [(Sc.n .i64 0), (Sc.n .i64 1), (Sc.n .i64 (-1)), (Sc.n .i64 25), (Sc.n .i64 9223372036854775807)] r2.2.1 r2.2.2.1 r2.2.2.2) (0, [], 0, 0) fun r3 =>
    kR ([(Sc.n .i64 r3.1)], r3.2.1, r3.2.2.1, r3.2.2.2))
    (br ((r2.1 == 1))
      (kR ([(Sc.n .i64 2), (Sc.n .i64 2), (Sc.n .i64 2), (Sc.n .i64 2)], r2.2.1, r2.2.2.1, r2.2.2.2))
      (br ((r2.1 == 2))
        (kR ([(Sc.n .i64 5), (Sc.n .i64 5)], r2.2.1, r2.2.2.1, r2.2.2.2))
        (kR (r1.1, r2.2.1, r2.2.2.1, r2.2.2.2))))
def f_s_l2Any_io (h0 : List Sc) (h1 : Int) (h2 : Int) : Option (List Sc × List Sc × Int × Int) := f_s_l2Any_io_k h0 h1 h2 some

def f_s_l1In_k {R : Type} (x0 : Int) (low1 : Int) (high2 : Int) (kR : Bool → Option R) : Option R :=
  br ((decide (x0 ≥ low1)) == true)
    (kR (decide (x0 ≤ high2)))
    (kR false)
def f_s_l1In (x0 : Int) (low1 : Int) (high2 : Int) : Option (Bool) := f_s_l1In_k x0 low1 high2 some

def f_s_IsGroup_k0 {R : Type} (g1 : List Sc) (n3 : Int) (i4 : Int) (kN : Int × Int → Option R) (kA : Int → Option R) (kB : Unit → Option R) : Option R :=
  br ((decide (i4 < (g1.length : Int))))
    (br (okAt g1 i4)
      (bo (f_s_l1In (atI g1 i4) 2 24) false fun r1 =>
      br ((!r1) == false)
        (br ((decide (i4 > 2)))
          (kB ())
          (br (okAt g1 i4)
            (kN ((w64 (n3 * (atI g1 i4))), (w64 (i4 + 1))))
            none))
        (kB ()))
      none)
    (kA n3)
def f_s_IsGroup_r0 (g1 : List Sc) : (Int × Int) → Option (Ro (Int × Int) (Int) (Unit)) := fun s => f_s_IsGroup_k0 g1 s.1 s.2 (fun s => some (.again s)) (fun e => some (.one e)) (fun e => some (.two e))
def f_s_IsGroup_k {R : Type} (g0 : List Sc) (kR : Bool → Option R) : Option R :=
  bl (loopL (f_s_IsGroup_r0 g0) (1, 0)) 0 ()
    (fun e2 =>
      kR (decide (e2 ≤ 24)))
    (fun e2 =>
      kR false)
def f_s_IsGroup (g0 : List Sc) : Option (Bool) := f_s_IsGroup_k g0 some

def f_s_l2Order_k0 {R : Type} (g1 : List Sc) (n3 : Int) (i4 : Int) (kN : Int × Int → Option R) (kA : Int → Option R) : Option R :=
  br ((decide (i4 < (g1.length : Int))))
    (br (okAt g1 i4)
      (kN ((w64 (n3 * (atI g1 i4))), (w64 (i4 + 1))))
      none)
    (kA n3)
def f_s_l2Order_r0 (g1 : List Sc) : (Int × Int) → Option (Ro (Int × Int) (Int) (Unit)) := fun s => f_s_l2Order_k0 g1 s.1 s.2 (fun s => some (.again s)) (fun e => some (.one e))
def f_s_l2Order_k {R : Type} (g0 : List Sc) (kR : Int → Option R) : Option R :=
  bl1 (loopL (f_s_l2Order_r0 g0) (1, 0)) 0 fun e1 =>
  kR e1
def f_s_l2Order (g0 : List Sc) : Option (Int) := f_s_l2Order_k g0 some

def f_s_OrderOf_k {R : Type} (g0 : List Sc) (kR : Int → Option R) : Option R :=
  bo (f_s_IsGroup g0) false fun r1 =>
  br ((!r1))
    (kR 0)
    (bo (f_s_l2Order g0) 0 fun r2 =>
    kR r2)
def f_s_OrderOf (g0 : List Sc) : Option (Int) := f_s_OrderOf_k g0 some

def f_s_l3Set_io_k0 {R : Type} (n5 : Int) (v0 : List Sc) (v1 : Int) (v2 : Int) (a6 : Int) (k7 : Int) (kN : List Sc × Int × Int × Int × Int → Option R) (kA : List Sc × Int × Int × Int → Option R) : Option R :=
  br ((decide (k7 > 0)))
    (bo (f_s_l1Below_io n5 v0 v1 v2) (0, [], 0, 0) fun r3 =>
    br (decide (r3.1 < 0))
      none
      (kN (r3.2.1, r3.2.2.1, r3.2.2.2, (or64 a6 (shl64 1 r3.1)), (w64 (k7 - 1)))))
    (kA (v0, v1, v2, a6))
def f_s_l3Set_io_r0 (n5 : Int) : (List Sc × Int × Int × Int × Int) → Option (Ro (List Sc × Int × Int × Int × Int) (List Sc × Int × Int × Int) (Unit)) := fun s => f_s_l3Set_io_k0 n5 s.1 s.2.1 s.2.2.1 s.2.2.2.1 s.2.2.2.2 (fun s => some (.again s)) (fun e => some (.one e))
def f_s_l3Set_io_k {R : Type} (g1 : List Sc) (h0 : List Sc) (h1 : Int) (h2 : Int) (kR : Int × List Sc × Int × Int → Option R) : Option R :=
  bo (f_s_OrderOf g1) 0 fun r1 =>
  bo (f_s_l1Below_io 6 h0 h1 h2) (0, [], 0, 0) fun r2 =>
  bl1 (loopL (f_s_l3Set_io_r0 (if r1 > 1 then r1 else 1)) (r2.2.1, r2.2.2.1, r2.2.2.2, 0, r2.1)) ([], 0, 0, 0) fun e4 =>
  bo (f_s_l1Below_io 20 e4.1 e4.2.1 e4.2.2.1) (0, [], 0, 0) fun r5 =>
  br ((r5.1 == 0))
    (br (decide ((if r1 > 1 then r1 else 1) < 0))
      none
      (kR ((w64 ((shl64 1 (if r1 > 1 then r1 else 1)) - 1)), r5.2.1, r5.2.2.1, r5.2.2.2)))
    (br ((r5.1 == 1))
      (bo (f_s_l1PickInt_io [(Sc.n .i64 (-1)), (Sc.n .i64 16777216), (Sc.n .i64 9223372036854775807)] r5.2.1 r5.2.2.1 r5.2.2.2) (0, [], 0, 0) fun r6 =>
      kR (r6.1, r6.2.1, r6.2.2.1, r6.2.2.2))
      (kR (e4.2.2.2, r5.2.1, r5.2.2.1, r5.2.2.2)))
def f_s_l3Set_io (g1 : List Sc) (h0 : List Sc) (h1 : Int) (h2 : Int) : Option (Int × List Sc × Int × Int) := f_s_l3Set_io_k g1 h0 h1 h2 some

def f_s_l3One_g3_k {R : Type} (v0 : List Sc) (v1 : List Sc) (v2 : List Sc) (v3 : Int) (v4 : Int) (kA : Int → Option R) : Option R :=
  bo (f_s_l3Set_io v1 v2 v3 v4) (0, [], 0, 0) fun r3 =>
  kA r3.1
def f_s_l3One_g3 (v0 : List Sc) (v1 : List Sc) (v2 : List Sc) (v3 : Int) (v4 : Int) : Option (Int) := f_s_l3One_g3_k v0 v1 v2 v3 v4 some
def f_s_l3One_k {R : Type} (code0 : List Sc) (kR : List Sc × Int → Option R) : Option R :=
  bo (f_s_l1New code0) ([], 0, 0) fun r1 =>
  bo (f_s_l2Any_io r1.1 r1.2.1 r1.2.2) ([], [], 0, 0) fun r2 =>
  bo (f_s_l3One_g3 [] r2.1 r2.2.1 r2.2.2.1 r2.2.2.2) 0 fun g8 =>
  kR (r2.1, g8)
def f_s_l3One (code0 : List Sc) : Option (List Sc × Int) := f_s_l3One_k code0 some

def f_s_DrawQuadruplesOf_k {R : Type} (code0 : List Sc) (kR : List Sc × Int → Option R) : Option R :=
  bo (f_s_l3One code0) ([], 0) fun r1 =>
  kR (r1.1, r1.2)
def f_s_DrawQuadruplesOf (code0 : List Sc) : Option (List Sc × Int) := f_s_DrawQuadruplesOf_k code0 some

def f_i_within_k {R : Type} (x0 : Int) (lo1 : Int) (hi2 : Int) (kR : Bool → Option R) : Option R :=
  br ((decide (x0 ≥ lo1)) == true)
    (kR (decide (x0 ≤ hi2)))
    (kR false)
def f_i_within (x0 : Int) (lo1 : Int) (hi2 : Int) : Option (Bool) := f_i_within_k x0 lo1 hi2 some

def f_i_IsGroup_k0 {R : Type} (t11 : List Sc) (t12 : Int) (n3 : Int) (t13 : Int) (kN : Int × Int → Option R) (kA : Int → Option R) (kB : Unit → Option R) : Option R :=
  br ((decide (t13 < t12)))
    (br (okAt t11 t13)
      (bo (f_i_within (atI t11 t13) 2 24) false fun r1 =>
      br ((!r1))
        (kB ())
        (kN ((w64 (n3 * (atI t11 t13))), (w64 (t13 + 1)))))
      none)
    (kA n3)
def f_i_IsGroup_r0 (t11 : List Sc) (t12 : Int) : (Int × Int) → Option (Ro (Int × Int) (Int) (Unit)) := fun s => f_i_IsGroup_k0 t11 t12 s.1 s.2 (fun s => some (.again s)) (fun e => some (.one e)) (fun e => some (.two e))
def f_i_IsGroup_k {R : Type} (g0 : List Sc) (kR : Bool → Option R) : Option R :=
  br ((decide ((g0.length : Int) > 3)))
    (kR false)
    (bl (loopL (f_i_IsGroup_r0 g0 (g0.length : Int)) (1, 0)) 0 ()
      (fun e2 =>
        kR (decide (e2 ≤ 24)))
      (fun e2 =>
        kR false))
def f_i_IsGroup (g0 : List Sc) : Option (Bool) := f_i_IsGroup_k g0 some

def f_i_OrderOf_k0 {R : Type} (t10 : List Sc) (t11 : Int) (n3 : Int) (t12 : Int) (kN : Int × Int → Option R) (kA : Int → Option R) : Option R :=
  br ((decide (t12 < t11)))
    (br (okAt t10 t12)
      (kN ((w64 (n3 * (atI t10 t12))), (w64 (t12 + 1))))
      none)
    (kA n3)
def f_i_OrderOf_r0 (t10 : List Sc) (t11 : Int) : (Int × Int) → Option (Ro (Int × Int) (Int) (Unit)) := fun s => f_i_OrderOf_k0 t10 t11 s.1 s.2 (fun s => some (.again s)) (fun e => some (.one e))
def f_i_OrderOf_k {R : Type} (g0 : List Sc) (kR : Int → Option R) : Option R :=
  bo (f_i_IsGroup g0) false fun r1 =>
  br ((!r1))
    (kR 0)
    (bl1 (loopL (f_i_OrderOf_r0 g0 (g0.length : Int)) (1, 0)) 0 fun e2 =>
    kR e2)
def f_i_OrderOf (g0 : List Sc) : Option (Int) := f_i_OrderOf_k g0 some

def f_i_IsSet_k {R : Type} (g0 : List Sc) (a1 : Int) (kR : Bool → Option R) : Option R :=
  bo (f_i_IsGroup g0) false fun r1 =>
  br (r1 == true)
    (br ((decide (a1 ≥ 0)) == true)
      (bo (f_i_OrderOf g0) 0 fun r2 =>
      br (decide (r2 < 0))
        none
        (kR (decide (a1 < (shl64 1 r2)))))
      (kR false))
    (kR false)
def f_i_IsSet (g0 : List Sc) (a1 : Int) : Option (Bool) := f_i_IsSet_k g0 a1 some

def f_i_members_k0 {R : Type} (a0 : Int) (out3 : List Sc) (x4 : Int) (kN : List Sc × Int → Option R) (kA : List Sc → Option R) : Option R :=
  br (decide (x4 < 0))
    none
    (br (((shr64 a0 x4) != 0))
      (br (decide (x4 < 0))
        none
        (br (((and64 (shr64 a0 x4) 1) == 1))
          (br (decide (out3.length + [(Sc.n .i64 x4)].length ≤ lim))
            (kN ((out3 ++ [(Sc.n .i64 x4)]), (w64 (x4 + 1))))
            none)
          (kN (out3, (w64 (x4 + 1))))))
      (kA out3))
def f_i_members_r0 (a0 : Int) : (List Sc × Int) → Option (Ro (List Sc × Int) (List Sc) (Unit)) := fun s => f_i_members_k0 a0 s.1 s.2 (fun s => some (.again s)) (fun e => some (.one e))
def f_i_members_k {R : Type} (a0 : Int) (kR : List Sc → Option R) : Option R :=
  bl1 (loopL (f_i_members_r0 a0) ([], 0)) [] fun e1 =>
  kR e1
def f_i_members (a0 : Int) : Option (List Sc) := f_i_members_k a0 some

def f_i_Group_add_k0 {R : Type} (t12 : List Sc) (t13 : Int) (x1 : Int) (y2 : Int) (sum7 : Int) (unit8 : Int) (t14 : Int) (kN : Int × Int × Int × Int × Int → Option R) (kA : Int → Option R) : Option R :=
  br ((decide (t14 < t13)))
    (br (okAt t12 t14)
      (br ((atI t12 t14) == 0)
        none
        (br ((atI t12 t14) == 0)
          none
          (br ((atI t12 t14) == 0)
            none
            (br ((atI t12 t14) == 0)
              none
              (br ((atI t12 t14) == 0)
                none
                (kN ((w64 (x1.tdiv (atI t12 t14))), (w64 (y2.tdiv (atI t12 t14))), (w64 (sum7 + (w64 (((w64 ((x1.tmod (atI t12 t14)) + (y2.tmod (atI t12 t14)))).tmod (atI t12 t14)) * unit8)))), (w64 (unit8 * (atI t12 t14))), (w64 (t14 + 1)))))))))
      none)
    (kA sum7)
def f_i_Group_add_r0 (t12 : List Sc) (t13 : Int) : (Int × Int × Int × Int × Int) → Option (Ro (Int × Int × Int × Int × Int) (Int) (Unit)) := fun s => f_i_Group_add_k0 t12 t13 s.1 s.2.1 s.2.2.1 s.2.2.2.1 s.2.2.2.2 (fun s => some (.again s)) (fun e => some (.one e))
def f_i_Group_add_k {R : Type} (g0 : List Sc) (x1 : Int) (y2 : Int) (kR : Int → Option R) : Option R :=
  bl1 (loopL (f_i_Group_add_r0 g0 (g0.length : Int)) (x1, y2, 0, 1, 0)) 0 fun e1 =>
  kR e1
def f_i_Group_add (g0 : List Sc) (x1 : Int) (y2 : Int) : Option (Int) := f_i_Group_add_k g0 x1 y2 some

def f_i_Group_negate_k0 {R : Type} (t10 : List Sc) (t11 : Int) (x1 : Int) (sum5 : Int) (unit6 : Int) (t12 : Int) (kN : Int × Int × Int × Int → Option R) (kA : Int → Option R) : Option R :=
  br ((decide (t12 < t11)))
    (br (okAt t10 t12)
      (br ((atI t10 t12) == 0)
        none
        (br ((atI t10 t12) == 0)
          none
          (br ((atI t10 t12) == 0)
            none
            (kN ((w64 (x1.tdiv (atI t10 t12))), (w64 (sum5 + (w64 (((w64 ((atI t10 t12) - (x1.tmod (atI t10 t12)))).tmod (atI t10 t12)) * unit6)))), (w64 (unit6 * (atI t10 t12))), (w64 (t12 + 1)))))))
      none)
    (kA sum5)
def f_i_Group_negate_r0 (t10 : List Sc) (t11 : Int) : (Int × Int × Int × Int) → Option (Ro (Int × Int × Int × Int) (Int) (Unit)) := fun s => f_i_Group_negate_k0 t10 t11 s.1 s.2.1 s.2.2.1 s.2.2.2 (fun s => some (.again s)) (fun e => some (.one e))
def f_i_Group_negate_k {R : Type} (g0 : List Sc) (x1 : Int) (kR : Int → Option R) : Option R :=
  bl1 (loopL (f_i_Group_negate_r0 g0 (g0.length : Int)) (x1, 0, 1, 0)) 0 fun e1 =>
  kR e1
def f_i_Group_negate (g0 : List Sc) (x1 : Int) : Option (Int) := f_i_Group_negate_k g0 x1 some

def f_i_Group_minus_k {R : Type} (g0 : List Sc) (x1 : Int) (y2 : Int) (kR : Int → Option R) : Option R :=
  bo (f_i_Group_negate g0 y2) 0 fun r1 =>
  bo (f_i_Group_add g0 x1 r1) 0 fun r2 =>
  kR r2
def f_i_Group_minus (g0 : List Sc) (x1 : Int) (y2 : Int) : Option (Int) := f_i_Group_minus_k g0 x1 y2 some

def f_i_in_k {R : Type} (a0 : Int) (x1 : Int) (kR : Bool → Option R) : Option R :=
  br (decide (x1 < 0))
    none
    (kR ((and64 (shr64 a0 x1) 1) == 1))
def f_i_in (a0 : Int) (x1 : Int) : Option (Bool) := f_i_in_k a0 x1 some

def f_i_QuadruplesOf_k4 {R : Type} (a1 : Int) (g2 : List Sc) (x7 : Int) (y9 : Int) (t18 : Int) (t19 : Int) (t25 : Int) (t26 : Int) (t32 : Int) (n5 : Int) (t17 : List Sc) (t24 : List Sc) (t31 : List Sc) (t33 : Int) (kN : Int × List Sc × List Sc × List Sc × Int → Option R) (kA : Int × List Sc × List Sc → Option R) : Option R :=
  br ((decide (t33 < t32)))
    (br (inRange t33 (t31).length)
      (br (kAt t31 t33.toNat)
        (bo (f_i_Group_add g2 x7 y9) 0 fun r5 =>
        bo (f_i_Group_minus g2 r5 (atN t31 t33.toNat)) 0 fun r6 =>
        bo (f_i_in a1 r6) false fun r7 =>
        br (r7)
          (kN ((w64 (n5 + 1)), t17, t24, t31, (w64 (t33 + 1))))
          (kN (n5, t17, t24, t31, (w64 (t33 + 1)))))
        none)
      none)
    (kA (n5, t17, t24))
def f_i_QuadruplesOf_r4 (a1 : Int) (g2 : List Sc) (x7 : Int) (y9 : Int) (t18 : Int) (t19 : Int) (t25 : Int) (t26 : Int) (t32 : Int) : (Int × List Sc × List Sc × List Sc × Int) → Option (Ro (Int × List Sc × List Sc × List Sc × Int) (Int × List Sc × List Sc) (Unit)) := fun s => f_i_QuadruplesOf_k4 a1 g2 x7 y9 t18 t19 t25 t26 t32 s.1 s.2.1 s.2.2.1 s.2.2.2.1 s.2.2.2.2 (fun s => some (.again s)) (fun e => some (.one e))
def f_i_QuadruplesOf_k2 {R : Type} (a1 : Int) (g2 : List Sc) (x7 : Int) (t18 : Int) (t19 : Int) (t25 : Int) (n5 : Int) (t17 : List Sc) (t24 : List Sc) (t26 : Int) (kN : Int × List Sc × List Sc × Int → Option R) (kA : Int × List Sc × List Sc × Int → Option R) : Option R :=
  br ((decide (t26 < t25)))
    (br (inRange t26 (t24).length)
      (br (kAt t24 t26.toNat)
        (bo (f_i_members a1) [] fun r4 =>
        bl1 (loopL (f_i_QuadruplesOf_r4 a1 g2 x7 (atN t24 t26.toNat) t18 t19 t25 t26 (r4.length : Int)) (n5, t17, t24, r4, 0)) (0, [], []) fun e8 =>
        kN (e8.1, e8.2.1, e8.2.2, (w64 (t26 + 1))))
        none)
      none)
    (kA (n5, t17, t24, t26))
def f_i_QuadruplesOf_r2 (a1 : Int) (g2 : List Sc) (x7 : Int) (t18 : Int) (t19 : Int) (t25 : Int) : (Int × List Sc × List Sc × Int) → Option (Ro (Int × List Sc × List Sc × Int) (Int × List Sc × List Sc × Int) (Unit)) := fun s => f_i_QuadruplesOf_k2 a1 g2 x7 t18 t19 t25 s.1 s.2.1 s.2.2.1 s.2.2.2 (fun s => some (.again s)) (fun e => some (.one e))
def f_i_QuadruplesOf_k0 {R : Type} (a1 : Int) (g2 : List Sc) (t18 : Int) (n5 : Int) (t17 : List Sc) (t19 : Int) (kN : Int × List Sc × Int → Option R) (kA : Int × List Sc × Int → Option R) : Option R :=
  br ((decide (t19 < t18)))
    (br (inRange t19 (t17).length)
      (br (kAt t17 t19.toNat)
        (bo (f_i_members a1) [] fun r3 =>
        bl1 (loopL (f_i_QuadruplesOf_r2 a1 g2 (atN t17 t19.toNat) t18 t19 (r3.length : Int)) (n5, t17, r3, 0)) (0, [], [], 0) fun e9 =>
        kN (e9.1, e9.2.1, (w64 (t19 + 1))))
        none)
      none)
    (kA (n5, t17, t19))
def f_i_QuadruplesOf_r0 (a1 : Int) (g2 : List Sc) (t18 : Int) : (Int × List Sc × Int) → Option (Ro (Int × List Sc × Int) (Int × List Sc × Int) (Unit)) := fun s => f_i_QuadruplesOf_k0 a1 g2 t18 s.1 s.2.1 s.2.2 (fun s => some (.again s)) (fun e => some (.one e))
def f_i_QuadruplesOf_k {R : Type} (g0 : List Sc) (a1 : Int) (kR : Int → Option R) : Option R :=
  bo (f_i_IsSet g0 a1) false fun r1 =>
  br ((!r1))
    (kR (-1))
    (bo (f_i_members a1) [] fun r2 =>
    bl1 (loopL (f_i_QuadruplesOf_r0 a1 g0 (r2.length : Int)) (0, r2, 0)) (0, [], 0) fun e10 =>
    kR e10.1)
def f_i_QuadruplesOf (g0 : List Sc) (a1 : Int) : Option (Int) := f_i_QuadruplesOf_k g0 a1 some

def f_s_IsSet_k {R : Type} (g0 : List Sc) (a1 : Int) (kR : Bool → Option R) : Option R :=
  bo (f_s_IsGroup g0) false fun r1 =>
  br (r1 == true)
    (bo (f_s_l2Order g0) 0 fun r2 =>
    br (decide (r2 < 0))
      none
      (bo (f_s_l1In a1 0 (w64 ((shl64 1 r2) - 1))) false fun r3 =>
      kR r3))
    (kR false)
def f_s_IsSet (g0 : List Sc) (a1 : Int) : Option (Bool) := f_s_IsSet_k g0 a1 some

def f_s_l3List_k0 {R : Type} (out3 : List Sc) (i4 : Int) (x5 : Int) (kN : List Sc × Int × Int → Option R) (kA : List Sc → Option R) : Option R :=
  br ((decide (x5 > 0)))
    (br (((and64 x5 1) == 1))
      (br (decide (out3.length + [(Sc.n .i64 i4)].length ≤ lim))
        (kN ((out3 ++ [(Sc.n .i64 i4)]), (w64 (i4 + 1)), (shr64 x5 1)))
        none)
      (kN (out3, (w64 (i4 + 1)), (shr64 x5 1))))
    (kA out3)
def f_s_l3List_r0 : (List Sc × Int × Int) → Option (Ro (List Sc × Int × Int) (List Sc) (Unit)) := fun s => f_s_l3List_k0 s.1 s.2.1 s.2.2 (fun s => some (.again s)) (fun e => some (.one e))
def f_s_l3List_k {R : Type} (a0 : Int) (kR : List Sc → Option R) : Option R :=
  bl1 (loopL (f_s_l3List_r0) ([], 0, a0)) [] fun e1 =>
  kR e1
def f_s_l3List (a0 : Int) : Option (List Sc) := f_s_l3List_k a0 some

def f_s_l2Add_k0 {R : Type} (g3 : List Sc) (x1 : Int) (y2 : Int) (z7 : Int) (step8 : Int) (i9 : Int) (kN : Int × Int × Int × Int × Int → Option R) (kA : Int → Option R) : Option R :=
  br ((decide (i9 < (g3.length : Int))))
    (br (okAt g3 i9)
      (br ((atI g3 i9) == 0)
        none
        (br ((atI g3 i9) == 0)
          none
          (br ((atI g3 i9) == 0)
            none
            (br ((atI g3 i9) == 0)
              none
              (br ((atI g3 i9) == 0)
                none
                (kN ((w64 (x1.tdiv (atI g3 i9))), (w64 (y2.tdiv (atI g3 i9))), (w64 (z7 + (w64 (((w64 ((x1.tmod (atI g3 i9)) + (y2.tmod (atI g3 i9)))).tmod (atI g3 i9)) * step8)))), (w64 (step8 * (atI g3 i9))), (w64 (i9 + 1)))))))))
      none)
    (kA z7)
def f_s_l2Add_r0 (g3 : List Sc) : (Int × Int × Int × Int × Int) → Option (Ro (Int × Int × Int × Int × Int) (Int) (Unit)) := fun s => f_s_l2Add_k0 g3 s.1 s.2.1 s.2.2.1 s.2.2.2.1 s.2.2.2.2 (fun s => some (.again s)) (fun e => some (.one e))
def f_s_l2Add_k {R : Type} (g0 : List Sc) (x1 : Int) (y2 : Int) (kR : Int → Option R) : Option R :=
  bl1 (loopL (f_s_l2Add_r0 g0) (x1, y2, 0, 1, 0)) 0 fun e1 =>
  kR e1
def f_s_l2Add (g0 : List Sc) (x1 : Int) (y2 : Int) : Option (Int) := f_s_l2Add_k g0 x1 y2 some

def f_s_l2Negate_k0 {R : Type} (g2 : List Sc) (x1 : Int) (z5 : Int) (step6 : Int) (i7 : Int) (kN : Int × Int × Int × Int → Option R) (kA : Int → Option R) : Option R :=
  br ((decide (i7 < (g2.length : Int))))
    (br (okAt g2 i7)
      (br ((atI g2 i7) == 0)
        none
        (br ((atI g2 i7) == 0)
          none
          (br ((atI g2 i7) == 0)
            none
            (kN ((w64 (x1.tdiv (atI g2 i7))), (w64 (z5 + (w64 (((w64 ((atI g2 i7) - (x1.tmod (atI g2 i7)))).tmod (atI g2 i7)) * step6)))), (w64 (step6 * (atI g2 i7))), (w64 (i7 + 1)))))))
      none)
    (kA z5)
def f_s_l2Negate_r0 (g2 : List Sc) : (Int × Int × Int × Int) → Option (Ro (Int × Int × Int × Int) (Int) (Unit)) := fun s => f_s_l2Negate_k0 g2 s.1 s.2.1 s.2.2.1 s.2.2.2 (fun s => some (.again s)) (fun e => some (.one e))
def f_s_l2Negate_k {R : Type} (g0 : List Sc) (x1 : Int) (kR : Int → Option R) : Option R :=
  bl1 (loopL (f_s_l2Negate_r0 g0) (x1, 0, 1, 0)) 0 fun e1 =>
  kR e1
def f_s_l2Negate (g0 : List Sc) (x1 : Int) : Option (Int) := f_s_l2Negate_k g0 x1 some

def f_s_QuadruplesOf_k4 {R : Type} (a1 : Int) (g2 : List Sc) (i7 : Int) (j8 : Int) (l5 : List Sc) (n6 : Int) (k9 : Int) (kN : List Sc × Int × Int → Option R) (kA : List Sc × Int → Option R) : Option R :=
  br ((decide (k9 < (l5.length : Int))))
    (br (inRange i7 (l5).length)
      (br (kAt l5 i7.toNat)
        (br (inRange j8 (l5).length)
          (br (kAt l5 j8.toNat)
            (bo (f_s_l2Add g2 (atN l5 i7.toNat) (atN l5 j8.toNat)) 0 fun r3 =>
            br (inRange k9 (l5).length)
              (br (kAt l5 k9.toNat)
                (bo (f_s_l2Negate g2 (atN l5 k9.toNat)) 0 fun r4 =>
                bo (f_s_l2Add g2 r3 r4) 0 fun r5 =>
                br (decide (r5 < 0))
                  none
                  (kN (l5, (w64 (n6 + (and64 (shr64 a1 r5) 1))), (w64 (k9 + 1)))))
                none)
              none)
            none)
          none)
        none)
      none)
    (kA (l5, n6))
def f_s_QuadruplesOf_r4 (a1 : Int) (g2 : List Sc) (i7 : Int) (j8 : Int) : (List Sc × Int × Int) → Option (Ro (List Sc × Int × Int) (List Sc × Int) (Unit)) := fun s => f_s_QuadruplesOf_k4 a1 g2 i7 j8 s.1 s.2.1 s.2.2 (fun s => some (.again s)) (fun e => some (.one e))
def f_s_QuadruplesOf_k2 {R : Type} (a1 : Int) (g2 : List Sc) (i7 : Int) (l5 : List Sc) (n6 : Int) (j8 : Int) (kN : List Sc × Int × Int → Option R) (kA : List Sc × Int × Int → Option R) : Option R :=
  br ((decide (j8 < (l5.length : Int))))
    (bl1 (loopL (f_s_QuadruplesOf_r4 a1 g2 i7 j8) (l5, n6, 0)) ([], 0) fun e6 =>
    kN (e6.1, e6.2, (w64 (j8 + 1))))
    (kA (l5, n6, j8))
def f_s_QuadruplesOf_r2 (a1 : Int) (g2 : List Sc) (i7 : Int) : (List Sc × Int × Int) → Option (Ro (List Sc × Int × Int) (List Sc × Int × Int) (Unit)) := fun s => f_s_QuadruplesOf_k2 a1 g2 i7 s.1 s.2.1 s.2.2 (fun s => some (.again s)) (fun e => some (.one e))
def f_s_QuadruplesOf_k0 {R : Type} (a1 : Int) (g2 : List Sc) (l5 : List Sc) (n6 : Int) (i7 : Int) (kN : List Sc × Int × Int → Option R) (kA : List Sc × Int × Int → Option R) : Option R :=
  br ((decide (i7 < (l5.length : Int))))
    (bl1 (loopL (f_s_QuadruplesOf_r2 a1 g2 i7) (l5, n6, 0)) ([], 0, 0) fun e7 =>
    kN (e7.1, e7.2.1, (w64 (i7 + 1))))
    (kA (l5, n6, i7))
def f_s_QuadruplesOf_r0 (a1 : Int) (g2 : List Sc) : (List Sc × Int × Int) → Option (Ro (List Sc × Int × Int) (List Sc × Int × Int) (Unit)) := fun s => f_s_QuadruplesOf_k0 a1 g2 s.1 s.2.1 s.2.2 (fun s => some (.again s)) (fun e => some (.one e))
def f_s_QuadruplesOf_k {R : Type} (g0 : List Sc) (a1 : Int) (kR : Int → Option R) : Option R :=
  bo (f_s_IsSet g0 a1) false fun r1 =>
  br ((!r1))
    (kR (-1))
    (bo (f_s_l3List a1) [] fun r2 =>
    bl1 (loopL (f_s_QuadruplesOf_r0 a1 g0) (r2, 0, 0)) ([], 0, 0) fun e8 =>
    kR e8.2.1)
def f_s_QuadruplesOf (g0 : List Sc) (a1 : Int) : Option (Int) := f_s_QuadruplesOf_k g0 a1 some

def f_i_areSets_k0 {R : Type} (g2 : List Sc) (t7 : List Sc) (t8 : Int) (t9 : Int) (kN : Int → Option R) (kA : Unit → Option R) (kB : Unit → Option R) : Option R :=
  br ((decide (t9 < t8)))
    (br (okAt t7 t9)
      (bo (f_i_IsSet g2 (atI t7 t9)) false fun r1 =>
      br ((!r1))
        (kB ())
        (kN (w64 (t9 + 1))))
      none)
    (kA ())
def f_i_areSets_r0 (g2 : List Sc) (t7 : List Sc) (t8 : Int) : Int → Option (Ro (Int) (Unit) (Unit)) := fun s => f_i_areSets_k0 g2 t7 t8 s (fun s => some (.again s)) (fun e => some (.one e)) (fun e => some (.two e))
def f_i_areSets_k {R : Type} (g0 : List Sc) (l1 : List Sc) (kR : Bool → Option R) : Option R :=
  bl (loopL (f_i_areSets_r0 g0 l1 (l1.length : Int)) 0) () ()
    (fun e2 =>
      bo (f_i_IsGroup g0) false fun r3 =>
      kR r3)
    (fun e2 =>
      kR false)
def f_i_areSets (g0 : List Sc) (l1 : List Sc) : Option (Bool) := f_i_areSets_k g0 l1 some

def f_i_SumTable_k2 {R : Type} (b2 : Int) (g3 : List Sc) (x9 : Int) (t24 : Int) (t25 : Int) (t31 : Int) (out7 : List Sc) (t23 : List Sc) (t30 : List Sc) (t32 : Int) (kN : List Sc × List Sc × List Sc × Int → Option R) (kA : List Sc × List Sc → Option R) : Option R :=
  br ((decide (t32 < t31)))
    (br (inRange t32 (t30).length)
      (br (kAt t30 t32.toNat)
        (bo (f_i_Group_add g3 x9 (atN t30 t32.toNat)) 0 fun r5 =>
        br (inRange r5 (out7).length)
          (br (kAt out7 r5.toNat)
            (br (inRange r5 (out7).length)
              (kN ((out7.set r5.toNat (Sc.n .i64 (w64 ((atN out7 r5.toNat) + 1)))), t23, t30, (w64 (t32 + 1))))
              none)
            none)
          none)
        none)
      none)
    (kA (out7, t23))
def f_i_SumTable_r2 (b2 : Int) (g3 : List Sc) (x9 : Int) (t24 : Int) (t25 : Int) (t31 : Int) : (List Sc × List Sc × List Sc × Int) → Option (Ro (List Sc × List Sc × List Sc × Int) (List Sc × List Sc) (Unit)) := fun s => f_i_SumTable_k2 b2 g3 x9 t24 t25 t31 s.1 s.2.1 s.2.2.1 s.2.2.2 (fun s => some (.again s)) (fun e => some (.one e))
def f_i_SumTable_k0 {R : Type} (b2 : Int) (g3 : List Sc) (t24 : Int) (out7 : List Sc) (t23 : List Sc) (t25 : Int) (kN : List Sc × List Sc × Int → Option R) (kA : List Sc × List Sc × Int → Option R) : Option R :=
  br ((decide (t25 < t24)))
    (br (inRange t25 (t23).length)
      (br (kAt t23 t25.toNat)
        (bo (f_i_members b2) [] fun r4 =>
        bl1 (loopL (f_i_SumTable_r2 b2 g3 (atN t23 t25.toNat) t24 t25 (r4.length : Int)) (out7, t23, r4, 0)) ([], []) fun e6 =>
        kN (e6.1, e6.2, (w64 (t25 + 1))))
        none)
      none)
    (kA (out7, t23, t25))
def f_i_SumTable_r0 (b2 : Int) (g3 : List Sc) (t24 : Int) : (List Sc × List Sc × Int) → Option (Ro (List Sc × List Sc × Int) (List Sc × List Sc × Int) (Unit)) := fun s => f_i_SumTable_k0 b2 g3 t24 s.1 s.2.1 s.2.2 (fun s => some (.again s)) (fun e => some (.one e))
def f_i_SumTable_k {R : Type} (g0 : List Sc) (a1 : Int) (b2 : Int) (kR : List Sc → Option R) : Option R :=
  bo (f_i_areSets g0 [(Sc.n .i64 a1), (Sc.n .i64 b2)]) false fun r1 =>
  br ((!r1))
    (kR [])
    (bo (f_i_OrderOf g0) 0 fun r2 =>
    br (decide (0 ≤ r2) && (decide (r2 ≤ r2) && decide (r2 ≤ (lim : Int))))
      (bo (f_i_members a1) [] fun r3 =>
      bl1 (loopL (f_i_SumTable_r0 b2 g0 (r3.length : Int)) ((List.replicate r2.toNat (Sc.n .i64 0)), r3, 0)) ([], [], 0) fun e7 =>
      kR e7.1)
      none)
def f_i_SumTable (g0 : List Sc) (a1 : Int) (b2 : Int) : Option (List Sc) := f_i_SumTable_k g0 a1 b2 some

def f_i_EnergyOf_k0 {R : Type} (t20 : Int) (n7 : Int) (t19 : List Sc) (t21 : Int) (kN : Int × List Sc × Int → Option R) (kA : Int → Option R) : Option R :=
  br ((decide (t21 < t20)))
    (br (inRange t21 (t19).length)
      (br (kAt t19 t21.toNat)
        (kN ((w64 (n7 + (w64 ((atN t19 t21.toNat) * (atN t19 t21.toNat))))), t19, (w64 (t21 + 1))))
        none)
      none)
    (kA n7)
def f_i_EnergyOf_r0 (t20 : Int) : (Int × List Sc × Int) → Option (Ro (Int × List Sc × Int) (Int) (Unit)) := fun s => f_i_EnergyOf_k0 t20 s.1 s.2.1 s.2.2 (fun s => some (.again s)) (fun e => some (.one e))
def f_i_EnergyOf_k {R : Type} (g0 : List Sc) (a1 : Int) (b2 : Int) (kR : Int → Option R) : Option R :=
  bo (f_i_areSets g0 [(Sc.n .i64 a1), (Sc.n .i64 b2)]) false fun r1 =>
  br ((!r1))
    (kR (-1))
    (bo (f_i_SumTable g0 a1 b2) [] fun r2 =>
    bl1 (loopL (f_i_EnergyOf_r0 (r2.length : Int)) (0, r2, 0)) 0 fun e3 =>
    kR e3)
def f_i_EnergyOf (g0 : List Sc) (a1 : Int) (b2 : Int) : Option (Int) := f_i_EnergyOf_k g0 a1 b2 some

def f_s_l3Bits_k0 {R : Type} (n3 : Int) (x4 : Int) (kN : Int × Int → Option R) (kA : Int → Option R) : Option R :=
  br ((decide (x4 > 0)))
    (kN ((w64 (n3 + (and64 x4 1))), (shr64 x4 1)))
    (kA n3)
def f_s_l3Bits_r0 : (Int × Int) → Option (Ro (Int × Int) (Int) (Unit)) := fun s => f_s_l3Bits_k0 s.1 s.2 (fun s => some (.again s)) (fun e => some (.one e))
def f_s_l3Bits_k {R : Type} (a0 : Int) (kR : Int → Option R) : Option R :=
  bl1 (loopL (f_s_l3Bits_r0) (0, a0)) 0 fun e1 =>
  kR e1
def f_s_l3Bits (a0 : Int) : Option (Int) := f_s_l3Bits_k a0 some

def f_s_CountSet_k {R : Type} (g0 : List Sc) (a1 : Int) (kR : Int → Option R) : Option R :=
  bo (f_s_IsSet g0 a1) false fun r1 =>
  br ((!r1))
    (kR (-1))
    (bo (f_s_l3Bits a1) 0 fun r2 =>
    kR r2)
def f_s_CountSet (g0 : List Sc) (a1 : Int) : Option (Int) := f_s_CountSet_k g0 a1 some

def f_s_l3Two_g4_k {R : Type} (v0 : List Sc) (v1 : List Sc) (v2 : List Sc) (v3 : Int) (v4 : Int) (t7 : Int) (kA : Int → Option R) : Option R :=
  bo (f_s_l3Set_io v1 v2 v3 v4) (0, [], 0, 0) fun r4 =>
  kA r4.1
def f_s_l3Two_g4 (v0 : List Sc) (v1 : List Sc) (v2 : List Sc) (v3 : Int) (v4 : Int) (t7 : Int) : Option (Int) := f_s_l3Two_g4_k v0 v1 v2 v3 v4 t7 some
def f_s_l3Two_k {R : Type} (code0 : List Sc) (kR : List Sc × Int × Int → Option R) : Option R :=
  bo (f_s_l1New code0) ([], 0, 0) fun r1 =>
  bo (f_s_l2Any_io r1.1 r1.2.1 r1.2.2) ([], [], 0, 0) fun r2 =>
  bo (f_s_l3Set_io r2.1 r2.2.1 r2.2.2.1 r2.2.2.2) (0, [], 0, 0) fun r3 =>
  bo (f_s_l3Two_g4 [] r2.1 r3.2.1 r3.2.2.1 r3.2.2.2 r3.1) 0 fun g13 =>
  kR (r2.1, r3.1, g13)
def f_s_l3Two (code0 : List Sc) : Option (List Sc × Int × Int) := f_s_l3Two_k code0 some

def f_s_DrawPopularSums_g2_k {R : Type} (v0 : List Sc) (v1 : List Sc) (t0 : List Sc) (t7 : Int) (t8 : Int) (kA : Int → Option R) : Option R :=
  br (inRange ((t0.length : Int).tmod 6) ([(Sc.n .i64 1), (Sc.n .i64 2), (Sc.n .i64 3), (Sc.n .i64 0), (Sc.n .i64 24), (Sc.n .i64 25)]).length)
    (br (kAt [(Sc.n .i64 1), (Sc.n .i64 2), (Sc.n .i64 3), (Sc.n .i64 0), (Sc.n .i64 24), (Sc.n .i64 25)] ((t0.length : Int).tmod 6).toNat)
      (kA (atN [(Sc.n .i64 1), (Sc.n .i64 2), (Sc.n .i64 3), (Sc.n .i64 0), (Sc.n .i64 24), (Sc.n .i64 25)] ((t0.length : Int).tmod 6).toNat))
      none)
    none
def f_s_DrawPopularSums_g2 (v0 : List Sc) (v1 : List Sc) (t0 : List Sc) (t7 : Int) (t8 : Int) : Option (Int) := f_s_DrawPopularSums_g2_k v0 v1 t0 t7 t8 some
def f_s_DrawPopularSums_k {R : Type} (code0 : List Sc) (kR : List Sc × Int × Int × Int → Option R) : Option R :=
  bo (f_s_l3Two code0) ([], 0, 0) fun r1 =>
  bo (f_s_DrawPopularSums_g2 [] r1.1 code0 r1.2.1 r1.2.2) 0 fun g2 =>
  kR (r1.1, r1.2.1, r1.2.2, g2)
def f_s_DrawPopularSums (code0 : List Sc) : Option (List Sc × Int × Int × Int) := f_s_DrawPopularSums_k code0 some

def f_i_PopularSums_k0 {R : Type} (t3 : Int) (t27 : Int) (out9 : Int) (t26 : List Sc) (t28 : Int) (kN : Int × List Sc × Int → Option R) (kA : Int → Option R) : Option R :=
  br ((decide (t28 < t27)))
    (br (inRange t28 (t26).length)
      (br (kAt t26 t28.toNat)
        (br ((decide ((atN t26 t28.toNat) ≥ t3)))
          (br (decide (t28 < 0))
            none
            (kN ((or64 out9 (shl64 1 t28)), t26, (w64 (t28 + 1)))))
          (kN (out9, t26, (w64 (t28 + 1)))))
        none)
      none)
    (kA out9)
def f_i_PopularSums_r0 (t3 : Int) (t27 : Int) : (Int × List Sc × Int) → Option (Ro (Int × List Sc × Int) (Int) (Unit)) := fun s => f_i_PopularSums_k0 t3 t27 s.1 s.2.1 s.2.2 (fun s => some (.again s)) (fun e => some (.one e))
def f_i_PopularSums_k {R : Type} (g0 : List Sc) (a1 : Int) (b2 : Int) (t3 : Int) (kR : Int → Option R) : Option R :=
  bo (f_i_areSets g0 [(Sc.n .i64 a1), (Sc.n .i64 b2)]) false fun r1 =>
  br ((!r1) == false)
    (bo (f_i_within t3 1 24) false fun r2 =>
    br ((!r2))
      (kR (-1))
      (bo (f_i_SumTable g0 a1 b2) [] fun r3 =>
      bl1 (loopL (f_i_PopularSums_r0 t3 (r3.length : Int)) (0, r3, 0)) 0 fun e4 =>
      kR e4))
    (kR (-1))
def f_i_PopularSums (g0 : List Sc) (a1 : Int) (b2 : Int) (t3 : Int) : Option (Int) := f_i_PopularSums_k g0 a1 b2 t3 some

def f_s_SumTable_k2 {R : Type} (g3 : List Sc) (i10 : Int) (out7 : List Sc) (x8 : List Sc) (y9 : List Sc) (k11 : Int) (kN : List Sc × List Sc × List Sc × Int → Option R) (kA : List Sc × List Sc × List Sc → Option R) : Option R :=
  br ((decide (k11 < (y9.length : Int))))
    (br (inRange i10 (x8).length)
      (br (kAt x8 i10.toNat)
        (br (inRange k11 (y9).length)
          (br (kAt y9 k11.toNat)
            (bo (f_s_l2Add g3 (atN x8 i10.toNat) (atN y9 k11.toNat)) 0 fun r6 =>
            br (inRange r6 (out7).length)
              (br (kAt out7 r6.toNat)
                (br (inRange r6 (out7).length)
                  (kN ((out7.set r6.toNat (Sc.n .i64 (w64 ((atN out7 r6.toNat) + 1)))), x8, y9, (w64 (k11 + 1))))
                  none)
                none)
              none)
            none)
          none)
        none)
      none)
    (kA (out7, x8, y9))
def f_s_SumTable_r2 (g3 : List Sc) (i10 : Int) : (List Sc × List Sc × List Sc × Int) → Option (Ro (List Sc × List Sc × List Sc × Int) (List Sc × List Sc × List Sc) (Unit)) := fun s => f_s_SumTable_k2 g3 i10 s.1 s.2.1 s.2.2.1 s.2.2.2 (fun s => some (.again s)) (fun e => some (.one e))
def f_s_SumTable_k0 {R : Type} (g3 : List Sc) (out7 : List Sc) (x8 : List Sc) (y9 : List Sc) (i10 : Int) (kN : List Sc × List Sc × List Sc × Int → Option R) (kA : List Sc × List Sc × List Sc × Int → Option R) : Option R :=
  br ((decide (i10 < (x8.length : Int))))
    (bl1 (loopL (f_s_SumTable_r2 g3 i10) (out7, x8, y9, 0)) ([], [], []) fun e7 =>
    kN (e7.1, e7.2.1, e7.2.2, (w64 (i10 + 1))))
    (kA (out7, x8, y9, i10))
def f_s_SumTable_r0 (g3 : List Sc) : (List Sc × List Sc × List Sc × Int) → Option (Ro (List Sc × List Sc × List Sc × Int) (List Sc × List Sc × List Sc × Int) (Unit)) := fun s => f_s_SumTable_k0 g3 s.1 s.2.1 s.2.2.1 s.2.2.2 (fun s => some (.again s)) (fun e => some (.one e))
def f_s_SumTable_k {R : Type} (g0 : List Sc) (a1 : Int) (b2 : Int) (kR : List Sc → Option R) : Option R :=
  bo (f_s_IsSet g0 a1) false fun r1 =>
  br ((!r1) == false)
    (bo (f_s_IsSet g0 b2) false fun r2 =>
    br ((!r2))
      (kR [])
      (bo (f_s_l2Order g0) 0 fun r3 =>
      br (decide (0 ≤ r3) && (decide (r3 ≤ r3) && decide (r3 ≤ (lim : Int))))
        (bo (f_s_l3List a1) [] fun r4 =>
        bo (f_s_l3List b2) [] fun r5 =>
        bl1 (loopL (f_s_SumTable_r0 g0) ((List.replicate r3.toNat (Sc.n .i64 0)), r4, r5, 0)) ([], [], [], 0) fun e8 =>
        kR e8.1)
        none))
    (kR [])
def f_s_SumTable (g0 : List Sc) (a1 : Int) (b2 : Int) : Option (List Sc) := f_s_SumTable_k g0 a1 b2 some

def f_s_PopularSums_k0 {R : Type} (t3 : Int) (s9 : List Sc) (out10 : Int) (i11 : Int) (kN : List Sc × Int × Int → Option R) (kA : Int → Option R) : Option R :=
  br ((decide (i11 < (s9.length : Int))))
    (br (inRange i11 (s9).length)
      (br (kAt s9 i11.toNat)
        (br ((decide ((atN s9 i11.toNat) ≥ t3)))
          (br (decide (i11 < 0))
            none
            (kN (s9, (or64 out10 (shl64 1 i11)), (w64 (i11 + 1)))))
          (kN (s9, out10, (w64 (i11 + 1)))))
        none)
      none)
    (kA out10)
def f_s_PopularSums_r0 (t3 : Int) : (List Sc × Int × Int) → Option (Ro (List Sc × Int × Int) (Int) (Unit)) := fun s => f_s_PopularSums_k0 t3 s.1 s.2.1 s.2.2 (fun s => some (.again s)) (fun e => some (.one e))
def f_s_PopularSums_k {R : Type} (g0 : List Sc) (a1 : Int) (b2 : Int) (t3 : Int) (kR : Int → Option R) : Option R :=
  bo (f_s_SumTable g0 a1 b2) [] fun r1 =>
  br (((r1.length : Int) == 0) == false)
    (bo (f_s_l1In t3 1 24) false fun r2 =>
    br ((!r2))
      (kR (-1))
      (bl1 (loopL (f_s_PopularSums_r0 t3) (r1, 0, 0)) 0 fun e3 =>
      kR e3))
    (kR (-1))
def f_s_PopularSums (g0 : List Sc) (a1 : Int) (b2 : Int) (t3 : Int) : Option (Int) := f_s_PopularSums_k g0 a1 b2 t3 some

def f_s_l3Shift_k0 {R : Type} (x2 : Int) (g3 : List Sc) (out7 : Int) (l8 : List Sc) (i9 : Int) (kN : Int × List Sc × Int → Option R) (kA : Int → Option R) : Option R :=
  br ((decide (i9 < (l8.length : Int))))
    (br (inRange i9 (l8).length)
      (br (kAt l8 i9.toNat)
        (bo (f_s_l2Add g3 (atN l8 i9.toNat) x2) 0 fun r2 =>
        br (decide (r2 < 0))
          none
          (kN ((or64 out7 (shl64 1 r2)), l8, (w64 (i9 + 1)))))
        none)
      none)
    (kA out7)
def f_s_l3Shift_r0 (x2 : Int) (g3 : List Sc) : (Int × List Sc × Int) → Option (Ro (Int × List Sc × Int) (Int) (Unit)) := fun s => f_s_l3Shift_k0 x2 g3 s.1 s.2.1 s.2.2 (fun s => some (.again s)) (fun e => some (.one e))
def f_s_l3Shift_k {R : Type} (g0 : List Sc) (a1 : Int) (x2 : Int) (kR : Int → Option R) : Option R :=
  bo (f_s_l3List a1) [] fun r1 =>
  bl1 (loopL (f_s_l3Shift_r0 x2 g0) (0, r1, 0)) 0 fun e3 =>
  kR e3
def f_s_l3Shift (g0 : List Sc) (a1 : Int) (x2 : Int) : Option (Int) := f_s_l3Shift_k g0 a1 x2 some

def f_s_l4Sum_k0 {R : Type} (a1 : Int) (g3 : List Sc) (out7 : Int) (l8 : List Sc) (i9 : Int) (kN : Int × List Sc × Int → Option R) (kA : Int → Option R) : Option R :=
  br ((decide (i9 < (l8.length : Int))))
    (br (inRange i9 (l8).length)
      (br (kAt l8 i9.toNat)
        (bo (f_s_l3Shift g3 a1 (atN l8 i9.toNat)) 0 fun r2 =>
        kN ((or64 out7 r2), l8, (w64 (i9 + 1))))
        none)
      none)
    (kA out7)
def f_s_l4Sum_r0 (a1 : Int) (g3 : List Sc) : (Int × List Sc × Int) → Option (Ro (Int × List Sc × Int) (Int) (Unit)) := fun s => f_s_l4Sum_k0 a1 g3 s.1 s.2.1 s.2.2 (fun s => some (.again s)) (fun e => some (.one e))
def f_s_l4Sum_k {R : Type} (g0 : List Sc) (a1 : Int) (b2 : Int) (kR : Int → Option R) : Option R :=
  bo (f_s_l3List b2) [] fun r1 =>
  bl1 (loopL (f_s_l4Sum_r0 a1 g0) (0, r1, 0)) 0 fun e3 =>
  kR e3
def f_s_l4Sum (g0 : List Sc) (a1 : Int) (b2 : Int) : Option (Int) := f_s_l4Sum_k g0 a1 b2 some

def f_s_SumOfSets_k {R : Type} (g0 : List Sc) (a1 : Int) (b2 : Int) (kR : Int → Option R) : Option R :=
  bo (f_s_IsSet g0 a1) false fun r1 =>
  br ((!r1) == false)
    (bo (f_s_IsSet g0 b2) false fun r2 =>
    br ((!r2))
      (kR (-1))
      (bo (f_s_l4Sum g0 a1 b2) 0 fun r3 =>
      kR r3))
    (kR (-1))
def f_s_SumOfSets (g0 : List Sc) (a1 : Int) (b2 : Int) : Option (Int) := f_s_SumOfSets_k g0 a1 b2 some

def f_s_DrawTripleCount_g5_k {R : Type} (v0 : List Sc) (v1 : List Sc) (v2 : List Sc) (v3 : Int) (v4 : Int) (t8 : Int) (t9 : Int) (kA : Int → Option R) : Option R :=
  bo (f_s_l3Set_io v1 v2 v3 v4) (0, [], 0, 0) fun r5 =>
  kA r5.1
def f_s_DrawTripleCount_g5 (v0 : List Sc) (v1 : List Sc) (v2 : List Sc) (v3 : Int) (v4 : Int) (t8 : Int) (t9 : Int) : Option (Int) := f_s_DrawTripleCount_g5_k v0 v1 v2 v3 v4 t8 t9 some
def f_s_DrawTripleCount_k {R : Type} (code0 : List Sc) (kR : List Sc × Int × Int × Int → Option R) : Option R :=
  bo (f_s_l1New code0) ([], 0, 0) fun r1 =>
  bo (f_s_l2Any_io r1.1 r1.2.1 r1.2.2) ([], [], 0, 0) fun r2 =>
  bo (f_s_l3Set_io r2.1 r2.2.1 r2.2.2.1 r2.2.2.2) (0, [], 0, 0) fun r3 =>
  bo (f_s_l3Set_io r2.1 r3.2.1 r3.2.2.1 r3.2.2.2) (0, [], 0, 0) fun r4 =>
  bo (f_s_DrawTripleCount_g5 [] r2.1 r4.2.1 r4.2.2.1 r4.2.2.2 r3.1 r4.1) 0 fun g22 =>
  kR (r2.1, r3.1, r4.1, g22)
def f_s_DrawTripleCount (code0 : List Sc) : Option (List Sc × Int × Int × Int) := f_s_DrawTripleCount_k code0 some

def f_i_TripleCount_k0 {R : Type} (c3 : Int) (t23 : Int) (n9 : Int) (t22 : List Sc) (t24 : Int) (kN : Int × List Sc × Int → Option R) (kA : Int → Option R) : Option R :=
  br ((decide (t24 < t23)))
    (br (inRange t24 (t22).length)
      (br (kAt t22 t24.toNat)
        (bo (f_i_in c3 t24) false fun r3 =>
        br (r3)
          (kN ((w64 (n9 + (atN t22 t24.toNat))), t22, (w64 (t24 + 1))))
          (kN (n9, t22, (w64 (t24 + 1)))))
        none)
      none)
    (kA n9)
def f_i_TripleCount_r0 (c3 : Int) (t23 : Int) : (Int × List Sc × Int) → Option (Ro (Int × List Sc × Int) (Int) (Unit)) := fun s => f_i_TripleCount_k0 c3 t23 s.1 s.2.1 s.2.2 (fun s => some (.again s)) (fun e => some (.one e))
def f_i_TripleCount_k {R : Type} (g0 : List Sc) (a1 : Int) (b2 : Int) (c3 : Int) (kR : Int → Option R) : Option R :=
  bo (f_i_areSets g0 [(Sc.n .i64 a1), (Sc.n .i64 b2), (Sc.n .i64 c3)]) false fun r1 =>
  br ((!r1))
    (kR (-1))
    (bo (f_i_SumTable g0 a1 b2) [] fun r2 =>
    bl1 (loopL (f_i_TripleCount_r0 c3 (r2.length : Int)) (0, r2, 0)) 0 fun e4 =>
    kR e4)
def f_i_TripleCount (g0 : List Sc) (a1 : Int) (b2 : Int) (c3 : Int) : Option (Int) := f_i_TripleCount_k g0 a1 b2 c3 some

def f_s_TripleCount_k0 {R : Type} (c3 : Int) (s9 : List Sc) (n10 : Int) (i11 : Int) (kN : List Sc × Int × Int → Option R) (kA : Int → Option R) : Option R :=
  br ((decide (i11 < (s9.length : Int))))
    (br (decide (i11 < 0))
      none
      (br (((and64 (shr64 c3 i11) 1) == 1))
        (br (inRange i11 (s9).length)
          (br (kAt s9 i11.toNat)
            (kN (s9, (w64 (n10 + (atN s9 i11.toNat))), (w64 (i11 + 1))))
            none)
          none)
        (kN (s9, n10, (w64 (i11 + 1))))))
    (kA n10)
def f_s_TripleCount_r0 (c3 : Int) : (List Sc × Int × Int) → Option (Ro (List Sc × Int × Int) (Int) (Unit)) := fun s => f_s_TripleCount_k0 c3 s.1 s.2.1 s.2.2 (fun s => some (.again s)) (fun e => some (.one e))
def f_s_TripleCount_k {R : Type} (g0 : List Sc) (a1 : Int) (b2 : Int) (c3 : Int) (kR : Int → Option R) : Option R :=
  bo (f_s_SumTable g0 a1 b2) [] fun r1 =>
  br (((r1.length : Int) == 0) == false)
    (bo (f_s_IsSet g0 c3) false fun r2 =>
    br ((!r2))
      (kR (-1))
      (bl1 (loopL (f_s_TripleCount_r0 c3) (r1, 0, 0)) 0 fun e3 =>
      kR e3))
    (kR (-1))
def f_s_TripleCount (g0 : List Sc) (a1 : Int) (b2 : Int) (c3 : Int) : Option (Int) := f_s_TripleCount_k g0 a1 b2 c3 some

def f_s_l1Once_io_k {R : Type} (n1 : Int) (h0 : List Sc) (h1 : Int) (h2 : Int) (kR : Bool × List Sc × Int × Int → Option R) : Option R :=
  bo (f_s_l1Below_io n1 h0 h1 h2) (0, [], 0, 0) fun r1 =>
  kR ((r1.1 == 0), r1.2.1, r1.2.2.1, r1.2.2.2)
def f_s_l1Once_io (n1 : Int) (h0 : List Sc) (h1 : Int) (h2 : Int) : Option (Bool × List Sc × Int × Int) := f_s_l1Once_io_k n1 h0 h1 h2 some

def f_s_DrawConvolveTables_k0 {R : Type} (v0 : List Sc) (v1 : List Sc) (v2 : List Sc) (v3 : Int) (v4 : Int) (p7 : List Sc) (q8 : List Sc) (i9 : Int) (kN : List Sc × List Sc × List Sc × Int × Int × List Sc × List Sc × Int → Option R) (kA : List Sc × List Sc × List Sc × Int × Int × List Sc × List Sc → Option R) : Option R :=
  bo (f_s_l2Order v1) 0 fun r3 =>
  br ((decide (i9 < r3)))
    (bo (f_s_l1Below_io 5 v2 v3 v4) (0, [], 0, 0) fun r4 =>
    br (decide (p7.length + [(Sc.n .i64 (w64 (r4.1 - 2)))].length ≤ lim))
      (bo (f_s_l1Below_io 5 r4.2.1 r4.2.2.1 r4.2.2.2) (0, [], 0, 0) fun r5 =>
      br (decide (q8.length + [(Sc.n .i64 (w64 (r5.1 - 2)))].length ≤ lim))
        (kN (v0, v1, r5.2.1, r5.2.2.1, r5.2.2.2, (p7 ++ [(Sc.n .i64 (w64 (r4.1 - 2)))]), (q8 ++ [(Sc.n .i64 (w64 (r5.1 - 2)))]), (w64 (i9 + 1))))
        none)
      none)
    (kA (v0, v1, v2, v3, v4, p7, q8))
def f_s_DrawConvolveTables_r0 : (List Sc × List Sc × List Sc × Int × Int × List Sc × List Sc × Int) → Option (Ro (List Sc × List Sc × List Sc × Int × Int × List Sc × List Sc × Int) (List Sc × List Sc × List Sc × Int × Int × List Sc × List Sc) (Unit)) := fun s => f_s_DrawConvolveTables_k0 s.1 s.2.1 s.2.2.1 s.2.2.2.1 s.2.2.2.2.1 s.2.2.2.2.2.1 s.2.2.2.2.2.2.1 s.2.2.2.2.2.2.2 (fun s => some (.again s)) (fun e => some (.one e))
def f_s_DrawConvolveTables_k {R : Type} (code0 : List Sc) (kR : List Sc × List Sc × List Sc → Option R) : Option R :=
  bo (f_s_l1New code0) ([], 0, 0) fun r1 =>
  bo (f_s_l2Draw_io 12 r1.1 r1.2.1 r1.2.2) ([], [], 0, 0) fun r2 =>
  bl1 (loopL (f_s_DrawConvolveTables_r0) ([], r2.1, r2.2.1, r2.2.2.1, r2.2.2.2, [], [], 0)) ([], [], [], 0, 0, [], []) fun e6 =>
  bo (f_s_l1Once_io 10 e6.2.2.1 e6.2.2.2.1 e6.2.2.2.2.1) (false, [], 0, 0) fun r7 =>
  br (r7.1)
    (bo (f_s_l1PickInt_io [(Sc.n .i64 10001), (Sc.n .i64 (-9223372036854775808)), (Sc.n .i64 10000)] r7.2.1 r7.2.2.1 r7.2.2.2) (0, [], 0, 0) fun r8 =>
    br (inRange 0 (e6.2.2.2.2.2.1).length)
      (kR (e6.2.1, (e6.2.2.2.2.2.1.set ((0 : Int).toNat) (Sc.n .i64 r8.1)), e6.2.2.2.2.2.2))
      none)
    (kR (e6.2.1, e6.2.2.2.2.2.1, e6.2.2.2.2.2.2))
def f_s_DrawConvolveTables (code0 : List Sc) : Option (List Sc × List Sc × List Sc) := f_s_DrawConvolveTables_k code0 some

def f_i_copyInts_k {R : Type} (l0 : List Sc) (kR : List Sc → Option R) : Option R :=
  br (decide (([] : List Sc).length + l0.length ≤ lim))
    (kR ([] ++ l0))
    none
def f_i_copyInts (l0 : List Sc) : Option (List Sc) := f_i_copyInts_k l0 some

def f_i_ConvolveTables_k0 {R : Type} (t1 : List Sc) (t2 : List Sc) (t3 : List Sc) (t7 : Int) (t22 : Int) (t21 : List Sc) (t23 : Int) (kN : List Sc × Int → Option R) (kA : Unit → Option R) (kB : List Sc → Option R) : Option R :=
  br ((decide (t23 < t22)))
    (br (inRange t23 (t21).length)
      (br (kAt t21 t23.toNat)
        (bo (f_i_within (atN t21 t23.toNat) (-10000) 10000) false fun r3 =>
        br ((!r3))
          (kB [])
          (kN (t21, (w64 (t23 + 1)))))
        none)
      none)
    (kA ())
def f_i_ConvolveTables_r0 (t1 : List Sc) (t2 : List Sc) (t3 : List Sc) (t7 : Int) (t22 : Int) : (List Sc × Int) → Option (Ro (List Sc × Int) (Unit) (List Sc)) := fun s => f_i_ConvolveTables_k0 t1 t2 t3 t7 t22 s.1 s.2 (fun s => some (.again s)) (fun e => some (.one e)) (fun e => some (.two e))
def f_i_ConvolveTables_k4 {R : Type} (t2 : List Sc) (t3 : List Sc) (t11 : Int) (t12 : Int) (t50 : List Sc) (t51 : Int) (t52 : Int) (t57 : List Sc) (t58 : Int) (t10 : List Sc) (t59 : Int) (kN : List Sc × Int → Option R) (kA : List Sc → Option R) : Option R :=
  br ((decide (t59 < t58)))
    (br (okAt t57 t59)
      (bo (f_i_Group_add t3 t11 t59) 0 fun r6 =>
      br (inRange r6 (t10).length)
        (br (kAt t10 r6.toNat)
          (br (inRange r6 (t10).length)
            (kN ((t10.set r6.toNat (Sc.n .i64 (w64 ((atN t10 r6.toNat) + (w64 (t12 * (atI t57 t59))))))), (w64 (t59 + 1))))
            none)
          none)
        none)
      none)
    (kA t10)
def f_i_ConvolveTables_r4 (t2 : List Sc) (t3 : List Sc) (t11 : Int) (t12 : Int) (t50 : List Sc) (t51 : Int) (t52 : Int) (t57 : List Sc) (t58 : Int) : (List Sc × Int) → Option (Ro (List Sc × Int) (List Sc) (Unit)) := fun s => f_i_ConvolveTables_k4 t2 t3 t11 t12 t50 t51 t52 t57 t58 s.1 s.2 (fun s => some (.again s)) (fun e => some (.one e))
def f_i_ConvolveTables_k2 {R : Type} (t2 : List Sc) (t3 : List Sc) (t50 : List Sc) (t51 : Int) (t10 : List Sc) (t52 : Int) (kN : List Sc × Int → Option R) (kA : List Sc × Int → Option R) : Option R :=
  br ((decide (t52 < t51)))
    (br (okAt t50 t52)
      (bl1 (loopL (f_i_ConvolveTables_r4 t2 t3 t52 (atI t50 t52) t50 t51 t52 t2 (t2.length : Int)) (t10, 0)) [] fun e7 =>
      kN (e7, (w64 (t52 + 1))))
      none)
    (kA (t10, t52))
def f_i_ConvolveTables_r2 (t2 : List Sc) (t3 : List Sc) (t50 : List Sc) (t51 : Int) : (List Sc × Int) → Option (Ro (List Sc × Int) (List Sc × Int) (Unit)) := fun s => f_i_ConvolveTables_k2 t2 t3 t50 t51 s.1 s.2 (fun s => some (.again s)) (fun e => some (.one e))
def f_i_ConvolveTables_k {R : Type} (L0 : List Sc) (p1 : List Sc) (p2 : List Sc) (kR : List Sc → Option R) : Option R :=
  bo (f_i_OrderOf L0) 0 fun r1 =>
  bo (f_i_copyInts p1) [] fun r2 =>
  br (decide (r2.length + p2.length ≤ lim))
    (bl (loopL (f_i_ConvolveTables_r0 p1 p2 L0 r1 ((r2 ++ p2).length : Int)) ((r2 ++ p2), 0)) () []
      (fun e4 =>
        bo (f_i_IsGroup L0) false fun r5 =>
        br ((!r5) == false)
          (br (((p1.length : Int) != r1) == false)
            (br (((p2.length : Int) != r1))
              (kR [])
              (br (decide (0 ≤ r1) && (decide (r1 ≤ r1) && decide (r1 ≤ (lim : Int))))
                (bl1 (loopL (f_i_ConvolveTables_r2 p2 L0 p1 (p1.length : Int)) ((List.replicate r1.toNat (Sc.n .i64 0)), 0)) ([], 0) fun e8 =>
                kR e8.1)
                none))
            (kR []))
          (kR []))
      (fun e4 =>
        kR e4))
    none
def f_i_ConvolveTables (L0 : List Sc) (p1 : List Sc) (p2 : List Sc) : Option (List Sc) := f_i_ConvolveTables_k L0 p1 p2 some

def f_s_DrawCorrelationOf_k {R : Type} (code0 : List Sc) (kR : List Sc × Int × Int → Option R) : Option R :=
  bo (f_s_l3Two code0) ([], 0, 0) fun r1 =>
  kR (r1.1, r1.2.1, r1.2.2)
def f_s_DrawCorrelationOf (code0 : List Sc) : Option (List Sc × Int × Int) := f_s_DrawCorrelationOf_k code0 some

def f_s_DrawEnergyOf_k {R : Type} (code0 : List Sc) (kR : List Sc × Int × Int → Option R) : Option R :=
  bo (f_s_l3Two code0) ([], 0, 0) fun r1 =>
  kR (r1.1, r1.2.1, r1.2.2)
def f_s_DrawEnergyOf (code0 : List Sc) : Option (List Sc × Int × Int) := f_s_DrawEnergyOf_k code0 some

def f_s_l8Table_k0 {R : Type} (p1 : List Sc) (g2 : List Sc) (i5 : Int) (kN : Int → Option R) (kA : Unit → Option R) (kB : Unit → Option R) : Option R :=
  br ((decide (i5 < (p1.length : Int))))
    (br (okAt p1 i5)
      (bo (f_s_l1In (atI p1 i5) (-10000) 10000) false fun r1 =>
      br ((!r1))
        (kB ())
        (kN (w64 (i5 + 1))))
      none)
    (kA ())
def f_s_l8Table_r0 (p1 : List Sc) (g2 : List Sc) : Int → Option (Ro (Int) (Unit) (Unit)) := fun s => f_s_l8Table_k0 p1 g2 s (fun s => some (.again s)) (fun e => some (.one e)) (fun e => some (.two e))
def f_s_l8Table_k {R : Type} (g0 : List Sc) (p1 : List Sc) (kR : Bool → Option R) : Option R :=
  bl (loopL (f_s_l8Table_r0 p1 g0) 0) () ()
    (fun e2 =>
      bo (f_s_IsGroup g0) false fun r3 =>
      br (r3 == true)
        (bo (f_s_l2Order g0) 0 fun r4 =>
        kR ((p1.length : Int) == r4))
        (kR false))
    (fun e2 =>
      kR false)
def f_s_l8Table (g0 : List Sc) (p1 : List Sc) : Option (Bool) := f_s_l8Table_k g0 p1 some

def f_s_ConvolveTables_k2 {R : Type} (p1 : List Sc) (q2 : List Sc) (g3 : List Sc) (i8 : Int) (out7 : List Sc) (k9 : Int) (kN : List Sc × Int → Option R) (kA : List Sc → Option R) : Option R :=
  br ((decide (k9 < (q2.length : Int))))
    (bo (f_s_l2Add g3 i8 k9) 0 fun r3 =>
    br (inRange r3 (out7).length)
      (br (kAt out7 r3.toNat)
        (br (okAt p1 i8)
          (br (okAt q2 k9)
            (br (inRange r3 (out7).length)
              (kN ((out7.set r3.toNat (Sc.n .i64 (w64 ((atN out7 r3.toNat) + (w64 ((atI p1 i8) * (atI q2 k9))))))), (w64 (k9 + 1))))
              none)
            none)
          none)
        none)
      none)
    (kA out7)
def f_s_ConvolveTables_r2 (p1 : List Sc) (q2 : List Sc) (g3 : List Sc) (i8 : Int) : (List Sc × Int) → Option (Ro (List Sc × Int) (List Sc) (Unit)) := fun s => f_s_ConvolveTables_k2 p1 q2 g3 i8 s.1 s.2 (fun s => some (.again s)) (fun e => some (.one e))
def f_s_ConvolveTables_k0 {R : Type} (p1 : List Sc) (q2 : List Sc) (g3 : List Sc) (out7 : List Sc) (i8 : Int) (kN : List Sc × Int → Option R) (kA : List Sc × Int → Option R) : Option R :=
  br ((decide (i8 < (p1.length : Int))))
    (bl1 (loopL (f_s_ConvolveTables_r2 p1 q2 g3 i8) (out7, 0)) [] fun e4 =>
    kN (e4, (w64 (i8 + 1))))
    (kA (out7, i8))
def f_s_ConvolveTables_r0 (p1 : List Sc) (q2 : List Sc) (g3 : List Sc) : (List Sc × Int) → Option (Ro (List Sc × Int) (List Sc × Int) (Unit)) := fun s => f_s_ConvolveTables_k0 p1 q2 g3 s.1 s.2 (fun s => some (.again s)) (fun e => some (.one e))
def f_s_ConvolveTables_k {R : Type} (g0 : List Sc) (p1 : List Sc) (q2 : List Sc) (kR : List Sc → Option R) : Option R :=
  bo (f_s_l8Table g0 p1) false fun r1 =>
  br ((!r1) == false)
    (bo (f_s_l8Table g0 q2) false fun r2 =>
    br ((!r2))
      (kR [])
      (br (decide (0 ≤ (p1.length : Int)) && (decide ((p1.length : Int) ≤ (p1.length : Int)) && decide ((p1.length : Int) ≤ (lim : Int))))
        (bl1 (loopL (f_s_ConvolveTables_r0 p1 q2 g0) ((List.replicate (p1.length : Int).toNat (Sc.n .i64 0)), 0)) ([], 0) fun e5 =>
        kR e5.1)
        none))
    (kR [])
def f_s_ConvolveTables (g0 : List Sc) (p1 : List Sc) (q2 : List Sc) : Option (List Sc) := f_s_ConvolveTables_k g0 p1 q2 some

def f_l_sameInts_k0 {R : Type} (a0 : List Sc) (b1 : List Sc) (i5 : Int) (kN : Int → Option R) (kA : Unit → Option R) (kB : Unit → Option R) : Option R :=
  br ((decide (i5 < (a0.length : Int))))
    (br (okAt a0 i5)
      (br (okAt b1 i5)
        (br (((atI a0 i5) != (atI b1 i5)))
          (kB ())
          (kN (w64 (i5 + 1))))
        none)
      none)
    (kA ())
def f_l_sameInts_r0 (a0 : List Sc) (b1 : List Sc) : Int → Option (Ro (Int) (Unit) (Unit)) := fun s => f_l_sameInts_k0 a0 b1 s (fun s => some (.again s)) (fun e => some (.one e)) (fun e => some (.two e))
def f_l_sameInts_k {R : Type} (a0 : List Sc) (b1 : List Sc) (kR : Bool → Option R) : Option R :=
  br (((a0.length : Int) != (b1.length : Int)))
    (kR false)
    (bl (loopL (f_l_sameInts_r0 a0 b1) 0) () ()
      (fun e1 =>
        kR true)
      (fun e1 =>
        kR false))
def f_l_sameInts (a0 : List Sc) (b1 : List Sc) : Option (Bool) := f_l_sameInts_k a0 b1 some

def f_l_total_k0 {R : Type} (l0 : List Sc) (n3 : Int) (i4 : Int) (kN : Int × Int → Option R) (kA : Int → Option R) : Option R :=
  br ((decide (i4 < (l0.length : Int))))
    (br (okAt l0 i4)
      (kN ((w64 (n3 + (atI l0 i4))), (w64 (i4 + 1))))
      none)
    (kA n3)
def f_l_total_r0 (l0 : List Sc) : (Int × Int) → Option (Ro (Int × Int) (Int) (Unit)) := fun s => f_l_total_k0 l0 s.1 s.2 (fun s => some (.again s)) (fun e => some (.one e))
def f_l_total_k {R : Type} (l0 : List Sc) (kR : Int → Option R) : Option R :=
  bl1 (loopL (f_l_total_r0 l0) (0, 0)) 0 fun e1 =>
  kR e1
def f_l_total (l0 : List Sc) : Option (Int) := f_l_total_k l0 some

def f_i_Group_opposite_k0 {R : Type} (g2 : List Sc) (t10 : Int) (out5 : Int) (t9 : List Sc) (t11 : Int) (kN : Int × List Sc × Int → Option R) (kA : Int → Option R) : Option R :=
  br ((decide (t11 < t10)))
    (br (inRange t11 (t9).length)
      (br (kAt t9 t11.toNat)
        (bo (f_i_Group_negate g2 (atN t9 t11.toNat)) 0 fun r2 =>
        br (decide (r2 < 0))
          none
          (kN ((or64 out5 (shl64 1 r2)), t9, (w64 (t11 + 1)))))
        none)
      none)
    (kA out5)
def f_i_Group_opposite_r0 (g2 : List Sc) (t10 : Int) : (Int × List Sc × Int) → Option (Ro (Int × List Sc × Int) (Int) (Unit)) := fun s => f_i_Group_opposite_k0 g2 t10 s.1 s.2.1 s.2.2 (fun s => some (.again s)) (fun e => some (.one e))
def f_i_Group_opposite_k {R : Type} (g0 : List Sc) (a1 : Int) (kR : Int → Option R) : Option R :=
  bo (f_i_members a1) [] fun r1 =>
  bl1 (loopL (f_i_Group_opposite_r0 g0 (r1.length : Int)) (0, r1, 0)) 0 fun e3 =>
  kR e3
def f_i_Group_opposite (g0 : List Sc) (a1 : Int) : Option (Int) := f_i_Group_opposite_k g0 a1 some

def f_i_CorrelationOf_k {R : Type} (g0 : List Sc) (a1 : Int) (b2 : Int) (kR : List Sc → Option R) : Option R :=
  bo (f_i_areSets g0 [(Sc.n .i64 a1), (Sc.n .i64 b2)]) false fun r1 =>
  br ((!r1))
    (kR [])
    (bo (f_i_Group_opposite g0 b2) 0 fun r2 =>
    bo (f_i_SumTable g0 a1 r2) [] fun r3 =>
    kR r3)
def f_i_CorrelationOf (g0 : List Sc) (a1 : Int) (b2 : Int) : Option (List Sc) := f_i_CorrelationOf_k g0 a1 b2 some

def f_s_l3Negate_k0 {R : Type} (g2 : List Sc) (out5 : Int) (l6 : List Sc) (i7 : Int) (kN : Int × List Sc × Int → Option R) (kA : Int → Option R) : Option R :=
  br ((decide (i7 < (l6.length : Int))))
    (br (inRange i7 (l6).length)
      (br (kAt l6 i7.toNat)
        (bo (f_s_l2Negate g2 (atN l6 i7.toNat)) 0 fun r2 =>
        br (decide (r2 < 0))
          none
          (kN ((or64 out5 (shl64 1 r2)), l6, (w64 (i7 + 1)))))
        none)
      none)
    (kA out5)
def f_s_l3Negate_r0 (g2 : List Sc) : (Int × List Sc × Int) → Option (Ro (Int × List Sc × Int) (Int) (Unit)) := fun s => f_s_l3Negate_k0 g2 s.1 s.2.1 s.2.2 (fun s => some (.again s)) (fun e => some (.one e))
def f_s_l3Negate_k {R : Type} (g0 : List Sc) (a1 : Int) (kR : Int → Option R) : Option R :=
  bo (f_s_l3List a1) [] fun r1 =>
  bl1 (loopL (f_s_l3Negate_r0 g0) (0, r1, 0)) 0 fun e3 =>
  kR e3
def f_s_l3Negate (g0 : List Sc) (a1 : Int) : Option (Int) := f_s_l3Negate_k g0 a1 some

def f_s_CorrelationOf_k {R : Type} (g0 : List Sc) (a1 : Int) (b2 : Int) (kR : List Sc → Option R) : Option R :=
  bo (f_s_IsSet g0 a1) false fun r1 =>
  br ((!r1) == false)
    (bo (f_s_IsSet g0 b2) false fun r2 =>
    br ((!r2))
      (kR [])
      (bo (f_s_l3Negate g0 b2) 0 fun r3 =>
      bo (f_s_SumTable g0 a1 r3) [] fun r4 =>
      kR r4))
    (kR [])
def f_s_CorrelationOf (g0 : List Sc) (a1 : Int) (b2 : Int) : Option (List Sc) := f_s_CorrelationOf_k g0 a1 b2 some

def f_s_EnergyOf_k0 {R : Type} (t7 : List Sc) (n8 : Int) (i9 : Int) (kN : List Sc × Int × Int → Option R) (kA : Int → Option R) : Option R :=
  br ((decide (i9 < (t7.length : Int))))
    (br (inRange i9 (t7).length)
      (br (kAt t7 i9.toNat)
        (br (inRange i9 (t7).length)
          (br (kAt t7 i9.toNat)
            (kN (t7, (w64 (n8 + (w64 ((atN t7 i9.toNat) * (atN t7 i9.toNat))))), (w64 (i9 + 1))))
            none)
          none)
        none)
      none)
    (kA n8)
def f_s_EnergyOf_r0 : (List Sc × Int × Int) → Option (Ro (List Sc × Int × Int) (Int) (Unit)) := fun s => f_s_EnergyOf_k0 s.1 s.2.1 s.2.2 (fun s => some (.again s)) (fun e => some (.one e))
def f_s_EnergyOf_k {R : Type} (g0 : List Sc) (a1 : Int) (b2 : Int) (kR : Int → Option R) : Option R :=
  bo (f_s_SumTable g0 a1 b2) [] fun r1 =>
  br (((r1.length : Int) == 0))
    (kR (-1))
    (bl1 (loopL (f_s_EnergyOf_r0) (r1, 0, 0)) 0 fun e2 =>
    kR e2)
def f_s_EnergyOf (g0 : List Sc) (a1 : Int) (b2 : Int) : Option (Int) := f_s_EnergyOf_k g0 a1 b2 some

def f_l_FnEnergies_w20_k {R : Type} (t0 : List Sc) (kA : Bool → Option R) : Option R :=
  bo (f_s_DrawConvolveTables t0) ([], [], []) fun r16 =>
  bo (f_i_ConvolveTables r16.1 r16.2.1 r16.2.2) [] fun r17 =>
  bo (f_s_DrawCorrelationOf t0) ([], 0, 0) fun r18 =>
  bo (f_s_DrawEnergyOf t0) ([], 0, 0) fun r19 =>
  bo (f_s_ConvolveTables r16.1 r16.2.1 r16.2.2) [] fun r20 =>
  bo (f_l_sameInts r17 r20) false fun r21 =>
  br (r21 == true)
    (br (((r17.length : Int) == 0) == false)
      (bo (f_l_total r17) 0 fun r22 =>
      bo (f_l_total r16.2.1) 0 fun r23 =>
      bo (f_l_total r16.2.2) 0 fun r24 =>
      br ((r22 == (w64 (r23 * r24))) == true)
        (bo (f_i_CorrelationOf r18.1 r18.2.1 r18.2.2) [] fun r25 =>
        bo (f_s_CorrelationOf r18.1 r18.2.1 r18.2.2) [] fun r26 =>
        bo (f_l_sameInts r25 r26) false fun r27 =>
        br (r27 == true)
          (bo (f_i_EnergyOf r19.1 r19.2.1 r19.2.2) 0 fun r28 =>
          bo (f_s_EnergyOf r19.1 r19.2.1 r19.2.2) 0 fun r29 =>
          kA (r28 == r29))
          (kA false))
        (kA false))
      (bo (f_i_CorrelationOf r18.1 r18.2.1 r18.2.2) [] fun r30 =>
      bo (f_s_CorrelationOf r18.1 r18.2.1 r18.2.2) [] fun r31 =>
      bo (f_l_sameInts r30 r31) false fun r32 =>
      br (r32 == true)
        (bo (f_i_EnergyOf r19.1 r19.2.1 r19.2.2) 0 fun r33 =>
        bo (f_s_EnergyOf r19.1 r19.2.1 r19.2.2) 0 fun r34 =>
        kA (r33 == r34))
        (kA false)))
    (kA false)
def f_l_FnEnergies_w20 (t0 : List Sc) : Option (Bool) := f_l_FnEnergies_w20_k t0 some
def f_l_FnEnergies_w16_k {R : Type} (t0 : List Sc) (kA : Bool → Option R) : Option R :=
  bo (f_s_DrawTripleCount t0) ([], 0, 0, 0) fun r12 =>
  bo (f_i_TripleCount r12.1 r12.2.1 r12.2.2.1 r12.2.2.2) 0 fun r13 =>
  bo (f_s_TripleCount r12.1 r12.2.1 r12.2.2.1 r12.2.2.2) 0 fun r14 =>
  br ((r13 != r14) == false)
    (br ((decide (r13 ≥ 0)) == true)
      (bo (f_i_TripleCount r12.1 r12.2.2.1 r12.2.1 r12.2.2.2) 0 fun r15 =>
      br ((r13 != r15))
        (kA false)
        (bo (f_l_FnEnergies_w20 t0) false fun w35 =>
        kA w35))
      (bo (f_l_FnEnergies_w20 t0) false fun w36 =>
      kA w36))
    (kA false)
def f_l_FnEnergies_w16 (t0 : List Sc) : Option (Bool) := f_l_FnEnergies_w16_k t0 some
def f_l_FnEnergies_w11_k {R : Type} (t0 : List Sc) (kA : Bool → Option R) : Option R :=
  bo (f_s_DrawPopularSums t0) ([], 0, 0, 0) fun r7 =>
  bo (f_i_PopularSums r7.1 r7.2.1 r7.2.2.1 r7.2.2.2) 0 fun r8 =>
  bo (f_i_PopularSums r7.1 r7.2.1 r7.2.2.1 (w64 (r7.2.2.2 + 1))) 0 fun r9 =>
  bo (f_s_PopularSums r7.1 r7.2.1 r7.2.2.1 r7.2.2.2) 0 fun r10 =>
  br ((r8 != r10) == false)
    (br ((decide (r8 ≥ 0)) == true)
      (br ((decide (r9 ≥ 0)) == true)
        (br (((and64 r9 r8) != r9) == false)
          (br ((decide (r8 ≥ 0)) == true)
            (br ((r7.2.2.2 == 1) == true)
              (bo (f_s_SumOfSets r7.1 r7.2.1 r7.2.2.1) 0 fun r11 =>
              br ((r8 != r11))
                (kA false)
                (bo (f_l_FnEnergies_w16 t0) false fun w37 =>
                kA w37))
              (bo (f_l_FnEnergies_w16 t0) false fun w38 =>
              kA w38))
            (bo (f_l_FnEnergies_w16 t0) false fun w39 =>
            kA w39))
          (kA false))
        (br ((decide (r8 ≥ 0)) == true)
          (br ((r7.2.2.2 == 1) == true)
            (bo (f_s_SumOfSets r7.1 r7.2.1 r7.2.2.1) 0 fun r40 =>
            br ((r8 != r40))
              (kA false)
              (bo (f_l_FnEnergies_w16 t0) false fun w41 =>
              kA w41))
            (bo (f_l_FnEnergies_w16 t0) false fun w42 =>
            kA w42))
          (bo (f_l_FnEnergies_w16 t0) false fun w43 =>
          kA w43)))
      (br ((decide (r8 ≥ 0)) == true)
        (br ((r7.2.2.2 == 1) == true)
          (bo (f_s_SumOfSets r7.1 r7.2.1 r7.2.2.1) 0 fun r44 =>
          br ((r8 != r44))
            (kA false)
            (bo (f_l_FnEnergies_w16 t0) false fun w45 =>
            kA w45))
          (bo (f_l_FnEnergies_w16 t0) false fun w46 =>
          kA w46))
        (bo (f_l_FnEnergies_w16 t0) false fun w47 =>
        kA w47)))
    (kA false)
def f_l_FnEnergies_w11 (t0 : List Sc) : Option (Bool) := f_l_FnEnergies_w11_k t0 some
def f_l_FnEnergies_w7_k {R : Type} (v0 : List Sc) (t0 : List Sc) (t4 : Int) (t5 : Int) (kA : Bool → Option R) : Option R :=
  br ((decide (t5 ≥ 0)))
    (bo (f_s_CountSet v0 t4) 0 fun r6 =>
    br ((decide (t5 < (w64 (r6 * r6)))) == false)
      (br ((decide (t5 > (w64 ((w64 (r6 * r6)) * r6)))))
        (kA false)
        (bo (f_l_FnEnergies_w11 t0) false fun w48 =>
        kA w48))
      (kA false))
    (bo (f_l_FnEnergies_w11 t0) false fun w49 =>
    kA w49)
def f_l_FnEnergies_w7 (v0 : List Sc) (t0 : List Sc) (t4 : Int) (t5 : Int) : Option (Bool) := f_l_FnEnergies_w7_k v0 t0 t4 t5 some
def f_l_FnEnergies_w3_k {R : Type} (t0 : List Sc) (kA : Bool → Option R) : Option R :=
  bo (f_s_DrawQuadruplesOf t0) ([], 0) fun r2 =>
  bo (f_i_QuadruplesOf r2.1 r2.2) 0 fun r3 =>
  bo (f_s_QuadruplesOf r2.1 r2.2) 0 fun r4 =>
  br ((r3 != r4) == false)
    (bo (f_i_EnergyOf r2.1 r2.2 r2.2) 0 fun r5 =>
    br ((r3 != r5))
      (kA false)
      (bo (f_l_FnEnergies_w7 r2.1 t0 r2.2 r3) false fun w50 =>
      kA w50))
    (kA false)
def f_l_FnEnergies_w3 (t0 : List Sc) : Option (Bool) := f_l_FnEnergies_w3_k t0 some
def f_l_FnEnergies_k {R : Type} (L0 : List Sc) (kR : Bool → Option R) : Option R :=
  bo (f_l_big L0) false fun r1 =>
  br (r1)
    (kR true)
    (bo (f_l_FnEnergies_w3 L0) false fun w51 =>
    kR w51)
def f_l_FnEnergies (L0 : List Sc) : Option (Bool) := f_l_FnEnergies_k L0 some
end
end Go.Proofs.Ytphbclogflflmaa
