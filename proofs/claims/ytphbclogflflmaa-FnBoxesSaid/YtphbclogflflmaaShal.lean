/-
  What the functions compute, as plain functions (printed by gen2.py).
-/
import Derived.Test.YtphbclogflflmaaVGen
set_option linter.unusedVariables false
set_option linter.unusedSimpArgs false
namespace Go.Proofs.Ytphbclogflflmaa
open Go Ev
noncomputable section
def f_l_big_k {R : Type} (code0 : List Sc) (kR : Bool → Option R) : Option R :=
  kR (decide ((code0.length : Int) > 1048576))
def f_l_big (code0 : List Sc) : Option (Bool) := f_l_big_k code0 some

def f_s_l1New_k0 {R : Type} (code0 : List Sc) (h3 : Int) (i4 : Int) (kN : Int × Int → Option R) (kA : Int → Option R) : Option R :=
  br ((decide (i4 < (code0.length : Int))) == true)
    (br ((decide (i4 < 4000)))
      (br (okZ (.n .u8 0) code0 i4)
        (kN ((and64 (w64 ((w64 ((w64 (h3 * 131)) + (w64 (sAt code0 .u8 i4)))) + 7)) 1073741823), (w64 (i4 + 1))))
        none)
      (kA h3))
    (kA h3)
def f_s_l1New_r0 (code0 : List Sc) : (Int × Int) → Option (Ro (Int × Int) (Int) (Unit)) := fun s => f_s_l1New_k0 code0 s.1 s.2 (fun s => some (.again s)) (fun e => some (.one e))
def f_s_l1New_k {R : Type} (code0 : List Sc) (kR : List Sc × Int × Int → Option R) : Option R :=
  bl1 (loopL (f_s_l1New_r0 code0) ((w64 (10101 + (code0.length : Int))), 0)) 0 fun e1 =>
  kR (code0, 0, e1)
def f_s_l1New (code0 : List Sc) : Option (List Sc × Int × Int) := f_s_l1New_k code0 some

def f_s_l1Byte_io_k {R : Type} (h0 : List Sc) (h1 : Int) (h2 : Int) (kR : Int × List Sc × Int × Int → Option R) : Option R :=
  br ((decide (h1 < (h0.length : Int))))
    (br (okZ (.n .u8 0) h0 h1)
      (kR ((and64 (w64 ((and64 (xor64 (shr64 (w64 ((w64 (h2 * 6364136223846793005)) + 1442695040888963407)) 33) (shr64 (w64 ((w64 (h2 * 6364136223846793005)) + 1442695040888963407)) 45)) 255) + (w64 (sAt h0 .u8 h1)))) 255), h0, (w64 (h1 + 1)), (w64 ((w64 (h2 * 6364136223846793005)) + 1442695040888963407))))
      none)
    (kR ((and64 (xor64 (shr64 (w64 ((w64 (h2 * 6364136223846793005)) + 1442695040888963407)) 33) (shr64 (w64 ((w64 (h2 * 6364136223846793005)) + 1442695040888963407)) 45)) 255), h0, h1, (w64 ((w64 (h2 * 6364136223846793005)) + 1442695040888963407))))
def f_s_l1Byte_io (h0 : List Sc) (h1 : Int) (h2 : Int) : Option (Int × List Sc × Int × Int) := f_s_l1Byte_io_k h0 h1 h2 some

def f_s_l1Below_io_k {R : Type} (n1 : Int) (h0 : List Sc) (h1 : Int) (h2 : Int) (kR : Int × List Sc × Int × Int → Option R) : Option R :=
  br ((decide (n1 ≤ 0)))
    (kR (0, h0, h1, h2))
    (br ((decide (n1 ≤ 256)))
      (bo (f_s_l1Byte_io h0 h1 h2) (0, [], 0, 0) fun r1 =>
      br (n1 == 0)
        none
        (kR ((r1.1.tmod n1), r1.2.1, r1.2.2.1, r1.2.2.2)))
      (bo (f_s_l1Byte_io h0 h1 h2) (0, [], 0, 0) fun r2 =>
      bo (f_s_l1Byte_io r2.2.1 r2.2.2.1 r2.2.2.2) (0, [], 0, 0) fun r3 =>
      bo (f_s_l1Byte_io r3.2.1 r3.2.2.1 r3.2.2.2) (0, [], 0, 0) fun r4 =>
      bo (f_s_l1Byte_io r4.2.1 r4.2.2.1 r4.2.2.2) (0, [], 0, 0) fun r5 =>
      br (n1 == 0)
        none
        (kR (((w64 ((w64 ((w64 ((w64 (r2.1 * 16777216)) + (w64 (r3.1 * 65536)))) + (w64 (r4.1 * 256)))) + r5.1)).tmod n1), r5.2.1, r5.2.2.1, r5.2.2.2))))
def f_s_l1Below_io (n1 : Int) (h0 : List Sc) (h1 : Int) (h2 : Int) : Option (Int × List Sc × Int × Int) := f_s_l1Below_io_k n1 h0 h1 h2 some

def f_s_l2Draw_io_k0 {R : Type} (most1 : Int) (o6 : List Sc) (v0 : List Sc) (v1 : Int) (v2 : Int) (v3 : List Sc) (n7 : Int) (i8 : Int) (kN : List Sc × Int × Int × List Sc × Int × Int → Option R) (kA : List Sc × Int × Int × List Sc × Int → Option R) : Option R :=
  br ((decide (i8 < (o6.length : Int))))
    (br (okAt o6 i8)
      (kN (v0, v1, v2, v3, (w64 (n7 * (atI o6 i8))), (w64 (i8 + 1))))
      none)
    (kA (v0, v1, v2, v3, n7))
def f_s_l2Draw_io_r0 (most1 : Int) (o6 : List Sc) : (List Sc × Int × Int × List Sc × Int × Int) → Option (Ro (List Sc × Int × Int × List Sc × Int × Int) (List Sc × Int × Int × List Sc × Int) (Unit)) := fun s => f_s_l2Draw_io_k0 most1 o6 s.1 s.2.1 s.2.2.1 s.2.2.2.1 s.2.2.2.2.1 s.2.2.2.2.2 (fun s => some (.again s)) (fun e => some (.one e))
def f_s_l2Draw_io_k {R : Type} (most1 : Int) (h0 : List Sc) (h1 : Int) (h2 : Int) (kR : List Sc × List Sc × Int × Int → Option R) : Option R :=
  bo (f_s_l1Below_io (([[], [(Sc.n .i64 2)], [(Sc.n .i64 3)], [(Sc.n .i64 4)], [(Sc.n .i64 5)], [(Sc.n .i64 6)], [(Sc.n .i64 7)], [(Sc.n .i64 8)], [(Sc.n .i64 9)], [(Sc.n .i64 10)], [(Sc.n .i64 11)], [(Sc.n .i64 12)], [(Sc.n .i64 2), (Sc.n .i64 2)], [(Sc.n .i64 2), (Sc.n .i64 4)], [(Sc.n .i64 3), (Sc.n .i64 3)], [(Sc.n .i64 2), (Sc.n .i64 6)], [(Sc.n .i64 2), (Sc.n .i64 2), (Sc.n .i64 2)], [(Sc.n .i64 13)], [(Sc.n .i64 16)], [(Sc.n .i64 4), (Sc.n .i64 4)], [(Sc.n .i64 2), (Sc.n .i64 2), (Sc.n .i64 3)], [(Sc.n .i64 2), (Sc.n .i64 3)], [(Sc.n .i64 24)]] : List (List Sc)).length : Int) h0 h1 h2) (0, [], 0, 0) fun r1 =>
  br (inRange r1.1 ([[], [(Sc.n .i64 2)], [(Sc.n .i64 3)], [(Sc.n .i64 4)], [(Sc.n .i64 5)], [(Sc.n .i64 6)], [(Sc.n .i64 7)], [(Sc.n .i64 8)], [(Sc.n .i64 9)], [(Sc.n .i64 10)], [(Sc.n .i64 11)], [(Sc.n .i64 12)], [(Sc.n .i64 2), (Sc.n .i64 2)], [(Sc.n .i64 2), (Sc.n .i64 4)], [(Sc.n .i64 3), (Sc.n .i64 3)], [(Sc.n .i64 2), (Sc.n .i64 6)], [(Sc.n .i64 2), (Sc.n .i64 2), (Sc.n .i64 2)], [(Sc.n .i64 13)], [(Sc.n .i64 16)], [(Sc.n .i64 4), (Sc.n .i64 4)], [(Sc.n .i64 2), (Sc.n .i64 2), (Sc.n .i64 3)], [(Sc.n .i64 2), (Sc.n .i64 3)], [(Sc.n .i64 24)]] : List (List Sc)).length)
    (bl1 (loopL (f_s_l2Draw_io_r0 most1 (([[], [(Sc.n .i64 2)], [(Sc.n .i64 3)], [(Sc.n .i64 4)], [(Sc.n .i64 5)], [(Sc.n .i64 6)], [(Sc.n .i64 7)], [(Sc.n .i64 8)], [(Sc.n .i64 9)], [(Sc.n .i64 10)], [(Sc.n .i64 11)], [(Sc.n .i64 12)], [(Sc.n .i64 2), (Sc.n .i64 2)], [(Sc.n .i64 2), (Sc.n .i64 4)], [(Sc.n .i64 3), (Sc.n .i64 3)], [(Sc.n .i64 2), (Sc.n .i64 6)], [(Sc.n .i64 2), (Sc.n .i64 2), (Sc.n .i64 2)], [(Sc.n .i64 13)], [(Sc.n .i64 16)], [(Sc.n .i64 4), (Sc.n .i64 4)], [(Sc.n .i64 2), (Sc.n .i64 2), (Sc.n .i64 3)], [(Sc.n .i64 2), (Sc.n .i64 3)], [(Sc.n .i64 24)]] : List (List Sc)).getD r1.1.toNat [])) (r1.2.1, r1.2.2.1, r1.2.2.2, [], 1, 0)) ([], 0, 0, [], 0) fun e2 =>
    br ((decide (e2.2.2.2.2 > most1)))
      (kR ([(Sc.n .i64 5)], e2.1, e2.2.1, e2.2.2.1))
      (br (decide (([] : List Sc).length + (([[], [(Sc.n .i64 2)], [(Sc.n .i64 3)], [(Sc.n .i64 4)], [(Sc.n .i64 5)], [(Sc.n .i64 6)], [(Sc.n .i64 7)], [(Sc.n .i64 8)], [(Sc.n .i64 9)], [(Sc.n .i64 10)], [(Sc.n .i64 11)], [(Sc.n .i64 12)], [(Sc.n .i64 2), (Sc.n .i64 2)], [(Sc.n .i64 2), (Sc.n .i64 4)], [(Sc.n .i64 3), (Sc.n .i64 3)], [(Sc.n .i64 2), (Sc.n .i64 6)], [(Sc.n .i64 2), (Sc.n .i64 2), (Sc.n .i64 2)], [(Sc.n .i64 13)], [(Sc.n .i64 16)], [(Sc.n .i64 4), (Sc.n .i64 4)], [(Sc.n .i64 2), (Sc.n .i64 2), (Sc.n .i64 3)], [(Sc.n .i64 2), (Sc.n .i64 3)], [(Sc.n .i64 24)]] : List (List Sc)).getD r1.1.toNat []).length ≤ lim))
        (kR (([] ++ (([[], [(Sc.n .i64 2)], [(Sc.n .i64 3)], [(Sc.n .i64 4)], [(Sc.n .i64 5)], [(Sc.n .i64 6)], [(Sc.n .i64 7)], [(Sc.n .i64 8)], [(Sc.n .i64 9)], [(Sc.n .i64 10)], [(Sc.n .i64 11)], [(Sc.n .i64 12)], [(Sc.n .i64 2), (Sc.n .i64 2)], [(Sc.n .i64 2), (Sc.n .i64 4)], [(Sc.n .i64 3), (Sc.n .i64 3)], [(Sc.n .i64 2), (Sc.n .i64 6)], [(Sc.n .i64 2), (Sc.n .i64 2), (Sc.n .i64 2)], [(Sc.n .i64 13)], [(Sc.n .i64 16)], [(Sc.n .i64 4), (Sc.n .i64 4)], [(Sc.n .i64 2), (Sc.n .i64 2), (Sc.n .i64 3)], [(Sc.n .i64 2), (Sc.n .i64 3)], [(Sc.n .i64 24)]] : List (List Sc)).getD r1.1.toNat [])), e2.1, e2.2.1, e2.2.2.1))
        none))
    none
def f_s_l2Draw_io (most1 : Int) (h0 : List Sc) (h1 : Int) (h2 : Int) : Option (List Sc × List Sc × Int × Int) := f_s_l2Draw_io_k most1 h0 h1 h2 some

def f_s_l1PickInt_io_k {R : Type} (list1 : List Sc) (h0 : List Sc) (h1 : Int) (h2 : Int) (kR : Int × List Sc × Int × Int → Option R) : Option R :=
  bo (f_s_l1Below_io (list1.length : Int) h0 h1 h2) (0, [], 0, 0) fun r1 =>
  br (okAt list1 r1.1)
    (kR ((atI list1 r1.1), r1.2.1, r1.2.2.1, r1.2.2.2))
    none
def f_s_l1PickInt_io (list1 : List Sc) (h0 : List Sc) (h1 : Int) (h2 : Int) : Option (Int × List Sc × Int × Int) := f_s_l1PickInt_io_k list1 h0 h1 h2 some

def f_s_l2Any_io_k {R : Type} (h0 : List Sc) (h1 : Int) (h2 : Int) (kR : List Sc × List Sc × Int × Int → Option R) : Option R :=
  bo (f_s_l2Draw_io 24 h0 h1 h2) ([], [], 0, 0) fun r1 =>
  bo (f_s_l1Below_io 16 r1.2.1 r1.2.2.1 r1.2.2.2) (0, [], 0, 0) fun r2 =>
  br ((r2.1 == 0))
    (bo (f_s_l1PickInt_io [(Sc.n .i64 0), (Sc.n .i64 1), (Sc.n .i64 (-1)), (Sc.n .i64 25), (Sc.n .i64 9223372036854775807)] r2.2.1 r2.2.2.1 r2.2.2.2) (0, [], 0, 0) fun r3 =>
    kR ([(Sc.n .i64 r3.1)], r3.2.1, r3.2.2.1, r3.2.2.2))
    (br ((r2.1 == 1))
      (kR ([(Sc.n .i64 2), (Sc.n .i64 2), (Sc.n .i64 2), (Sc.n .i64 2)], r2.2.1, r2.2.2.1, r2.2.2.2))
      (br ((r2.1 == 2))
        (kR ([(Sc.n .i64 5), (Sc.n .i64 5)], r2.2.1, r2.2.2.1, r2.2.2.2))
        (kR (r1.1, r2.2.1, r2.2.2.1, r2.2.2.2))))
def f_s_l2Any_io (h0 : List Sc) (h1 : Int) (h2 : Int) : Option (List Sc × List Sc × Int × Int) := f_s_l2Any_io_k h0 h1 h2 some

def f_s_l1Once_io_k {R : Type} (n1 : Int) (h0 : List Sc) (h1 : Int) (h2 : Int) (kR : Bool × List Sc × Int × Int → Option R) : Option R :=
  bo (f_s_l1Below_io n1 h0 h1 h2) (0, [], 0, 0) fun r1 =>
  kR ((r1.1 == 0), r1.2.1, r1.2.2.1, r1.2.2.2)
def f_s_l1Once_io (n1 : Int) (h0 : List Sc) (h1 : Int) (h2 : Int) : Option (Bool × List Sc × Int × Int) := f_s_l1Once_io_k n1 h0 h1 h2 some

def f_s_l1In_k {R : Type} (x0 : Int) (low1 : Int) (high2 : Int) (kR : Bool → Option R) : Option R :=
  br ((decide (x0 ≥ low1)) == true)
    (kR (decide (x0 ≤ high2)))
    (kR false)
def f_s_l1In (x0 : Int) (low1 : Int) (high2 : Int) : Option (Bool) := f_s_l1In_k x0 low1 high2 some

def f_s_IsGroup_k0 {R : Type} (g1 : List Sc) (n3 : Int) (i4 : Int) (kN : Int × Int → Option R) (kA : Int → Option R) (kB : Unit → Option R) : Option R :=
  br ((decide (i4 < (g1.length : Int))))
    (br (okAt g1 i4)
      (bo (f_s_l1In (atI g1 i4) 2 24) false fun r1 =>
      br ((!r1) == false)
        (br ((decide (i4 > 2)))
          (kB ())
          (br (okAt g1 i4)
            (kN ((w64 (n3 * (atI g1 i4))), (w64 (i4 + 1))))
            none))
        (kB ()))
      none)
    (kA n3)
def f_s_IsGroup_r0 (g1 : List Sc) : (Int × Int) → Option (Ro (Int × Int) (Int) (Unit)) := fun s => f_s_IsGroup_k0 g1 s.1 s.2 (fun s => some (.again s)) (fun e => some (.one e)) (fun e => some (.two e))
def f_s_IsGroup_k {R : Type} (g0 : List Sc) (kR : Bool → Option R) : Option R :=
  bl (loopL (f_s_IsGroup_r0 g0) (1, 0)) 0 ()
    (fun e2 =>
      kR (decide (e2 ≤ 24)))
    (fun e2 =>
      kR false)
def f_s_IsGroup (g0 : List Sc) : Option (Bool) := f_s_IsGroup_k g0 some

def f_s_l2Order_k0 {R : Type} (g1 : List Sc) (n3 : Int) (i4 : Int) (kN : Int × Int → Option R) (kA : Int → Option R) : Option R :=
  br ((decide (i4 < (g1.length : Int))))
    (br (okAt g1 i4)
      (kN ((w64 (n3 * (atI g1 i4))), (w64 (i4 + 1))))
      none)
    (kA n3)
def f_s_l2Order_r0 (g1 : List Sc) : (Int × Int) → Option (Ro (Int × Int) (Int) (Unit)) := fun s => f_s_l2Order_k0 g1 s.1 s.2 (fun s => some (.again s)) (fun e => some (.one e))
def f_s_l2Order_k {R : Type} (g0 : List Sc) (kR : Int → Option R) : Option R :=
  bl1 (loopL (f_s_l2Order_r0 g0) (1, 0)) 0 fun e1 =>
  kR e1
def f_s_l2Order (g0 : List Sc) : Option (Int) := f_s_l2Order_k g0 some

def f_s_OrderOf_k {R : Type} (g0 : List Sc) (kR : Int → Option R) : Option R :=
  bo (f_s_IsGroup g0) false fun r1 =>
  br ((!r1))
    (kR 0)
    (bo (f_s_l2Order g0) 0 fun r2 =>
    kR r2)
def f_s_OrderOf (g0 : List Sc) : Option (Int) := f_s_OrderOf_k g0 some

def f_s_l2Element_io_k {R : Type} (h0 : List Sc) (h1 : Int) (h2 : Int) (h3 : List Sc) (kR : Int × List Sc × Int × Int × List Sc → Option R) : Option R :=
  bo (f_s_l1Once_io 16 h0 h1 h2) (false, [], 0, 0) fun r1 =>
  br (r1.1)
    (bo (f_s_l1PickInt_io [(Sc.n .i64 (-1)), (Sc.n .i64 24), (Sc.n .i64 9223372036854775807)] r1.2.1 r1.2.2.1 r1.2.2.2) (0, [], 0, 0) fun r2 =>
    kR (r2.1, r2.2.1, r2.2.2.1, r2.2.2.2, h3))
    (bo (f_s_OrderOf h3) 0 fun r3 =>
    bo (f_s_l1Below_io (if r3 > 1 then r3 else 1) r1.2.1 r1.2.2.1 r1.2.2.2) (0, [], 0, 0) fun r4 =>
    kR (r4.1, r4.2.1, r4.2.2.1, r4.2.2.2, h3))
def f_s_l2Element_io (h0 : List Sc) (h1 : Int) (h2 : Int) (h3 : List Sc) : Option (Int × List Sc × Int × Int × List Sc) := f_s_l2Element_io_k h0 h1 h2 h3 some

def f_s_l14Draw_k0 {R : Type} (v0 : List Sc) (v1 : List Sc) (v2 : List Sc) (v3 : Int) (v4 : Int) (p7 : List Sc) (q8 : List Sc) (n9 : Int) (kN : List Sc × List Sc × List Sc × Int × Int × List Sc × List Sc × Int → Option R) (kA : List Sc × List Sc × List Sc × Int × Int × List Sc × List Sc → Option R) : Option R :=
  br ((decide (n9 > 0)))
    (bo (f_s_l2Element_io v2 v3 v4 v1) (0, [], 0, 0, []) fun r4 =>
    br (decide (p7.length + [(Sc.n .i64 r4.1)].length ≤ lim))
      (bo (f_s_l1PickInt_io [(Sc.n .i64 1), (Sc.n .i64 2), (Sc.n .i64 2), (Sc.n .i64 3), (Sc.n .i64 4), (Sc.n .i64 0), (Sc.n .i64 25)] r4.2.1 r4.2.2.1 r4.2.2.2.1) (0, [], 0, 0) fun r5 =>
      br (decide (q8.length + [(Sc.n .i64 r5.1)].length ≤ lim))
        (kN (v0, r4.2.2.2.2, r5.2.1, r5.2.2.1, r5.2.2.2, (p7 ++ [(Sc.n .i64 r4.1)]), (q8 ++ [(Sc.n .i64 r5.1)]), (w64 (n9 - 1))))
        none)
      none)
    (kA (v0, v1, v2, v3, v4, p7, q8))
def f_s_l14Draw_r0 : (List Sc × List Sc × List Sc × Int × Int × List Sc × List Sc × Int) → Option (Ro (List Sc × List Sc × List Sc × Int × Int × List Sc × List Sc × Int) (List Sc × List Sc × List Sc × Int × Int × List Sc × List Sc) (Unit)) := fun s => f_s_l14Draw_k0 s.1 s.2.1 s.2.2.1 s.2.2.2.1 s.2.2.2.2.1 s.2.2.2.2.2.1 s.2.2.2.2.2.2.1 s.2.2.2.2.2.2.2 (fun s => some (.again s)) (fun e => some (.one e))
def f_s_l14Draw_k {R : Type} (code0 : List Sc) (kR : List Sc × List Sc × List Sc → Option R) : Option R :=
  bo (f_s_l1New code0) ([], 0, 0) fun r1 =>
  bo (f_s_l2Any_io r1.1 r1.2.1 r1.2.2) ([], [], 0, 0) fun r2 =>
  bo (f_s_l1Below_io 4 r2.2.1 r2.2.2.1 r2.2.2.2) (0, [], 0, 0) fun r3 =>
  bl1 (loopL (f_s_l14Draw_r0) ([], r2.1, r3.2.1, r3.2.2.1, r3.2.2.2, [], [], r3.1)) ([], [], [], 0, 0, [], []) fun e6 =>
  bo (f_s_l1Once_io 14 e6.2.2.1 e6.2.2.2.1 e6.2.2.2.2.1) (false, [], 0, 0) fun r7 =>
  br (r7.1)
    (br (decide (e6.2.2.2.2.2.2.length + [(Sc.n .i64 2)].length ≤ lim))
      (kR (e6.2.1, e6.2.2.2.2.2.1, (e6.2.2.2.2.2.2 ++ [(Sc.n .i64 2)])))
      none)
    (kR (e6.2.1, e6.2.2.2.2.2.1, e6.2.2.2.2.2.2))
def f_s_l14Draw (code0 : List Sc) : Option (List Sc × List Sc × List Sc) := f_s_l14Draw_k code0 some

def f_s_l2Is_k {R : Type} (g0 : List Sc) (x1 : Int) (kR : Bool → Option R) : Option R :=
  br ((decide (x1 ≥ 0)) == true)
    (bo (f_s_OrderOf g0) 0 fun r1 =>
    kR (decide (x1 < r1)))
    (kR false)
def f_s_l2Is (g0 : List Sc) (x1 : Int) : Option (Bool) := f_s_l2Is_k g0 x1 some

def f_s_l14Fine_k0 {R : Type} (steps1 : List Sc) (sizes2 : List Sc) (g3 : List Sc) (i7 : Int) (kN : Int → Option R) (kA : Unit → Option R) (kB : Unit → Option R) : Option R :=
  br ((decide (i7 < (steps1.length : Int))))
    (br (okAt steps1 i7)
      (bo (f_s_l2Is g3 (atI steps1 i7)) false fun r1 =>
      br ((!r1) == false)
        (br ((decide (i7 ≥ (sizes2.length : Int))) == false)
          (br (okAt sizes2 i7)
            (bo (f_s_l1In (atI sizes2 i7) 1 24) false fun r2 =>
            br ((!r2))
              (kB ())
              (kN (w64 (i7 + 1))))
            none)
          (kB ()))
        (kB ()))
      none)
    (kA ())
def f_s_l14Fine_r0 (steps1 : List Sc) (sizes2 : List Sc) (g3 : List Sc) : Int → Option (Ro (Int) (Unit) (Unit)) := fun s => f_s_l14Fine_k0 steps1 sizes2 g3 s (fun s => some (.again s)) (fun e => some (.one e)) (fun e => some (.two e))
def f_s_l14Fine_k {R : Type} (g0 : List Sc) (steps1 : List Sc) (sizes2 : List Sc) (kR : Bool → Option R) : Option R :=
  bl (loopL (f_s_l14Fine_r0 steps1 sizes2 g0) 0) () ()
    (fun e3 =>
      bo (f_s_IsGroup g0) false fun r4 =>
      br (r4 == true)
        (br (((steps1.length : Int) == (sizes2.length : Int)) == true)
          (kR (decide ((steps1.length : Int) ≤ 3)))
          (kR false))
        (kR false))
    (fun e3 =>
      kR false)
def f_s_l14Fine (g0 : List Sc) (steps1 : List Sc) (sizes2 : List Sc) : Option (Bool) := f_s_l14Fine_k g0 steps1 sizes2 some

def f_s_l2Add_k0 {R : Type} (g3 : List Sc) (x1 : Int) (y2 : Int) (z7 : Int) (step8 : Int) (i9 : Int) (kN : Int × Int × Int × Int × Int → Option R) (kA : Int → Option R) : Option R :=
  br ((decide (i9 < (g3.length : Int))))
    (br (okAt g3 i9)
      (br ((atI g3 i9) == 0)
        none
        (br ((atI g3 i9) == 0)
          none
          (br ((atI g3 i9) == 0)
            none
            (br ((atI g3 i9) == 0)
              none
              (br ((atI g3 i9) == 0)
                none
                (kN ((w64 (x1.tdiv (atI g3 i9))), (w64 (y2.tdiv (atI g3 i9))), (w64 (z7 + (w64 (((w64 ((x1.tmod (atI g3 i9)) + (y2.tmod (atI g3 i9)))).tmod (atI g3 i9)) * step8)))), (w64 (step8 * (atI g3 i9))), (w64 (i9 + 1)))))))))
      none)
    (kA z7)
def f_s_l2Add_r0 (g3 : List Sc) : (Int × Int × Int × Int × Int) → Option (Ro (Int × Int × Int × Int × Int) (Int) (Unit)) := fun s => f_s_l2Add_k0 g3 s.1 s.2.1 s.2.2.1 s.2.2.2.1 s.2.2.2.2 (fun s => some (.again s)) (fun e => some (.one e))
def f_s_l2Add_k {R : Type} (g0 : List Sc) (x1 : Int) (y2 : Int) (kR : Int → Option R) : Option R :=
  bl1 (loopL (f_s_l2Add_r0 g0) (x1, y2, 0, 1, 0)) 0 fun e1 =>
  kR e1
def f_s_l2Add (g0 : List Sc) (x1 : Int) (y2 : Int) : Option (Int) := f_s_l2Add_k g0 x1 y2 some

def f_s_l10Progression_k0 {R : Type} (step2 : Int) (n3 : Int) (g4 : List Sc) (out9 : Int) (x10 : Int) (i11 : Int) (kN : Int × Int × Int → Option R) (kA : Int → Option R) : Option R :=
  br ((decide (i11 < n3)))
    (br (decide (x10 < 0))
      none
      (bo (f_s_l2Add g4 x10 step2) 0 fun r1 =>
      kN ((or64 out9 (shl64 1 x10)), r1, (w64 (i11 + 1)))))
    (kA out9)
def f_s_l10Progression_r0 (step2 : Int) (n3 : Int) (g4 : List Sc) : (Int × Int × Int) → Option (Ro (Int × Int × Int) (Int) (Unit)) := fun s => f_s_l10Progression_k0 step2 n3 g4 s.1 s.2.1 s.2.2 (fun s => some (.again s)) (fun e => some (.one e))
def f_s_l10Progression_k {R : Type} (g0 : List Sc) (start1 : Int) (step2 : Int) (n3 : Int) (kR : Int → Option R) : Option R :=
  bl1 (loopL (f_s_l10Progression_r0 step2 n3 g0) (0, start1, 0)) 0 fun e2 =>
  kR e2
def f_s_l10Progression (g0 : List Sc) (start1 : Int) (step2 : Int) (n3 : Int) : Option (Int) := f_s_l10Progression_k g0 start1 step2 n3 some

def f_s_l3List_k0 {R : Type} (out3 : List Sc) (i4 : Int) (x5 : Int) (kN : List Sc × Int × Int → Option R) (kA : List Sc → Option R) : Option R :=
  br ((decide (x5 > 0)))
    (br (((and64 x5 1) == 1))
      (br (decide (out3.length + [(Sc.n .i64 i4)].length ≤ lim))
        (kN ((out3 ++ [(Sc.n .i64 i4)]), (w64 (i4 + 1)), (shr64 x5 1)))
        none)
      (kN (out3, (w64 (i4 + 1)), (shr64 x5 1))))
    (kA out3)
def f_s_l3List_r0 : (List Sc × Int × Int) → Option (Ro (List Sc × Int × Int) (List Sc) (Unit)) := fun s => f_s_l3List_k0 s.1 s.2.1 s.2.2 (fun s => some (.again s)) (fun e => some (.one e))
def f_s_l3List_k {R : Type} (a0 : Int) (kR : List Sc → Option R) : Option R :=
  bl1 (loopL (f_s_l3List_r0) ([], 0, a0)) [] fun e1 =>
  kR e1
def f_s_l3List (a0 : Int) : Option (List Sc) := f_s_l3List_k a0 some

def f_s_l3Shift_k0 {R : Type} (x2 : Int) (g3 : List Sc) (out7 : Int) (l8 : List Sc) (i9 : Int) (kN : Int × List Sc × Int → Option R) (kA : Int → Option R) : Option R :=
  br ((decide (i9 < (l8.length : Int))))
    (br (inRange i9 (l8).length)
      (br (kAt l8 i9.toNat)
        (bo (f_s_l2Add g3 (atN l8 i9.toNat) x2) 0 fun r2 =>
        br (decide (r2 < 0))
          none
          (kN ((or64 out7 (shl64 1 r2)), l8, (w64 (i9 + 1)))))
        none)
      none)
    (kA out7)
def f_s_l3Shift_r0 (x2 : Int) (g3 : List Sc) : (Int × List Sc × Int) → Option (Ro (Int × List Sc × Int) (Int) (Unit)) := fun s => f_s_l3Shift_k0 x2 g3 s.1 s.2.1 s.2.2 (fun s => some (.again s)) (fun e => some (.one e))
def f_s_l3Shift_k {R : Type} (g0 : List Sc) (a1 : Int) (x2 : Int) (kR : Int → Option R) : Option R :=
  bo (f_s_l3List a1) [] fun r1 =>
  bl1 (loopL (f_s_l3Shift_r0 x2 g0) (0, r1, 0)) 0 fun e3 =>
  kR e3
def f_s_l3Shift (g0 : List Sc) (a1 : Int) (x2 : Int) : Option (Int) := f_s_l3Shift_k g0 a1 x2 some

def f_s_l4Sum_k0 {R : Type} (a1 : Int) (g3 : List Sc) (out7 : Int) (l8 : List Sc) (i9 : Int) (kN : Int × List Sc × Int → Option R) (kA : Int → Option R) : Option R :=
  br ((decide (i9 < (l8.length : Int))))
    (br (inRange i9 (l8).length)
      (br (kAt l8 i9.toNat)
        (bo (f_s_l3Shift g3 a1 (atN l8 i9.toNat)) 0 fun r2 =>
        kN ((or64 out7 r2), l8, (w64 (i9 + 1))))
        none)
      none)
    (kA out7)
def f_s_l4Sum_r0 (a1 : Int) (g3 : List Sc) : (Int × List Sc × Int) → Option (Ro (Int × List Sc × Int) (Int) (Unit)) := fun s => f_s_l4Sum_k0 a1 g3 s.1 s.2.1 s.2.2 (fun s => some (.again s)) (fun e => some (.one e))
def f_s_l4Sum_k {R : Type} (g0 : List Sc) (a1 : Int) (b2 : Int) (kR : Int → Option R) : Option R :=
  bo (f_s_l3List b2) [] fun r1 =>
  bl1 (loopL (f_s_l4Sum_r0 a1 g0) (0, r1, 0)) 0 fun e3 =>
  kR e3
def f_s_l4Sum (g0 : List Sc) (a1 : Int) (b2 : Int) : Option (Int) := f_s_l4Sum_k g0 a1 b2 some

def f_s_l14Box_k0 {R : Type} (steps1 : List Sc) (sizes2 : List Sc) (g3 : List Sc) (out7 : Int) (i8 : Int) (kN : Int × Int → Option R) (kA : Int → Option R) : Option R :=
  br ((decide (i8 < (steps1.length : Int))))
    (br (okAt steps1 i8)
      (br (okAt sizes2 i8)
        (bo (f_s_l10Progression g3 0 (atI steps1 i8) (atI sizes2 i8)) 0 fun r1 =>
        bo (f_s_l4Sum g3 out7 r1) 0 fun r2 =>
        kN (r2, (w64 (i8 + 1))))
        none)
      none)
    (kA out7)
def f_s_l14Box_r0 (steps1 : List Sc) (sizes2 : List Sc) (g3 : List Sc) : (Int × Int) → Option (Ro (Int × Int) (Int) (Unit)) := fun s => f_s_l14Box_k0 steps1 sizes2 g3 s.1 s.2 (fun s => some (.again s)) (fun e => some (.one e))
def f_s_l14Box_k {R : Type} (g0 : List Sc) (steps1 : List Sc) (sizes2 : List Sc) (kR : Int → Option R) : Option R :=
  bl1 (loopL (f_s_l14Box_r0 steps1 sizes2 g0) (1, 0)) 0 fun e3 =>
  kR e3
def f_s_l14Box (g0 : List Sc) (steps1 : List Sc) (sizes2 : List Sc) : Option (Int) := f_s_l14Box_k g0 steps1 sizes2 some

def f_s_BoxOf_k {R : Type} (g0 : List Sc) (steps1 : List Sc) (sizes2 : List Sc) (kR : Int × Bool → Option R) : Option R :=
  bo (f_s_l14Fine g0 steps1 sizes2) false fun r1 =>
  br ((!r1))
    (kR (0, false))
    (bo (f_s_l14Box g0 steps1 sizes2) 0 fun r2 =>
    kR (r2, true))
def f_s_BoxOf (g0 : List Sc) (steps1 : List Sc) (sizes2 : List Sc) : Option (Int × Bool) := f_s_BoxOf_k g0 steps1 sizes2 some

def f_s_IsSet_k {R : Type} (g0 : List Sc) (a1 : Int) (kR : Bool → Option R) : Option R :=
  bo (f_s_IsGroup g0) false fun r1 =>
  br (r1 == true)
    (bo (f_s_l2Order g0) 0 fun r2 =>
    br (decide (r2 < 0))
      none
      (bo (f_s_l1In a1 0 (w64 ((shl64 1 r2) - 1))) false fun r3 =>
      kR r3))
    (kR false)
def f_s_IsSet (g0 : List Sc) (a1 : Int) : Option (Bool) := f_s_IsSet_k g0 a1 some

def f_s_ShiftSet_k {R : Type} (g0 : List Sc) (a1 : Int) (x2 : Int) (kR : Int → Option R) : Option R :=
  bo (f_s_IsSet g0 a1) false fun r1 =>
  br ((!r1) == false)
    (bo (f_s_l2Is g0 x2) false fun r2 =>
    br ((!r2))
      (kR (-1))
      (bo (f_s_l3Shift g0 a1 x2) 0 fun r3 =>
      kR r3))
    (kR (-1))
def f_s_ShiftSet (g0 : List Sc) (a1 : Int) (x2 : Int) : Option (Int) := f_s_ShiftSet_k g0 a1 x2 some

def f_s_l3Set_io_k0 {R : Type} (n5 : Int) (v0 : List Sc) (v1 : Int) (v2 : Int) (v3 : List Sc) (a6 : Int) (k7 : Int) (kN : List Sc × Int × Int × List Sc × Int × Int → Option R) (kA : List Sc × Int × Int × List Sc × Int → Option R) : Option R :=
  br ((decide (k7 > 0)))
    (bo (f_s_l1Below_io n5 v0 v1 v2) (0, [], 0, 0) fun r3 =>
    br (decide (r3.1 < 0))
      none
      (kN (r3.2.1, r3.2.2.1, r3.2.2.2, v3, (or64 a6 (shl64 1 r3.1)), (w64 (k7 - 1)))))
    (kA (v0, v1, v2, v3, a6))
def f_s_l3Set_io_r0 (n5 : Int) : (List Sc × Int × Int × List Sc × Int × Int) → Option (Ro (List Sc × Int × Int × List Sc × Int × Int) (List Sc × Int × Int × List Sc × Int) (Unit)) := fun s => f_s_l3Set_io_k0 n5 s.1 s.2.1 s.2.2.1 s.2.2.2.1 s.2.2.2.2.1 s.2.2.2.2.2 (fun s => some (.again s)) (fun e => some (.one e))
def f_s_l3Set_io_k {R : Type} (h0 : List Sc) (h1 : Int) (h2 : Int) (h3 : List Sc) (kR : Int × List Sc × Int × Int × List Sc → Option R) : Option R :=
  bo (f_s_OrderOf h3) 0 fun r1 =>
  bo (f_s_l1Below_io 6 h0 h1 h2) (0, [], 0, 0) fun r2 =>
  bl1 (loopL (f_s_l3Set_io_r0 (if r1 > 1 then r1 else 1)) (r2.2.1, r2.2.2.1, r2.2.2.2, h3, 0, r2.1)) ([], 0, 0, [], 0) fun e4 =>
  bo (f_s_l1Below_io 20 e4.1 e4.2.1 e4.2.2.1) (0, [], 0, 0) fun r5 =>
  br ((r5.1 == 0))
    (br (decide ((if r1 > 1 then r1 else 1) < 0))
      none
      (kR ((w64 ((shl64 1 (if r1 > 1 then r1 else 1)) - 1)), r5.2.1, r5.2.2.1, r5.2.2.2, e4.2.2.2.1)))
    (br ((r5.1 == 1))
      (bo (f_s_l1PickInt_io [(Sc.n .i64 (-1)), (Sc.n .i64 16777216), (Sc.n .i64 9223372036854775807)] r5.2.1 r5.2.2.1 r5.2.2.2) (0, [], 0, 0) fun r6 =>
      kR (r6.1, r6.2.1, r6.2.2.1, r6.2.2.2, e4.2.2.2.1))
      (kR (e4.2.2.2.2, r5.2.1, r5.2.2.1, r5.2.2.2, e4.2.2.2.1)))
def f_s_l3Set_io (h0 : List Sc) (h1 : Int) (h2 : Int) (h3 : List Sc) : Option (Int × List Sc × Int × Int × List Sc) := f_s_l3Set_io_k h0 h1 h2 h3 some

def f_s_l14Set_g5_k {R : Type} (v0 : List Sc) (v1 : List Sc) (v2 : List Sc) (v3 : Int) (v4 : Int) (t8 : Int) (kA : Int → Option R) : Option R :=
  bo (f_s_OrderOf v1) 0 fun r5 =>
  bo (f_s_l1Below_io (if r5 > 1 then r5 else 1) v2 v3 v4) (0, [], 0, 0) fun r6 =>
  bo (f_s_ShiftSet v1 t8 r6.1) 0 fun r7 =>
  kA r7
def f_s_l14Set_g5 (v0 : List Sc) (v1 : List Sc) (v2 : List Sc) (v3 : Int) (v4 : Int) (t8 : Int) : Option (Int) := f_s_l14Set_g5_k v0 v1 v2 v3 v4 t8 some
def f_s_l14Set_g6_k {R : Type} (v0 : List Sc) (v1 : List Sc) (v2 : List Sc) (v3 : Int) (v4 : Int) (kA : List Sc × Int → Option R) : Option R :=
  bo (f_s_l3Set_io v2 v3 v4 v1) (0, [], 0, 0, []) fun r69 =>
  kA (r69.2.2.2.2, r69.1)
def f_s_l14Set_g6 (v0 : List Sc) (v1 : List Sc) (v2 : List Sc) (v3 : Int) (v4 : Int) : Option (List Sc × Int) := f_s_l14Set_g6_k v0 v1 v2 v3 v4 some
def f_s_l14Set_k {R : Type} (code0 : List Sc) (kR : List Sc × Int → Option R) : Option R :=
  bo (f_s_l1New code0) ([], 0, 0) fun r1 =>
  bo (f_s_l14Draw code0) ([], [], []) fun r2 =>
  bo (f_s_BoxOf r2.1 r2.2.1 r2.2.2) (0, false) fun r3 =>
  br (r3.2 == true)
    (bo (f_s_l1Once_io 3 r1.1 r1.2.1 r1.2.2) (false, [], 0, 0) fun r4 =>
    br ((!r4.1))
      (bo (f_s_l14Set_g5 [] r2.1 r4.2.1 r4.2.2.1 r4.2.2.2 r3.1) 0 fun g68 =>
      kR (r2.1, g68))
      (bo (f_s_l14Set_g6 [] r2.1 r4.2.1 r4.2.2.1 r4.2.2.2) ([], 0) fun g74 =>
      kR (g74.1, g74.2)))
    (bo (f_s_l14Set_g6 [] r2.1 r1.1 r1.2.1 r1.2.2) ([], 0) fun g75 =>
    kR (g75.1, g75.2))
def f_s_l14Set (code0 : List Sc) : Option (List Sc × Int) := f_s_l14Set_k code0 some

def f_s_DrawFindBox_k {R : Type} (code0 : List Sc) (kR : List Sc × Int → Option R) : Option R :=
  bo (f_s_l14Set code0) ([], 0) fun r1 =>
  kR (r1.1, r1.2)
def f_s_DrawFindBox (code0 : List Sc) : Option (List Sc × Int) := f_s_DrawFindBox_k code0 some

def f_i_within_k {R : Type} (x0 : Int) (lo1 : Int) (hi2 : Int) (kR : Bool → Option R) : Option R :=
  br ((decide (x0 ≥ lo1)) == true)
    (kR (decide (x0 ≤ hi2)))
    (kR false)
def f_i_within (x0 : Int) (lo1 : Int) (hi2 : Int) : Option (Bool) := f_i_within_k x0 lo1 hi2 some

def f_i_IsGroup_k0 {R : Type} (t11 : List Sc) (t12 : Int) (n3 : Int) (t13 : Int) (kN : Int × Int → Option R) (kA : Int → Option R) (kB : Unit → Option R) : Option R :=
  br ((decide (t13 < t12)))
    (br (okAt t11 t13)
      (bo (f_i_within (atI t11 t13) 2 24) false fun r1 =>
      br ((!r1))
        (kB ())
        (kN ((w64 (n3 * (atI t11 t13))), (w64 (t13 + 1)))))
      none)
    (kA n3)
def f_i_IsGroup_r0 (t11 : List Sc) (t12 : Int) : (Int × Int) → Option (Ro (Int × Int) (Int) (Unit)) := fun s => f_i_IsGroup_k0 t11 t12 s.1 s.2 (fun s => some (.again s)) (fun e => some (.one e)) (fun e => some (.two e))
def f_i_IsGroup_k {R : Type} (g0 : List Sc) (kR : Bool → Option R) : Option R :=
  br ((decide ((g0.length : Int) > 3)))
    (kR false)
    (bl (loopL (f_i_IsGroup_r0 g0 (g0.length : Int)) (1, 0)) 0 ()
      (fun e2 =>
        kR (decide (e2 ≤ 24)))
      (fun e2 =>
        kR false))
def f_i_IsGroup (g0 : List Sc) : Option (Bool) := f_i_IsGroup_k g0 some

def f_i_OrderOf_k0 {R : Type} (t10 : List Sc) (t11 : Int) (n3 : Int) (t12 : Int) (kN : Int × Int → Option R) (kA : Int → Option R) : Option R :=
  br ((decide (t12 < t11)))
    (br (okAt t10 t12)
      (kN ((w64 (n3 * (atI t10 t12))), (w64 (t12 + 1))))
      none)
    (kA n3)
def f_i_OrderOf_r0 (t10 : List Sc) (t11 : Int) : (Int × Int) → Option (Ro (Int × Int) (Int) (Unit)) := fun s => f_i_OrderOf_k0 t10 t11 s.1 s.2 (fun s => some (.again s)) (fun e => some (.one e))
def f_i_OrderOf_k {R : Type} (g0 : List Sc) (kR : Int → Option R) : Option R :=
  bo (f_i_IsGroup g0) false fun r1 =>
  br ((!r1))
    (kR 0)
    (bl1 (loopL (f_i_OrderOf_r0 g0 (g0.length : Int)) (1, 0)) 0 fun e2 =>
    kR e2)
def f_i_OrderOf (g0 : List Sc) : Option (Int) := f_i_OrderOf_k g0 some

def f_i_IsSet_k {R : Type} (g0 : List Sc) (a1 : Int) (kR : Bool → Option R) : Option R :=
  bo (f_i_IsGroup g0) false fun r1 =>
  br (r1 == true)
    (br ((decide (a1 ≥ 0)) == true)
      (bo (f_i_OrderOf g0) 0 fun r2 =>
      br (decide (r2 < 0))
        none
        (kR (decide (a1 < (shl64 1 r2)))))
      (kR false))
    (kR false)
def f_i_IsSet (g0 : List Sc) (a1 : Int) : Option (Bool) := f_i_IsSet_k g0 a1 some

def f_i_bits_k0 {R : Type} (a0 : Int) (n3 : Int) (kN : Int × Int → Option R) (kA : Int → Option R) : Option R :=
  br ((a0 != 0))
    (kN ((and64 a0 (w64 (a0 - 1))), (w64 (n3 + 1))))
    (kA n3)
def f_i_bits_r0 : (Int × Int) → Option (Ro (Int × Int) (Int) (Unit)) := fun s => f_i_bits_k0 s.1 s.2 (fun s => some (.again s)) (fun e => some (.one e))
def f_i_bits_k {R : Type} (a0 : Int) (kR : Int → Option R) : Option R :=
  bl1 (loopL (f_i_bits_r0) (a0, 0)) 0 fun e1 =>
  kR e1
def f_i_bits (a0 : Int) : Option (Int) := f_i_bits_k a0 some

def f_i_Group_add_k0 {R : Type} (t12 : List Sc) (t13 : Int) (x1 : Int) (y2 : Int) (sum7 : Int) (unit8 : Int) (t14 : Int) (kN : Int × Int × Int × Int × Int → Option R) (kA : Int → Option R) : Option R :=
  br ((decide (t14 < t13)))
    (br (okAt t12 t14)
      (br ((atI t12 t14) == 0)
        none
        (br ((atI t12 t14) == 0)
          none
          (br ((atI t12 t14) == 0)
            none
            (br ((atI t12 t14) == 0)
              none
              (br ((atI t12 t14) == 0)
                none
                (kN ((w64 (x1.tdiv (atI t12 t14))), (w64 (y2.tdiv (atI t12 t14))), (w64 (sum7 + (w64 (((w64 ((x1.tmod (atI t12 t14)) + (y2.tmod (atI t12 t14)))).tmod (atI t12 t14)) * unit8)))), (w64 (unit8 * (atI t12 t14))), (w64 (t14 + 1)))))))))
      none)
    (kA sum7)
def f_i_Group_add_r0 (t12 : List Sc) (t13 : Int) : (Int × Int × Int × Int × Int) → Option (Ro (Int × Int × Int × Int × Int) (Int) (Unit)) := fun s => f_i_Group_add_k0 t12 t13 s.1 s.2.1 s.2.2.1 s.2.2.2.1 s.2.2.2.2 (fun s => some (.again s)) (fun e => some (.one e))
def f_i_Group_add_k {R : Type} (g0 : List Sc) (x1 : Int) (y2 : Int) (kR : Int → Option R) : Option R :=
  bl1 (loopL (f_i_Group_add_r0 g0 (g0.length : Int)) (x1, y2, 0, 1, 0)) 0 fun e1 =>
  kR e1
def f_i_Group_add (g0 : List Sc) (x1 : Int) (y2 : Int) : Option (Int) := f_i_Group_add_k g0 x1 y2 some

def f_i_Group_progression_k0 {R : Type} (step2 : Int) (g4 : List Sc) (t10 : Int) (start1 : Int) (out9 : Int) (t11 : Int) (kN : Int × Int × Int → Option R) (kA : Int → Option R) : Option R :=
  br ((decide (t11 < t10)))
    (br (decide (start1 < 0))
      none
      (bo (f_i_Group_add g4 start1 step2) 0 fun r1 =>
      kN (r1, (or64 out9 (shl64 1 start1)), (w64 (t11 + 1)))))
    (kA out9)
def f_i_Group_progression_r0 (step2 : Int) (g4 : List Sc) (t10 : Int) : (Int × Int × Int) → Option (Ro (Int × Int × Int) (Int) (Unit)) := fun s => f_i_Group_progression_k0 step2 g4 t10 s.1 s.2.1 s.2.2 (fun s => some (.again s)) (fun e => some (.one e))
def f_i_Group_progression_k {R : Type} (g0 : List Sc) (start1 : Int) (step2 : Int) (n3 : Int) (kR : Int → Option R) : Option R :=
  bl1 (loopL (f_i_Group_progression_r0 step2 g0 n3) (start1, 0, 0)) 0 fun e2 =>
  kR e2
def f_i_Group_progression (g0 : List Sc) (start1 : Int) (step2 : Int) (n3 : Int) : Option (Int) := f_i_Group_progression_k g0 start1 step2 n3 some

def f_i_members_k0 {R : Type} (a0 : Int) (out3 : List Sc) (x4 : Int) (kN : List Sc × Int → Option R) (kA : List Sc → Option R) : Option R :=
  br (decide (x4 < 0))
    none
    (br (((shr64 a0 x4) != 0))
      (br (decide (x4 < 0))
        none
        (br (((and64 (shr64 a0 x4) 1) == 1))
          (br (decide (out3.length + [(Sc.n .i64 x4)].length ≤ lim))
            (kN ((out3 ++ [(Sc.n .i64 x4)]), (w64 (x4 + 1))))
            none)
          (kN (out3, (w64 (x4 + 1))))))
      (kA out3))
def f_i_members_r0 (a0 : Int) : (List Sc × Int) → Option (Ro (List Sc × Int) (List Sc) (Unit)) := fun s => f_i_members_k0 a0 s.1 s.2 (fun s => some (.again s)) (fun e => some (.one e))
def f_i_members_k {R : Type} (a0 : Int) (kR : List Sc → Option R) : Option R :=
  bl1 (loopL (f_i_members_r0 a0) ([], 0)) [] fun e1 =>
  kR e1
def f_i_members (a0 : Int) : Option (List Sc) := f_i_members_k a0 some

def f_i_Group_shift_k0 {R : Type} (a1 : Int) (x2 : Int) (g3 : List Sc) (out7 : Int) (y8 : Int) (kN : Int × Int → Option R) (kA : Int → Option R) : Option R :=
  br (decide (y8 < 0))
    none
    (br (((shr64 a1 y8) != 0))
      (br (decide (y8 < 0))
        none
        (br (((and64 (shr64 a1 y8) 1) == 1))
          (bo (f_i_Group_add g3 x2 y8) 0 fun r1 =>
          br (decide (r1 < 0))
            none
            (kN ((or64 out7 (shl64 1 r1)), (w64 (y8 + 1)))))
          (kN (out7, (w64 (y8 + 1))))))
      (kA out7))
def f_i_Group_shift_r0 (a1 : Int) (x2 : Int) (g3 : List Sc) : (Int × Int) → Option (Ro (Int × Int) (Int) (Unit)) := fun s => f_i_Group_shift_k0 a1 x2 g3 s.1 s.2 (fun s => some (.again s)) (fun e => some (.one e))
def f_i_Group_shift_k {R : Type} (g0 : List Sc) (a1 : Int) (x2 : Int) (kR : Int → Option R) : Option R :=
  bl1 (loopL (f_i_Group_shift_r0 a1 x2 g0) (0, 0)) 0 fun e2 =>
  kR e2
def f_i_Group_shift (g0 : List Sc) (a1 : Int) (x2 : Int) : Option (Int) := f_i_Group_shift_k g0 a1 x2 some

def f_i_Group_sum_k0 {R : Type} (b2 : Int) (g3 : List Sc) (t12 : Int) (out7 : Int) (t11 : List Sc) (t13 : Int) (kN : Int × List Sc × Int → Option R) (kA : Int → Option R) : Option R :=
  br ((decide (t13 < t12)))
    (br (inRange t13 (t11).length)
      (br (kAt t11 t13.toNat)
        (bo (f_i_Group_shift g3 b2 (atN t11 t13.toNat)) 0 fun r2 =>
        kN ((or64 out7 r2), t11, (w64 (t13 + 1))))
        none)
      none)
    (kA out7)
def f_i_Group_sum_r0 (b2 : Int) (g3 : List Sc) (t12 : Int) : (Int × List Sc × Int) → Option (Ro (Int × List Sc × Int) (Int) (Unit)) := fun s => f_i_Group_sum_k0 b2 g3 t12 s.1 s.2.1 s.2.2 (fun s => some (.again s)) (fun e => some (.one e))
def f_i_Group_sum_k {R : Type} (g0 : List Sc) (a1 : Int) (b2 : Int) (kR : Int → Option R) : Option R :=
  bo (f_i_members a1) [] fun r1 =>
  bl1 (loopL (f_i_Group_sum_r0 b2 g0 (r1.length : Int)) (0, r1, 0)) 0 fun e3 =>
  kR e3
def f_i_Group_sum (g0 : List Sc) (a1 : Int) (b2 : Int) : Option (Int) := f_i_Group_sum_k g0 a1 b2 some

def f_i_FindBox_k6 {R : Type} (t1 : Int) (t2 : List Sc) (t7 : Int) (t8 : Int) (t9 : Int) (t10 : Int) (t11 : Int) (t12 : Int) (t39 : Int) (t40 : Int) (t43 : Int) (t44 : Int) (t63 : Int) (t64 : Int) (kN : Int → Option R) (kA : Unit → Option R) (kB : List Sc × List Sc → Option R) : Option R :=
  br ((decide (t64 < t63)))
    (bo (f_i_Group_shift t2 t12 t64) 0 fun r8 =>
    br ((r8 == t1))
      (br (t9 == 0)
        none
        (kB ([(Sc.n .i64 t9), (Sc.n .i64 (w64 (t8.tdiv t9)))], [(Sc.n .i64 t10), (Sc.n .i64 t11)])))
      (kN (w64 (t64 + 1))))
    (kA ())
def f_i_FindBox_r6 (t1 : Int) (t2 : List Sc) (t7 : Int) (t8 : Int) (t9 : Int) (t10 : Int) (t11 : Int) (t12 : Int) (t39 : Int) (t40 : Int) (t43 : Int) (t44 : Int) (t63 : Int) : Int → Option (Ro (Int) (Unit) (List Sc × List Sc)) := fun s => f_i_FindBox_k6 t1 t2 t7 t8 t9 t10 t11 t12 t39 t40 t43 t44 t63 s (fun s => some (.again s)) (fun e => some (.one e)) (fun e => some (.two e))
def f_i_FindBox_k4 {R : Type} (t1 : Int) (t2 : List Sc) (t7 : Int) (t8 : Int) (t9 : Int) (t10 : Int) (t39 : Int) (t40 : Int) (t43 : Int) (t44 : Int) (kN : Int → Option R) (kA : Int → Option R) (kB : List Sc × List Sc → Option R) : Option R :=
  br ((decide (t44 < t43)))
    (bo (f_i_Group_progression t2 0 t10 t9) 0 fun r4 =>
    br (t9 == 0)
      none
      (bo (f_i_Group_progression t2 0 t44 (w64 (t8.tdiv t9))) 0 fun r5 =>
      bo (f_i_Group_sum t2 r4 r5) 0 fun r6 =>
      bo (f_i_bits r6) 0 fun r7 =>
      br ((r7 != t8))
        (kN (w64 (t44 + 1)))
        (bl (loopL (f_i_FindBox_r6 t1 t2 t7 t8 t9 t10 t44 r6 t39 t40 t43 t44 t7) 0) () ([], [])
          (fun e9 =>
            kN (w64 (t44 + 1)))
          (fun e9 =>
            kB (e9.1, e9.2)))))
    (kA t44)
def f_i_FindBox_r4 (t1 : Int) (t2 : List Sc) (t7 : Int) (t8 : Int) (t9 : Int) (t10 : Int) (t39 : Int) (t40 : Int) (t43 : Int) : Int → Option (Ro (Int) (Int) (List Sc × List Sc)) := fun s => f_i_FindBox_k4 t1 t2 t7 t8 t9 t10 t39 t40 t43 s (fun s => some (.again s)) (fun e => some (.one e)) (fun e => some (.two e))
def f_i_FindBox_k2 {R : Type} (t1 : Int) (t2 : List Sc) (t7 : Int) (t8 : Int) (t9 : Int) (t39 : Int) (t40 : Int) (kN : Int → Option R) (kA : Int → Option R) (kB : List Sc × List Sc → Option R) : Option R :=
  br ((decide (t40 < t39)))
    (bl (loopL (f_i_FindBox_r4 t1 t2 t7 t8 t9 t40 t39 t40 t7) 0) 0 ([], [])
      (fun e10 =>
        kN (w64 (t40 + 1)))
      (fun e10 =>
        kB (e10.1, e10.2)))
    (kA t40)
def f_i_FindBox_r2 (t1 : Int) (t2 : List Sc) (t7 : Int) (t8 : Int) (t9 : Int) (t39 : Int) : Int → Option (Ro (Int) (Int) (List Sc × List Sc)) := fun s => f_i_FindBox_k2 t1 t2 t7 t8 t9 t39 s (fun s => some (.again s)) (fun e => some (.one e)) (fun e => some (.two e))
def f_i_FindBox_k0 {R : Type} (t1 : Int) (t2 : List Sc) (t7 : Int) (t8 : Int) (t9 : Int) (kN : Int → Option R) (kA : Int → Option R) (kB : List Sc × List Sc → Option R) : Option R :=
  br ((decide ((w64 (t9 * t9)) ≤ t8)))
    (br (t9 == 0)
      none
      (br (((t8.tmod t9) != 0))
        (kN (w64 (t9 + 1)))
        (bl (loopL (f_i_FindBox_r2 t1 t2 t7 t8 t9 t7) 0) 0 ([], [])
          (fun e11 =>
            kN (w64 (t9 + 1)))
          (fun e11 =>
            kB (e11.1, e11.2)))))
    (kA t9)
def f_i_FindBox_r0 (t1 : Int) (t2 : List Sc) (t7 : Int) (t8 : Int) : Int → Option (Ro (Int) (Int) (List Sc × List Sc)) := fun s => f_i_FindBox_k0 t1 t2 t7 t8 s (fun s => some (.again s)) (fun e => some (.one e)) (fun e => some (.two e))
def f_i_FindBox_k {R : Type} (L0 : List Sc) (p1 : Int) (kR : List Sc × List Sc × Bool → Option R) : Option R :=
  bo (f_i_OrderOf L0) 0 fun r1 =>
  bo (f_i_IsSet L0 p1) false fun r2 =>
  br ((!r2) == false)
    (br ((p1 == 0))
      (kR ([], [], false))
      (bo (f_i_bits p1) 0 fun r3 =>
      bl (loopL (f_i_FindBox_r0 p1 L0 r1 r3) 1) 0 ([], [])
        (fun e12 =>
          kR ([], [], false))
        (fun e12 =>
          kR (e12.2, e12.1, true))))
    (kR ([], [], false))
def f_i_FindBox (L0 : List Sc) (p1 : Int) : Option (List Sc × List Sc × Bool) := f_i_FindBox_k L0 p1 some

def f_s_l3Bits_k0 {R : Type} (n3 : Int) (x4 : Int) (kN : Int × Int → Option R) (kA : Int → Option R) : Option R :=
  br ((decide (x4 > 0)))
    (kN ((w64 (n3 + (and64 x4 1))), (shr64 x4 1)))
    (kA n3)
def f_s_l3Bits_r0 : (Int × Int) → Option (Ro (Int × Int) (Int) (Unit)) := fun s => f_s_l3Bits_k0 s.1 s.2 (fun s => some (.again s)) (fun e => some (.one e))
def f_s_l3Bits_k {R : Type} (a0 : Int) (kR : Int → Option R) : Option R :=
  bl1 (loopL (f_s_l3Bits_r0) (0, a0)) 0 fun e1 =>
  kR e1
def f_s_l3Bits (a0 : Int) : Option (Int) := f_s_l3Bits_k a0 some

def f_s_FindBox_k6 {R : Type} (t1 : Int) (t2 : List Sc) (t7 : Int) (t8 : Int) (t9 : Int) (t10 : Int) (t11 : Int) (t12 : Int) (t13 : Int) (t14 : Int) (kN : Int → Option R) (kA : Unit → Option R) (kB : List Sc × List Sc → Option R) : Option R :=
  br ((decide (t14 < t8)))
    (bo (f_s_l3Shift t2 t13 t14) 0 fun r8 =>
    br ((r8 == t1))
      (br (t9 == 0)
        none
        (kB ([(Sc.n .i64 t9), (Sc.n .i64 (w64 (t7.tdiv t9)))], [(Sc.n .i64 t10), (Sc.n .i64 t12)])))
      (kN (w64 (t14 + 1))))
    (kA ())
def f_s_FindBox_r6 (t1 : Int) (t2 : List Sc) (t7 : Int) (t8 : Int) (t9 : Int) (t10 : Int) (t11 : Int) (t12 : Int) (t13 : Int) : Int → Option (Ro (Int) (Unit) (List Sc × List Sc)) := fun s => f_s_FindBox_k6 t1 t2 t7 t8 t9 t10 t11 t12 t13 s (fun s => some (.again s)) (fun e => some (.one e)) (fun e => some (.two e))
def f_s_FindBox_k4 {R : Type} (t1 : Int) (t2 : List Sc) (t7 : Int) (t8 : Int) (t9 : Int) (t10 : Int) (t11 : Int) (t12 : Int) (kN : Int → Option R) (kA : Int → Option R) (kB : List Sc × List Sc → Option R) : Option R :=
  br ((decide (t12 < t8)))
    (br (t9 == 0)
      none
      (bo (f_s_l10Progression t2 0 t12 (w64 (t7.tdiv t9))) 0 fun r5 =>
      bo (f_s_l4Sum t2 t11 r5) 0 fun r6 =>
      bo (f_s_l3Bits r6) 0 fun r7 =>
      br ((r7 != t7))
        (kN (w64 (t12 + 1)))
        (bl (loopL (f_s_FindBox_r6 t1 t2 t7 t8 t9 t10 t11 t12 r6) 0) () ([], [])
          (fun e9 =>
            kN (w64 (t12 + 1)))
          (fun e9 =>
            kB (e9.1, e9.2)))))
    (kA t12)
def f_s_FindBox_r4 (t1 : Int) (t2 : List Sc) (t7 : Int) (t8 : Int) (t9 : Int) (t10 : Int) (t11 : Int) : Int → Option (Ro (Int) (Int) (List Sc × List Sc)) := fun s => f_s_FindBox_k4 t1 t2 t7 t8 t9 t10 t11 s (fun s => some (.again s)) (fun e => some (.one e)) (fun e => some (.two e))
def f_s_FindBox_k2 {R : Type} (t1 : Int) (t2 : List Sc) (t7 : Int) (t8 : Int) (t9 : Int) (t10 : Int) (kN : Int → Option R) (kA : Int → Option R) (kB : List Sc × List Sc → Option R) : Option R :=
  br ((decide (t10 < t8)))
    (bo (f_s_l10Progression t2 0 t10 t9) 0 fun r4 =>
    bl (loopL (f_s_FindBox_r4 t1 t2 t7 t8 t9 t10 r4) 0) 0 ([], [])
      (fun e10 =>
        kN (w64 (t10 + 1)))
      (fun e10 =>
        kB (e10.1, e10.2)))
    (kA t10)
def f_s_FindBox_r2 (t1 : Int) (t2 : List Sc) (t7 : Int) (t8 : Int) (t9 : Int) : Int → Option (Ro (Int) (Int) (List Sc × List Sc)) := fun s => f_s_FindBox_k2 t1 t2 t7 t8 t9 s (fun s => some (.again s)) (fun e => some (.one e)) (fun e => some (.two e))
def f_s_FindBox_k0 {R : Type} (t1 : Int) (t2 : List Sc) (t7 : Int) (t8 : Int) (t9 : Int) (kN : Int → Option R) (kA : Int → Option R) (kB : List Sc × List Sc → Option R) : Option R :=
  br ((decide ((w64 (t9 * t9)) ≤ t7)))
    (br (t9 == 0)
      none
      (br (((t7.tmod t9) != 0))
        (kN (w64 (t9 + 1)))
        (bl (loopL (f_s_FindBox_r2 t1 t2 t7 t8 t9) 0) 0 ([], [])
          (fun e11 =>
            kN (w64 (t9 + 1)))
          (fun e11 =>
            kB (e11.1, e11.2)))))
    (kA t9)
def f_s_FindBox_r0 (t1 : Int) (t2 : List Sc) (t7 : Int) (t8 : Int) : Int → Option (Ro (Int) (Int) (List Sc × List Sc)) := fun s => f_s_FindBox_k0 t1 t2 t7 t8 s (fun s => some (.again s)) (fun e => some (.one e)) (fun e => some (.two e))
def f_s_FindBox_k {R : Type} (L0 : List Sc) (p1 : Int) (kR : List Sc × List Sc × Bool → Option R) : Option R :=
  bo (f_s_IsSet L0 p1) false fun r1 =>
  br ((!r1) == false)
    (br ((p1 == 0))
      (kR ([], [], false))
      (bo (f_s_l3Bits p1) 0 fun r2 =>
      bo (f_s_l2Order L0) 0 fun r3 =>
      bl (loopL (f_s_FindBox_r0 p1 L0 r2 r3) 1) 0 ([], [])
        (fun e12 =>
          kR ([], [], false))
        (fun e12 =>
          kR (e12.2, e12.1, true))))
    (kR ([], [], false))
def f_s_FindBox (L0 : List Sc) (p1 : Int) : Option (List Sc × List Sc × Bool) := f_s_FindBox_k L0 p1 some

def f_l_sameInts_k0 {R : Type} (a0 : List Sc) (b1 : List Sc) (i5 : Int) (kN : Int → Option R) (kA : Unit → Option R) (kB : Unit → Option R) : Option R :=
  br ((decide (i5 < (a0.length : Int))))
    (br (okAt a0 i5)
      (br (okAt b1 i5)
        (br (((atI a0 i5) != (atI b1 i5)))
          (kB ())
          (kN (w64 (i5 + 1))))
        none)
      none)
    (kA ())
def f_l_sameInts_r0 (a0 : List Sc) (b1 : List Sc) : Int → Option (Ro (Int) (Unit) (Unit)) := fun s => f_l_sameInts_k0 a0 b1 s (fun s => some (.again s)) (fun e => some (.one e)) (fun e => some (.two e))
def f_l_sameInts_k {R : Type} (a0 : List Sc) (b1 : List Sc) (kR : Bool → Option R) : Option R :=
  br (((a0.length : Int) != (b1.length : Int)))
    (kR false)
    (bl (loopL (f_l_sameInts_r0 a0 b1) 0) () ()
      (fun e1 =>
        kR true)
      (fun e1 =>
        kR false))
def f_l_sameInts (a0 : List Sc) (b1 : List Sc) : Option (Bool) := f_l_sameInts_k a0 b1 some

def f_i_IsBox_k {R : Type} (g0 : List Sc) (a1 : Int) (kR : Bool → Option R) : Option R :=
  bo (f_i_FindBox g0 a1) ([], [], false) fun r1 =>
  kR r1.2.2
def f_i_IsBox (g0 : List Sc) (a1 : Int) : Option (Bool) := f_i_IsBox_k g0 a1 some

def f_i_Group_has_k {R : Type} (g0 : List Sc) (x1 : Int) (kR : Bool → Option R) : Option R :=
  bo (f_i_OrderOf g0) 0 fun r1 =>
  bo (f_i_within x1 0 (w64 (r1 - 1))) false fun r2 =>
  kR r2
def f_i_Group_has (g0 : List Sc) (x1 : Int) : Option (Bool) := f_i_Group_has_k g0 x1 some

def f_i_BoxOf_k0 {R : Type} (sizes2 : List Sc) (g3 : List Sc) (t26 : List Sc) (t27 : Int) (out8 : Int) (t28 : Int) (kN : Int × Int → Option R) (kA : Int → Option R) (kB : Unit → Option R) : Option R :=
  br ((decide (t28 < t27)))
    (br (okAt t26 t28)
      (bo (f_i_Group_has g3 (atI t26 t28)) false fun r2 =>
      br ((!r2) == false)
        (br (okAt sizes2 t28)
          (bo (f_i_within (atI sizes2 t28) 1 24) false fun r3 =>
          br ((!r3))
            (kB ())
            (br (okAt sizes2 t28)
              (bo (f_i_Group_progression g3 0 (atI t26 t28) (atI sizes2 t28)) 0 fun r4 =>
              bo (f_i_Group_sum g3 out8 r4) 0 fun r5 =>
              kN (r5, (w64 (t28 + 1))))
              none))
          none)
        (kB ()))
      none)
    (kA out8)
def f_i_BoxOf_r0 (sizes2 : List Sc) (g3 : List Sc) (t26 : List Sc) (t27 : Int) : (Int × Int) → Option (Ro (Int × Int) (Int) (Unit)) := fun s => f_i_BoxOf_k0 sizes2 g3 t26 t27 s.1 s.2 (fun s => some (.again s)) (fun e => some (.one e)) (fun e => some (.two e))
def f_i_BoxOf_k {R : Type} (g0 : List Sc) (steps1 : List Sc) (sizes2 : List Sc) (kR : Int × Bool → Option R) : Option R :=
  bo (f_i_IsGroup g0) false fun r1 =>
  br ((!r1) == false)
    (br (((steps1.length : Int) != (sizes2.length : Int)) == false)
      (br ((decide ((steps1.length : Int) > 3)))
        (kR (0, false))
        (bl (loopL (f_i_BoxOf_r0 sizes2 g0 steps1 (steps1.length : Int)) (1, 0)) 0 ()
          (fun e6 =>
            kR (e6, true))
          (fun e6 =>
            kR (0, false))))
      (kR (0, false)))
    (kR (0, false))
def f_i_BoxOf (g0 : List Sc) (steps1 : List Sc) (sizes2 : List Sc) : Option (Int × Bool) := f_i_BoxOf_k g0 steps1 sizes2 some

def f_i_IsProperBox_k0 {R : Type} (a7 : Int) (ok8 : Bool) (t19 : List Sc) (t20 : Int) (n9 : Int) (t21 : Int) (kN : Int × Int → Option R) (kA : Int → Option R) : Option R :=
  br ((decide (t21 < t20)))
    (br (okAt t19 t21)
      (kN ((w64 (n9 * (atI t19 t21))), (w64 (t21 + 1))))
      none)
    (kA n9)
def f_i_IsProperBox_r0 (a7 : Int) (ok8 : Bool) (t19 : List Sc) (t20 : Int) : (Int × Int) → Option (Ro (Int × Int) (Int) (Unit)) := fun s => f_i_IsProperBox_k0 a7 ok8 t19 t20 s.1 s.2 (fun s => some (.again s)) (fun e => some (.one e))
def f_i_IsProperBox_k {R : Type} (g0 : List Sc) (steps1 : List Sc) (sizes2 : List Sc) (kR : Bool → Option R) : Option R :=
  bo (f_i_BoxOf g0 steps1 sizes2) (0, false) fun r1 =>
  bl1 (loopL (f_i_IsProperBox_r0 r1.1 r1.2 sizes2 (sizes2.length : Int)) (1, 0)) 0 fun e2 =>
  br (r1.2 == true)
    (bo (f_i_bits r1.1) 0 fun r3 =>
    kR (r3 == e2))
    (kR false)
def f_i_IsProperBox (g0 : List Sc) (steps1 : List Sc) (sizes2 : List Sc) : Option (Bool) := f_i_IsProperBox_k g0 steps1 sizes2 some

def f_s_CountSet_k {R : Type} (g0 : List Sc) (a1 : Int) (kR : Int → Option R) : Option R :=
  bo (f_s_IsSet g0 a1) false fun r1 =>
  br ((!r1))
    (kR (-1))
    (bo (f_s_l3Bits a1) 0 fun r2 =>
    kR r2)
def f_s_CountSet (g0 : List Sc) (a1 : Int) : Option (Int) := f_s_CountSet_k g0 a1 some

def f_s_DrawBoxOf_k {R : Type} (code0 : List Sc) (kR : List Sc × List Sc × List Sc → Option R) : Option R :=
  bo (f_s_l14Draw code0) ([], [], []) fun r1 =>
  kR (r1.1, r1.2.1, r1.2.2)
def f_s_DrawBoxOf (code0 : List Sc) : Option (List Sc × List Sc × List Sc) := f_s_DrawBoxOf_k code0 some

def f_s_DrawCubeOf_g2_k {R : Type} (v0 : List Sc) (v1 : List Sc) (t0 : List Sc) (t6 : List Sc) (kA : Int → Option R) : Option R :=
  br (inRange ((t0.length : Int).tmod 5) ([(Sc.n .i64 0), (Sc.n .i64 1), (Sc.n .i64 2), (Sc.n .i64 (-1)), (Sc.n .i64 99)]).length)
    (br (kAt [(Sc.n .i64 0), (Sc.n .i64 1), (Sc.n .i64 2), (Sc.n .i64 (-1)), (Sc.n .i64 99)] ((t0.length : Int).tmod 5).toNat)
      (kA (atN [(Sc.n .i64 0), (Sc.n .i64 1), (Sc.n .i64 2), (Sc.n .i64 (-1)), (Sc.n .i64 99)] ((t0.length : Int).tmod 5).toNat))
      none)
    none
def f_s_DrawCubeOf_g2 (v0 : List Sc) (v1 : List Sc) (t0 : List Sc) (t6 : List Sc) : Option (Int) := f_s_DrawCubeOf_g2_k v0 v1 t0 t6 some
def f_s_DrawCubeOf_k {R : Type} (code0 : List Sc) (kR : List Sc × Int × List Sc → Option R) : Option R :=
  bo (f_s_l14Draw code0) ([], [], []) fun r1 =>
  bo (f_s_DrawCubeOf_g2 [] r1.1 code0 r1.2.1) 0 fun g2 =>
  kR (r1.1, g2, r1.2.1)
def f_s_DrawCubeOf (code0 : List Sc) : Option (List Sc × Int × List Sc) := f_s_DrawCubeOf_k code0 some

def f_i_CubeOf_k0 {R : Type} (g3 : List Sc) (t22 : List Sc) (t23 : Int) (out8 : Int) (t24 : Int) (kN : Int × Int → Option R) (kA : Int → Option R) (kB : Unit → Option R) : Option R :=
  br ((decide (t24 < t23)))
    (br (okAt t22 t24)
      (bo (f_i_Group_has g3 (atI t22 t24)) false fun r2 =>
      br ((!r2))
        (kB ())
        (bo (f_i_Group_shift g3 out8 (atI t22 t24)) 0 fun r3 =>
        kN ((or64 out8 r3), (w64 (t24 + 1)))))
      none)
    (kA out8)
def f_i_CubeOf_r0 (g3 : List Sc) (t22 : List Sc) (t23 : Int) : (Int × Int) → Option (Ro (Int × Int) (Int) (Unit)) := fun s => f_i_CubeOf_k0 g3 t22 t23 s.1 s.2 (fun s => some (.again s)) (fun e => some (.one e)) (fun e => some (.two e))
def f_i_CubeOf_k {R : Type} (g0 : List Sc) (base1 : Int) (steps2 : List Sc) (kR : Int × Bool → Option R) : Option R :=
  bo (f_i_Group_has g0 base1) false fun r1 =>
  br ((!r1) == false)
    (br ((decide ((steps2.length : Int) > 5)))
      (kR (0, false))
      (br (decide (base1 < 0))
        none
        (bl (loopL (f_i_CubeOf_r0 g0 steps2 (steps2.length : Int)) ((shl64 1 base1), 0)) 0 ()
          (fun e4 =>
            kR (e4, true))
          (fun e4 =>
            kR (0, false)))))
    (kR (0, false))
def f_i_CubeOf (g0 : List Sc) (base1 : Int) (steps2 : List Sc) : Option (Int × Bool) := f_i_CubeOf_k g0 base1 steps2 some

def f_s_CubeOf_k0 {R : Type} (steps2 : List Sc) (g3 : List Sc) (out8 : Int) (i9 : Int) (kN : Int × Int → Option R) (kA : Int → Option R) (kB : Unit → Option R) : Option R :=
  br ((decide (i9 < (steps2.length : Int))))
    (br (okAt steps2 i9)
      (bo (f_s_l2Is g3 (atI steps2 i9)) false fun r2 =>
      br ((!r2))
        (kB ())
        (br (okAt steps2 i9)
          (bo (f_s_l3Shift g3 out8 (atI steps2 i9)) 0 fun r3 =>
          kN ((or64 out8 r3), (w64 (i9 + 1))))
          none))
      none)
    (kA out8)
def f_s_CubeOf_r0 (steps2 : List Sc) (g3 : List Sc) : (Int × Int) → Option (Ro (Int × Int) (Int) (Unit)) := fun s => f_s_CubeOf_k0 steps2 g3 s.1 s.2 (fun s => some (.again s)) (fun e => some (.one e)) (fun e => some (.two e))
def f_s_CubeOf_k {R : Type} (g0 : List Sc) (base1 : Int) (steps2 : List Sc) (kR : Int × Bool → Option R) : Option R :=
  bo (f_s_l2Is g0 base1) false fun r1 =>
  br ((!r1) == false)
    (br ((decide ((steps2.length : Int) > 5)))
      (kR (0, false))
      (br (decide (base1 < 0))
        none
        (bl (loopL (f_s_CubeOf_r0 steps2 g0) ((shl64 1 base1), 0)) 0 ()
          (fun e4 =>
            kR (e4, true))
          (fun e4 =>
            kR (0, false)))))
    (kR (0, false))
def f_s_CubeOf (g0 : List Sc) (base1 : Int) (steps2 : List Sc) : Option (Int × Bool) := f_s_CubeOf_k g0 base1 steps2 some

def f_s_DrawHasCube_g2_k {R : Type} (v0 : List Sc) (v1 : List Sc) (t0 : List Sc) (t6 : Int) (kA : Int → Option R) : Option R :=
  br (inRange ((t0.length : Int).tmod 7) ([(Sc.n .i64 0), (Sc.n .i64 1), (Sc.n .i64 2), (Sc.n .i64 3), (Sc.n .i64 4), (Sc.n .i64 5), (Sc.n .i64 (-1))]).length)
    (br (kAt [(Sc.n .i64 0), (Sc.n .i64 1), (Sc.n .i64 2), (Sc.n .i64 3), (Sc.n .i64 4), (Sc.n .i64 5), (Sc.n .i64 (-1))] ((t0.length : Int).tmod 7).toNat)
      (kA (atN [(Sc.n .i64 0), (Sc.n .i64 1), (Sc.n .i64 2), (Sc.n .i64 3), (Sc.n .i64 4), (Sc.n .i64 5), (Sc.n .i64 (-1))] ((t0.length : Int).tmod 7).toNat))
      none)
    none
def f_s_DrawHasCube_g2 (v0 : List Sc) (v1 : List Sc) (t0 : List Sc) (t6 : Int) : Option (Int) := f_s_DrawHasCube_g2_k v0 v1 t0 t6 some
def f_s_DrawHasCube_k {R : Type} (code0 : List Sc) (kR : List Sc × Int × Int → Option R) : Option R :=
  bo (f_s_l14Set code0) ([], 0) fun r1 =>
  bo (f_s_DrawHasCube_g2 [] r1.1 code0 r1.2) 0 fun g2 =>
  kR (r1.1, r1.2, g2)
def f_s_DrawHasCube (code0 : List Sc) : Option (List Sc × Int × Int) := f_s_DrawHasCube_k code0 some

def f_i_Group_negate_k0 {R : Type} (t10 : List Sc) (t11 : Int) (x1 : Int) (sum5 : Int) (unit6 : Int) (t12 : Int) (kN : Int × Int × Int × Int → Option R) (kA : Int → Option R) : Option R :=
  br ((decide (t12 < t11)))
    (br (okAt t10 t12)
      (br ((atI t10 t12) == 0)
        none
        (br ((atI t10 t12) == 0)
          none
          (br ((atI t10 t12) == 0)
            none
            (kN ((w64 (x1.tdiv (atI t10 t12))), (w64 (sum5 + (w64 (((w64 ((atI t10 t12) - (x1.tmod (atI t10 t12)))).tmod (atI t10 t12)) * unit6)))), (w64 (unit6 * (atI t10 t12))), (w64 (t12 + 1)))))))
      none)
    (kA sum5)
def f_i_Group_negate_r0 (t10 : List Sc) (t11 : Int) : (Int × Int × Int × Int) → Option (Ro (Int × Int × Int × Int) (Int) (Unit)) := fun s => f_i_Group_negate_k0 t10 t11 s.1 s.2.1 s.2.2.1 s.2.2.2 (fun s => some (.again s)) (fun e => some (.one e))
def f_i_Group_negate_k {R : Type} (g0 : List Sc) (x1 : Int) (kR : Int → Option R) : Option R :=
  bl1 (loopL (f_i_Group_negate_r0 g0 (g0.length : Int)) (x1, 0, 1, 0)) 0 fun e1 =>
  kR e1
def f_i_Group_negate (g0 : List Sc) (x1 : Int) : Option (Int) := f_i_Group_negate_k g0 x1 some

def f_i_HasCube_k0 {R : Type} (self : (List Sc × Int × Int) → Option (Bool)) (a1 : Int) (d2 : Int) (g3 : List Sc) (s7 : Int) (kN : Int → Option R) (kA : Unit → Option R) (kB : Unit → Option R) : Option R :=
  bo (f_i_OrderOf g3) 0 fun r3 =>
  br ((decide (s7 < r3)))
    (bo (f_i_Group_negate g3 s7) 0 fun r4 =>
    bo (f_i_Group_shift g3 a1 r4) 0 fun r5 =>
    bo (self (g3, (and64 a1 r5), (w64 (d2 - 1)))) false fun r6 =>
    br (r6)
      (kB ())
      (kN (w64 (s7 + 1))))
    (kA ())
def f_i_HasCube_r0 (self : (List Sc × Int × Int) → Option (Bool)) (a1 : Int) (d2 : Int) (g3 : List Sc) : Int → Option (Ro (Int) (Unit) (Unit)) := fun s => f_i_HasCube_k0 self a1 d2 g3 s (fun s => some (.again s)) (fun e => some (.one e)) (fun e => some (.two e))
def f_i_HasCube_k {R : Type} (self : (List Sc × Int × Int) → Option (Bool)) (g0 : List Sc) (a1 : Int) (d2 : Int) (kR : Bool → Option R) : Option R :=
  bo (f_i_IsSet g0 a1) false fun r1 =>
  br ((!r1) == false)
    (bo (f_i_within d2 0 4) false fun r2 =>
    br ((!r2))
      (kR false)
      (br ((d2 == 0) == false)
        (br ((a1 == 0))
          (kR (a1 != 0))
          (bl (loopL (f_i_HasCube_r0 self a1 d2 g0) 1) () ()
            (fun e7 =>
              kR false)
            (fun e7 =>
              kR true)))
        (kR (a1 != 0))))
    (kR false)
def f_i_HasCube_n : Nat → (List Sc × Int × Int) → Option (Bool)
  | 0, _ => none
  | n + 1, a => f_i_HasCube_k (f_i_HasCube_n n) a.1 a.2.1 a.2.2 some
def f_i_HasCube (g0 : List Sc) (a1 : Int) (d2 : Int) : Option (Bool) := limF f_i_HasCube_n (g0, a1, d2)

def f_s_l14Cube_k0 {R : Type} (self : (List Sc × Int × Int) → Option (Bool)) (a1 : Int) (d2 : Int) (g3 : List Sc) (x7 : Int) (kN : Int → Option R) (kA : Unit → Option R) (kB : Unit → Option R) : Option R :=
  bo (f_s_l2Order g3) 0 fun r1 =>
  br ((decide (x7 < r1)))
    (bo (f_s_l3Shift g3 a1 x7) 0 fun r2 =>
    br ((decide ((and64 a1 r2) > 0)) == true)
      (bo (self (g3, (and64 a1 r2), (w64 (d2 - 1)))) false fun r3 =>
      br (r3)
        (kB ())
        (kN (w64 (x7 + 1))))
      (kN (w64 (x7 + 1))))
    (kA ())
def f_s_l14Cube_r0 (self : (List Sc × Int × Int) → Option (Bool)) (a1 : Int) (d2 : Int) (g3 : List Sc) : Int → Option (Ro (Int) (Unit) (Unit)) := fun s => f_s_l14Cube_k0 self a1 d2 g3 s (fun s => some (.again s)) (fun e => some (.one e)) (fun e => some (.two e))
def f_s_l14Cube_k {R : Type} (self : (List Sc × Int × Int) → Option (Bool)) (g0 : List Sc) (a1 : Int) (d2 : Int) (kR : Bool → Option R) : Option R :=
  br ((d2 == 0))
    (kR (decide (a1 > 0)))
    (bl (loopL (f_s_l14Cube_r0 self a1 d2 g0) 1) () ()
      (fun e4 =>
        kR false)
      (fun e4 =>
        kR true))
def f_s_l14Cube_n : Nat → (List Sc × Int × Int) → Option (Bool)
  | 0, _ => none
  | n + 1, a => f_s_l14Cube_k (f_s_l14Cube_n n) a.1 a.2.1 a.2.2 some
def f_s_l14Cube (g0 : List Sc) (a1 : Int) (d2 : Int) : Option (Bool) := limF f_s_l14Cube_n (g0, a1, d2)

def f_s_HasCube_k {R : Type} (g0 : List Sc) (a1 : Int) (d2 : Int) (kR : Bool → Option R) : Option R :=
  bo (f_s_IsSet g0 a1) false fun r1 =>
  br ((!r1) == false)
    (bo (f_s_l1In d2 0 4) false fun r2 =>
    br ((!r2))
      (kR false)
      (bo (f_s_l14Cube g0 a1 d2) false fun r3 =>
      kR r3))
    (kR false)
def f_s_HasCube (g0 : List Sc) (a1 : Int) (d2 : Int) : Option (Bool) := f_s_HasCube_k g0 a1 d2 some

def f_s_IsProperBox_k0 {R : Type} (steps1 : List Sc) (sizes2 : List Sc) (g3 : List Sc) (n7 : Int) (i8 : Int) (kN : Int × Int → Option R) (kA : Int → Option R) : Option R :=
  br ((decide (i8 < (sizes2.length : Int))))
    (br (okAt sizes2 i8)
      (kN ((if (w64 (n7 * (atI sizes2 i8))) < 1000 then (w64 (n7 * (atI sizes2 i8))) else 1000), (w64 (i8 + 1))))
      none)
    (kA n7)
def f_s_IsProperBox_r0 (steps1 : List Sc) (sizes2 : List Sc) (g3 : List Sc) : (Int × Int) → Option (Ro (Int × Int) (Int) (Unit)) := fun s => f_s_IsProperBox_k0 steps1 sizes2 g3 s.1 s.2 (fun s => some (.again s)) (fun e => some (.one e))
def f_s_IsProperBox_k {R : Type} (g0 : List Sc) (steps1 : List Sc) (sizes2 : List Sc) (kR : Bool → Option R) : Option R :=
  bo (f_s_l14Fine g0 steps1 sizes2) false fun r1 =>
  br ((!r1))
    (kR false)
    (bl1 (loopL (f_s_IsProperBox_r0 steps1 sizes2 g0) (1, 0)) 0 fun e2 =>
    bo (f_s_l14Box g0 steps1 sizes2) 0 fun r3 =>
    bo (f_s_l3Bits r3) 0 fun r4 =>
    kR (r4 == e2))
def f_s_IsProperBox (g0 : List Sc) (steps1 : List Sc) (sizes2 : List Sc) : Option (Bool) := f_s_IsProperBox_k g0 steps1 sizes2 some

def f_l_FnBoxes_w22_k {R : Type} (v1 : List Sc) (t14 : List Sc) (t15 : List Sc) (t16 : Int) (t17 : Bool) (t18 : Int) (t19 : Bool) (t23 : Int) (t24 : Bool) (t25 : Int) (t26 : Bool) (kA : Bool → Option R) : Option R :=
  br ((t16 == t18) == true)
    (br ((t17 == t19) == true)
      (br ((t23 == t25) == true)
        (br ((t24 == t26) == true)
          (bo (f_i_IsProperBox v1 t14 t15) false fun r23 =>
          bo (f_s_IsProperBox v1 t14 t15) false fun r24 =>
          kA (r23 == r24))
          (kA false))
        (kA false))
      (kA false))
    (kA false)
def f_l_FnBoxes_w22 (v1 : List Sc) (t14 : List Sc) (t15 : List Sc) (t16 : Int) (t17 : Bool) (t18 : Int) (t19 : Bool) (t23 : Int) (t24 : Bool) (t25 : Int) (t26 : Bool) : Option (Bool) := f_l_FnBoxes_w22_k v1 t14 t15 t16 t17 t18 t19 t23 t24 t25 t26 some
def f_l_FnBoxes_w12_k {R : Type} (t0 : List Sc) (kA : Bool → Option R) : Option R :=
  bo (f_s_DrawBoxOf t0) ([], [], []) fun r13 =>
  bo (f_i_BoxOf r13.1 r13.2.1 r13.2.2) (0, false) fun r14 =>
  bo (f_s_BoxOf r13.1 r13.2.1 r13.2.2) (0, false) fun r15 =>
  bo (f_s_DrawCubeOf t0) ([], 0, []) fun r16 =>
  bo (f_i_CubeOf r16.1 r16.2.1 r16.2.2) (0, false) fun r17 =>
  bo (f_s_CubeOf r16.1 r16.2.1 r16.2.2) (0, false) fun r18 =>
  bo (f_s_DrawHasCube t0) ([], 0, 0) fun r19 =>
  bo (f_i_HasCube r19.1 r19.2.1 r19.2.2) false fun r20 =>
  bo (f_s_HasCube r19.1 r19.2.1 r19.2.2) false fun r21 =>
  br ((!(r20 == r21)) == false)
    (br (r20 == true)
      (br ((decide (r19.2.2 > 0)) == true)
        (bo (f_i_HasCube r19.1 r19.2.1 (w64 (r19.2.2 - 1))) false fun r22 =>
        br ((!r22))
          (kA false)
          (bo (f_l_FnBoxes_w22 r13.1 r13.2.1 r13.2.2 r14.1 r14.2 r15.1 r15.2 r17.1 r17.2 r18.1 r18.2) false fun w25 =>
          kA w25))
        (bo (f_l_FnBoxes_w22 r13.1 r13.2.1 r13.2.2 r14.1 r14.2 r15.1 r15.2 r17.1 r17.2 r18.1 r18.2) false fun w26 =>
        kA w26))
      (bo (f_l_FnBoxes_w22 r13.1 r13.2.1 r13.2.2 r14.1 r14.2 r15.1 r15.2 r17.1 r17.2 r18.1 r18.2) false fun w27 =>
      kA w27))
    (kA false)
def f_l_FnBoxes_w12 (t0 : List Sc) : Option (Bool) := f_l_FnBoxes_w12_k t0 some
def f_l_FnBoxes_w8_k {R : Type} (v0 : List Sc) (t0 : List Sc) (t4 : Int) (t7 : Bool) (t8 : List Sc) (t9 : List Sc) (kA : Bool → Option R) : Option R :=
  br (t7)
    (bo (f_i_BoxOf v0 t8 t9) (0, false) fun r8 =>
    br ((!r8.2) == false)
      (bo (f_i_IsProperBox v0 t8 t9) false fun r9 =>
      br ((!r9) == false)
        (bo (f_s_CountSet v0 r8.1) 0 fun r10 =>
        bo (f_s_CountSet v0 t4) 0 fun r11 =>
        br ((r10 != r11) == false)
          (bo (f_s_CountSet v0 r8.1) 0 fun r12 =>
          br (inRange 0 (t9).length)
            (br (kAt t9 (0 : Int).toNat)
              (br (inRange 1 (t9).length)
                (br (kAt t9 (1 : Int).toNat)
                  (br ((r12 != (w64 ((atN t9 (0 : Int).toNat) * (atN t9 (1 : Int).toNat)))))
                    (kA false)
                    (bo (f_l_FnBoxes_w12 t0) false fun w28 =>
                    kA w28))
                  none)
                none)
              none)
            none)
          (kA false))
        (kA false))
      (kA false))
    (bo (f_l_FnBoxes_w12 t0) false fun w29 =>
    kA w29)
def f_l_FnBoxes_w8 (v0 : List Sc) (t0 : List Sc) (t4 : Int) (t7 : Bool) (t8 : List Sc) (t9 : List Sc) : Option (Bool) := f_l_FnBoxes_w8_k v0 t0 t4 t7 t8 t9 some
def f_l_FnBoxes_w3_k {R : Type} (t0 : List Sc) (kA : Bool → Option R) : Option R :=
  bo (f_s_DrawFindBox t0) ([], 0) fun r2 =>
  bo (f_i_FindBox r2.1 r2.2) ([], [], false) fun r3 =>
  bo (f_s_FindBox r2.1 r2.2) ([], [], false) fun r4 =>
  br ((!(r3.2.2 == r4.2.2)) == false)
    (bo (f_l_sameInts r3.1 r4.1) false fun r5 =>
    br ((!r5) == false)
      (bo (f_l_sameInts r3.2.1 r4.2.1) false fun r6 =>
      br ((!r6) == false)
        (bo (f_i_IsBox r2.1 r2.2) false fun r7 =>
        br ((!(r7 == r4.2.2)))
          (kA false)
          (bo (f_l_FnBoxes_w8 r2.1 t0 r2.2 r3.2.2 r4.1 r4.2.1) false fun w30 =>
          kA w30))
        (kA false))
      (kA false))
    (kA false)
def f_l_FnBoxes_w3 (t0 : List Sc) : Option (Bool) := f_l_FnBoxes_w3_k t0 some
def f_l_FnBoxes_k {R : Type} (L0 : List Sc) (kR : Bool → Option R) : Option R :=
  bo (f_l_big L0) false fun r1 =>
  br (r1)
    (kR true)
    (bo (f_l_FnBoxes_w3 L0) false fun w31 =>
    kR w31)
def f_l_FnBoxes (L0 : List Sc) : Option (Bool) := f_l_FnBoxes_k L0 some
end
end Go.Proofs.Ytphbclogflflmaa
