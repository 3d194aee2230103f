/-
  What the functions compute, as plain functions (printed by gen2.py).
-/
import Derived.Test.YtonjcafobhpfdaaVGen
set_option linter.unusedVariables false
set_option linter.unusedSimpArgs false
namespace Go.Proofs.Ytonjcafobhpfdaa
open Go Ev
noncomputable section
def f_l_big_k {R : Type} (code0 : List Sc) (kR : Bool → Option R) : Option R :=
  kR (decide ((code0.length : Int) > 1048576))
def f_l_big (code0 : List Sc) : Option (Bool) := f_l_big_k code0 some

def f_s_l1New_k0 {R : Type} (code0 : List Sc) (h3 : Int) (i4 : Int) (kN : Int × Int → Option R) (kA : Int → Option R) : Option R :=
  br ((decide (i4 < (code0.length : Int))) == true)
    (br ((decide (i4 < 4000)))
      (br (okZ (.n .u8 0) code0 i4)
        (kN ((and64 (w64 ((w64 ((w64 (h3 * 131)) + (w64 (sAt code0 .u8 i4)))) + 7)) 1073741823), (w64 (i4 + 1))))
        none)
      (kA h3))
    (kA h3)
def f_s_l1New_r0 (code0 : List Sc) : (Int × Int) → Option (Ro (Int × Int) (Int) (Unit)) := fun s => f_s_l1New_k0 code0 s.1 s.2 (fun s => some (.again s)) (fun e => some (.one e))
def f_s_l1New_k {R : Type} (code0 : List Sc) (kR : List Sc × Int × Int → Option R) : Option R :=
  bl1 (loopL (f_s_l1New_r0 code0) ((w64 (10101 + (code0.length : Int))), 0)) 0 fun e1 =>
  kR (code0, 0, e1)
def f_s_l1New (code0 : List Sc) : Option (List Sc × Int × Int) := f_s_l1New_k code0 some

def f_s_l1Byte_io_k {R : Type} (h0 : List Sc) (h1 : Int) (h2 : Int) (kR : Int × List Sc × Int × Int → Option R) : Option R :=
  br ((decide (h1 < (h0.length : Int))))
    (br (okZ (.n .u8 0) h0 h1)
      (kR ((and64 (w64 ((and64 (xor64 (shr64 (w64 ((w64 (h2 * 6364136223846793005)) + 1442695040888963407)) 33) (shr64 (w64 ((w64 (h2 * 6364136223846793005)) + 1442695040888963407)) 45)) 255) + (w64 (sAt h0 .u8 h1)))) 255), h0, (w64 (h1 + 1)), (w64 ((w64 (h2 * 6364136223846793005)) + 1442695040888963407))))
      none)
    (kR ((and64 (xor64 (shr64 (w64 ((w64 (h2 * 6364136223846793005)) + 1442695040888963407)) 33) (shr64 (w64 ((w64 (h2 * 6364136223846793005)) + 1442695040888963407)) 45)) 255), h0, h1, (w64 ((w64 (h2 * 6364136223846793005)) + 1442695040888963407))))
def f_s_l1Byte_io (h0 : List Sc) (h1 : Int) (h2 : Int) : Option (Int × List Sc × Int × Int) := f_s_l1Byte_io_k h0 h1 h2 some

def f_s_l1Below_io_k {R : Type} (n1 : Int) (h0 : List Sc) (h1 : Int) (h2 : Int) (kR : Int × List Sc × Int × Int → Option R) : Option R :=
  br ((decide (n1 ≤ 0)))
    (kR (0, h0, h1, h2))
    (br ((decide (n1 ≤ 256)))
      (bo (f_s_l1Byte_io h0 h1 h2) (0, [], 0, 0) fun r1 =>
      br (n1 == 0)
        none
        (kR ((r1.1.tmod n1), r1.2.1, r1.2.2.1, r1.2.2.2)))
      (bo (f_s_l1Byte_io h0 h1 h2) (0, [], 0, 0) fun r2 =>
      bo (f_s_l1Byte_io r2.2.1 r2.2.2.1 r2.2.2.2) (0, [], 0, 0) fun r3 =>
      bo (f_s_l1Byte_io r3.2.1 r3.2.2.1 r3.2.2.2) (0, [], 0, 0) fun r4 =>
      bo (f_s_l1Byte_io r4.2.1 r4.2.2.1 r4.2.2.2) (0, [], 0, 0) fun r5 =>
      br (n1 == 0)
        none
        (kR (((w64 ((w64 ((w64 ((w64 (r2.1 * 16777216)) + (w64 (r3.1 * 65536)))) + (w64 (r4.1 * 256)))) + r5.1)).tmod n1), r5.2.1, r5.2.2.1, r5.2.2.2))))
def f_s_l1Below_io (n1 : Int) (h0 : List Sc) (h1 : Int) (h2 : Int) : Option (Int × List Sc × Int × Int) := f_s_l1Below_io_k n1 h0 h1 h2 some

def f_s_l2Draw_io_k0 {R : Type} (most1 : Int) (o6 : List Sc) (v0 : List Sc) (v1 : Int) (v2 : Int) (v3 : List Sc) (n7 : Int) (i8 : Int) (kN : List Sc × Int × Int × List Sc × Int × Int → Option R) (kA : List Sc × Int × Int × List Sc × Int → Option R) : Option R :=
  br ((decide (i8 < (o6.length : Int))))
    (br (okAt o6 i8)
      (kN (v0, v1, v2, v3, (w64 (n7 * (atI o6 i8))), (w64 (i8 + 1))))
      none)
    (kA (v0, v1, v2, v3, n7))
def f_s_l2Draw_io_r0 (most1 : Int) (o6 : List Sc) : (List Sc × Int × Int × List Sc × Int × Int) → Option (Ro (List Sc × Int × Int × List Sc × Int × Int) (List Sc × Int × Int × List Sc × Int) (Unit)) := fun s => f_s_l2Draw_io_k0 most1 o6 s.1 s.2.1 s.2.2.1 s.2.2.2.1 s.2.2.2.2.1 s.2.2.2.2.2 (fun s => some (.again s)) (fun e => some (.one e))
def f_s_l2Draw_io_k {R : Type} (most1 : Int) (h0 : List Sc) (h1 : Int) (h2 : Int) (kR : List Sc × List Sc × Int × Int → Option R) : Option R :=
  bo (f_s_l1Below_io (([[], [(Sc.n .i64 2)], [(Sc.n .i64 3)], [(Sc.n .i64 4)], [(Sc.n .i64 5)], [(Sc.n .i64 6)], [(Sc.n .i64 7)], [(Sc.n .i64 8)], [(Sc.n .i64 9)], [(Sc.n .i64 10)], [(Sc.n .i64 11)], [(Sc.n .i64 12)], [(Sc.n .i64 2), (Sc.n .i64 2)], [(Sc.n .i64 2), (Sc.n .i64 4)], [(Sc.n .i64 3), (Sc.n .i64 3)], [(Sc.n .i64 2), (Sc.n .i64 6)], [(Sc.n .i64 2), (Sc.n .i64 2), (Sc.n .i64 2)], [(Sc.n .i64 13)], [(Sc.n .i64 16)], [(Sc.n .i64 4), (Sc.n .i64 4)], [(Sc.n .i64 2), (Sc.n .i64 2), (Sc.n .i64 3)], [(Sc.n .i64 2), (Sc.n .i64 3)], [(Sc.n .i64 24)]] : List (List Sc)).length : Int) h0 h1 h2) (0, [], 0, 0) fun r1 =>
  br (inRange r1.1 ([[], [(Sc.n .i64 2)], [(Sc.n .i64 3)], [(Sc.n .i64 4)], [(Sc.n .i64 5)], [(Sc.n .i64 6)], [(Sc.n .i64 7)], [(Sc.n .i64 8)], [(Sc.n .i64 9)], [(Sc.n .i64 10)], [(Sc.n .i64 11)], [(Sc.n .i64 12)], [(Sc.n .i64 2), (Sc.n .i64 2)], [(Sc.n .i64 2), (Sc.n .i64 4)], [(Sc.n .i64 3), (Sc.n .i64 3)], [(Sc.n .i64 2), (Sc.n .i64 6)], [(Sc.n .i64 2), (Sc.n .i64 2), (Sc.n .i64 2)], [(Sc.n .i64 13)], [(Sc.n .i64 16)], [(Sc.n .i64 4), (Sc.n .i64 4)], [(Sc.n .i64 2), (Sc.n .i64 2), (Sc.n .i64 3)], [(Sc.n .i64 2), (Sc.n .i64 3)], [(Sc.n .i64 24)]] : List (List Sc)).length)
    (bl1 (loopL (f_s_l2Draw_io_r0 most1 (([[], [(Sc.n .i64 2)], [(Sc.n .i64 3)], [(Sc.n .i64 4)], [(Sc.n .i64 5)], [(Sc.n .i64 6)], [(Sc.n .i64 7)], [(Sc.n .i64 8)], [(Sc.n .i64 9)], [(Sc.n .i64 10)], [(Sc.n .i64 11)], [(Sc.n .i64 12)], [(Sc.n .i64 2), (Sc.n .i64 2)], [(Sc.n .i64 2), (Sc.n .i64 4)], [(Sc.n .i64 3), (Sc.n .i64 3)], [(Sc.n .i64 2), (Sc.n .i64 6)], [(Sc.n .i64 2), (Sc.n .i64 2), (Sc.n .i64 2)], [(Sc.n .i64 13)], [(Sc.n .i64 16)], [(Sc.n .i64 4), (Sc.n .i64 4)], [(Sc.n .i64 2), (Sc.n .i64 2), (Sc.n .i64 3)], [(Sc.n .i64 2), (Sc.n .i64 3)], [(Sc.n .i64 24)]] : List (List Sc)).getD r1.1.toNat [])) (r1.2.1, r1.2.2.1, r1.2.2.2, [], 1, 0)) ([], 0, 0, [], 0) fun e2 =>
    br ((decide (e2.2.2.2.2 > most1)))
      (kR ([(Sc.n .i64 5)], e2.1, e2.2.1, e2.2.2.1))
      (br (decide (([] : List Sc).length + (([[], [(Sc.n .i64 2)], [(Sc.n .i64 3)], [(Sc.n .i64 4)], [(Sc.n .i64 5)], [(Sc.n .i64 6)], [(Sc.n .i64 7)], [(Sc.n .i64 8)], [(Sc.n .i64 9)], [(Sc.n .i64 10)], [(Sc.n .i64 11)], [(Sc.n .i64 12)], [(Sc.n .i64 2), (Sc.n .i64 2)], [(Sc.n .i64 2), (Sc.n .i64 4)], [(Sc.n .i64 3), (Sc.n .i64 3)], [(Sc.n .i64 2), (Sc.n .i64 6)], [(Sc.n .i64 2), (Sc.n .i64 2), (Sc.n .i64 2)], [(Sc.n .i64 13)], [(Sc.n .i64 16)], [(Sc.n .i64 4), (Sc.n .i64 4)], [(Sc.n .i64 2), (Sc.n .i64 2), (Sc.n .i64 3)], [(Sc.n .i64 2), (Sc.n .i64 3)], [(Sc.n .i64 24)]] : List (List Sc)).getD r1.1.toNat []).length ≤ lim))
        (kR (([] ++ (([[], [(Sc.n .i64 2)], [(Sc.n .i64 3)], [(Sc.n .i64 4)], [(Sc.n .i64 5)], [(Sc.n .i64 6)], [(Sc.n .i64 7)], [(Sc.n .i64 8)], [(Sc.n .i64 9)], [(Sc.n .i64 10)], [(Sc.n .i64 11)], [(Sc.n .i64 12)], [(Sc.n .i64 2), (Sc.n .i64 2)], [(Sc.n .i64 2), (Sc.n .i64 4)], [(Sc.n .i64 3), (Sc.n .i64 3)], [(Sc.n .i64 2), (Sc.n .i64 6)], [(Sc.n .i64 2), (Sc.n .i64 2), (Sc.n .i64 2)], [(Sc.n .i64 13)], [(Sc.n .i64 16)], [(Sc.n .i64 4), (Sc.n .i64 4)], [(Sc.n .i64 2), (Sc.n .i64 2), (Sc.n .i64 3)], [(Sc.n .i64 2), (Sc.n .i64 3)], [(Sc.n .i64 24)]] : List (List Sc)).getD r1.1.toNat [])), e2.1, e2.2.1, e2.2.2.1))
        none))
    none
def f_s_l2Draw_io (most1 : Int) (h0 : List Sc) (h1 : Int) (h2 : Int) : Option (List Sc × List Sc × Int × Int) := f_s_l2Draw_io_k most1 h0 h1 h2 some

def f_s_l1PickInt_io_k {R : Type} (list1 : List Sc) (h0 : List Sc) (h1 : Int) (h2 : Int) (kR : Int × List Sc × Int × Int → Option R) : Option R :=
  bo (f_s_l1Below_io (list1.length : Int) h0 h1 h2) (0, [], 0, 0) fun r1 =>
  br (okAt list1 r1.1)
    (kR ((atI list1 r1.1), r1.2.1, r1.2.2.1, r1.2.2.2))
    none
def f_s_l1PickInt_io (list1 : List Sc) (h0 : List Sc) (h1 : Int) (h2 : Int) : Option (Int × List Sc × Int × Int) := f_s_l1PickInt_io_k list1 h0 h1 h2 some

def f_s_l2Any_io_k {R : Type} (h0 : List Sc) (h1 : Int) (h2 : Int) (kR : List Sc × List Sc × Int × Int → Option R) : Option R :=
  bo (f_s_l2Draw_io 24 h0 h1 h2) ([], [], 0, 0) fun r1 =>
  bo (f_s_l1Below_io 16 r1.2.1 r1.2.2.1 r1.2.2.2) (0, [], 0, 0) fun r2 =>
  br ((r2.1 == 0))
    (bo (f_s_l1PickInt_io [(Sc.n .i64 0), (Sc.n .i64 1), (Sc.n .i64 (-1)), (Sc.n .i64 25), (Sc.n .i64 9223372036854775807)] r2.2.1 r2.2.2.1 r2.2.2.2) (0, [], 0, 0) fun r3 =>
    kR ([(Sc.n .i64 r3.1)], r3.2.1, r3.2.2.1, r3.2.2.2))
    (br ((r2.1 == 1))
      (kR ([(Sc.n .i64 2), (Sc.n .i64 2), (Sc.n .i64 2), (Sc.n .i64 2)], r2.2.1, r2.2.2.1, r2.2.2.2))
      (br ((r2.1 == 2))
        (kR ([(Sc.n .i64 5), (Sc.n .i64 5)], r2.2.1, r2.2.2.1, r2.2.2.2))
        (kR (r1.1, r2.2.1, r2.2.2.1, r2.2.2.2))))
def f_s_l2Any_io (h0 : List Sc) (h1 : Int) (h2 : Int) : Option (List Sc × List Sc × Int × Int) := f_s_l2Any_io_k h0 h1 h2 some

def f_s_l1Once_io_k {R : Type} (n1 : Int) (h0 : List Sc) (h1 : Int) (h2 : Int) (kR : Bool × List Sc × Int × Int → Option R) : Option R :=
  bo (f_s_l1Below_io n1 h0 h1 h2) (0, [], 0, 0) fun r1 =>
  kR ((r1.1 == 0), r1.2.1, r1.2.2.1, r1.2.2.2)
def f_s_l1Once_io (n1 : Int) (h0 : List Sc) (h1 : Int) (h2 : Int) : Option (Bool × List Sc × Int × Int) := f_s_l1Once_io_k n1 h0 h1 h2 some

def f_s_l1In_k {R : Type} (x0 : Int) (low1 : Int) (high2 : Int) (kR : Bool → Option R) : Option R :=
  br ((decide (x0 ≥ low1)) == true)
    (kR (decide (x0 ≤ high2)))
    (kR false)
def f_s_l1In (x0 : Int) (low1 : Int) (high2 : Int) : Option (Bool) := f_s_l1In_k x0 low1 high2 some

def f_s_IsGroup_k0 {R : Type} (g1 : List Sc) (n3 : Int) (i4 : Int) (kN : Int × Int → Option R) (kA : Int → Option R) (kB : Unit → Option R) : Option R :=
  br ((decide (i4 < (g1.length : Int))))
    (br (okAt g1 i4)
      (bo (f_s_l1In (atI g1 i4) 2 24) false fun r1 =>
      br ((!r1) == false)
        (br ((decide (i4 > 2)))
          (kB ())
          (br (okAt g1 i4)
            (kN ((w64 (n3 * (atI g1 i4))), (w64 (i4 + 1))))
            none))
        (kB ()))
      none)
    (kA n3)
def f_s_IsGroup_r0 (g1 : List Sc) : (Int × Int) → Option (Ro (Int × Int) (Int) (Unit)) := fun s => f_s_IsGroup_k0 g1 s.1 s.2 (fun s => some (.again s)) (fun e => some (.one e)) (fun e => some (.two e))
def f_s_IsGroup_k {R : Type} (g0 : List Sc) (kR : Bool → Option R) : Option R :=
  bl (loopL (f_s_IsGroup_r0 g0) (1, 0)) 0 ()
    (fun e2 =>
      kR (decide (e2 ≤ 24)))
    (fun e2 =>
      kR false)
def f_s_IsGroup (g0 : List Sc) : Option (Bool) := f_s_IsGroup_k g0 some

def f_s_l2Order_k0 {R : Type} (g1 : List Sc) (n3 : Int) (i4 : Int) (kN : Int × Int → Option R) (kA : Int → Option R) : Option R :=
  br ((decide (i4 < (g1.length : Int))))
    (br (okAt g1 i4)
      (kN ((w64 (n3 * (atI g1 i4))), (w64 (i4 + 1))))
      none)
    (kA n3)
def f_s_l2Order_r0 (g1 : List Sc) : (Int × Int) → Option (Ro (Int × Int) (Int) (Unit)) := fun s => f_s_l2Order_k0 g1 s.1 s.2 (fun s => some (.again s)) (fun e => some (.one e))
def f_s_l2Order_k {R : Type} (g0 : List Sc) (kR : Int → Option R) : Option R :=
  bl1 (loopL (f_s_l2Order_r0 g0) (1, 0)) 0 fun e1 =>
  kR e1
def f_s_l2Order (g0 : List Sc) : Option (Int) := f_s_l2Order_k g0 some

def f_s_OrderOf_k {R : Type} (g0 : List Sc) (kR : Int → Option R) : Option R :=
  bo (f_s_IsGroup g0) false fun r1 =>
  br ((!r1))
    (kR 0)
    (bo (f_s_l2Order g0) 0 fun r2 =>
    kR r2)
def f_s_OrderOf (g0 : List Sc) : Option (Int) := f_s_OrderOf_k g0 some

def f_s_l2Element_io_k {R : Type} (g1 : List Sc) (h0 : List Sc) (h1 : Int) (h2 : Int) (kR : Int × List Sc × Int × Int → Option R) : Option R :=
  bo (f_s_l1Once_io 16 h0 h1 h2) (false, [], 0, 0) fun r1 =>
  br (r1.1)
    (bo (f_s_l1PickInt_io [(Sc.n .i64 (-1)), (Sc.n .i64 24), (Sc.n .i64 9223372036854775807)] r1.2.1 r1.2.2.1 r1.2.2.2) (0, [], 0, 0) fun r2 =>
    kR (r2.1, r2.2.1, r2.2.2.1, r2.2.2.2))
    (bo (f_s_OrderOf g1) 0 fun r3 =>
    bo (f_s_l1Below_io (if r3 > 1 then r3 else 1) r1.2.1 r1.2.2.1 r1.2.2.2) (0, [], 0, 0) fun r4 =>
    kR (r4.1, r4.2.1, r4.2.2.1, r4.2.2.2))
def f_s_l2Element_io (g1 : List Sc) (h0 : List Sc) (h1 : Int) (h2 : Int) : Option (Int × List Sc × Int × Int) := f_s_l2Element_io_k g1 h0 h1 h2 some

def f_s_l2Two_g4_k {R : Type} (v0 : List Sc) (v1 : List Sc) (v2 : List Sc) (v3 : Int) (v4 : Int) (t7 : Int) (kA : Int → Option R) : Option R :=
  bo (f_s_l2Element_io v1 v2 v3 v4) (0, [], 0, 0) fun r4 =>
  kA r4.1
def f_s_l2Two_g4 (v0 : List Sc) (v1 : List Sc) (v2 : List Sc) (v3 : Int) (v4 : Int) (t7 : Int) : Option (Int) := f_s_l2Two_g4_k v0 v1 v2 v3 v4 t7 some
def f_s_l2Two_k {R : Type} (code0 : List Sc) (kR : List Sc × Int × Int → Option R) : Option R :=
  bo (f_s_l1New code0) ([], 0, 0) fun r1 =>
  bo (f_s_l2Any_io r1.1 r1.2.1 r1.2.2) ([], [], 0, 0) fun r2 =>
  bo (f_s_l2Element_io r2.1 r2.2.1 r2.2.2.1 r2.2.2.2) (0, [], 0, 0) fun r3 =>
  bo (f_s_l2Two_g4 [] r2.1 r3.2.1 r3.2.2.1 r3.2.2.2 r3.1) 0 fun g13 =>
  kR (r2.1, r3.1, g13)
def f_s_l2Two (code0 : List Sc) : Option (List Sc × Int × Int) := f_s_l2Two_k code0 some

def f_s_DrawCharacterValue_k {R : Type} (code0 : List Sc) (kR : List Sc × Int × Int → Option R) : Option R :=
  bo (f_s_l2Two code0) ([], 0, 0) fun r1 =>
  kR (r1.1, r1.2.1, r1.2.2)
def f_s_DrawCharacterValue (code0 : List Sc) : Option (List Sc × Int × Int) := f_s_DrawCharacterValue_k code0 some

def f_i_within_k {R : Type} (x0 : Int) (lo1 : Int) (hi2 : Int) (kR : Bool → Option R) : Option R :=
  br ((decide (x0 ≥ lo1)) == true)
    (kR (decide (x0 ≤ hi2)))
    (kR false)
def f_i_within (x0 : Int) (lo1 : Int) (hi2 : Int) : Option (Bool) := f_i_within_k x0 lo1 hi2 some

def f_i_IsGroup_k0 {R : Type} (t11 : List Sc) (t12 : Int) (n3 : Int) (t13 : Int) (kN : Int × Int → Option R) (kA : Int → Option R) (kB : Unit → Option R) : Option R :=
  br ((decide (t13 < t12)))
    (br (okAt t11 t13)
      (bo (f_i_within (atI t11 t13) 2 24) false fun r1 =>
      br ((!r1))
        (kB ())
        (kN ((w64 (n3 * (atI t11 t13))), (w64 (t13 + 1)))))
      none)
    (kA n3)
def f_i_IsGroup_r0 (t11 : List Sc) (t12 : Int) : (Int × Int) → Option (Ro (Int × Int) (Int) (Unit)) := fun s => f_i_IsGroup_k0 t11 t12 s.1 s.2 (fun s => some (.again s)) (fun e => some (.one e)) (fun e => some (.two e))
def f_i_IsGroup_k {R : Type} (g0 : List Sc) (kR : Bool → Option R) : Option R :=
  br ((decide ((g0.length : Int) > 3)))
    (kR false)
    (bl (loopL (f_i_IsGroup_r0 g0 (g0.length : Int)) (1, 0)) 0 ()
      (fun e2 =>
        kR (decide (e2 ≤ 24)))
      (fun e2 =>
        kR false))
def f_i_IsGroup (g0 : List Sc) : Option (Bool) := f_i_IsGroup_k g0 some

def f_i_OrderOf_k0 {R : Type} (t10 : List Sc) (t11 : Int) (n3 : Int) (t12 : Int) (kN : Int × Int → Option R) (kA : Int → Option R) : Option R :=
  br ((decide (t12 < t11)))
    (br (okAt t10 t12)
      (kN ((w64 (n3 * (atI t10 t12))), (w64 (t12 + 1))))
      none)
    (kA n3)
def f_i_OrderOf_r0 (t10 : List Sc) (t11 : Int) : (Int × Int) → Option (Ro (Int × Int) (Int) (Unit)) := fun s => f_i_OrderOf_k0 t10 t11 s.1 s.2 (fun s => some (.again s)) (fun e => some (.one e))
def f_i_OrderOf_k {R : Type} (g0 : List Sc) (kR : Int → Option R) : Option R :=
  bo (f_i_IsGroup g0) false fun r1 =>
  br ((!r1))
    (kR 0)
    (bl1 (loopL (f_i_OrderOf_r0 g0 (g0.length : Int)) (1, 0)) 0 fun e2 =>
    kR e2)
def f_i_OrderOf (g0 : List Sc) : Option (Int) := f_i_OrderOf_k g0 some

def f_i_Group_has_k {R : Type} (g0 : List Sc) (x1 : Int) (kR : Bool → Option R) : Option R :=
  bo (f_i_OrderOf g0) 0 fun r1 =>
  bo (f_i_within x1 0 (w64 (r1 - 1))) false fun r2 =>
  kR r2
def f_i_Group_has (g0 : List Sc) (x1 : Int) : Option (Bool) := f_i_Group_has_k g0 x1 some

def f_i_gcd_k0 {R : Type} (a0 : Int) (b1 : Int) (kN : Int × Int → Option R) (kA : Int → Option R) : Option R :=
  br ((b1 != 0))
    (br (b1 == 0)
      none
      (kN (b1, (a0.tmod b1))))
    (kA a0)
def f_i_gcd_r0 : (Int × Int) → Option (Ro (Int × Int) (Int) (Unit)) := fun s => f_i_gcd_k0 s.1 s.2 (fun s => some (.again s)) (fun e => some (.one e))
def f_i_gcd_k {R : Type} (a0 : Int) (b1 : Int) (kR : Int → Option R) : Option R :=
  bl1 (loopL (f_i_gcd_r0) (a0, b1)) 0 fun e1 =>
  kR e1
def f_i_gcd (a0 : Int) (b1 : Int) : Option (Int) := f_i_gcd_k a0 b1 some

def f_i_ExponentOf_k0 {R : Type} (t10 : List Sc) (t11 : Int) (n3 : Int) (t12 : Int) (kN : Int × Int → Option R) (kA : Int → Option R) : Option R :=
  br ((decide (t12 < t11)))
    (br (okAt t10 t12)
      (bo (f_i_gcd n3 (atI t10 t12)) 0 fun r2 =>
      br (r2 == 0)
        none
        (kN ((w64 ((w64 (n3.tdiv r2)) * (atI t10 t12))), (w64 (t12 + 1)))))
      none)
    (kA n3)
def f_i_ExponentOf_r0 (t10 : List Sc) (t11 : Int) : (Int × Int) → Option (Ro (Int × Int) (Int) (Unit)) := fun s => f_i_ExponentOf_k0 t10 t11 s.1 s.2 (fun s => some (.again s)) (fun e => some (.one e))
def f_i_ExponentOf_k {R : Type} (g0 : List Sc) (kR : Int → Option R) : Option R :=
  bo (f_i_IsGroup g0) false fun r1 =>
  br ((!r1))
    (kR 0)
    (bl1 (loopL (f_i_ExponentOf_r0 g0 (g0.length : Int)) (1, 0)) 0 fun e3 =>
    kR e3)
def f_i_ExponentOf (g0 : List Sc) : Option (Int) := f_i_ExponentOf_k g0 some

def f_i_Group_places_k0 {R : Type} (t10 : List Sc) (t11 : Int) (x1 : Int) (out5 : List Sc) (t12 : Int) (kN : Int × List Sc × Int → Option R) (kA : List Sc → Option R) : Option R :=
  br ((decide (t12 < t11)))
    (br (okAt t10 t12)
      (br ((atI t10 t12) == 0)
        none
        (br (decide (out5.length + [(Sc.n .i64 (x1.tmod (atI t10 t12)))].length ≤ lim))
          (br ((atI t10 t12) == 0)
            none
            (kN ((w64 (x1.tdiv (atI t10 t12))), (out5 ++ [(Sc.n .i64 (x1.tmod (atI t10 t12)))]), (w64 (t12 + 1)))))
          none))
      none)
    (kA out5)
def f_i_Group_places_r0 (t10 : List Sc) (t11 : Int) : (Int × List Sc × Int) → Option (Ro (Int × List Sc × Int) (List Sc) (Unit)) := fun s => f_i_Group_places_k0 t10 t11 s.1 s.2.1 s.2.2 (fun s => some (.again s)) (fun e => some (.one e))
def f_i_Group_places_k {R : Type} (g0 : List Sc) (x1 : Int) (kR : List Sc → Option R) : Option R :=
  bl1 (loopL (f_i_Group_places_r0 g0 (g0.length : Int)) (x1, [], 0)) [] fun e1 =>
  kR e1
def f_i_Group_places (g0 : List Sc) (x1 : Int) : Option (List Sc) := f_i_Group_places_k g0 x1 some

def f_i_CharacterValue_k0 {R : Type} (n7 : Int) (t32 : List Sc) (t33 : Int) (p8 : List Sc) (q9 : List Sc) (e10 : Int) (t34 : Int) (kN : List Sc × List Sc × Int × Int → Option R) (kA : Int → Option R) : Option R :=
  br ((decide (t34 < t33)))
    (br (okAt t32 t34)
      (br (inRange t34 (p8).length)
        (br (kAt p8 t34.toNat)
          (br (inRange t34 (q9).length)
            (br (kAt q9 t34.toNat)
              (br ((atI t32 t34) == 0)
                none
                (kN (p8, q9, (w64 (e10 + (w64 ((w64 ((atN p8 t34.toNat) * (atN q9 t34.toNat))) * (w64 (n7.tdiv (atI t32 t34))))))), (w64 (t34 + 1)))))
              none)
            none)
          none)
        none)
      none)
    (kA e10)
def f_i_CharacterValue_r0 (n7 : Int) (t32 : List Sc) (t33 : Int) : (List Sc × List Sc × Int × Int) → Option (Ro (List Sc × List Sc × Int × Int) (Int) (Unit)) := fun s => f_i_CharacterValue_k0 n7 t32 t33 s.1 s.2.1 s.2.2.1 s.2.2.2 (fun s => some (.again s)) (fun e => some (.one e))
def f_i_CharacterValue_k {R : Type} (g0 : List Sc) (k1 : Int) (x2 : Int) (kR : Int → Option R) : Option R :=
  bo (f_i_Group_has g0 k1) false fun r1 =>
  br ((!r1) == false)
    (bo (f_i_Group_has g0 x2) false fun r2 =>
    br ((!r2))
      (kR (-1))
      (bo (f_i_ExponentOf g0) 0 fun r3 =>
      bo (f_i_Group_places g0 k1) [] fun r4 =>
      bo (f_i_Group_places g0 x2) [] fun r5 =>
      bl1 (loopL (f_i_CharacterValue_r0 r3 g0 (g0.length : Int)) (r4, r5, 0, 0)) 0 fun e6 =>
      br (r3 == 0)
        none
        (kR (e6.tmod r3))))
    (kR (-1))
def f_i_CharacterValue (g0 : List Sc) (k1 : Int) (x2 : Int) : Option (Int) := f_i_CharacterValue_k g0 k1 x2 some

def f_s_l2Is_k {R : Type} (g0 : List Sc) (x1 : Int) (kR : Bool → Option R) : Option R :=
  br ((decide (x1 ≥ 0)) == true)
    (bo (f_s_OrderOf g0) 0 fun r1 =>
    kR (decide (x1 < r1)))
    (kR false)
def f_s_l2Is (g0 : List Sc) (x1 : Int) : Option (Bool) := f_s_l2Is_k g0 x1 some

def f_s_ExponentOf_k2 {R : Type} (g1 : List Sc) (e3 : Int) (i4 : Int) (x5 : Int) (kN : Int → Option R) (kA : Int → Option R) : Option R :=
  br (okAt g1 i4)
    (br ((atI g1 i4) == 0)
      none
      (br (((x5.tmod (atI g1 i4)) != 0))
        (kN (w64 (x5 + e3)))
        (kA x5)))
    none
def f_s_ExponentOf_r2 (g1 : List Sc) (e3 : Int) (i4 : Int) : Int → Option (Ro (Int) (Int) (Unit)) := fun s => f_s_ExponentOf_k2 g1 e3 i4 s (fun s => some (.again s)) (fun e => some (.one e))
def f_s_ExponentOf_k0 {R : Type} (g1 : List Sc) (e3 : Int) (i4 : Int) (kN : Int × Int → Option R) (kA : Int × Int → Option R) : Option R :=
  br ((decide (i4 < (g1.length : Int))))
    (bl1 (loopL (f_s_ExponentOf_r2 g1 e3 i4) e3) 0 fun e2 =>
    kN (e2, (w64 (i4 + 1))))
    (kA (e3, i4))
def f_s_ExponentOf_r0 (g1 : List Sc) : (Int × Int) → Option (Ro (Int × Int) (Int × Int) (Unit)) := fun s => f_s_ExponentOf_k0 g1 s.1 s.2 (fun s => some (.again s)) (fun e => some (.one e))
def f_s_ExponentOf_k {R : Type} (g0 : List Sc) (kR : Int → Option R) : Option R :=
  bo (f_s_IsGroup g0) false fun r1 =>
  br ((!r1))
    (kR 0)
    (bl1 (loopL (f_s_ExponentOf_r0 g0) (1, 0)) (0, 0) fun e3 =>
    kR e3.1)
def f_s_ExponentOf (g0 : List Sc) : Option (Int) := f_s_ExponentOf_k g0 some

def f_s_l7Value_k0 {R : Type} (g3 : List Sc) (e7 : Int) (k1 : Int) (x2 : Int) (n8 : Int) (i9 : Int) (kN : Int × Int × Int × Int → Option R) (kA : Int → Option R) : Option R :=
  br ((decide (i9 < (g3.length : Int))))
    (br (okAt g3 i9)
      (br ((atI g3 i9) == 0)
        none
        (br ((atI g3 i9) == 0)
          none
          (br ((atI g3 i9) == 0)
            none
            (br ((atI g3 i9) == 0)
              none
              (br ((atI g3 i9) == 0)
                none
                (kN ((w64 (k1.tdiv (atI g3 i9))), (w64 (x2.tdiv (atI g3 i9))), (w64 (n8 + (w64 ((w64 ((k1.tmod (atI g3 i9)) * (x2.tmod (atI g3 i9)))) * (w64 (e7.tdiv (atI g3 i9))))))), (w64 (i9 + 1)))))))))
      none)
    (kA n8)
def f_s_l7Value_r0 (g3 : List Sc) (e7 : Int) : (Int × Int × Int × Int) → Option (Ro (Int × Int × Int × Int) (Int) (Unit)) := fun s => f_s_l7Value_k0 g3 e7 s.1 s.2.1 s.2.2.1 s.2.2.2 (fun s => some (.again s)) (fun e => some (.one e))
def f_s_l7Value_k {R : Type} (g0 : List Sc) (k1 : Int) (x2 : Int) (kR : Int → Option R) : Option R :=
  bo (f_s_ExponentOf g0) 0 fun r1 =>
  bl1 (loopL (f_s_l7Value_r0 g0 r1) (k1, x2, 0, 0)) 0 fun e2 =>
  br (r1 == 0)
    none
    (kR (e2.tmod r1))
def f_s_l7Value (g0 : List Sc) (k1 : Int) (x2 : Int) : Option (Int) := f_s_l7Value_k g0 k1 x2 some

def f_s_CharacterValue_k {R : Type} (g0 : List Sc) (k1 : Int) (x2 : Int) (kR : Int → Option R) : Option R :=
  bo (f_s_l2Is g0 k1) false fun r1 =>
  br ((!r1) == false)
    (bo (f_s_l2Is g0 x2) false fun r2 =>
    br ((!r2))
      (kR (-1))
      (bo (f_s_l7Value g0 k1 x2) 0 fun r3 =>
      kR r3))
    (kR (-1))
def f_s_CharacterValue (g0 : List Sc) (k1 : Int) (x2 : Int) : Option (Int) := f_s_CharacterValue_k g0 k1 x2 some

def f_l_at_k {R : Type} (code0 : List Sc) (i1 : Int) (kR : Int → Option R) : Option R :=
  br ((decide (i1 < (code0.length : Int))))
    (br (okZ (.n .u8 0) code0 i1)
      (kR (w64 (sAt code0 .u8 i1)))
      none)
    (kR ((w64 ((w64 (i1 * 37)) + (w64 ((code0.length : Int) * 11)))).tmod 256))
def f_l_at (code0 : List Sc) (i1 : Int) : Option (Int) := f_l_at_k code0 i1 some

def f_s_l2Add_k0 {R : Type} (g3 : List Sc) (x1 : Int) (y2 : Int) (z7 : Int) (step8 : Int) (i9 : Int) (kN : Int × Int × Int × Int × Int → Option R) (kA : Int → Option R) : Option R :=
  br ((decide (i9 < (g3.length : Int))))
    (br (okAt g3 i9)
      (br ((atI g3 i9) == 0)
        none
        (br ((atI g3 i9) == 0)
          none
          (br ((atI g3 i9) == 0)
            none
            (br ((atI g3 i9) == 0)
              none
              (br ((atI g3 i9) == 0)
                none
                (kN ((w64 (x1.tdiv (atI g3 i9))), (w64 (y2.tdiv (atI g3 i9))), (w64 (z7 + (w64 (((w64 ((x1.tmod (atI g3 i9)) + (y2.tmod (atI g3 i9)))).tmod (atI g3 i9)) * step8)))), (w64 (step8 * (atI g3 i9))), (w64 (i9 + 1)))))))))
      none)
    (kA z7)
def f_s_l2Add_r0 (g3 : List Sc) : (Int × Int × Int × Int × Int) → Option (Ro (Int × Int × Int × Int × Int) (Int) (Unit)) := fun s => f_s_l2Add_k0 g3 s.1 s.2.1 s.2.2.1 s.2.2.2.1 s.2.2.2.2 (fun s => some (.again s)) (fun e => some (.one e))
def f_s_l2Add_k {R : Type} (g0 : List Sc) (x1 : Int) (y2 : Int) (kR : Int → Option R) : Option R :=
  bl1 (loopL (f_s_l2Add_r0 g0) (x1, y2, 0, 1, 0)) 0 fun e1 =>
  kR e1
def f_s_l2Add (g0 : List Sc) (x1 : Int) (y2 : Int) : Option (Int) := f_s_l2Add_k g0 x1 y2 some

def f_s_AddElements_k {R : Type} (g0 : List Sc) (x1 : Int) (y2 : Int) (kR : Int → Option R) : Option R :=
  bo (f_s_l2Is g0 x1) false fun r1 =>
  br ((!r1) == false)
    (bo (f_s_l2Is g0 y2) false fun r2 =>
    br ((!r2))
      (kR (-1))
      (bo (f_s_l2Add g0 x1 y2) 0 fun r3 =>
      kR r3))
    (kR (-1))
def f_s_AddElements (g0 : List Sc) (x1 : Int) (y2 : Int) : Option (Int) := f_s_AddElements_k g0 x1 y2 some

def f_s_l3List_k0 {R : Type} (out3 : List Sc) (i4 : Int) (x5 : Int) (kN : List Sc × Int × Int → Option R) (kA : List Sc → Option R) : Option R :=
  br ((decide (x5 > 0)))
    (br (((and64 x5 1) == 1))
      (br (decide (out3.length + [(Sc.n .i64 i4)].length ≤ lim))
        (kN ((out3 ++ [(Sc.n .i64 i4)]), (w64 (i4 + 1)), (shr64 x5 1)))
        none)
      (kN (out3, (w64 (i4 + 1)), (shr64 x5 1))))
    (kA out3)
def f_s_l3List_r0 : (List Sc × Int × Int) → Option (Ro (List Sc × Int × Int) (List Sc) (Unit)) := fun s => f_s_l3List_k0 s.1 s.2.1 s.2.2 (fun s => some (.again s)) (fun e => some (.one e))
def f_s_l3List_k {R : Type} (a0 : Int) (kR : List Sc → Option R) : Option R :=
  bl1 (loopL (f_s_l3List_r0) ([], 0, a0)) [] fun e1 =>
  kR e1
def f_s_l3List (a0 : Int) : Option (List Sc) := f_s_l3List_k a0 some

def f_s_l3Shift_k0 {R : Type} (x2 : Int) (g3 : List Sc) (out7 : Int) (l8 : List Sc) (i9 : Int) (kN : Int × List Sc × Int → Option R) (kA : Int → Option R) : Option R :=
  br ((decide (i9 < (l8.length : Int))))
    (br (inRange i9 (l8).length)
      (br (kAt l8 i9.toNat)
        (bo (f_s_l2Add g3 (atN l8 i9.toNat) x2) 0 fun r2 =>
        br (decide (r2 < 0))
          none
          (kN ((or64 out7 (shl64 1 r2)), l8, (w64 (i9 + 1)))))
        none)
      none)
    (kA out7)
def f_s_l3Shift_r0 (x2 : Int) (g3 : List Sc) : (Int × List Sc × Int) → Option (Ro (Int × List Sc × Int) (Int) (Unit)) := fun s => f_s_l3Shift_k0 x2 g3 s.1 s.2.1 s.2.2 (fun s => some (.again s)) (fun e => some (.one e))
def f_s_l3Shift_k {R : Type} (g0 : List Sc) (a1 : Int) (x2 : Int) (kR : Int → Option R) : Option R :=
  bo (f_s_l3List a1) [] fun r1 =>
  bl1 (loopL (f_s_l3Shift_r0 x2 g0) (0, r1, 0)) 0 fun e3 =>
  kR e3
def f_s_l3Shift (g0 : List Sc) (a1 : Int) (x2 : Int) : Option (Int) := f_s_l3Shift_k g0 a1 x2 some

def f_s_l4Sum_k0 {R : Type} (a1 : Int) (g3 : List Sc) (out7 : Int) (l8 : List Sc) (i9 : Int) (kN : Int × List Sc × Int → Option R) (kA : Int → Option R) : Option R :=
  br ((decide (i9 < (l8.length : Int))))
    (br (inRange i9 (l8).length)
      (br (kAt l8 i9.toNat)
        (bo (f_s_l3Shift g3 a1 (atN l8 i9.toNat)) 0 fun r2 =>
        kN ((or64 out7 r2), l8, (w64 (i9 + 1))))
        none)
      none)
    (kA out7)
def f_s_l4Sum_r0 (a1 : Int) (g3 : List Sc) : (Int × List Sc × Int) → Option (Ro (Int × List Sc × Int) (Int) (Unit)) := fun s => f_s_l4Sum_k0 a1 g3 s.1 s.2.1 s.2.2 (fun s => some (.again s)) (fun e => some (.one e))
def f_s_l4Sum_k {R : Type} (g0 : List Sc) (a1 : Int) (b2 : Int) (kR : Int → Option R) : Option R :=
  bo (f_s_l3List b2) [] fun r1 =>
  bl1 (loopL (f_s_l4Sum_r0 a1 g0) (0, r1, 0)) 0 fun e3 =>
  kR e3
def f_s_l4Sum (g0 : List Sc) (a1 : Int) (b2 : Int) : Option (Int) := f_s_l4Sum_k g0 a1 b2 some

def f_s_l5Closure_k0 {R : Type} (a1 : Int) (g2 : List Sc) (out5 : Int) (next6 : Int) (kN : Int × Int → Option R) (kA : Int → Option R) : Option R :=
  br ((next6 != out5))
    (bo (f_s_l4Sum g2 next6 a1) 0 fun r2 =>
    kN (next6, (or64 next6 r2)))
    (kA out5)
def f_s_l5Closure_r0 (a1 : Int) (g2 : List Sc) : (Int × Int) → Option (Ro (Int × Int) (Int) (Unit)) := fun s => f_s_l5Closure_k0 a1 g2 s.1 s.2 (fun s => some (.again s)) (fun e => some (.one e))
def f_s_l5Closure_k {R : Type} (g0 : List Sc) (a1 : Int) (kR : Int → Option R) : Option R :=
  bo (f_s_l4Sum g0 1 a1) 0 fun r1 =>
  bl1 (loopL (f_s_l5Closure_r0 a1 g0) (1, (or64 1 r1))) 0 fun e3 =>
  kR e3
def f_s_l5Closure (g0 : List Sc) (a1 : Int) : Option (Int) := f_s_l5Closure_k g0 a1 some

def f_s_l5Put_k0 {R : Type} (l0 : List Sc) (n1 : Int) (k5 : Int) (kN : Int → Option R) (kA : Int → Option R) : Option R :=
  br ((decide (k5 > 0)) == true)
    (br (okAt l0 (w64 (k5 - 1)))
      (br ((decide ((atI l0 (w64 (k5 - 1))) > n1)))
        (kN (w64 (k5 - 1)))
        (kA k5))
      none)
    (kA k5)
def f_s_l5Put_r0 (l0 : List Sc) (n1 : Int) : Int → Option (Ro (Int) (Int) (Unit)) := fun s => f_s_l5Put_k0 l0 n1 s (fun s => some (.again s)) (fun e => some (.one e))
def f_s_l5Put_k {R : Type} (l0 : List Sc) (n1 : Int) (kR : List Sc → Option R) : Option R :=
  bl1 (loopL (f_s_l5Put_r0 l0 n1) (l0.length : Int)) 0 fun e1 =>
  br ((decide (e1 > 0)) == true)
    (br (okAt l0 (w64 (e1 - 1)))
      (br (((atI l0 (w64 (e1 - 1))) == n1))
        (kR l0)
        (br (decide (0 ≤ (0 : Int)) && (decide ((0 : Int) ≤ e1) && decide (e1 ≤ (l0.length : Int))))
          (br (decide (([] : List Sc).length + (sliceA l0 0 e1).length ≤ lim))
            (br (decide (([] ++ (sliceA l0 0 e1)).length + [(Sc.n .i64 n1)].length ≤ lim))
              (br (decide (0 ≤ e1) && (decide (e1 ≤ (l0.length : Int)) && decide ((l0.length : Int) ≤ (l0.length : Int))))
                (br (decide ((([] ++ (sliceA l0 0 e1)) ++ [(Sc.n .i64 n1)]).length + (sliceA l0 e1 (l0.length : Int)).length ≤ lim))
                  (kR ((([] ++ (sliceA l0 0 e1)) ++ [(Sc.n .i64 n1)]) ++ (sliceA l0 e1 (l0.length : Int))))
                  none)
                none)
              none)
            none)
          none))
      none)
    (br (decide (0 ≤ (0 : Int)) && (decide ((0 : Int) ≤ e1) && decide (e1 ≤ (l0.length : Int))))
      (br (decide (([] : List Sc).length + (sliceA l0 0 e1).length ≤ lim))
        (br (decide (([] ++ (sliceA l0 0 e1)).length + [(Sc.n .i64 n1)].length ≤ lim))
          (br (decide (0 ≤ e1) && (decide (e1 ≤ (l0.length : Int)) && decide ((l0.length : Int) ≤ (l0.length : Int))))
            (br (decide ((([] ++ (sliceA l0 0 e1)) ++ [(Sc.n .i64 n1)]).length + (sliceA l0 e1 (l0.length : Int)).length ≤ lim))
              (kR ((([] ++ (sliceA l0 0 e1)) ++ [(Sc.n .i64 n1)]) ++ (sliceA l0 e1 (l0.length : Int))))
              none)
            none)
          none)
        none)
      none)
def f_s_l5Put (l0 : List Sc) (n1 : Int) : Option (List Sc) := f_s_l5Put_k l0 n1 some

def f_s_SubgroupsOf_k0 {R : Type} (t1 : List Sc) (t4 : List Sc) (t6 : Int) (t5 : List Sc) (t7 : Int) (kN : List Sc × Int → Option R) (kA : List Sc → Option R) : Option R :=
  br ((decide (t7 < t6)))
    (br (decide (t7 < 0))
      none
      (bo (f_s_l5Closure t1 (shl64 1 t7)) 0 fun r3 =>
      bo (f_s_l5Put t5 r3) [] fun r4 =>
      kN (r4, (w64 (t7 + 1)))))
    (kA t5)
def f_s_SubgroupsOf_r0 (t1 : List Sc) (t4 : List Sc) (t6 : Int) : (List Sc × Int) → Option (Ro (List Sc × Int) (List Sc) (Unit)) := fun s => f_s_SubgroupsOf_k0 t1 t4 t6 s.1 s.2 (fun s => some (.again s)) (fun e => some (.one e))
def f_s_SubgroupsOf_k4 {R : Type} (t1 : List Sc) (t5 : List Sc) (t8 : Int) (t4 : List Sc) (t9 : Int) (kN : List Sc × Int → Option R) (kA : List Sc → Option R) : Option R :=
  br ((decide (t9 ≤ t8)))
    (br (okAt t5 t8)
      (br (okAt t5 t9)
        (bo (f_s_l4Sum t1 (atI t5 t8) (atI t5 t9)) 0 fun r6 =>
        bo (f_s_l5Put t4 r6) [] fun r7 =>
        kN (r7, (w64 (t9 + 1))))
        none)
      none)
    (kA t4)
def f_s_SubgroupsOf_r4 (t1 : List Sc) (t5 : List Sc) (t8 : Int) : (List Sc × Int) → Option (Ro (List Sc × Int) (List Sc) (Unit)) := fun s => f_s_SubgroupsOf_k4 t1 t5 t8 s.1 s.2 (fun s => some (.again s)) (fun e => some (.one e))
def f_s_SubgroupsOf_k2 {R : Type} (t1 : List Sc) (t5 : List Sc) (t4 : List Sc) (t8 : Int) (kN : List Sc × Int → Option R) (kA : List Sc × Int → Option R) : Option R :=
  br ((decide (t8 < (t5.length : Int))))
    (bl1 (loopL (f_s_SubgroupsOf_r4 t1 t5 t8) (t4, 0)) [] fun e8 =>
    kN (e8, (w64 (t8 + 1))))
    (kA (t4, t8))
def f_s_SubgroupsOf_r2 (t1 : List Sc) (t5 : List Sc) : (List Sc × Int) → Option (Ro (List Sc × Int) (List Sc × Int) (Unit)) := fun s => f_s_SubgroupsOf_k2 t1 t5 s.1 s.2 (fun s => some (.again s)) (fun e => some (.one e))
def f_s_SubgroupsOf_k8 {R : Type} (t1 : List Sc) (t5 : List Sc) (t10 : List Sc) (t11 : Int) (t4 : List Sc) (t12 : Int) (kN : List Sc × Int → Option R) (kA : List Sc → Option R) : Option R :=
  br ((decide (t12 < (t5.length : Int))))
    (br (okAt t10 t11)
      (br (okAt t5 t12)
        (bo (f_s_l4Sum t1 (atI t10 t11) (atI t5 t12)) 0 fun r10 =>
        bo (f_s_l5Put t4 r10) [] fun r11 =>
        kN (r11, (w64 (t12 + 1))))
        none)
      none)
    (kA t4)
def f_s_SubgroupsOf_r8 (t1 : List Sc) (t5 : List Sc) (t10 : List Sc) (t11 : Int) : (List Sc × Int) → Option (Ro (List Sc × Int) (List Sc) (Unit)) := fun s => f_s_SubgroupsOf_k8 t1 t5 t10 t11 s.1 s.2 (fun s => some (.again s)) (fun e => some (.one e))
def f_s_SubgroupsOf_k6 {R : Type} (t1 : List Sc) (t5 : List Sc) (t10 : List Sc) (t4 : List Sc) (t11 : Int) (kN : List Sc × Int → Option R) (kA : List Sc × Int → Option R) : Option R :=
  br ((decide (t11 < (t10.length : Int))))
    (bl1 (loopL (f_s_SubgroupsOf_r8 t1 t5 t10 t11) (t4, 0)) [] fun e12 =>
    kN (e12, (w64 (t11 + 1))))
    (kA (t4, t11))
def f_s_SubgroupsOf_r6 (t1 : List Sc) (t5 : List Sc) (t10 : List Sc) : (List Sc × Int) → Option (Ro (List Sc × Int) (List Sc × Int) (Unit)) := fun s => f_s_SubgroupsOf_k6 t1 t5 t10 s.1 s.2 (fun s => some (.again s)) (fun e => some (.one e))
def f_s_SubgroupsOf_k {R : Type} (L0 : List Sc) (kR : List Sc × Bool → Option R) : Option R :=
  bo (f_s_IsGroup L0) false fun r1 =>
  br ((!r1))
    (kR ([], false))
    (bo (f_s_l2Order L0) 0 fun r2 =>
    bl1 (loopL (f_s_SubgroupsOf_r0 L0 [] r2) ([], 0)) [] fun e5 =>
    bl1 (loopL (f_s_SubgroupsOf_r2 L0 e5) ([], 0)) ([], 0) fun e9 =>
    bl1 (loopL (f_s_SubgroupsOf_r6 L0 e5 e9.1) (e9.1, 0)) ([], 0) fun e13 =>
    kR (e13.1, true))
def f_s_SubgroupsOf (L0 : List Sc) : Option (List Sc × Bool) := f_s_SubgroupsOf_k L0 some

def f_s_l3Set_io_k0 {R : Type} (n5 : Int) (v0 : List Sc) (v1 : Int) (v2 : Int) (a6 : Int) (k7 : Int) (kN : List Sc × Int × Int × Int × Int → Option R) (kA : List Sc × Int × Int × Int → Option R) : Option R :=
  br ((decide (k7 > 0)))
    (bo (f_s_l1Below_io n5 v0 v1 v2) (0, [], 0, 0) fun r3 =>
    br (decide (r3.1 < 0))
      none
      (kN (r3.2.1, r3.2.2.1, r3.2.2.2, (or64 a6 (shl64 1 r3.1)), (w64 (k7 - 1)))))
    (kA (v0, v1, v2, a6))
def f_s_l3Set_io_r0 (n5 : Int) : (List Sc × Int × Int × Int × Int) → Option (Ro (List Sc × Int × Int × Int × Int) (List Sc × Int × Int × Int) (Unit)) := fun s => f_s_l3Set_io_k0 n5 s.1 s.2.1 s.2.2.1 s.2.2.2.1 s.2.2.2.2 (fun s => some (.again s)) (fun e => some (.one e))
def f_s_l3Set_io_k {R : Type} (g1 : List Sc) (h0 : List Sc) (h1 : Int) (h2 : Int) (kR : Int × List Sc × Int × Int → Option R) : Option R :=
  bo (f_s_OrderOf g1) 0 fun r1 =>
  bo (f_s_l1Below_io 6 h0 h1 h2) (0, [], 0, 0) fun r2 =>
  bl1 (loopL (f_s_l3Set_io_r0 (if r1 > 1 then r1 else 1)) (r2.2.1, r2.2.2.1, r2.2.2.2, 0, r2.1)) ([], 0, 0, 0) fun e4 =>
  bo (f_s_l1Below_io 20 e4.1 e4.2.1 e4.2.2.1) (0, [], 0, 0) fun r5 =>
  br ((r5.1 == 0))
    (br (decide ((if r1 > 1 then r1 else 1) < 0))
      none
      (kR ((w64 ((shl64 1 (if r1 > 1 then r1 else 1)) - 1)), r5.2.1, r5.2.2.1, r5.2.2.2)))
    (br ((r5.1 == 1))
      (bo (f_s_l1PickInt_io [(Sc.n .i64 (-1)), (Sc.n .i64 16777216), (Sc.n .i64 9223372036854775807)] r5.2.1 r5.2.2.1 r5.2.2.2) (0, [], 0, 0) fun r6 =>
      kR (r6.1, r6.2.1, r6.2.2.1, r6.2.2.2))
      (kR (e4.2.2.2, r5.2.1, r5.2.2.1, r5.2.2.2)))
def f_s_l3Set_io (g1 : List Sc) (h0 : List Sc) (h1 : Int) (h2 : Int) : Option (Int × List Sc × Int × Int) := f_s_l3Set_io_k g1 h0 h1 h2 some

def f_s_l5Group_io_g4_k {R : Type} (v0 : List Sc) (v1 : Int) (v2 : Int) (v3 : List Sc) (v4 : List Sc) (kA : List Sc × Int × Int × Int → Option R) : Option R :=
  bo (f_s_l3Set_io v4 v0 v1 v2) (0, [], 0, 0) fun r4 =>
  kA (r4.2.1, r4.2.2.1, r4.2.2.2, r4.1)
def f_s_l5Group_io_g4 (v0 : List Sc) (v1 : Int) (v2 : Int) (v3 : List Sc) (v4 : List Sc) : Option (List Sc × Int × Int × Int) := f_s_l5Group_io_g4_k v0 v1 v2 v3 v4 some
def f_s_l5Group_io_g5_k {R : Type} (v0 : List Sc) (v1 : Int) (v2 : Int) (v3 : List Sc) (v4 : List Sc) (t5 : List Sc) (kA : List Sc × Int × Int × Int → Option R) : Option R :=
  bo (f_s_l1Below_io (t5.length : Int) v0 v1 v2) (0, [], 0, 0) fun r10 =>
  br (okAt t5 r10.1)
    (kA (r10.2.1, r10.2.2.1, r10.2.2.2, (atI t5 r10.1)))
    none
def f_s_l5Group_io_g5 (v0 : List Sc) (v1 : Int) (v2 : Int) (v3 : List Sc) (v4 : List Sc) (t5 : List Sc) : Option (List Sc × Int × Int × Int) := f_s_l5Group_io_g5_k v0 v1 v2 v3 v4 t5 some
def f_s_l5Group_io_k {R : Type} (h0 : List Sc) (h1 : Int) (h2 : Int) (kR : List Sc × Int × List Sc × Int × Int → Option R) : Option R :=
  bo (f_s_l2Any_io h0 h1 h2) ([], [], 0, 0) fun r1 =>
  bo (f_s_SubgroupsOf r1.1) ([], false) fun r2 =>
  br ((!r2.2) == false)
    (bo (f_s_l1Once_io 5 r1.2.1 r1.2.2.1 r1.2.2.2) (false, [], 0, 0) fun r3 =>
    br (r3.1)
      (bo (f_s_l5Group_io_g4 r3.2.1 r3.2.2.1 r3.2.2.2 [] r1.1) ([], 0, 0, 0) fun g9 =>
      kR (r1.1, g9.2.2.2, g9.1, g9.2.1, g9.2.2.1))
      (bo (f_s_l5Group_io_g5 r3.2.1 r3.2.2.1 r3.2.2.2 [] r1.1 r2.1) ([], 0, 0, 0) fun g24 =>
      kR (r1.1, g24.2.2.2, g24.1, g24.2.1, g24.2.2.1)))
    (bo (f_s_l5Group_io_g4 r1.2.1 r1.2.2.1 r1.2.2.2 [] r1.1) ([], 0, 0, 0) fun g25 =>
    kR (r1.1, g25.2.2.2, g25.1, g25.2.1, g25.2.2.1))
def f_s_l5Group_io (h0 : List Sc) (h1 : Int) (h2 : Int) : Option (List Sc × Int × List Sc × Int × Int) := f_s_l5Group_io_k h0 h1 h2 some

def f_s_l5Both_k {R : Type} (code0 : List Sc) (kR : List Sc × Int → Option R) : Option R :=
  bo (f_s_l1New code0) ([], 0, 0) fun r1 =>
  bo (f_s_l5Group_io r1.1 r1.2.1 r1.2.2) ([], 0, [], 0, 0) fun r2 =>
  kR (r2.1, r2.2.1)
def f_s_l5Both (code0 : List Sc) : Option (List Sc × Int) := f_s_l5Both_k code0 some

def f_s_DrawAnnihilatorOf_k {R : Type} (code0 : List Sc) (kR : List Sc × Int → Option R) : Option R :=
  bo (f_s_l5Both code0) ([], 0) fun r1 =>
  kR (r1.1, r1.2)
def f_s_DrawAnnihilatorOf (code0 : List Sc) : Option (List Sc × Int) := f_s_DrawAnnihilatorOf_k code0 some

def f_i_IsSet_k {R : Type} (g0 : List Sc) (a1 : Int) (kR : Bool → Option R) : Option R :=
  bo (f_i_IsGroup g0) false fun r1 =>
  br (r1 == true)
    (br ((decide (a1 ≥ 0)) == true)
      (bo (f_i_OrderOf g0) 0 fun r2 =>
      br (decide (r2 < 0))
        none
        (kR (decide (a1 < (shl64 1 r2)))))
      (kR false))
    (kR false)
def f_i_IsSet (g0 : List Sc) (a1 : Int) : Option (Bool) := f_i_IsSet_k g0 a1 some

def f_i_KernelOf_k0 {R : Type} (k1 : Int) (g2 : List Sc) (t12 : Int) (out5 : Int) (t13 : Int) (kN : Int × Int → Option R) (kA : Int → Option R) : Option R :=
  br ((decide (t13 < t12)))
    (bo (f_i_CharacterValue g2 k1 t13) 0 fun r3 =>
    br ((r3 == 0))
      (br (decide (t13 < 0))
        none
        (kN ((or64 out5 (shl64 1 t13)), (w64 (t13 + 1)))))
      (kN (out5, (w64 (t13 + 1)))))
    (kA out5)
def f_i_KernelOf_r0 (k1 : Int) (g2 : List Sc) (t12 : Int) : (Int × Int) → Option (Ro (Int × Int) (Int) (Unit)) := fun s => f_i_KernelOf_k0 k1 g2 t12 s.1 s.2 (fun s => some (.again s)) (fun e => some (.one e))
def f_i_KernelOf_k {R : Type} (g0 : List Sc) (k1 : Int) (kR : Int → Option R) : Option R :=
  bo (f_i_Group_has g0 k1) false fun r1 =>
  br ((!r1))
    (kR (-1))
    (bo (f_i_OrderOf g0) 0 fun r2 =>
    bl1 (loopL (f_i_KernelOf_r0 k1 g0 r2) (0, 0)) 0 fun e4 =>
    kR e4)
def f_i_KernelOf (g0 : List Sc) (k1 : Int) : Option (Int) := f_i_KernelOf_k g0 k1 some

def f_i_AnnihilatorOf_k0 {R : Type} (h1 : Int) (g2 : List Sc) (t12 : Int) (out5 : Int) (t13 : Int) (kN : Int × Int → Option R) (kA : Int → Option R) : Option R :=
  br ((decide (t13 < t12)))
    (bo (f_i_KernelOf g2 t13) 0 fun r3 =>
    br (((andNot64 h1 r3) == 0))
      (br (decide (t13 < 0))
        none
        (kN ((or64 out5 (shl64 1 t13)), (w64 (t13 + 1)))))
      (kN (out5, (w64 (t13 + 1)))))
    (kA out5)
def f_i_AnnihilatorOf_r0 (h1 : Int) (g2 : List Sc) (t12 : Int) : (Int × Int) → Option (Ro (Int × Int) (Int) (Unit)) := fun s => f_i_AnnihilatorOf_k0 h1 g2 t12 s.1 s.2 (fun s => some (.again s)) (fun e => some (.one e))
def f_i_AnnihilatorOf_k {R : Type} (g0 : List Sc) (h1 : Int) (kR : Int → Option R) : Option R :=
  bo (f_i_IsSet g0 h1) false fun r1 =>
  br ((!r1))
    (kR (-1))
    (bo (f_i_OrderOf g0) 0 fun r2 =>
    bl1 (loopL (f_i_AnnihilatorOf_r0 h1 g0 r2) (0, 0)) 0 fun e4 =>
    kR e4)
def f_i_AnnihilatorOf (g0 : List Sc) (h1 : Int) : Option (Int) := f_i_AnnihilatorOf_k g0 h1 some

def f_s_IsSet_k {R : Type} (g0 : List Sc) (a1 : Int) (kR : Bool → Option R) : Option R :=
  bo (f_s_IsGroup g0) false fun r1 =>
  br (r1 == true)
    (bo (f_s_l2Order g0) 0 fun r2 =>
    br (decide (r2 < 0))
      none
      (bo (f_s_l1In a1 0 (w64 ((shl64 1 r2) - 1))) false fun r3 =>
      kR r3))
    (kR false)
def f_s_IsSet (g0 : List Sc) (a1 : Int) : Option (Bool) := f_s_IsSet_k g0 a1 some

def f_s_KernelOf_k0 {R : Type} (k1 : Int) (g2 : List Sc) (out5 : Int) (x6 : Int) (kN : Int × Int → Option R) (kA : Int → Option R) : Option R :=
  bo (f_s_l2Order g2) 0 fun r2 =>
  br ((decide (x6 < r2)))
    (bo (f_s_l7Value g2 k1 x6) 0 fun r3 =>
    br ((r3 == 0))
      (br (decide (x6 < 0))
        none
        (kN ((or64 out5 (shl64 1 x6)), (w64 (x6 + 1)))))
      (kN (out5, (w64 (x6 + 1)))))
    (kA out5)
def f_s_KernelOf_r0 (k1 : Int) (g2 : List Sc) : (Int × Int) → Option (Ro (Int × Int) (Int) (Unit)) := fun s => f_s_KernelOf_k0 k1 g2 s.1 s.2 (fun s => some (.again s)) (fun e => some (.one e))
def f_s_KernelOf_k {R : Type} (g0 : List Sc) (k1 : Int) (kR : Int → Option R) : Option R :=
  bo (f_s_l2Is g0 k1) false fun r1 =>
  br ((!r1))
    (kR (-1))
    (bl1 (loopL (f_s_KernelOf_r0 k1 g0) (0, 0)) 0 fun e4 =>
    kR e4)
def f_s_KernelOf (g0 : List Sc) (k1 : Int) : Option (Int) := f_s_KernelOf_k g0 k1 some

def f_s_AnnihilatorOf_k0 {R : Type} (h1 : Int) (g2 : List Sc) (out5 : Int) (k6 : Int) (kN : Int × Int → Option R) (kA : Int → Option R) : Option R :=
  bo (f_s_l2Order g2) 0 fun r2 =>
  br ((decide (k6 < r2)))
    (bo (f_s_KernelOf g2 k6) 0 fun r3 =>
    br (((and64 r3 h1) == h1))
      (br (decide (k6 < 0))
        none
        (kN ((or64 out5 (shl64 1 k6)), (w64 (k6 + 1)))))
      (kN (out5, (w64 (k6 + 1)))))
    (kA out5)
def f_s_AnnihilatorOf_r0 (h1 : Int) (g2 : List Sc) : (Int × Int) → Option (Ro (Int × Int) (Int) (Unit)) := fun s => f_s_AnnihilatorOf_k0 h1 g2 s.1 s.2 (fun s => some (.again s)) (fun e => some (.one e))
def f_s_AnnihilatorOf_k {R : Type} (g0 : List Sc) (h1 : Int) (kR : Int → Option R) : Option R :=
  bo (f_s_IsSet g0 h1) false fun r1 =>
  br ((!r1))
    (kR (-1))
    (bl1 (loopL (f_s_AnnihilatorOf_r0 h1 g0) (0, 0)) 0 fun e4 =>
    kR e4)
def f_s_AnnihilatorOf (g0 : List Sc) (h1 : Int) : Option (Int) := f_s_AnnihilatorOf_k g0 h1 some

def f_i_members_k0 {R : Type} (a0 : Int) (out3 : List Sc) (x4 : Int) (kN : List Sc × Int → Option R) (kA : List Sc → Option R) : Option R :=
  br (decide (x4 < 0))
    none
    (br (((shr64 a0 x4) != 0))
      (br (decide (x4 < 0))
        none
        (br (((and64 (shr64 a0 x4) 1) == 1))
          (br (decide (out3.length + [(Sc.n .i64 x4)].length ≤ lim))
            (kN ((out3 ++ [(Sc.n .i64 x4)]), (w64 (x4 + 1))))
            none)
          (kN (out3, (w64 (x4 + 1))))))
      (kA out3))
def f_i_members_r0 (a0 : Int) : (List Sc × Int) → Option (Ro (List Sc × Int) (List Sc) (Unit)) := fun s => f_i_members_k0 a0 s.1 s.2 (fun s => some (.again s)) (fun e => some (.one e))
def f_i_members_k {R : Type} (a0 : Int) (kR : List Sc → Option R) : Option R :=
  bl1 (loopL (f_i_members_r0 a0) ([], 0)) [] fun e1 =>
  kR e1
def f_i_members (a0 : Int) : Option (List Sc) := f_i_members_k a0 some

def f_i_Group_add_k0 {R : Type} (t12 : List Sc) (t13 : Int) (x1 : Int) (y2 : Int) (sum7 : Int) (unit8 : Int) (t14 : Int) (kN : Int × Int × Int × Int × Int → Option R) (kA : Int → Option R) : Option R :=
  br ((decide (t14 < t13)))
    (br (okAt t12 t14)
      (br ((atI t12 t14) == 0)
        none
        (br ((atI t12 t14) == 0)
          none
          (br ((atI t12 t14) == 0)
            none
            (br ((atI t12 t14) == 0)
              none
              (br ((atI t12 t14) == 0)
                none
                (kN ((w64 (x1.tdiv (atI t12 t14))), (w64 (y2.tdiv (atI t12 t14))), (w64 (sum7 + (w64 (((w64 ((x1.tmod (atI t12 t14)) + (y2.tmod (atI t12 t14)))).tmod (atI t12 t14)) * unit8)))), (w64 (unit8 * (atI t12 t14))), (w64 (t14 + 1)))))))))
      none)
    (kA sum7)
def f_i_Group_add_r0 (t12 : List Sc) (t13 : Int) : (Int × Int × Int × Int × Int) → Option (Ro (Int × Int × Int × Int × Int) (Int) (Unit)) := fun s => f_i_Group_add_k0 t12 t13 s.1 s.2.1 s.2.2.1 s.2.2.2.1 s.2.2.2.2 (fun s => some (.again s)) (fun e => some (.one e))
def f_i_Group_add_k {R : Type} (g0 : List Sc) (x1 : Int) (y2 : Int) (kR : Int → Option R) : Option R :=
  bl1 (loopL (f_i_Group_add_r0 g0 (g0.length : Int)) (x1, y2, 0, 1, 0)) 0 fun e1 =>
  kR e1
def f_i_Group_add (g0 : List Sc) (x1 : Int) (y2 : Int) : Option (Int) := f_i_Group_add_k g0 x1 y2 some

def f_i_Group_shift_k0 {R : Type} (a1 : Int) (x2 : Int) (g3 : List Sc) (out7 : Int) (y8 : Int) (kN : Int × Int → Option R) (kA : Int → Option R) : Option R :=
  br (decide (y8 < 0))
    none
    (br (((shr64 a1 y8) != 0))
      (br (decide (y8 < 0))
        none
        (br (((and64 (shr64 a1 y8) 1) == 1))
          (bo (f_i_Group_add g3 x2 y8) 0 fun r1 =>
          br (decide (r1 < 0))
            none
            (kN ((or64 out7 (shl64 1 r1)), (w64 (y8 + 1)))))
          (kN (out7, (w64 (y8 + 1))))))
      (kA out7))
def f_i_Group_shift_r0 (a1 : Int) (x2 : Int) (g3 : List Sc) : (Int × Int) → Option (Ro (Int × Int) (Int) (Unit)) := fun s => f_i_Group_shift_k0 a1 x2 g3 s.1 s.2 (fun s => some (.again s)) (fun e => some (.one e))
def f_i_Group_shift_k {R : Type} (g0 : List Sc) (a1 : Int) (x2 : Int) (kR : Int → Option R) : Option R :=
  bl1 (loopL (f_i_Group_shift_r0 a1 x2 g0) (0, 0)) 0 fun e2 =>
  kR e2
def f_i_Group_shift (g0 : List Sc) (a1 : Int) (x2 : Int) : Option (Int) := f_i_Group_shift_k g0 a1 x2 some

def f_i_Group_sum_k0 {R : Type} (b2 : Int) (g3 : List Sc) (t12 : Int) (out7 : Int) (t11 : List Sc) (t13 : Int) (kN : Int × List Sc × Int → Option R) (kA : Int → Option R) : Option R :=
  br ((decide (t13 < t12)))
    (br (inRange t13 (t11).length)
      (br (kAt t11 t13.toNat)
        (bo (f_i_Group_shift g3 b2 (atN t11 t13.toNat)) 0 fun r2 =>
        kN ((or64 out7 r2), t11, (w64 (t13 + 1))))
        none)
      none)
    (kA out7)
def f_i_Group_sum_r0 (b2 : Int) (g3 : List Sc) (t12 : Int) : (Int × List Sc × Int) → Option (Ro (Int × List Sc × Int) (Int) (Unit)) := fun s => f_i_Group_sum_k0 b2 g3 t12 s.1 s.2.1 s.2.2 (fun s => some (.again s)) (fun e => some (.one e))
def f_i_Group_sum_k {R : Type} (g0 : List Sc) (a1 : Int) (b2 : Int) (kR : Int → Option R) : Option R :=
  bo (f_i_members a1) [] fun r1 =>
  bl1 (loopL (f_i_Group_sum_r0 b2 g0 (r1.length : Int)) (0, r1, 0)) 0 fun e3 =>
  kR e3
def f_i_Group_sum (g0 : List Sc) (a1 : Int) (b2 : Int) : Option (Int) := f_i_Group_sum_k g0 a1 b2 some

def f_i_Group_negate_k0 {R : Type} (t10 : List Sc) (t11 : Int) (x1 : Int) (sum5 : Int) (unit6 : Int) (t12 : Int) (kN : Int × Int × Int × Int → Option R) (kA : Int → Option R) : Option R :=
  br ((decide (t12 < t11)))
    (br (okAt t10 t12)
      (br ((atI t10 t12) == 0)
        none
        (br ((atI t10 t12) == 0)
          none
          (br ((atI t10 t12) == 0)
            none
            (kN ((w64 (x1.tdiv (atI t10 t12))), (w64 (sum5 + (w64 (((w64 ((atI t10 t12) - (x1.tmod (atI t10 t12)))).tmod (atI t10 t12)) * unit6)))), (w64 (unit6 * (atI t10 t12))), (w64 (t12 + 1)))))))
      none)
    (kA sum5)
def f_i_Group_negate_r0 (t10 : List Sc) (t11 : Int) : (Int × Int × Int × Int) → Option (Ro (Int × Int × Int × Int) (Int) (Unit)) := fun s => f_i_Group_negate_k0 t10 t11 s.1 s.2.1 s.2.2.1 s.2.2.2 (fun s => some (.again s)) (fun e => some (.one e))
def f_i_Group_negate_k {R : Type} (g0 : List Sc) (x1 : Int) (kR : Int → Option R) : Option R :=
  bl1 (loopL (f_i_Group_negate_r0 g0 (g0.length : Int)) (x1, 0, 1, 0)) 0 fun e1 =>
  kR e1
def f_i_Group_negate (g0 : List Sc) (x1 : Int) : Option (Int) := f_i_Group_negate_k g0 x1 some

def f_i_Group_opposite_k0 {R : Type} (g2 : List Sc) (t10 : Int) (out5 : Int) (t9 : List Sc) (t11 : Int) (kN : Int × List Sc × Int → Option R) (kA : Int → Option R) : Option R :=
  br ((decide (t11 < t10)))
    (br (inRange t11 (t9).length)
      (br (kAt t9 t11.toNat)
        (bo (f_i_Group_negate g2 (atN t9 t11.toNat)) 0 fun r2 =>
        br (decide (r2 < 0))
          none
          (kN ((or64 out5 (shl64 1 r2)), t9, (w64 (t11 + 1)))))
        none)
      none)
    (kA out5)
def f_i_Group_opposite_r0 (g2 : List Sc) (t10 : Int) : (Int × List Sc × Int) → Option (Ro (Int × List Sc × Int) (Int) (Unit)) := fun s => f_i_Group_opposite_k0 g2 t10 s.1 s.2.1 s.2.2 (fun s => some (.again s)) (fun e => some (.one e))
def f_i_Group_opposite_k {R : Type} (g0 : List Sc) (a1 : Int) (kR : Int → Option R) : Option R :=
  bo (f_i_members a1) [] fun r1 =>
  bl1 (loopL (f_i_Group_opposite_r0 g0 (r1.length : Int)) (0, r1, 0)) 0 fun e3 =>
  kR e3
def f_i_Group_opposite (g0 : List Sc) (a1 : Int) : Option (Int) := f_i_Group_opposite_k g0 a1 some

def f_i_Group_generated_k0 {R : Type} (a1 : Int) (g2 : List Sc) (h5 : Int) (kN : Int → Option R) (kA : Int → Option R) : Option R :=
  bo (f_i_Group_sum g2 h5 a1) 0 fun r1 =>
  bo (f_i_Group_opposite g2 a1) 0 fun r2 =>
  bo (f_i_Group_sum g2 h5 r2) 0 fun r3 =>
  br (((or64 (or64 h5 r1) r3) == h5))
    (kA h5)
    (kN (or64 (or64 h5 r1) r3))
def f_i_Group_generated_r0 (a1 : Int) (g2 : List Sc) : Int → Option (Ro (Int) (Int) (Unit)) := fun s => f_i_Group_generated_k0 a1 g2 s (fun s => some (.again s)) (fun e => some (.one e))
def f_i_Group_generated_k {R : Type} (g0 : List Sc) (a1 : Int) (kR : Int → Option R) : Option R :=
  bl1 (loopL (f_i_Group_generated_r0 a1 g0) 1) 0 fun e4 =>
  kR e4
def f_i_Group_generated (g0 : List Sc) (a1 : Int) : Option (Int) := f_i_Group_generated_k g0 a1 some

def f_i_IsSubgroup_k {R : Type} (g0 : List Sc) (a1 : Int) (kR : Bool → Option R) : Option R :=
  bo (f_i_IsSet g0 a1) false fun r1 =>
  br (r1 == true)
    (bo (f_i_Group_generated g0 a1) 0 fun r2 =>
    kR (r2 == a1))
    (kR false)
def f_i_IsSubgroup (g0 : List Sc) (a1 : Int) : Option (Bool) := f_i_IsSubgroup_k g0 a1 some

def f_s_IsSubgroup_k {R : Type} (g0 : List Sc) (a1 : Int) (kR : Bool → Option R) : Option R :=
  bo (f_s_IsSet g0 a1) false fun r1 =>
  br (r1 == true)
    (bo (f_s_l5Closure g0 a1) 0 fun r2 =>
    kR (r2 == a1))
    (kR false)
def f_s_IsSubgroup (g0 : List Sc) (a1 : Int) : Option (Bool) := f_s_IsSubgroup_k g0 a1 some

def f_s_l3Bits_k0 {R : Type} (n3 : Int) (x4 : Int) (kN : Int × Int → Option R) (kA : Int → Option R) : Option R :=
  br ((decide (x4 > 0)))
    (kN ((w64 (n3 + (and64 x4 1))), (shr64 x4 1)))
    (kA n3)
def f_s_l3Bits_r0 : (Int × Int) → Option (Ro (Int × Int) (Int) (Unit)) := fun s => f_s_l3Bits_k0 s.1 s.2 (fun s => some (.again s)) (fun e => some (.one e))
def f_s_l3Bits_k {R : Type} (a0 : Int) (kR : Int → Option R) : Option R :=
  bl1 (loopL (f_s_l3Bits_r0) (0, a0)) 0 fun e1 =>
  kR e1
def f_s_l3Bits (a0 : Int) : Option (Int) := f_s_l3Bits_k a0 some

def f_s_CountSet_k {R : Type} (g0 : List Sc) (a1 : Int) (kR : Int → Option R) : Option R :=
  bo (f_s_IsSet g0 a1) false fun r1 =>
  br ((!r1))
    (kR (-1))
    (bo (f_s_l3Bits a1) 0 fun r2 =>
    kR r2)
def f_s_CountSet (g0 : List Sc) (a1 : Int) : Option (Int) := f_s_CountSet_k g0 a1 some

def f_i_CoefficientCounts_k0 {R : Type} (k2 : Int) (g3 : List Sc) (t26 : Int) (out7 : List Sc) (t25 : List Sc) (t27 : Int) (kN : List Sc × List Sc × Int → Option R) (kA : List Sc → Option R) : Option R :=
  br ((decide (t27 < t26)))
    (br (inRange t27 (t25).length)
      (br (kAt t25 t27.toNat)
        (bo (f_i_CharacterValue g3 k2 (atN t25 t27.toNat)) 0 fun r5 =>
        br (inRange r5 (out7).length)
          (br (kAt out7 r5.toNat)
            (br (inRange r5 (out7).length)
              (kN ((out7.set r5.toNat (Sc.n .i64 (w64 ((atN out7 r5.toNat) + 1)))), t25, (w64 (t27 + 1))))
              none)
            none)
          none)
        none)
      none)
    (kA out7)
def f_i_CoefficientCounts_r0 (k2 : Int) (g3 : List Sc) (t26 : Int) : (List Sc × List Sc × Int) → Option (Ro (List Sc × List Sc × Int) (List Sc) (Unit)) := fun s => f_i_CoefficientCounts_k0 k2 g3 t26 s.1 s.2.1 s.2.2 (fun s => some (.again s)) (fun e => some (.one e))
def f_i_CoefficientCounts_k {R : Type} (g0 : List Sc) (a1 : Int) (k2 : Int) (kR : List Sc → Option R) : Option R :=
  bo (f_i_IsSet g0 a1) false fun r1 =>
  br ((!r1) == false)
    (bo (f_i_Group_has g0 k2) false fun r2 =>
    br ((!r2))
      (kR [])
      (bo (f_i_ExponentOf g0) 0 fun r3 =>
      br (decide (0 ≤ r3) && (decide (r3 ≤ r3) && decide (r3 ≤ (lim : Int))))
        (bo (f_i_members a1) [] fun r4 =>
        bl1 (loopL (f_i_CoefficientCounts_r0 k2 g0 (r4.length : Int)) ((List.replicate r3.toNat (Sc.n .i64 0)), r4, 0)) [] fun e6 =>
        kR e6)
        none))
    (kR [])
def f_i_CoefficientCounts (g0 : List Sc) (a1 : Int) (k2 : Int) : Option (List Sc) := f_i_CoefficientCounts_k g0 a1 k2 some

def f_i_copyInts_k {R : Type} (l0 : List Sc) (kR : List Sc → Option R) : Option R :=
  br (decide (([] : List Sc).length + l0.length ≤ lim))
    (kR ([] ++ l0))
    none
def f_i_copyInts (l0 : List Sc) : Option (List Sc) := f_i_copyInts_k l0 some

def f_i_rest_g13_k {R : Type} (t1 : List Sc) (t6 : List Sc) (t7 : List Sc) (kA : List Sc → Option R) : Option R :=
  br (decide (0 ≤ (0 : Int)) && (decide ((0 : Int) ≤ (if (w64 ((t1.length : Int) - 1)) < (t6.length : Int) then (w64 ((t1.length : Int) - 1)) else (t6.length : Int))) && decide ((if (w64 ((t1.length : Int) - 1)) < (t6.length : Int) then (w64 ((t1.length : Int) - 1)) else (t6.length : Int)) ≤ (t6.length : Int))))
    (kA (sliceA t6 0 (if (w64 ((t1.length : Int) - 1)) < (t6.length : Int) then (w64 ((t1.length : Int) - 1)) else (t6.length : Int))))
    none
def f_i_rest_g13 (t1 : List Sc) (t6 : List Sc) (t7 : List Sc) : Option (List Sc) := f_i_rest_g13_k t1 t6 t7 some
def f_i_rest_k2 {R : Type} (t1 : List Sc) (t8 : Int) (t9 : Int) (t41 : List Sc) (t42 : Int) (t6 : List Sc) (t7 : List Sc) (t43 : Int) (kN : List Sc × List Sc × Int → Option R) (kA : List Sc × List Sc → Option R) : Option R :=
  br ((decide (t43 < t42)))
    (br (okAt t41 t43)
      (br (inRange (w64 (t8 + t43)) (t6).length)
        (br (kAt t6 (w64 (t8 + t43)).toNat)
          (br (inRange (w64 (t8 + t43)) (t6).length)
            (kN ((t6.set ((w64 (t8 + t43)).toNat) (Sc.n .i64 (w64 ((atN t6 (w64 (t8 + t43)).toNat) - (w64 (t9 * (atI t41 t43))))))), t7, (w64 (t43 + 1))))
            none)
          none)
        none)
      none)
    (kA (t6, t7))
def f_i_rest_r2 (t1 : List Sc) (t8 : Int) (t9 : Int) (t41 : List Sc) (t42 : Int) : (List Sc × List Sc × Int) → Option (Ro (List Sc × List Sc × Int) (List Sc × List Sc) (Unit)) := fun s => f_i_rest_k2 t1 t8 t9 t41 t42 s.1 s.2.1 s.2.2 (fun s => some (.again s)) (fun e => some (.one e))
def f_i_rest_k0 {R : Type} (t1 : List Sc) (t6 : List Sc) (t7 : List Sc) (t8 : Int) (kN : List Sc × List Sc × Int → Option R) (kA : List Sc × List Sc × Int → Option R) : Option R :=
  br ((decide (t8 ≥ 0)))
    (br (inRange (w64 ((w64 (t8 + (t1.length : Int))) - 1)) (t6).length)
      (br (kAt t6 (w64 ((w64 (t8 + (t1.length : Int))) - 1)).toNat)
        (br (inRange t8 (t7).length)
          (bl1 (loopL (f_i_rest_r2 t1 t8 (atN t6 (w64 ((w64 (t8 + (t1.length : Int))) - 1)).toNat) t1 (t1.length : Int)) (t6, (t7.set t8.toNat (Sc.n .i64 (atN t6 (w64 ((w64 (t8 + (t1.length : Int))) - 1)).toNat))), 0)) ([], []) fun e2 =>
          kN (e2.1, e2.2, (w64 (t8 - 1))))
          none)
        none)
      none)
    (kA (t6, t7, t8))
def f_i_rest_r0 (t1 : List Sc) : (List Sc × List Sc × Int) → Option (Ro (List Sc × List Sc × Int) (List Sc × List Sc × Int) (Unit)) := fun s => f_i_rest_k0 t1 s.1 s.2.1 s.2.2 (fun s => some (.again s)) (fun e => some (.one e))
def f_i_rest_k {R : Type} (L0 : List Sc) (p1 : List Sc) (kR : List Sc × List Sc → Option R) : Option R :=
  bo (f_i_copyInts L0) [] fun r1 =>
  br (decide (0 ≤ (if (w64 ((w64 ((L0.length : Int) - (p1.length : Int))) + 1)) > 0 then (w64 ((w64 ((L0.length : Int) - (p1.length : Int))) + 1)) else 0)) && (decide ((if (w64 ((w64 ((L0.length : Int) - (p1.length : Int))) + 1)) > 0 then (w64 ((w64 ((L0.length : Int) - (p1.length : Int))) + 1)) else 0) ≤ (if (w64 ((w64 ((L0.length : Int) - (p1.length : Int))) + 1)) > 0 then (w64 ((w64 ((L0.length : Int) - (p1.length : Int))) + 1)) else 0)) && decide ((if (w64 ((w64 ((L0.length : Int) - (p1.length : Int))) + 1)) > 0 then (w64 ((w64 ((L0.length : Int) - (p1.length : Int))) + 1)) else 0) ≤ (lim : Int))))
    (bl1 (loopL (f_i_rest_r0 p1) (r1, (List.replicate (if (w64 ((w64 ((L0.length : Int) - (p1.length : Int))) + 1)) > 0 then (w64 ((w64 ((L0.length : Int) - (p1.length : Int))) + 1)) else 0).toNat (Sc.n .i64 0)), (w64 (((List.replicate (if (w64 ((w64 ((L0.length : Int) - (p1.length : Int))) + 1)) > 0 then (w64 ((w64 ((L0.length : Int) - (p1.length : Int))) + 1)) else 0).toNat (Sc.n .i64 0)).length : Int) - 1)))) ([], [], 0) fun e3 =>
    bo (f_i_rest_g13 p1 e3.1 e3.2.1) [] fun g4 =>
    kR (e3.2.1, g4))
    none
def f_i_rest (L0 : List Sc) (p1 : List Sc) : Option (List Sc × List Sc) := f_i_rest_k L0 p1 some

def f_i_cyclotomic_k0 {R : Type} (self : Int → Option (List Sc)) (d0 : Int) (p3 : List Sc) (e4 : Int) (kN : List Sc × Int → Option R) (kA : List Sc → Option R) : Option R :=
  br ((decide (e4 < d0)))
    (br (e4 == 0)
      none
      (br (((d0.tmod e4) == 0))
        (bo (self e4) [] fun r1 =>
        bo (f_i_rest p3 r1) ([], []) fun r2 =>
        kN (r2.1, (w64 (e4 + 1))))
        (kN (p3, (w64 (e4 + 1))))))
    (kA p3)
def f_i_cyclotomic_r0 (self : Int → Option (List Sc)) (d0 : Int) : (List Sc × Int) → Option (Ro (List Sc × Int) (List Sc) (Unit)) := fun s => f_i_cyclotomic_k0 self d0 s.1 s.2 (fun s => some (.again s)) (fun e => some (.one e))
def f_i_cyclotomic_k {R : Type} (self : Int → Option (List Sc)) (d0 : Int) (kR : List Sc → Option R) : Option R :=
  br (decide (0 ≤ (w64 (d0 + 1))) && (decide ((w64 (d0 + 1)) ≤ (w64 (d0 + 1))) && decide ((w64 (d0 + 1)) ≤ (lim : Int))))
    (br (inRange 0 ((List.replicate (w64 (d0 + 1)).toNat (Sc.n .i64 0))).length)
      (br (inRange d0 (((List.replicate (w64 (d0 + 1)).toNat (Sc.n .i64 0)).set ((0 : Int).toNat) (Sc.n .i64 (-1)))).length)
        (bl1 (loopL (f_i_cyclotomic_r0 self d0) ((((List.replicate (w64 (d0 + 1)).toNat (Sc.n .i64 0)).set ((0 : Int).toNat) (Sc.n .i64 (-1))).set d0.toNat (Sc.n .i64 1)), 1)) [] fun e3 =>
        kR e3)
        none)
      none)
    none
def f_i_cyclotomic_n : Nat → Int → Option (List Sc)
  | 0, _ => none
  | n + 1, a => f_i_cyclotomic_k (f_i_cyclotomic_n n) a some
def f_i_cyclotomic (d0 : Int) : Option (List Sc) := limF f_i_cyclotomic_n d0

def f_i_vanishes_k0 {R : Type} (t15 : List Sc) (t16 : Int) (t17 : Int) (kN : Int → Option R) (kA : Unit → Option R) (kB : Unit → Option R) : Option R :=
  br ((decide (t17 < t16)))
    (br (okAt t15 t17)
      (br (((atI t15 t17) != 0))
        (kB ())
        (kN (w64 (t17 + 1))))
      none)
    (kA ())
def f_i_vanishes_r0 (t15 : List Sc) (t16 : Int) : Int → Option (Ro (Int) (Unit) (Unit)) := fun s => f_i_vanishes_k0 t15 t16 s (fun s => some (.again s)) (fun e => some (.one e)) (fun e => some (.two e))
def f_i_vanishes_k {R : Type} (counts0 : List Sc) (kR : Bool → Option R) : Option R :=
  bo (f_i_cyclotomic (counts0.length : Int)) [] fun r1 =>
  bo (f_i_rest counts0 r1) ([], []) fun r2 =>
  bl (loopL (f_i_vanishes_r0 r2.2 (r2.2.length : Int)) 0) () ()
    (fun e3 =>
      kR true)
    (fun e3 =>
      kR false)
def f_i_vanishes (counts0 : List Sc) : Option (Bool) := f_i_vanishes_k counts0 some

def f_i_IsZeroCoefficient_k {R : Type} (g0 : List Sc) (a1 : Int) (k2 : Int) (kR : Bool → Option R) : Option R :=
  bo (f_i_IsSet g0 a1) false fun r1 =>
  br (r1 == true)
    (bo (f_i_Group_has g0 k2) false fun r2 =>
    br (r2 == true)
      (bo (f_i_CoefficientCounts g0 a1 k2) [] fun r3 =>
      bo (f_i_vanishes r3) false fun r4 =>
      kR r4)
      (kR false))
    (kR false)
def f_i_IsZeroCoefficient (g0 : List Sc) (a1 : Int) (k2 : Int) : Option (Bool) := f_i_IsZeroCoefficient_k g0 a1 k2 some

def f_s_ListOf_k {R : Type} (g0 : List Sc) (a1 : Int) (kR : List Sc → Option R) : Option R :=
  bo (f_s_IsSet g0 a1) false fun r1 =>
  br ((!r1))
    (kR [])
    (bo (f_s_l3List a1) [] fun r2 =>
    kR r2)
def f_s_ListOf (g0 : List Sc) (a1 : Int) : Option (List Sc) := f_s_ListOf_k g0 a1 some

def f_l_has_k0 {R : Type} (l0 : List Sc) (x1 : Int) (i5 : Int) (kN : Int → Option R) (kA : Unit → Option R) (kB : Unit → Option R) : Option R :=
  br ((decide (i5 < (l0.length : Int))))
    (br (okAt l0 i5)
      (br (((atI l0 i5) == x1))
        (kB ())
        (kN (w64 (i5 + 1))))
      none)
    (kA ())
def f_l_has_r0 (l0 : List Sc) (x1 : Int) : Int → Option (Ro (Int) (Unit) (Unit)) := fun s => f_l_has_k0 l0 x1 s (fun s => some (.again s)) (fun e => some (.one e)) (fun e => some (.two e))
def f_l_has_k {R : Type} (l0 : List Sc) (x1 : Int) (kR : Bool → Option R) : Option R :=
  bl (loopL (f_l_has_r0 l0 x1) 0) () ()
    (fun e1 =>
      kR false)
    (fun e1 =>
      kR true)
def f_l_has (l0 : List Sc) (x1 : Int) : Option (Bool) := f_l_has_k l0 x1 some

def f_s_l6Set_io_k {R : Type} (h0 : List Sc) (h1 : Int) (h2 : Int) (kR : List Sc × Int × List Sc × Int × Int → Option R) : Option R :=
  bo (f_s_l5Group_io h0 h1 h2) ([], 0, [], 0, 0) fun r1 =>
  bo (f_s_l3Set_io r1.1 r1.2.2.1 r1.2.2.2.1 r1.2.2.2.2) (0, [], 0, 0) fun r2 =>
  bo (f_s_IsSet r1.1 r2.1) false fun r3 =>
  br (r3 == true)
    (bo (f_s_IsSubgroup r1.1 r1.2.1) false fun r4 =>
    br (r4 == true)
      (bo (f_s_l1Once_io 2 r2.2.1 r2.2.2.1 r2.2.2.2) (false, [], 0, 0) fun r5 =>
      br (r5.1)
        (bo (f_s_l4Sum r1.1 r2.1 r1.2.1) 0 fun r6 =>
        kR (r1.1, r6, r5.2.1, r5.2.2.1, r5.2.2.2))
        (kR (r1.1, r2.1, r5.2.1, r5.2.2.1, r5.2.2.2)))
      (kR (r1.1, r2.1, r2.2.1, r2.2.2.1, r2.2.2.2)))
    (kR (r1.1, r2.1, r2.2.1, r2.2.2.1, r2.2.2.2))
def f_s_l6Set_io (h0 : List Sc) (h1 : Int) (h2 : Int) : Option (List Sc × Int × List Sc × Int × Int) := f_s_l6Set_io_k h0 h1 h2 some

def f_s_l7Both_g3_k {R : Type} (v0 : List Sc) (v1 : List Sc) (v2 : List Sc) (v3 : Int) (v4 : Int) (t7 : Int) (kA : Int → Option R) : Option R :=
  bo (f_s_l2Element_io v1 v2 v3 v4) (0, [], 0, 0) fun r3 =>
  kA r3.1
def f_s_l7Both_g3 (v0 : List Sc) (v1 : List Sc) (v2 : List Sc) (v3 : Int) (v4 : Int) (t7 : Int) : Option (Int) := f_s_l7Both_g3_k v0 v1 v2 v3 v4 t7 some
def f_s_l7Both_k {R : Type} (code0 : List Sc) (kR : List Sc × Int × Int → Option R) : Option R :=
  bo (f_s_l1New code0) ([], 0, 0) fun r1 =>
  bo (f_s_l6Set_io r1.1 r1.2.1 r1.2.2) ([], 0, [], 0, 0) fun r2 =>
  bo (f_s_l7Both_g3 [] r2.1 r2.2.2.1 r2.2.2.2.1 r2.2.2.2.2 r2.2.1) 0 fun g12 =>
  kR (r2.1, r2.2.1, g12)
def f_s_l7Both (code0 : List Sc) : Option (List Sc × Int × Int) := f_s_l7Both_k code0 some

def f_s_DrawCoefficientCounts_k {R : Type} (code0 : List Sc) (kR : List Sc × Int × Int → Option R) : Option R :=
  bo (f_s_l7Both code0) ([], 0, 0) fun r1 =>
  kR (r1.1, r1.2.1, r1.2.2)
def f_s_DrawCoefficientCounts (code0 : List Sc) : Option (List Sc × Int × Int) := f_s_DrawCoefficientCounts_k code0 some

def f_s_l2One_g3_k {R : Type} (v0 : List Sc) (v1 : List Sc) (v2 : List Sc) (v3 : Int) (v4 : Int) (kA : Int → Option R) : Option R :=
  bo (f_s_l2Element_io v1 v2 v3 v4) (0, [], 0, 0) fun r3 =>
  kA r3.1
def f_s_l2One_g3 (v0 : List Sc) (v1 : List Sc) (v2 : List Sc) (v3 : Int) (v4 : Int) : Option (Int) := f_s_l2One_g3_k v0 v1 v2 v3 v4 some
def f_s_l2One_k {R : Type} (code0 : List Sc) (kR : List Sc × Int → Option R) : Option R :=
  bo (f_s_l1New code0) ([], 0, 0) fun r1 =>
  bo (f_s_l2Any_io r1.1 r1.2.1 r1.2.2) ([], [], 0, 0) fun r2 =>
  bo (f_s_l2One_g3 [] r2.1 r2.2.1 r2.2.2.1 r2.2.2.2) 0 fun g8 =>
  kR (r2.1, g8)
def f_s_l2One (code0 : List Sc) : Option (List Sc × Int) := f_s_l2One_k code0 some

def f_s_DrawKernelOf_k {R : Type} (code0 : List Sc) (kR : List Sc × Int → Option R) : Option R :=
  bo (f_s_l2One code0) ([], 0) fun r1 =>
  kR (r1.1, r1.2)
def f_s_DrawKernelOf (code0 : List Sc) : Option (List Sc × Int) := f_s_DrawKernelOf_k code0 some

def f_s_CoefficientCounts_k0 {R : Type} (k2 : Int) (g3 : List Sc) (out7 : List Sc) (l8 : List Sc) (i9 : Int) (kN : List Sc × List Sc × Int → Option R) (kA : List Sc → Option R) : Option R :=
  br ((decide (i9 < (l8.length : Int))))
    (br (inRange i9 (l8).length)
      (br (kAt l8 i9.toNat)
        (bo (f_s_l7Value g3 k2 (atN l8 i9.toNat)) 0 fun r5 =>
        br (inRange r5 (out7).length)
          (br (kAt out7 r5.toNat)
            (br (inRange r5 (out7).length)
              (kN ((out7.set r5.toNat (Sc.n .i64 (w64 ((atN out7 r5.toNat) + 1)))), l8, (w64 (i9 + 1))))
              none)
            none)
          none)
        none)
      none)
    (kA out7)
def f_s_CoefficientCounts_r0 (k2 : Int) (g3 : List Sc) : (List Sc × List Sc × Int) → Option (Ro (List Sc × List Sc × Int) (List Sc) (Unit)) := fun s => f_s_CoefficientCounts_k0 k2 g3 s.1 s.2.1 s.2.2 (fun s => some (.again s)) (fun e => some (.one e))
def f_s_CoefficientCounts_k {R : Type} (g0 : List Sc) (a1 : Int) (k2 : Int) (kR : List Sc → Option R) : Option R :=
  bo (f_s_IsSet g0 a1) false fun r1 =>
  br ((!r1) == false)
    (bo (f_s_l2Is g0 k2) false fun r2 =>
    br ((!r2))
      (kR [])
      (bo (f_s_ExponentOf g0) 0 fun r3 =>
      br (decide (0 ≤ r3) && (decide (r3 ≤ r3) && decide (r3 ≤ (lim : Int))))
        (bo (f_s_l3List a1) [] fun r4 =>
        bl1 (loopL (f_s_CoefficientCounts_r0 k2 g0) ((List.replicate r3.toNat (Sc.n .i64 0)), r4, 0)) [] fun e6 =>
        kR e6)
        none))
    (kR [])
def f_s_CoefficientCounts (g0 : List Sc) (a1 : Int) (k2 : Int) : Option (List Sc) := f_s_CoefficientCounts_k g0 a1 k2 some

def f_s_l7Pair_g4_k {R : Type} (v0 : List Sc) (v1 : List Sc) (v2 : Int) (v3 : Int) (t6 : Int) (kA : List Sc × Int × Int × List Sc → Option R) : Option R :=
  bo (f_s_l2Element_io v0 v1 v2 v3) (0, [], 0, 0) fun r4 =>
  bo (f_s_CoefficientCounts v0 t6 r4.1) [] fun r5 =>
  kA (r4.2.1, r4.2.2.1, r4.2.2.2, r5)
def f_s_l7Pair_g4 (v0 : List Sc) (v1 : List Sc) (v2 : Int) (v3 : Int) (t6 : Int) : Option (List Sc × Int × Int × List Sc) := f_s_l7Pair_g4_k v0 v1 v2 v3 t6 some
def f_s_l7Pair_g5_k {R : Type} (v0 : List Sc) (v1 : List Sc) (v2 : Int) (v3 : Int) (t7 : List Sc) (kA : List Sc × Int × Int × List Sc → Option R) : Option R :=
  bo (f_s_l3Set_io v0 v1 v2 v3) (0, [], 0, 0) fun r15 =>
  bo (f_s_l2Element_io v0 r15.2.1 r15.2.2.1 r15.2.2.2) (0, [], 0, 0) fun r16 =>
  bo (f_s_CoefficientCounts v0 r15.1 r16.1) [] fun r17 =>
  kA (r16.2.1, r16.2.2.1, r16.2.2.2, r17)
def f_s_l7Pair_g5 (v0 : List Sc) (v1 : List Sc) (v2 : Int) (v3 : Int) (t7 : List Sc) : Option (List Sc × Int × Int × List Sc) := f_s_l7Pair_g5_k v0 v1 v2 v3 t7 some
def f_s_l7Pair_k {R : Type} (code0 : List Sc) (kR : List Sc × List Sc → Option R) : Option R :=
  bo (f_s_l1New code0) ([], 0, 0) fun r1 =>
  bo (f_s_l2Draw_io 12 r1.1 r1.2.1 r1.2.2) ([], [], 0, 0) fun r2 =>
  bo (f_s_l3Set_io r2.1 r2.2.1 r2.2.2.1 r2.2.2.2) (0, [], 0, 0) fun r3 =>
  bo (f_s_l7Pair_g4 r2.1 r3.2.1 r3.2.2.1 r3.2.2.2 r3.1) ([], 0, 0, []) fun g14 =>
  bo (f_s_l7Pair_g5 r2.1 g14.1 g14.2.1 g14.2.2.1 g14.2.2.2) ([], 0, 0, []) fun g36 =>
  br ((decide ((g14.2.2.2.length : Int) > 0)) == true)
    (bo (f_s_l1Once_io 8 g36.1 g36.2.1 g36.2.2.1) (false, [], 0, 0) fun r37 =>
    br (r37.1)
      (bo (f_s_l1PickInt_io [(Sc.n .i64 (-1)), (Sc.n .i64 1000), (Sc.n .i64 1001), (Sc.n .i64 (-9223372036854775808))] r37.2.1 r37.2.2.1 r37.2.2.2) (0, [], 0, 0) fun r38 =>
      br (inRange 0 (g14.2.2.2).length)
        (kR ((g14.2.2.2.set ((0 : Int).toNat) (Sc.n .i64 r38.1)), g36.2.2.2))
        none)
      (kR (g14.2.2.2, g36.2.2.2)))
    (kR (g14.2.2.2, g36.2.2.2))
def f_s_l7Pair (code0 : List Sc) : Option (List Sc × List Sc) := f_s_l7Pair_k code0 some

def f_s_DrawAddCounts_k {R : Type} (code0 : List Sc) (kR : List Sc × List Sc → Option R) : Option R :=
  bo (f_s_l7Pair code0) ([], []) fun r1 =>
  kR (r1.1, r1.2)
def f_s_DrawAddCounts (code0 : List Sc) : Option (List Sc × List Sc) := f_s_DrawAddCounts_k code0 some

def f_s_DrawMultiplyCounts_k {R : Type} (code0 : List Sc) (kR : List Sc × List Sc → Option R) : Option R :=
  bo (f_s_l7Pair code0) ([], []) fun r1 =>
  kR (r1.1, r1.2)
def f_s_DrawMultiplyCounts (code0 : List Sc) : Option (List Sc × List Sc) := f_s_DrawMultiplyCounts_k code0 some

def f_s_DrawIsZeroCoefficient_k {R : Type} (code0 : List Sc) (kR : List Sc × Int × Int → Option R) : Option R :=
  bo (f_s_l7Both code0) ([], 0, 0) fun r1 =>
  kR (r1.1, r1.2.1, r1.2.2)
def f_s_DrawIsZeroCoefficient (code0 : List Sc) : Option (List Sc × Int × Int) := f_s_DrawIsZeroCoefficient_k code0 some

def f_l_sameInts_k0 {R : Type} (a0 : List Sc) (b1 : List Sc) (i5 : Int) (kN : Int → Option R) (kA : Unit → Option R) (kB : Unit → Option R) : Option R :=
  br ((decide (i5 < (a0.length : Int))))
    (br (okAt a0 i5)
      (br (okAt b1 i5)
        (br (((atI a0 i5) != (atI b1 i5)))
          (kB ())
          (kN (w64 (i5 + 1))))
        none)
      none)
    (kA ())
def f_l_sameInts_r0 (a0 : List Sc) (b1 : List Sc) : Int → Option (Ro (Int) (Unit) (Unit)) := fun s => f_l_sameInts_k0 a0 b1 s (fun s => some (.again s)) (fun e => some (.one e)) (fun e => some (.two e))
def f_l_sameInts_k {R : Type} (a0 : List Sc) (b1 : List Sc) (kR : Bool → Option R) : Option R :=
  br (((a0.length : Int) != (b1.length : Int)))
    (kR false)
    (bl (loopL (f_l_sameInts_r0 a0 b1) 0) () ()
      (fun e1 =>
        kR true)
      (fun e1 =>
        kR false))
def f_l_sameInts (a0 : List Sc) (b1 : List Sc) : Option (Bool) := f_l_sameInts_k a0 b1 some

def f_l_total_k0 {R : Type} (l0 : List Sc) (n3 : Int) (i4 : Int) (kN : Int × Int → Option R) (kA : Int → Option R) : Option R :=
  br ((decide (i4 < (l0.length : Int))))
    (br (okAt l0 i4)
      (kN ((w64 (n3 + (atI l0 i4))), (w64 (i4 + 1))))
      none)
    (kA n3)
def f_l_total_r0 (l0 : List Sc) : (Int × Int) → Option (Ro (Int × Int) (Int) (Unit)) := fun s => f_l_total_k0 l0 s.1 s.2 (fun s => some (.again s)) (fun e => some (.one e))
def f_l_total_k {R : Type} (l0 : List Sc) (kR : Int → Option R) : Option R :=
  bl1 (loopL (f_l_total_r0 l0) (0, 0)) 0 fun e1 =>
  kR e1
def f_l_total (l0 : List Sc) : Option (Int) := f_l_total_k l0 some

def f_i_areCounts_k0 {R : Type} (p0 : List Sc) (q1 : List Sc) (t11 : Int) (t10 : List Sc) (t12 : Int) (kN : List Sc × Int → Option R) (kA : Unit → Option R) (kB : Unit → Option R) : Option R :=
  br ((decide (t12 < t11)))
    (br (inRange t12 (t10).length)
      (br (kAt t10 t12.toNat)
        (bo (f_i_within (atN t10 t12.toNat) (-1000) 1000) false fun r2 =>
        br ((!r2))
          (kB ())
          (kN (t10, (w64 (t12 + 1)))))
        none)
      none)
    (kA ())
def f_i_areCounts_r0 (p0 : List Sc) (q1 : List Sc) (t11 : Int) : (List Sc × Int) → Option (Ro (List Sc × Int) (Unit) (Unit)) := fun s => f_i_areCounts_k0 p0 q1 t11 s.1 s.2 (fun s => some (.again s)) (fun e => some (.one e)) (fun e => some (.two e))
def f_i_areCounts_k {R : Type} (p0 : List Sc) (q1 : List Sc) (kR : Bool → Option R) : Option R :=
  bo (f_i_copyInts p0) [] fun r1 =>
  br (decide (r1.length + q1.length ≤ lim))
    (bl (loopL (f_i_areCounts_r0 p0 q1 ((r1 ++ q1).length : Int)) ((r1 ++ q1), 0)) () ()
      (fun e3 =>
        br (((p0.length : Int) == (q1.length : Int)) == true)
          (bo (f_i_within (p0.length : Int) 1 24) false fun r4 =>
          kR r4)
          (kR false))
      (fun e3 =>
        kR false))
    none
def f_i_areCounts (p0 : List Sc) (q1 : List Sc) : Option (Bool) := f_i_areCounts_k p0 q1 some

def f_i_AddCounts_k0 {R : Type} (p0 : List Sc) (q1 : List Sc) (t14 : Int) (out5 : List Sc) (t15 : Int) (kN : List Sc × Int → Option R) (kA : List Sc → Option R) : Option R :=
  br ((decide (t15 < t14)))
    (br (okAt p0 t15)
      (br (okAt q1 t15)
        (br (decide (out5.length + [(Sc.n .i64 (w64 ((atI p0 t15) + (atI q1 t15))))].length ≤ lim))
          (kN ((out5 ++ [(Sc.n .i64 (w64 ((atI p0 t15) + (atI q1 t15))))]), (w64 (t15 + 1))))
          none)
        none)
      none)
    (kA out5)
def f_i_AddCounts_r0 (p0 : List Sc) (q1 : List Sc) (t14 : Int) : (List Sc × Int) → Option (Ro (List Sc × Int) (List Sc) (Unit)) := fun s => f_i_AddCounts_k0 p0 q1 t14 s.1 s.2 (fun s => some (.again s)) (fun e => some (.one e))
def f_i_AddCounts_k {R : Type} (p0 : List Sc) (q1 : List Sc) (kR : List Sc → Option R) : Option R :=
  bo (f_i_areCounts p0 q1) false fun r1 =>
  br ((!r1))
    (kR [])
    (bl1 (loopL (f_i_AddCounts_r0 p0 q1 (p0.length : Int)) ([], 0)) [] fun e2 =>
    kR e2)
def f_i_AddCounts (p0 : List Sc) (q1 : List Sc) : Option (List Sc) := f_i_AddCounts_k p0 q1 some

def f_s_l7Counts_k0 {R : Type} (p0 : List Sc) (i3 : Int) (kN : Int → Option R) (kA : Unit → Option R) (kB : Unit → Option R) : Option R :=
  br ((decide (i3 < (p0.length : Int))))
    (br (okAt p0 i3)
      (bo (f_s_l1In (atI p0 i3) (-1000) 1000) false fun r1 =>
      br ((!r1))
        (kB ())
        (kN (w64 (i3 + 1))))
      none)
    (kA ())
def f_s_l7Counts_r0 (p0 : List Sc) : Int → Option (Ro (Int) (Unit) (Unit)) := fun s => f_s_l7Counts_k0 p0 s (fun s => some (.again s)) (fun e => some (.one e)) (fun e => some (.two e))
def f_s_l7Counts_k {R : Type} (p0 : List Sc) (kR : Bool → Option R) : Option R :=
  bl (loopL (f_s_l7Counts_r0 p0) 0) () ()
    (fun e2 =>
      bo (f_s_l1In (p0.length : Int) 1 24) false fun r3 =>
      kR r3)
    (fun e2 =>
      kR false)
def f_s_l7Counts (p0 : List Sc) : Option (Bool) := f_s_l7Counts_k p0 some

def f_s_AddCounts_k0 {R : Type} (p0 : List Sc) (q1 : List Sc) (out5 : List Sc) (i6 : Int) (kN : List Sc × Int → Option R) (kA : List Sc → Option R) : Option R :=
  br ((decide (i6 < (p0.length : Int))) == true)
    (bo (f_s_l7Counts p0) false fun r1 =>
    br (r1 == true)
      (bo (f_s_l7Counts q1) false fun r2 =>
      br (r2 == true)
        (br (((p0.length : Int) == (q1.length : Int)))
          (br (okAt p0 i6)
            (br (okAt q1 i6)
              (br (decide (out5.length + [(Sc.n .i64 (w64 ((atI p0 i6) + (atI q1 i6))))].length ≤ lim))
                (kN ((out5 ++ [(Sc.n .i64 (w64 ((atI p0 i6) + (atI q1 i6))))]), (w64 (i6 + 1))))
                none)
              none)
            none)
          (kA out5))
        (kA out5))
      (kA out5))
    (kA out5)
def f_s_AddCounts_r0 (p0 : List Sc) (q1 : List Sc) : (List Sc × Int) → Option (Ro (List Sc × Int) (List Sc) (Unit)) := fun s => f_s_AddCounts_k0 p0 q1 s.1 s.2 (fun s => some (.again s)) (fun e => some (.one e))
def f_s_AddCounts_k {R : Type} (p0 : List Sc) (q1 : List Sc) (kR : List Sc → Option R) : Option R :=
  bl1 (loopL (f_s_AddCounts_r0 p0 q1) ([], 0)) [] fun e3 =>
  kR e3
def f_s_AddCounts (p0 : List Sc) (q1 : List Sc) : Option (List Sc) := f_s_AddCounts_k p0 q1 some

def f_i_MultiplyCounts_k2 {R : Type} (p0 : List Sc) (q1 : List Sc) (i6 : Int) (x7 : Int) (t18 : List Sc) (t19 : Int) (t20 : Int) (t25 : List Sc) (t26 : Int) (out5 : List Sc) (t27 : Int) (kN : List Sc × Int → Option R) (kA : List Sc → Option R) : Option R :=
  br ((decide (t27 < t26)))
    (br (okAt t25 t27)
      (br ((p0.length : Int) == 0)
        none
        (br ((p0.length : Int) == 0)
          none
          (br (inRange ((w64 (i6 + t27)).tmod (p0.length : Int)) (out5).length)
            (br (kAt out5 ((w64 (i6 + t27)).tmod (p0.length : Int)).toNat)
              (br (inRange ((w64 (i6 + t27)).tmod (p0.length : Int)) (out5).length)
                (kN ((out5.set (((w64 (i6 + t27)).tmod (p0.length : Int)).toNat) (Sc.n .i64 (w64 ((atN out5 ((w64 (i6 + t27)).tmod (p0.length : Int)).toNat) + (w64 (x7 * (atI t25 t27))))))), (w64 (t27 + 1))))
                none)
              none)
            none)))
      none)
    (kA out5)
def f_i_MultiplyCounts_r2 (p0 : List Sc) (q1 : List Sc) (i6 : Int) (x7 : Int) (t18 : List Sc) (t19 : Int) (t20 : Int) (t25 : List Sc) (t26 : Int) : (List Sc × Int) → Option (Ro (List Sc × Int) (List Sc) (Unit)) := fun s => f_i_MultiplyCounts_k2 p0 q1 i6 x7 t18 t19 t20 t25 t26 s.1 s.2 (fun s => some (.again s)) (fun e => some (.one e))
def f_i_MultiplyCounts_k0 {R : Type} (p0 : List Sc) (q1 : List Sc) (t18 : List Sc) (t19 : Int) (out5 : List Sc) (t20 : Int) (kN : List Sc × Int → Option R) (kA : List Sc × Int → Option R) : Option R :=
  br ((decide (t20 < t19)))
    (br (okAt t18 t20)
      (bl1 (loopL (f_i_MultiplyCounts_r2 p0 q1 t20 (atI t18 t20) t18 t19 t20 q1 (q1.length : Int)) (out5, 0)) [] fun e2 =>
      kN (e2, (w64 (t20 + 1))))
      none)
    (kA (out5, t20))
def f_i_MultiplyCounts_r0 (p0 : List Sc) (q1 : List Sc) (t18 : List Sc) (t19 : Int) : (List Sc × Int) → Option (Ro (List Sc × Int) (List Sc × Int) (Unit)) := fun s => f_i_MultiplyCounts_k0 p0 q1 t18 t19 s.1 s.2 (fun s => some (.again s)) (fun e => some (.one e))
def f_i_MultiplyCounts_k {R : Type} (p0 : List Sc) (q1 : List Sc) (kR : List Sc → Option R) : Option R :=
  bo (f_i_areCounts p0 q1) false fun r1 =>
  br ((!r1))
    (kR [])
    (br (decide (0 ≤ (p0.length : Int)) && (decide ((p0.length : Int) ≤ (p0.length : Int)) && decide ((p0.length : Int) ≤ (lim : Int))))
      (bl1 (loopL (f_i_MultiplyCounts_r0 p0 q1 p0 (p0.length : Int)) ((List.replicate (p0.length : Int).toNat (Sc.n .i64 0)), 0)) ([], 0) fun e3 =>
      kR e3.1)
      none)
def f_i_MultiplyCounts (p0 : List Sc) (q1 : List Sc) : Option (List Sc) := f_i_MultiplyCounts_k p0 q1 some

def f_s_MultiplyCounts_k2 {R : Type} (L0 : List Sc) (t1 : List Sc) (t6 : Int) (t5 : List Sc) (t7 : Int) (kN : List Sc × Int → Option R) (kA : List Sc → Option R) : Option R :=
  br ((decide (t7 < (t1.length : Int))))
    (br ((L0.length : Int) == 0)
      none
      (br ((L0.length : Int) == 0)
        none
        (br (inRange ((w64 (t6 + t7)).tmod (L0.length : Int)) (t5).length)
          (br (kAt t5 ((w64 (t6 + t7)).tmod (L0.length : Int)).toNat)
            (br (okAt L0 t6)
              (br (okAt t1 t7)
                (br (inRange ((w64 (t6 + t7)).tmod (L0.length : Int)) (t5).length)
                  (kN ((t5.set (((w64 (t6 + t7)).tmod (L0.length : Int)).toNat) (Sc.n .i64 (w64 ((atN t5 ((w64 (t6 + t7)).tmod (L0.length : Int)).toNat) + (w64 ((atI L0 t6) * (atI t1 t7))))))), (w64 (t7 + 1))))
                  none)
                none)
              none)
            none)
          none)))
    (kA t5)
def f_s_MultiplyCounts_r2 (L0 : List Sc) (t1 : List Sc) (t6 : Int) : (List Sc × Int) → Option (Ro (List Sc × Int) (List Sc) (Unit)) := fun s => f_s_MultiplyCounts_k2 L0 t1 t6 s.1 s.2 (fun s => some (.again s)) (fun e => some (.one e))
def f_s_MultiplyCounts_k0 {R : Type} (L0 : List Sc) (t1 : List Sc) (t5 : List Sc) (t6 : Int) (kN : List Sc × Int → Option R) (kA : List Sc × Int → Option R) : Option R :=
  br ((decide (t6 < (L0.length : Int))))
    (bl1 (loopL (f_s_MultiplyCounts_r2 L0 t1 t6) (t5, 0)) [] fun e3 =>
    kN (e3, (w64 (t6 + 1))))
    (kA (t5, t6))
def f_s_MultiplyCounts_r0 (L0 : List Sc) (t1 : List Sc) : (List Sc × Int) → Option (Ro (List Sc × Int) (List Sc × Int) (Unit)) := fun s => f_s_MultiplyCounts_k0 L0 t1 s.1 s.2 (fun s => some (.again s)) (fun e => some (.one e))
def f_s_MultiplyCounts_k {R : Type} (L0 : List Sc) (p1 : List Sc) (kR : List Sc → Option R) : Option R :=
  bo (f_s_l7Counts L0) false fun r1 =>
  br ((!r1) == false)
    (bo (f_s_l7Counts p1) false fun r2 =>
    br ((!r2) == false)
      (br (((L0.length : Int) != (p1.length : Int)))
        (kR [])
        (br (decide (0 ≤ (L0.length : Int)) && (decide ((L0.length : Int) ≤ (L0.length : Int)) && decide ((L0.length : Int) ≤ (lim : Int))))
          (bl1 (loopL (f_s_MultiplyCounts_r0 L0 p1) ((List.replicate (L0.length : Int).toNat (Sc.n .i64 0)), 0)) ([], 0) fun e4 =>
          kR e4.1)
          none))
      (kR []))
    (kR [])
def f_s_MultiplyCounts (L0 : List Sc) (p1 : List Sc) : Option (List Sc) := f_s_MultiplyCounts_k L0 p1 some

def f_s_l7Quotient_k2 {R : Type} (t1 : List Sc) (t7 : Int) (t8 : Int) (t5 : List Sc) (t6 : List Sc) (t9 : Int) (kN : List Sc × List Sc × Int → Option R) (kA : List Sc × List Sc → Option R) : Option R :=
  br ((decide (t9 < (t1.length : Int))))
    (br (inRange (w64 (t7 + t9)) (t5).length)
      (br (kAt t5 (w64 (t7 + t9)).toNat)
        (br (okAt t1 t9)
          (br (inRange (w64 (t7 + t9)) (t5).length)
            (kN ((t5.set ((w64 (t7 + t9)).toNat) (Sc.n .i64 (w64 ((atN t5 (w64 (t7 + t9)).toNat) - (w64 (t8 * (atI t1 t9))))))), t6, (w64 (t9 + 1))))
            none)
          none)
        none)
      none)
    (kA (t5, t6))
def f_s_l7Quotient_r2 (t1 : List Sc) (t7 : Int) (t8 : Int) : (List Sc × List Sc × Int) → Option (Ro (List Sc × List Sc × Int) (List Sc × List Sc) (Unit)) := fun s => f_s_l7Quotient_k2 t1 t7 t8 s.1 s.2.1 s.2.2 (fun s => some (.again s)) (fun e => some (.one e))
def f_s_l7Quotient_k0 {R : Type} (t1 : List Sc) (t5 : List Sc) (t6 : List Sc) (t7 : Int) (kN : List Sc × List Sc × Int → Option R) (kA : List Sc × List Sc × Int → Option R) : Option R :=
  br ((decide (t7 ≥ 0)))
    (br (inRange (w64 ((w64 (t7 + (t1.length : Int))) - 1)) (t5).length)
      (br (kAt t5 (w64 ((w64 (t7 + (t1.length : Int))) - 1)).toNat)
        (br (inRange t7 (t6).length)
          (bl1 (loopL (f_s_l7Quotient_r2 t1 t7 (atN t5 (w64 ((w64 (t7 + (t1.length : Int))) - 1)).toNat)) (t5, (t6.set t7.toNat (Sc.n .i64 (atN t5 (w64 ((w64 (t7 + (t1.length : Int))) - 1)).toNat))), 0)) ([], []) fun e1 =>
          kN (e1.1, e1.2, (w64 (t7 - 1))))
          none)
        none)
      none)
    (kA (t5, t6, t7))
def f_s_l7Quotient_r0 (t1 : List Sc) : (List Sc × List Sc × Int) → Option (Ro (List Sc × List Sc × Int) (List Sc × List Sc × Int) (Unit)) := fun s => f_s_l7Quotient_k0 t1 s.1 s.2.1 s.2.2 (fun s => some (.again s)) (fun e => some (.one e))
def f_s_l7Quotient_k {R : Type} (L0 : List Sc) (p1 : List Sc) (kR : List Sc → Option R) : Option R :=
  br (decide (([] : List Sc).length + L0.length ≤ lim))
    (br (decide (0 ≤ (if (w64 ((w64 ((L0.length : Int) - (p1.length : Int))) + 1)) > 0 then (w64 ((w64 ((L0.length : Int) - (p1.length : Int))) + 1)) else 0)) && (decide ((if (w64 ((w64 ((L0.length : Int) - (p1.length : Int))) + 1)) > 0 then (w64 ((w64 ((L0.length : Int) - (p1.length : Int))) + 1)) else 0) ≤ (if (w64 ((w64 ((L0.length : Int) - (p1.length : Int))) + 1)) > 0 then (w64 ((w64 ((L0.length : Int) - (p1.length : Int))) + 1)) else 0)) && decide ((if (w64 ((w64 ((L0.length : Int) - (p1.length : Int))) + 1)) > 0 then (w64 ((w64 ((L0.length : Int) - (p1.length : Int))) + 1)) else 0) ≤ (lim : Int))))
      (bl1 (loopL (f_s_l7Quotient_r0 p1) (([] ++ L0), (List.replicate (if (w64 ((w64 ((L0.length : Int) - (p1.length : Int))) + 1)) > 0 then (w64 ((w64 ((L0.length : Int) - (p1.length : Int))) + 1)) else 0).toNat (Sc.n .i64 0)), (w64 (((List.replicate (if (w64 ((w64 ((L0.length : Int) - (p1.length : Int))) + 1)) > 0 then (w64 ((w64 ((L0.length : Int) - (p1.length : Int))) + 1)) else 0).toNat (Sc.n .i64 0)).length : Int) - 1)))) ([], [], 0) fun e2 =>
      kR e2.2.1)
      none)
    none
def f_s_l7Quotient (L0 : List Sc) (p1 : List Sc) : Option (List Sc) := f_s_l7Quotient_k L0 p1 some

def f_s_l7Cyclotomic_k0 {R : Type} (self : Int → Option (List Sc)) (n0 : Int) (p3 : List Sc) (k4 : Int) (kN : List Sc × Int → Option R) (kA : List Sc → Option R) : Option R :=
  br ((decide (k4 < n0)))
    (br (k4 == 0)
      none
      (br (((n0.tmod k4) == 0))
        (bo (self k4) [] fun r1 =>
        bo (f_s_l7Quotient p3 r1) [] fun r2 =>
        kN (r2, (w64 (k4 + 1))))
        (kN (p3, (w64 (k4 + 1))))))
    (kA p3)
def f_s_l7Cyclotomic_r0 (self : Int → Option (List Sc)) (n0 : Int) : (List Sc × Int) → Option (Ro (List Sc × Int) (List Sc) (Unit)) := fun s => f_s_l7Cyclotomic_k0 self n0 s.1 s.2 (fun s => some (.again s)) (fun e => some (.one e))
def f_s_l7Cyclotomic_k {R : Type} (self : Int → Option (List Sc)) (n0 : Int) (kR : List Sc → Option R) : Option R :=
  br (decide (0 ≤ (w64 (n0 + 1))) && (decide ((w64 (n0 + 1)) ≤ (w64 (n0 + 1))) && decide ((w64 (n0 + 1)) ≤ (lim : Int))))
    (br (inRange 0 ((List.replicate (w64 (n0 + 1)).toNat (Sc.n .i64 0))).length)
      (br (inRange n0 (((List.replicate (w64 (n0 + 1)).toNat (Sc.n .i64 0)).set ((0 : Int).toNat) (Sc.n .i64 (-1)))).length)
        (bl1 (loopL (f_s_l7Cyclotomic_r0 self n0) ((((List.replicate (w64 (n0 + 1)).toNat (Sc.n .i64 0)).set ((0 : Int).toNat) (Sc.n .i64 (-1))).set n0.toNat (Sc.n .i64 1)), 1)) [] fun e3 =>
        kR e3)
        none)
      none)
    none
def f_s_l7Cyclotomic_n : Nat → Int → Option (List Sc)
  | 0, _ => none
  | n + 1, a => f_s_l7Cyclotomic_k (f_s_l7Cyclotomic_n n) a some
def f_s_l7Cyclotomic (n0 : Int) : Option (List Sc) := limF f_s_l7Cyclotomic_n n0

def f_s_l7Rest_k2 {R : Type} (d1 : List Sc) (i6 : Int) (f7 : Int) (r5 : List Sc) (k8 : Int) (kN : List Sc × Int → Option R) (kA : List Sc → Option R) : Option R :=
  br ((decide (k8 < (d1.length : Int))))
    (br (inRange (w64 (i6 + k8)) (r5).length)
      (br (kAt r5 (w64 (i6 + k8)).toNat)
        (br (okAt d1 k8)
          (br (inRange (w64 (i6 + k8)) (r5).length)
            (kN ((r5.set ((w64 (i6 + k8)).toNat) (Sc.n .i64 (w64 ((atN r5 (w64 (i6 + k8)).toNat) - (w64 (f7 * (atI d1 k8))))))), (w64 (k8 + 1))))
            none)
          none)
        none)
      none)
    (kA r5)
def f_s_l7Rest_r2 (d1 : List Sc) (i6 : Int) (f7 : Int) : (List Sc × Int) → Option (Ro (List Sc × Int) (List Sc) (Unit)) := fun s => f_s_l7Rest_k2 d1 i6 f7 s.1 s.2 (fun s => some (.again s)) (fun e => some (.one e))
def f_s_l7Rest_k0 {R : Type} (d1 : List Sc) (r5 : List Sc) (i6 : Int) (kN : List Sc × Int → Option R) (kA : List Sc × Int → Option R) : Option R :=
  br ((decide (i6 ≥ 0)))
    (br (inRange (w64 ((w64 (i6 + (d1.length : Int))) - 1)) (r5).length)
      (br (kAt r5 (w64 ((w64 (i6 + (d1.length : Int))) - 1)).toNat)
        (bl1 (loopL (f_s_l7Rest_r2 d1 i6 (atN r5 (w64 ((w64 (i6 + (d1.length : Int))) - 1)).toNat)) (r5, 0)) [] fun e1 =>
        kN (e1, (w64 (i6 - 1))))
        none)
      none)
    (kA (r5, i6))
def f_s_l7Rest_r0 (d1 : List Sc) : (List Sc × Int) → Option (Ro (List Sc × Int) (List Sc × Int) (Unit)) := fun s => f_s_l7Rest_k0 d1 s.1 s.2 (fun s => some (.again s)) (fun e => some (.one e))
def f_s_l7Rest_k {R : Type} (p0 : List Sc) (d1 : List Sc) (kR : List Sc → Option R) : Option R :=
  br (decide (([] : List Sc).length + p0.length ≤ lim))
    (bl1 (loopL (f_s_l7Rest_r0 d1) (([] ++ p0), (w64 ((([] ++ p0).length : Int) - (d1.length : Int))))) ([], 0) fun e2 =>
    kR e2.1)
    none
def f_s_l7Rest (p0 : List Sc) (d1 : List Sc) : Option (List Sc) := f_s_l7Rest_k p0 d1 some

def f_s_IsZeroCoefficient_k0 {R : Type} (r8 : List Sc) (i9 : Int) (kN : List Sc × Int → Option R) (kA : Unit → Option R) (kB : Unit → Option R) : Option R :=
  br ((decide (i9 < (r8.length : Int))))
    (br (inRange i9 (r8).length)
      (br (kAt r8 i9.toNat)
        (br (((atN r8 i9.toNat) != 0))
          (kB ())
          (kN (r8, (w64 (i9 + 1)))))
        none)
      none)
    (kA ())
def f_s_IsZeroCoefficient_r0 : (List Sc × Int) → Option (Ro (List Sc × Int) (Unit) (Unit)) := fun s => f_s_IsZeroCoefficient_k0 s.1 s.2 (fun s => some (.again s)) (fun e => some (.one e)) (fun e => some (.two e))
def f_s_IsZeroCoefficient_k {R : Type} (g0 : List Sc) (a1 : Int) (k2 : Int) (kR : Bool → Option R) : Option R :=
  bo (f_s_CoefficientCounts g0 a1 k2) [] fun r1 =>
  br (((r1.length : Int) == 0))
    (kR false)
    (bo (f_s_l7Cyclotomic (r1.length : Int)) [] fun r2 =>
    bo (f_s_l7Rest r1 r2) [] fun r3 =>
    bl (loopL (f_s_IsZeroCoefficient_r0) (r3, 0)) () ()
      (fun e4 =>
        kR true)
      (fun e4 =>
        kR false))
def f_s_IsZeroCoefficient (g0 : List Sc) (a1 : Int) (k2 : Int) : Option (Bool) := f_s_IsZeroCoefficient_k g0 a1 k2 some

def f_l_FnCharacters_k0 {R : Type} (L0 : List Sc) (t9 : Int) (t10 : Int) (v1 : List Sc) (t11 : Int) (kN : List Sc × Int → Option R) (kA : Unit → Option R) (kB : Unit → Option R) : Option R :=
  bo (f_s_OrderOf v1) 0 fun r21 =>
  br ((decide (t11 < r21)))
    (bo (f_i_IsZeroCoefficient v1 t9 t11) false fun r22 =>
    br ((decide ((t10.tmod 2) ≥ 0)) == true)
      (bo (f_s_CountSet v1 t10) 0 fun r23 =>
      br ((decide (r23 ≥ 1)) == true)
        (bo (f_s_ListOf v1 t10) [] fun r24 =>
        bo (f_l_has r24 t11) false fun r25 =>
        br ((!(r22 == (!r25))))
          (kB ())
          (kN (v1, (w64 (t11 + 1)))))
        (br ((!(r22 == false)))
          (kB ())
          (kN (v1, (w64 (t11 + 1))))))
      (br ((!(r22 == false)))
        (kB ())
        (kN (v1, (w64 (t11 + 1))))))
    (kA ())
def f_l_FnCharacters_r0 (L0 : List Sc) (t9 : Int) (t10 : Int) : (List Sc × Int) → Option (Ro (List Sc × Int) (Unit) (Unit)) := fun s => f_l_FnCharacters_k0 L0 t9 t10 s.1 s.2 (fun s => some (.again s)) (fun e => some (.one e)) (fun e => some (.two e))
def f_l_FnCharacters_m29_0_k {R : Type} (zv2 : List Sc) (zv3 : List Sc) (zv4 : List Sc) (zt13 : Int) (zt14 : Int) (zt15 : List Sc) (zt17 : Int) (zt18 : List Sc) (zt19 : List Sc) (zt20 : List Sc) (zt21 : List Sc) (zt23 : Int) (zt24 : Int) (zt178 : List Sc) (zt179 : Int) (zt180 : Int) (zt181 : List Sc) (zt182 : Bool) (zt185 : Int) (zt186 : Bool) (zt189 : Int) (zt190 : List Sc) (zt191 : Int) (zt192 : Int) (zt193 : Bool) (zt194 : Bool) (zt195 : Bool) (zt196 : Bool) (kA : Bool → Option R) : Option R :=
  br (zt196 == true)
    (bo (f_i_KernelOf zv3 zt17) 0 fun r37 =>
    bo (f_s_KernelOf zv3 zt17) 0 fun r38 =>
    br ((r37 == r38) == true)
      (bo (f_i_AddCounts zt18 zt19) [] fun r39 =>
      bo (f_s_AddCounts zt18 zt19) [] fun r40 =>
      bo (f_l_sameInts r39 r40) false fun r41 =>
      br (r41 == true)
        (bo (f_i_MultiplyCounts zt20 zt21) [] fun r42 =>
        bo (f_s_MultiplyCounts zt20 zt21) [] fun r43 =>
        bo (f_l_sameInts r42 r43) false fun r44 =>
        br (r44 == true)
          (bo (f_i_IsZeroCoefficient zv4 zt23 zt24) false fun r45 =>
          bo (f_s_IsZeroCoefficient zv4 zt23 zt24) false fun r46 =>
          kA (r45 == r46))
          (kA false))
        (kA false))
      (kA false))
    (kA false)
def f_l_FnCharacters_m29_1_k {R : Type} (zv2 : List Sc) (zv3 : List Sc) (zv4 : List Sc) (zt13 : Int) (zt14 : Int) (zt15 : List Sc) (zt17 : Int) (zt18 : List Sc) (zt19 : List Sc) (zt20 : List Sc) (zt21 : List Sc) (zt23 : Int) (zt24 : Int) (zt178 : List Sc) (zt179 : Int) (zt180 : Int) (zt181 : List Sc) (zt182 : Bool) (zt185 : Int) (zt186 : Bool) (kA : Bool → Option R) : Option R :=
  bo (f_i_KernelOf zv3 zt17) 0 fun r47 =>
  bo (f_s_KernelOf zv3 zt17) 0 fun r48 =>
  br ((r47 == r48) == true)
    (bo (f_i_AddCounts zt18 zt19) [] fun r49 =>
    bo (f_s_AddCounts zt18 zt19) [] fun r50 =>
    bo (f_l_sameInts r49 r50) false fun r51 =>
    br (r51 == true)
      (bo (f_i_MultiplyCounts zt20 zt21) [] fun r52 =>
      bo (f_s_MultiplyCounts zt20 zt21) [] fun r53 =>
      bo (f_l_sameInts r52 r53) false fun r54 =>
      br (r54 == true)
        (bo (f_i_IsZeroCoefficient zv4 zt23 zt24) false fun r55 =>
        bo (f_s_IsZeroCoefficient zv4 zt23 zt24) false fun r56 =>
        kA (r55 == r56))
        (kA false))
      (kA false))
    (kA false)
def f_l_FnCharacters_m29_2_k {R : Type} (zv2 : List Sc) (zv3 : List Sc) (zv4 : List Sc) (zt13 : Int) (zt14 : Int) (zt15 : List Sc) (zt17 : Int) (zt18 : List Sc) (zt19 : List Sc) (zt20 : List Sc) (zt21 : List Sc) (zt23 : Int) (zt24 : Int) (zt178 : List Sc) (zt179 : Int) (zt180 : Int) (zt181 : List Sc) (zt182 : Bool) (kA : Bool → Option R) : Option R :=
  kA false
def f_l_FnCharacters_w29_k {R : Type} (v2 : List Sc) (v3 : List Sc) (v4 : List Sc) (t13 : Int) (t14 : Int) (t15 : List Sc) (t17 : Int) (t18 : List Sc) (t19 : List Sc) (t20 : List Sc) (t21 : List Sc) (t23 : Int) (t24 : Int) (kA : Bool → Option R) : Option R :=
  bo (f_s_CoefficientCounts v2 t13 t14) [] fun r33 =>
  bo (f_l_sameInts t15 r33) false fun r34 =>
  br (r34 == true)
    (br (((t15.length : Int) == 0) == false)
      (bo (f_l_total t15) 0 fun r35 =>
      bo (f_s_CountSet v2 t13) 0 fun r36 =>
      f_l_FnCharacters_m29_0_k v2 v3 v4 t13 t14 t15 t17 t18 t19 t20 t21 t23 t24 v2 t13 t14 r33 r34 (t15.length : Int) ((t15.length : Int) == 0) r35 v2 t13 r36 (r35 == r36) (r35 == r36) (r35 == r36) (r35 == r36) kA)
      (f_l_FnCharacters_m29_1_k v2 v3 v4 t13 t14 t15 t17 t18 t19 t20 t21 t23 t24 v2 t13 t14 r33 r34 (t15.length : Int) ((t15.length : Int) == 0) kA))
    (f_l_FnCharacters_m29_2_k v2 v3 v4 t13 t14 t15 t17 t18 t19 t20 t21 t23 t24 v2 t13 t14 r33 r34 kA)
def f_l_FnCharacters_w29 (v2 : List Sc) (v3 : List Sc) (v4 : List Sc) (t13 : Int) (t14 : Int) (t15 : List Sc) (t17 : Int) (t18 : List Sc) (t19 : List Sc) (t20 : List Sc) (t21 : List Sc) (t23 : Int) (t24 : Int) : Option (Bool) := f_l_FnCharacters_w29_k v2 v3 v4 t13 t14 t15 t17 t18 t19 t20 t21 t23 t24 some
def f_l_FnCharacters_w23_k {R : Type} (t0 : List Sc) (kA : Bool → Option R) : Option R :=
  bo (f_s_DrawCoefficientCounts t0) ([], 0, 0) fun r27 =>
  bo (f_i_CoefficientCounts r27.1 r27.2.1 r27.2.2) [] fun r28 =>
  bo (f_s_DrawKernelOf t0) ([], 0) fun r29 =>
  bo (f_s_DrawAddCounts t0) ([], []) fun r30 =>
  bo (f_s_DrawMultiplyCounts t0) ([], []) fun r31 =>
  bo (f_s_DrawIsZeroCoefficient t0) ([], 0, 0) fun r32 =>
  bo (f_l_FnCharacters_w29 r27.1 r29.1 r32.1 r27.2.1 r27.2.2 r28 r29.2 r30.1 r30.2 r31.1 r31.2 r32.2.1 r32.2.2) false fun w57 =>
  kA w57
def f_l_FnCharacters_w23 (t0 : List Sc) : Option (Bool) := f_l_FnCharacters_w23_k t0 some
def f_l_FnCharacters_w15_k {R : Type} (v1 : List Sc) (t0 : List Sc) (t9 : Int) (t10 : Int) (kA : Bool → Option R) : Option R :=
  bo (f_s_IsSubgroup v1 t9) false fun r16 =>
  br (r16)
    (bo (f_i_AnnihilatorOf v1 t10) 0 fun r17 =>
    br ((r17 != t9) == false)
      (bo (f_s_CountSet v1 t10) 0 fun r18 =>
      bo (f_s_CountSet v1 t9) 0 fun r19 =>
      bo (f_s_OrderOf v1) 0 fun r20 =>
      br (((w64 (r18 * r19)) != r20))
        (kA false)
        (bl (loopL (f_l_FnCharacters_r0 t0 t9 t10) (v1, 0)) () ()
          (fun e26 =>
            bo (f_l_FnCharacters_w23 t0) false fun w58 =>
            kA w58)
          (fun e26 =>
            kA false)))
      (kA false))
    (bo (f_l_FnCharacters_w23 t0) false fun w59 =>
    kA w59)
def f_l_FnCharacters_w15 (v1 : List Sc) (t0 : List Sc) (t9 : Int) (t10 : Int) : Option (Bool) := f_l_FnCharacters_w15_k v1 t0 t9 t10 some
def f_l_FnCharacters_w11_k {R : Type} (t0 : List Sc) (kA : Bool → Option R) : Option R :=
  bo (f_s_DrawAnnihilatorOf t0) ([], 0) fun r12 =>
  bo (f_i_AnnihilatorOf r12.1 r12.2) 0 fun r13 =>
  bo (f_s_AnnihilatorOf r12.1 r12.2) 0 fun r14 =>
  br ((r13 != r14) == false)
    (br ((decide (r13 ≥ 0)) == true)
      (bo (f_i_IsSubgroup r12.1 r13) false fun r15 =>
      br ((!r15))
        (kA false)
        (bo (f_l_FnCharacters_w15 r12.1 t0 r12.2 r13) false fun w60 =>
        kA w60))
      (bo (f_l_FnCharacters_w15 r12.1 t0 r12.2 r13) false fun w61 =>
      kA w61))
    (kA false)
def f_l_FnCharacters_w11 (t0 : List Sc) : Option (Bool) := f_l_FnCharacters_w11_k t0 some
def f_l_FnCharacters_w7_k {R : Type} (v0 : List Sc) (t0 : List Sc) (t4 : Int) (t5 : Int) (t6 : Int) (kA : Bool → Option R) : Option R :=
  br ((decide (t6 ≥ 0)))
    (bo (f_l_at t0 3) 0 fun r5 =>
    bo (f_s_OrderOf v0) 0 fun r6 =>
    br (r6 == 0)
      none
      (bo (f_i_CharacterValue v0 t4 (r5.tmod r6)) 0 fun r7 =>
      bo (f_s_ExponentOf v0) 0 fun r8 =>
      br (r8 == 0)
        none
        (bo (f_s_AddElements v0 t5 (r5.tmod r6)) 0 fun r9 =>
        bo (f_i_CharacterValue v0 t4 r9) 0 fun r10 =>
        br ((((w64 (t6 + r7)).tmod r8) != r10) == false)
          (bo (f_i_CharacterValue v0 t5 t4) 0 fun r11 =>
          br ((r11 != t6))
            (kA false)
            (bo (f_l_FnCharacters_w11 t0) false fun w62 =>
            kA w62))
          (kA false))))
    (bo (f_l_FnCharacters_w11 t0) false fun w63 =>
    kA w63)
def f_l_FnCharacters_w7 (v0 : List Sc) (t0 : List Sc) (t4 : Int) (t5 : Int) (t6 : Int) : Option (Bool) := f_l_FnCharacters_w7_k v0 t0 t4 t5 t6 some
def f_l_FnCharacters_w3_k {R : Type} (t0 : List Sc) (kA : Bool → Option R) : Option R :=
  bo (f_s_DrawCharacterValue t0) ([], 0, 0) fun r2 =>
  bo (f_i_CharacterValue r2.1 r2.2.1 r2.2.2) 0 fun r3 =>
  bo (f_s_CharacterValue r2.1 r2.2.1 r2.2.2) 0 fun r4 =>
  br ((r3 != r4))
    (kA false)
    (bo (f_l_FnCharacters_w7 r2.1 t0 r2.2.1 r2.2.2 r3) false fun w64 =>
    kA w64)
def f_l_FnCharacters_w3 (t0 : List Sc) : Option (Bool) := f_l_FnCharacters_w3_k t0 some
def f_l_FnCharacters_k {R : Type} (L0 : List Sc) (kR : Bool → Option R) : Option R :=
  bo (f_l_big L0) false fun r1 =>
  br (r1)
    (kR true)
    (bo (f_l_FnCharacters_w3 L0) false fun w65 =>
    kR w65)
def f_l_FnCharacters (L0 : List Sc) : Option (Bool) := f_l_FnCharacters_k L0 some
end
end Go.Proofs.Ytonjcafobhpfdaa
