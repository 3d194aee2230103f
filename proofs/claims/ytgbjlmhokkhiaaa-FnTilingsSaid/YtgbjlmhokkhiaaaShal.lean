/-
  What the functions compute, as plain functions (printed by gen2.py).
-/
import Derived.Test.YtgbjlmhokkhiaaaVSort
set_option linter.unusedVariables false
set_option linter.unusedSimpArgs false
namespace Go.Proofs.Ytgbjlmhokkhiaaa
open Go Ev
noncomputable section
def f_l_big_k {R : Type} (code0 : List Sc) (kR : Bool → Option R) : Option R :=
  kR (decide ((code0.length : Int) > 1048576))
def f_l_big (code0 : List Sc) : Option (Bool) := f_l_big_k code0 some

def f_s_l1New_k0 {R : Type} (code0 : List Sc) (h3 : Int) (i4 : Int) (kN : Int × Int → Option R) (kA : Int → Option R) : Option R :=
  br ((decide (i4 < (code0.length : Int))) == true)
    (br ((decide (i4 < 4000)))
      (br (okZ (.n .u8 0) code0 i4)
        (kN ((and64 (w64 ((w64 ((w64 (h3 * 131)) + (w64 (sAt code0 .u8 i4)))) + 7)) 1073741823), (w64 (i4 + 1))))
        none)
      (kA h3))
    (kA h3)
def f_s_l1New_r0 (code0 : List Sc) : (Int × Int) → Option (Ro (Int × Int) (Int) (Unit)) := fun s => f_s_l1New_k0 code0 s.1 s.2 (fun s => some (.again s)) (fun e => some (.one e))
def f_s_l1New_k {R : Type} (code0 : List Sc) (kR : List Sc × Int × Int → Option R) : Option R :=
  bl1 (loopL (f_s_l1New_r0 code0) ((w64 (10101 + (code0.length : Int))), 0)) 0 fun e1 =>
  kR (code0, 0, e1)
def f_s_l1New (code0 : List Sc) : Option (List Sc × Int × Int) := f_s_l1New_k code0 some

def f_s_l1Byte_io_k {R : Type} (h0 : List Sc) (h1 : Int) (h2 : Int) (kR : Int × List Sc × Int × Int → Option R) : Option R :=
  br ((decide (h1 < (h0.length : Int))))
    (br (okZ (.n .u8 0) h0 h1)
      (kR ((and64 (w64 ((and64 (xor64 (shr64 (w64 ((w64 (h2 * 6364136223846793005)) + 1442695040888963407)) 33) (shr64 (w64 ((w64 (h2 * 6364136223846793005)) + 1442695040888963407)) 45)) 255) + (w64 (sAt h0 .u8 h1)))) 255), h0, (w64 (h1 + 1)), (w64 ((w64 (h2 * 6364136223846793005)) + 1442695040888963407))))
      none)
    (kR ((and64 (xor64 (shr64 (w64 ((w64 (h2 * 6364136223846793005)) + 1442695040888963407)) 33) (shr64 (w64 ((w64 (h2 * 6364136223846793005)) + 1442695040888963407)) 45)) 255), h0, h1, (w64 ((w64 (h2 * 6364136223846793005)) + 1442695040888963407))))
def f_s_l1Byte_io (h0 : List Sc) (h1 : Int) (h2 : Int) : Option (Int × List Sc × Int × Int) := f_s_l1Byte_io_k h0 h1 h2 some

def f_s_l1Below_io_k {R : Type} (n1 : Int) (h0 : List Sc) (h1 : Int) (h2 : Int) (kR : Int × List Sc × Int × Int → Option R) : Option R :=
  br ((decide (n1 ≤ 0)))
    (kR (0, h0, h1, h2))
    (br ((decide (n1 ≤ 256)))
      (bo (f_s_l1Byte_io h0 h1 h2) (0, [], 0, 0) fun r1 =>
      br (n1 == 0)
        none
        (kR ((r1.1.tmod n1), r1.2.1, r1.2.2.1, r1.2.2.2)))
      (bo (f_s_l1Byte_io h0 h1 h2) (0, [], 0, 0) fun r2 =>
      bo (f_s_l1Byte_io r2.2.1 r2.2.2.1 r2.2.2.2) (0, [], 0, 0) fun r3 =>
      bo (f_s_l1Byte_io r3.2.1 r3.2.2.1 r3.2.2.2) (0, [], 0, 0) fun r4 =>
      bo (f_s_l1Byte_io r4.2.1 r4.2.2.1 r4.2.2.2) (0, [], 0, 0) fun r5 =>
      br (n1 == 0)
        none
        (kR (((w64 ((w64 ((w64 ((w64 (r2.1 * 16777216)) + (w64 (r3.1 * 65536)))) + (w64 (r4.1 * 256)))) + r5.1)).tmod n1), r5.2.1, r5.2.2.1, r5.2.2.2))))
def f_s_l1Below_io (n1 : Int) (h0 : List Sc) (h1 : Int) (h2 : Int) : Option (Int × List Sc × Int × Int) := f_s_l1Below_io_k n1 h0 h1 h2 some

def f_s_l2Draw_io_k0 {R : Type} (most1 : Int) (o6 : List Sc) (v0 : List Sc) (v1 : Int) (v2 : Int) (v3 : List Sc) (n7 : Int) (i8 : Int) (kN : List Sc × Int × Int × List Sc × Int × Int → Option R) (kA : List Sc × Int × Int × List Sc × Int → Option R) : Option R :=
  br ((decide (i8 < (o6.length : Int))))
    (br (okAt o6 i8)
      (kN (v0, v1, v2, v3, (w64 (n7 * (atI o6 i8))), (w64 (i8 + 1))))
      none)
    (kA (v0, v1, v2, v3, n7))
def f_s_l2Draw_io_r0 (most1 : Int) (o6 : List Sc) : (List Sc × Int × Int × List Sc × Int × Int) → Option (Ro (List Sc × Int × Int × List Sc × Int × Int) (List Sc × Int × Int × List Sc × Int) (Unit)) := fun s => f_s_l2Draw_io_k0 most1 o6 s.1 s.2.1 s.2.2.1 s.2.2.2.1 s.2.2.2.2.1 s.2.2.2.2.2 (fun s => some (.again s)) (fun e => some (.one e))
def f_s_l2Draw_io_k {R : Type} (most1 : Int) (h0 : List Sc) (h1 : Int) (h2 : Int) (kR : List Sc × List Sc × Int × Int → Option R) : Option R :=
  bo (f_s_l1Below_io (([[], [(Sc.n .i64 2)], [(Sc.n .i64 3)], [(Sc.n .i64 4)], [(Sc.n .i64 5)], [(Sc.n .i64 6)], [(Sc.n .i64 7)], [(Sc.n .i64 8)], [(Sc.n .i64 9)], [(Sc.n .i64 10)], [(Sc.n .i64 11)], [(Sc.n .i64 12)], [(Sc.n .i64 2), (Sc.n .i64 2)], [(Sc.n .i64 2), (Sc.n .i64 4)], [(Sc.n .i64 3), (Sc.n .i64 3)], [(Sc.n .i64 2), (Sc.n .i64 6)], [(Sc.n .i64 2), (Sc.n .i64 2), (Sc.n .i64 2)], [(Sc.n .i64 13)], [(Sc.n .i64 16)], [(Sc.n .i64 4), (Sc.n .i64 4)], [(Sc.n .i64 2), (Sc.n .i64 2), (Sc.n .i64 3)], [(Sc.n .i64 2), (Sc.n .i64 3)], [(Sc.n .i64 24)]] : List (List Sc)).length : Int) h0 h1 h2) (0, [], 0, 0) fun r1 =>
  br (inRange r1.1 ([[], [(Sc.n .i64 2)], [(Sc.n .i64 3)], [(Sc.n .i64 4)], [(Sc.n .i64 5)], [(Sc.n .i64 6)], [(Sc.n .i64 7)], [(Sc.n .i64 8)], [(Sc.n .i64 9)], [(Sc.n .i64 10)], [(Sc.n .i64 11)], [(Sc.n .i64 12)], [(Sc.n .i64 2), (Sc.n .i64 2)], [(Sc.n .i64 2), (Sc.n .i64 4)], [(Sc.n .i64 3), (Sc.n .i64 3)], [(Sc.n .i64 2), (Sc.n .i64 6)], [(Sc.n .i64 2), (Sc.n .i64 2), (Sc.n .i64 2)], [(Sc.n .i64 13)], [(Sc.n .i64 16)], [(Sc.n .i64 4), (Sc.n .i64 4)], [(Sc.n .i64 2), (Sc.n .i64 2), (Sc.n .i64 3)], [(Sc.n .i64 2), (Sc.n .i64 3)], [(Sc.n .i64 24)]] : List (List Sc)).length)
    (bl1 (loopL (f_s_l2Draw_io_r0 most1 (([[], [(Sc.n .i64 2)], [(Sc.n .i64 3)], [(Sc.n .i64 4)], [(Sc.n .i64 5)], [(Sc.n .i64 6)], [(Sc.n .i64 7)], [(Sc.n .i64 8)], [(Sc.n .i64 9)], [(Sc.n .i64 10)], [(Sc.n .i64 11)], [(Sc.n .i64 12)], [(Sc.n .i64 2), (Sc.n .i64 2)], [(Sc.n .i64 2), (Sc.n .i64 4)], [(Sc.n .i64 3), (Sc.n .i64 3)], [(Sc.n .i64 2), (Sc.n .i64 6)], [(Sc.n .i64 2), (Sc.n .i64 2), (Sc.n .i64 2)], [(Sc.n .i64 13)], [(Sc.n .i64 16)], [(Sc.n .i64 4), (Sc.n .i64 4)], [(Sc.n .i64 2), (Sc.n .i64 2), (Sc.n .i64 3)], [(Sc.n .i64 2), (Sc.n .i64 3)], [(Sc.n .i64 24)]] : List (List Sc)).getD r1.1.toNat [])) (r1.2.1, r1.2.2.1, r1.2.2.2, [], 1, 0)) ([], 0, 0, [], 0) fun e2 =>
    br ((decide (e2.2.2.2.2 > most1)))
      (kR ([(Sc.n .i64 5)], e2.1, e2.2.1, e2.2.2.1))
      (br (decide (([] : List Sc).length + (([[], [(Sc.n .i64 2)], [(Sc.n .i64 3)], [(Sc.n .i64 4)], [(Sc.n .i64 5)], [(Sc.n .i64 6)], [(Sc.n .i64 7)], [(Sc.n .i64 8)], [(Sc.n .i64 9)], [(Sc.n .i64 10)], [(Sc.n .i64 11)], [(Sc.n .i64 12)], [(Sc.n .i64 2), (Sc.n .i64 2)], [(Sc.n .i64 2), (Sc.n .i64 4)], [(Sc.n .i64 3), (Sc.n .i64 3)], [(Sc.n .i64 2), (Sc.n .i64 6)], [(Sc.n .i64 2), (Sc.n .i64 2), (Sc.n .i64 2)], [(Sc.n .i64 13)], [(Sc.n .i64 16)], [(Sc.n .i64 4), (Sc.n .i64 4)], [(Sc.n .i64 2), (Sc.n .i64 2), (Sc.n .i64 3)], [(Sc.n .i64 2), (Sc.n .i64 3)], [(Sc.n .i64 24)]] : List (List Sc)).getD r1.1.toNat []).length ≤ lim))
        (kR (([] ++ (([[], [(Sc.n .i64 2)], [(Sc.n .i64 3)], [(Sc.n .i64 4)], [(Sc.n .i64 5)], [(Sc.n .i64 6)], [(Sc.n .i64 7)], [(Sc.n .i64 8)], [(Sc.n .i64 9)], [(Sc.n .i64 10)], [(Sc.n .i64 11)], [(Sc.n .i64 12)], [(Sc.n .i64 2), (Sc.n .i64 2)], [(Sc.n .i64 2), (Sc.n .i64 4)], [(Sc.n .i64 3), (Sc.n .i64 3)], [(Sc.n .i64 2), (Sc.n .i64 6)], [(Sc.n .i64 2), (Sc.n .i64 2), (Sc.n .i64 2)], [(Sc.n .i64 13)], [(Sc.n .i64 16)], [(Sc.n .i64 4), (Sc.n .i64 4)], [(Sc.n .i64 2), (Sc.n .i64 2), (Sc.n .i64 3)], [(Sc.n .i64 2), (Sc.n .i64 3)], [(Sc.n .i64 24)]] : List (List Sc)).getD r1.1.toNat [])), e2.1, e2.2.1, e2.2.2.1))
        none))
    none
def f_s_l2Draw_io (most1 : Int) (h0 : List Sc) (h1 : Int) (h2 : Int) : Option (List Sc × List Sc × Int × Int) := f_s_l2Draw_io_k most1 h0 h1 h2 some

def f_s_l1PickInt_io_k {R : Type} (list1 : List Sc) (h0 : List Sc) (h1 : Int) (h2 : Int) (kR : Int × List Sc × Int × Int → Option R) : Option R :=
  bo (f_s_l1Below_io (list1.length : Int) h0 h1 h2) (0, [], 0, 0) fun r1 =>
  br (okAt list1 r1.1)
    (kR ((atI list1 r1.1), r1.2.1, r1.2.2.1, r1.2.2.2))
    none
def f_s_l1PickInt_io (list1 : List Sc) (h0 : List Sc) (h1 : Int) (h2 : Int) : Option (Int × List Sc × Int × Int) := f_s_l1PickInt_io_k list1 h0 h1 h2 some

def f_s_l2Any_io_k {R : Type} (h0 : List Sc) (h1 : Int) (h2 : Int) (kR : List Sc × List Sc × Int × Int → Option R) : Option R :=
  bo (f_s_l2Draw_io 24 h0 h1 h2) ([], [], 0, 0) fun r1 =>
  bo (f_s_l1Below_io 16 r1.2.1 r1.2.2.1 r1.2.2.2) (0, [], 0, 0) fun r2 =>
  br ((r2.1 == 0))
    (bo (f_s_l1PickInt_io [(Sc.n .i64 0), (Sc.n .i64 1), (Sc.n .i64 (-1)), (Sc.n .i64 25), (Sc.n .i64 9223372036854775807)] r2.2.1 r2.2.2.1 r2.2.2.2) (0, [], 0, 0) fun r3 =>
    kR ([(Sc.n .i64 r3.1)], r3.2.1, r3.2.2.1, r3.2.2.2))
    (br ((r2.1 == 1))
      (kR ([(Sc.n .i64 2), (Sc.n .i64 2), (Sc.n .i64 2), (Sc.n .i64 2)], r2.2.1, r2.2.2.1, r2.2.2.2))
      (br ((r2.1 == 2))
        (kR ([(Sc.n .i64 5), (Sc.n .i64 5)], r2.2.1, r2.2.2.1, r2.2.2.2))
        (kR (r1.1, r2.2.1, r2.2.2.1, r2.2.2.2))))
def f_s_l2Any_io (h0 : List Sc) (h1 : Int) (h2 : Int) : Option (List Sc × List Sc × Int × Int) := f_s_l2Any_io_k h0 h1 h2 some

def f_s_l1In_k {R : Type} (x0 : Int) (low1 : Int) (high2 : Int) (kR : Bool → Option R) : Option R :=
  br ((decide (x0 ≥ low1)) == true)
    (kR (decide (x0 ≤ high2)))
    (kR false)
def f_s_l1In (x0 : Int) (low1 : Int) (high2 : Int) : Option (Bool) := f_s_l1In_k x0 low1 high2 some

def f_s_IsGroup_k0 {R : Type} (g1 : List Sc) (n3 : Int) (i4 : Int) (kN : Int × Int → Option R) (kA : Int → Option R) (kB : Unit → Option R) : Option R :=
  br ((decide (i4 < (g1.length : Int))))
    (br (okAt g1 i4)
      (bo (f_s_l1In (atI g1 i4) 2 24) false fun r1 =>
      br ((!r1) == false)
        (br ((decide (i4 > 2)))
          (kB ())
          (br (okAt g1 i4)
            (kN ((w64 (n3 * (atI g1 i4))), (w64 (i4 + 1))))
            none))
        (kB ()))
      none)
    (kA n3)
def f_s_IsGroup_r0 (g1 : List Sc) : (Int × Int) → Option (Ro (Int × Int) (Int) (Unit)) := fun s => f_s_IsGroup_k0 g1 s.1 s.2 (fun s => some (.again s)) (fun e => some (.one e)) (fun e => some (.two e))
def f_s_IsGroup_k {R : Type} (g0 : List Sc) (kR : Bool → Option R) : Option R :=
  bl (loopL (f_s_IsGroup_r0 g0) (1, 0)) 0 ()
    (fun e2 =>
      kR (decide (e2 ≤ 24)))
    (fun e2 =>
      kR false)
def f_s_IsGroup (g0 : List Sc) : Option (Bool) := f_s_IsGroup_k g0 some

def f_s_l2Order_k0 {R : Type} (g1 : List Sc) (n3 : Int) (i4 : Int) (kN : Int × Int → Option R) (kA : Int → Option R) : Option R :=
  br ((decide (i4 < (g1.length : Int))))
    (br (okAt g1 i4)
      (kN ((w64 (n3 * (atI g1 i4))), (w64 (i4 + 1))))
      none)
    (kA n3)
def f_s_l2Order_r0 (g1 : List Sc) : (Int × Int) → Option (Ro (Int × Int) (Int) (Unit)) := fun s => f_s_l2Order_k0 g1 s.1 s.2 (fun s => some (.again s)) (fun e => some (.one e))
def f_s_l2Order_k {R : Type} (g0 : List Sc) (kR : Int → Option R) : Option R :=
  bl1 (loopL (f_s_l2Order_r0 g0) (1, 0)) 0 fun e1 =>
  kR e1
def f_s_l2Order (g0 : List Sc) : Option (Int) := f_s_l2Order_k g0 some

def f_s_l3List_k0 {R : Type} (out3 : List Sc) (i4 : Int) (x5 : Int) (kN : List Sc × Int × Int → Option R) (kA : List Sc → Option R) : Option R :=
  br ((decide (x5 > 0)))
    (br (((and64 x5 1) == 1))
      (br (decide (out3.length + [(Sc.n .i64 i4)].length ≤ lim))
        (kN ((out3 ++ [(Sc.n .i64 i4)]), (w64 (i4 + 1)), (shr64 x5 1)))
        none)
      (kN (out3, (w64 (i4 + 1)), (shr64 x5 1))))
    (kA out3)
def f_s_l3List_r0 : (List Sc × Int × Int) → Option (Ro (List Sc × Int × Int) (List Sc) (Unit)) := fun s => f_s_l3List_k0 s.1 s.2.1 s.2.2 (fun s => some (.again s)) (fun e => some (.one e))
def f_s_l3List_k {R : Type} (a0 : Int) (kR : List Sc → Option R) : Option R :=
  bl1 (loopL (f_s_l3List_r0) ([], 0, a0)) [] fun e1 =>
  kR e1
def f_s_l3List (a0 : Int) : Option (List Sc) := f_s_l3List_k a0 some

def f_s_l2Add_k0 {R : Type} (g3 : List Sc) (x1 : Int) (y2 : Int) (z7 : Int) (step8 : Int) (i9 : Int) (kN : Int × Int × Int × Int × Int → Option R) (kA : Int → Option R) : Option R :=
  br ((decide (i9 < (g3.length : Int))))
    (br (okAt g3 i9)
      (br ((atI g3 i9) == 0)
        none
        (br ((atI g3 i9) == 0)
          none
          (br ((atI g3 i9) == 0)
            none
            (br ((atI g3 i9) == 0)
              none
              (br ((atI g3 i9) == 0)
                none
                (kN ((w64 (x1.tdiv (atI g3 i9))), (w64 (y2.tdiv (atI g3 i9))), (w64 (z7 + (w64 (((w64 ((x1.tmod (atI g3 i9)) + (y2.tmod (atI g3 i9)))).tmod (atI g3 i9)) * step8)))), (w64 (step8 * (atI g3 i9))), (w64 (i9 + 1)))))))))
      none)
    (kA z7)
def f_s_l2Add_r0 (g3 : List Sc) : (Int × Int × Int × Int × Int) → Option (Ro (Int × Int × Int × Int × Int) (Int) (Unit)) := fun s => f_s_l2Add_k0 g3 s.1 s.2.1 s.2.2.1 s.2.2.2.1 s.2.2.2.2 (fun s => some (.again s)) (fun e => some (.one e))
def f_s_l2Add_k {R : Type} (g0 : List Sc) (x1 : Int) (y2 : Int) (kR : Int → Option R) : Option R :=
  bl1 (loopL (f_s_l2Add_r0 g0) (x1, y2, 0, 1, 0)) 0 fun e1 =>
  kR e1
def f_s_l2Add (g0 : List Sc) (x1 : Int) (y2 : Int) : Option (Int) := f_s_l2Add_k g0 x1 y2 some

def f_s_l3Shift_k0 {R : Type} (x2 : Int) (g3 : List Sc) (out7 : Int) (l8 : List Sc) (i9 : Int) (kN : Int × List Sc × Int → Option R) (kA : Int → Option R) : Option R :=
  br ((decide (i9 < (l8.length : Int))))
    (br (inRange i9 (l8).length)
      (br (kAt l8 i9.toNat)
        (bo (f_s_l2Add g3 (atN l8 i9.toNat) x2) 0 fun r2 =>
        br (decide (r2 < 0))
          none
          (kN ((or64 out7 (shl64 1 r2)), l8, (w64 (i9 + 1)))))
        none)
      none)
    (kA out7)
def f_s_l3Shift_r0 (x2 : Int) (g3 : List Sc) : (Int × List Sc × Int) → Option (Ro (Int × List Sc × Int) (Int) (Unit)) := fun s => f_s_l3Shift_k0 x2 g3 s.1 s.2.1 s.2.2 (fun s => some (.again s)) (fun e => some (.one e))
def f_s_l3Shift_k {R : Type} (g0 : List Sc) (a1 : Int) (x2 : Int) (kR : Int → Option R) : Option R :=
  bo (f_s_l3List a1) [] fun r1 =>
  bl1 (loopL (f_s_l3Shift_r0 x2 g0) (0, r1, 0)) 0 fun e3 =>
  kR e3
def f_s_l3Shift (g0 : List Sc) (a1 : Int) (x2 : Int) : Option (Int) := f_s_l3Shift_k g0 a1 x2 some

def f_s_l4Sum_k0 {R : Type} (a1 : Int) (g3 : List Sc) (out7 : Int) (l8 : List Sc) (i9 : Int) (kN : Int × List Sc × Int → Option R) (kA : Int → Option R) : Option R :=
  br ((decide (i9 < (l8.length : Int))))
    (br (inRange i9 (l8).length)
      (br (kAt l8 i9.toNat)
        (bo (f_s_l3Shift g3 a1 (atN l8 i9.toNat)) 0 fun r2 =>
        kN ((or64 out7 r2), l8, (w64 (i9 + 1))))
        none)
      none)
    (kA out7)
def f_s_l4Sum_r0 (a1 : Int) (g3 : List Sc) : (Int × List Sc × Int) → Option (Ro (Int × List Sc × Int) (Int) (Unit)) := fun s => f_s_l4Sum_k0 a1 g3 s.1 s.2.1 s.2.2 (fun s => some (.again s)) (fun e => some (.one e))
def f_s_l4Sum_k {R : Type} (g0 : List Sc) (a1 : Int) (b2 : Int) (kR : Int → Option R) : Option R :=
  bo (f_s_l3List b2) [] fun r1 =>
  bl1 (loopL (f_s_l4Sum_r0 a1 g0) (0, r1, 0)) 0 fun e3 =>
  kR e3
def f_s_l4Sum (g0 : List Sc) (a1 : Int) (b2 : Int) : Option (Int) := f_s_l4Sum_k g0 a1 b2 some

def f_s_l5Closure_k0 {R : Type} (a1 : Int) (g2 : List Sc) (out5 : Int) (next6 : Int) (kN : Int × Int → Option R) (kA : Int → Option R) : Option R :=
  br ((next6 != out5))
    (bo (f_s_l4Sum g2 next6 a1) 0 fun r2 =>
    kN (next6, (or64 next6 r2)))
    (kA out5)
def f_s_l5Closure_r0 (a1 : Int) (g2 : List Sc) : (Int × Int) → Option (Ro (Int × Int) (Int) (Unit)) := fun s => f_s_l5Closure_k0 a1 g2 s.1 s.2 (fun s => some (.again s)) (fun e => some (.one e))
def f_s_l5Closure_k {R : Type} (g0 : List Sc) (a1 : Int) (kR : Int → Option R) : Option R :=
  bo (f_s_l4Sum g0 1 a1) 0 fun r1 =>
  bl1 (loopL (f_s_l5Closure_r0 a1 g0) (1, (or64 1 r1))) 0 fun e3 =>
  kR e3
def f_s_l5Closure (g0 : List Sc) (a1 : Int) : Option (Int) := f_s_l5Closure_k g0 a1 some

def f_s_l5Put_k0 {R : Type} (l0 : List Sc) (n1 : Int) (k5 : Int) (kN : Int → Option R) (kA : Int → Option R) : Option R :=
  br ((decide (k5 > 0)) == true)
    (br (okAt l0 (w64 (k5 - 1)))
      (br ((decide ((atI l0 (w64 (k5 - 1))) > n1)))
        (kN (w64 (k5 - 1)))
        (kA k5))
      none)
    (kA k5)
def f_s_l5Put_r0 (l0 : List Sc) (n1 : Int) : Int → Option (Ro (Int) (Int) (Unit)) := fun s => f_s_l5Put_k0 l0 n1 s (fun s => some (.again s)) (fun e => some (.one e))
def f_s_l5Put_k {R : Type} (l0 : List Sc) (n1 : Int) (kR : List Sc → Option R) : Option R :=
  bl1 (loopL (f_s_l5Put_r0 l0 n1) (l0.length : Int)) 0 fun e1 =>
  br ((decide (e1 > 0)) == true)
    (br (okAt l0 (w64 (e1 - 1)))
      (br (((atI l0 (w64 (e1 - 1))) == n1))
        (kR l0)
        (br (decide (0 ≤ (0 : Int)) && (decide ((0 : Int) ≤ e1) && decide (e1 ≤ (l0.length : Int))))
          (br (decide (([] : List Sc).length + (sliceA l0 0 e1).length ≤ lim))
            (br (decide (([] ++ (sliceA l0 0 e1)).length + [(Sc.n .i64 n1)].length ≤ lim))
              (br (decide (0 ≤ e1) && (decide (e1 ≤ (l0.length : Int)) && decide ((l0.length : Int) ≤ (l0.length : Int))))
                (br (decide ((([] ++ (sliceA l0 0 e1)) ++ [(Sc.n .i64 n1)]).length + (sliceA l0 e1 (l0.length : Int)).length ≤ lim))
                  (kR ((([] ++ (sliceA l0 0 e1)) ++ [(Sc.n .i64 n1)]) ++ (sliceA l0 e1 (l0.length : Int))))
                  none)
                none)
              none)
            none)
          none))
      none)
    (br (decide (0 ≤ (0 : Int)) && (decide ((0 : Int) ≤ e1) && decide (e1 ≤ (l0.length : Int))))
      (br (decide (([] : List Sc).length + (sliceA l0 0 e1).length ≤ lim))
        (br (decide (([] ++ (sliceA l0 0 e1)).length + [(Sc.n .i64 n1)].length ≤ lim))
          (br (decide (0 ≤ e1) && (decide (e1 ≤ (l0.length : Int)) && decide ((l0.length : Int) ≤ (l0.length : Int))))
            (br (decide ((([] ++ (sliceA l0 0 e1)) ++ [(Sc.n .i64 n1)]).length + (sliceA l0 e1 (l0.length : Int)).length ≤ lim))
              (kR ((([] ++ (sliceA l0 0 e1)) ++ [(Sc.n .i64 n1)]) ++ (sliceA l0 e1 (l0.length : Int))))
              none)
            none)
          none)
        none)
      none)
def f_s_l5Put (l0 : List Sc) (n1 : Int) : Option (List Sc) := f_s_l5Put_k l0 n1 some

def f_s_SubgroupsOf_k0 {R : Type} (t1 : List Sc) (t4 : List Sc) (t6 : Int) (t5 : List Sc) (t7 : Int) (kN : List Sc × Int → Option R) (kA : List Sc → Option R) : Option R :=
  br ((decide (t7 < t6)))
    (br (decide (t7 < 0))
      none
      (bo (f_s_l5Closure t1 (shl64 1 t7)) 0 fun r3 =>
      bo (f_s_l5Put t5 r3) [] fun r4 =>
      kN (r4, (w64 (t7 + 1)))))
    (kA t5)
def f_s_SubgroupsOf_r0 (t1 : List Sc) (t4 : List Sc) (t6 : Int) : (List Sc × Int) → Option (Ro (List Sc × Int) (List Sc) (Unit)) := fun s => f_s_SubgroupsOf_k0 t1 t4 t6 s.1 s.2 (fun s => some (.again s)) (fun e => some (.one e))
def f_s_SubgroupsOf_k4 {R : Type} (t1 : List Sc) (t5 : List Sc) (t8 : Int) (t4 : List Sc) (t9 : Int) (kN : List Sc × Int → Option R) (kA : List Sc → Option R) : Option R :=
  br ((decide (t9 ≤ t8)))
    (br (okAt t5 t8)
      (br (okAt t5 t9)
        (bo (f_s_l4Sum t1 (atI t5 t8) (atI t5 t9)) 0 fun r6 =>
        bo (f_s_l5Put t4 r6) [] fun r7 =>
        kN (r7, (w64 (t9 + 1))))
        none)
      none)
    (kA t4)
def f_s_SubgroupsOf_r4 (t1 : List Sc) (t5 : List Sc) (t8 : Int) : (List Sc × Int) → Option (Ro (List Sc × Int) (List Sc) (Unit)) := fun s => f_s_SubgroupsOf_k4 t1 t5 t8 s.1 s.2 (fun s => some (.again s)) (fun e => some (.one e))
def f_s_SubgroupsOf_k2 {R : Type} (t1 : List Sc) (t5 : List Sc) (t4 : List Sc) (t8 : Int) (kN : List Sc × Int → Option R) (kA : List Sc × Int → Option R) : Option R :=
  br ((decide (t8 < (t5.length : Int))))
    (bl1 (loopL (f_s_SubgroupsOf_r4 t1 t5 t8) (t4, 0)) [] fun e8 =>
    kN (e8, (w64 (t8 + 1))))
    (kA (t4, t8))
def f_s_SubgroupsOf_r2 (t1 : List Sc) (t5 : List Sc) : (List Sc × Int) → Option (Ro (List Sc × Int) (List Sc × Int) (Unit)) := fun s => f_s_SubgroupsOf_k2 t1 t5 s.1 s.2 (fun s => some (.again s)) (fun e => some (.one e))
def f_s_SubgroupsOf_k8 {R : Type} (t1 : List Sc) (t5 : List Sc) (t10 : List Sc) (t11 : Int) (t4 : List Sc) (t12 : Int) (kN : List Sc × Int → Option R) (kA : List Sc → Option R) : Option R :=
  br ((decide (t12 < (t5.length : Int))))
    (br (okAt t10 t11)
      (br (okAt t5 t12)
        (bo (f_s_l4Sum t1 (atI t10 t11) (atI t5 t12)) 0 fun r10 =>
        bo (f_s_l5Put t4 r10) [] fun r11 =>
        kN (r11, (w64 (t12 + 1))))
        none)
      none)
    (kA t4)
def f_s_SubgroupsOf_r8 (t1 : List Sc) (t5 : List Sc) (t10 : List Sc) (t11 : Int) : (List Sc × Int) → Option (Ro (List Sc × Int) (List Sc) (Unit)) := fun s => f_s_SubgroupsOf_k8 t1 t5 t10 t11 s.1 s.2 (fun s => some (.again s)) (fun e => some (.one e))
def f_s_SubgroupsOf_k6 {R : Type} (t1 : List Sc) (t5 : List Sc) (t10 : List Sc) (t4 : List Sc) (t11 : Int) (kN : List Sc × Int → Option R) (kA : List Sc × Int → Option R) : Option R :=
  br ((decide (t11 < (t10.length : Int))))
    (bl1 (loopL (f_s_SubgroupsOf_r8 t1 t5 t10 t11) (t4, 0)) [] fun e12 =>
    kN (e12, (w64 (t11 + 1))))
    (kA (t4, t11))
def f_s_SubgroupsOf_r6 (t1 : List Sc) (t5 : List Sc) (t10 : List Sc) : (List Sc × Int) → Option (Ro (List Sc × Int) (List Sc × Int) (Unit)) := fun s => f_s_SubgroupsOf_k6 t1 t5 t10 s.1 s.2 (fun s => some (.again s)) (fun e => some (.one e))
def f_s_SubgroupsOf_k {R : Type} (L0 : List Sc) (kR : List Sc × Bool → Option R) : Option R :=
  bo (f_s_IsGroup L0) false fun r1 =>
  br ((!r1))
    (kR ([], false))
    (bo (f_s_l2Order L0) 0 fun r2 =>
    bl1 (loopL (f_s_SubgroupsOf_r0 L0 [] r2) ([], 0)) [] fun e5 =>
    bl1 (loopL (f_s_SubgroupsOf_r2 L0 e5) ([], 0)) ([], 0) fun e9 =>
    bl1 (loopL (f_s_SubgroupsOf_r6 L0 e5 e9.1) (e9.1, 0)) ([], 0) fun e13 =>
    kR (e13.1, true))
def f_s_SubgroupsOf (L0 : List Sc) : Option (List Sc × Bool) := f_s_SubgroupsOf_k L0 some

def f_s_l1Once_io_k {R : Type} (n1 : Int) (h0 : List Sc) (h1 : Int) (h2 : Int) (kR : Bool × List Sc × Int × Int → Option R) : Option R :=
  bo (f_s_l1Below_io n1 h0 h1 h2) (0, [], 0, 0) fun r1 =>
  kR ((r1.1 == 0), r1.2.1, r1.2.2.1, r1.2.2.2)
def f_s_l1Once_io (n1 : Int) (h0 : List Sc) (h1 : Int) (h2 : Int) : Option (Bool × List Sc × Int × Int) := f_s_l1Once_io_k n1 h0 h1 h2 some

def f_s_OrderOf_k {R : Type} (g0 : List Sc) (kR : Int → Option R) : Option R :=
  bo (f_s_IsGroup g0) false fun r1 =>
  br ((!r1))
    (kR 0)
    (bo (f_s_l2Order g0) 0 fun r2 =>
    kR r2)
def f_s_OrderOf (g0 : List Sc) : Option (Int) := f_s_OrderOf_k g0 some

def f_s_l3Set_io_k0 {R : Type} (n5 : Int) (v0 : List Sc) (v1 : Int) (v2 : Int) (a6 : Int) (k7 : Int) (kN : List Sc × Int × Int × Int × Int → Option R) (kA : List Sc × Int × Int × Int → Option R) : Option R :=
  br ((decide (k7 > 0)))
    (bo (f_s_l1Below_io n5 v0 v1 v2) (0, [], 0, 0) fun r3 =>
    br (decide (r3.1 < 0))
      none
      (kN (r3.2.1, r3.2.2.1, r3.2.2.2, (or64 a6 (shl64 1 r3.1)), (w64 (k7 - 1)))))
    (kA (v0, v1, v2, a6))
def f_s_l3Set_io_r0 (n5 : Int) : (List Sc × Int × Int × Int × Int) → Option (Ro (List Sc × Int × Int × Int × Int) (List Sc × Int × Int × Int) (Unit)) := fun s => f_s_l3Set_io_k0 n5 s.1 s.2.1 s.2.2.1 s.2.2.2.1 s.2.2.2.2 (fun s => some (.again s)) (fun e => some (.one e))
def f_s_l3Set_io_k {R : Type} (g1 : List Sc) (h0 : List Sc) (h1 : Int) (h2 : Int) (kR : Int × List Sc × Int × Int → Option R) : Option R :=
  bo (f_s_OrderOf g1) 0 fun r1 =>
  bo (f_s_l1Below_io 6 h0 h1 h2) (0, [], 0, 0) fun r2 =>
  bl1 (loopL (f_s_l3Set_io_r0 (if r1 > 1 then r1 else 1)) (r2.2.1, r2.2.2.1, r2.2.2.2, 0, r2.1)) ([], 0, 0, 0) fun e4 =>
  bo (f_s_l1Below_io 20 e4.1 e4.2.1 e4.2.2.1) (0, [], 0, 0) fun r5 =>
  br ((r5.1 == 0))
    (br (decide ((if r1 > 1 then r1 else 1) < 0))
      none
      (kR ((w64 ((shl64 1 (if r1 > 1 then r1 else 1)) - 1)), r5.2.1, r5.2.2.1, r5.2.2.2)))
    (br ((r5.1 == 1))
      (bo (f_s_l1PickInt_io [(Sc.n .i64 (-1)), (Sc.n .i64 16777216), (Sc.n .i64 9223372036854775807)] r5.2.1 r5.2.2.1 r5.2.2.2) (0, [], 0, 0) fun r6 =>
      kR (r6.1, r6.2.1, r6.2.2.1, r6.2.2.2))
      (kR (e4.2.2.2, r5.2.1, r5.2.2.1, r5.2.2.2)))
def f_s_l3Set_io (g1 : List Sc) (h0 : List Sc) (h1 : Int) (h2 : Int) : Option (Int × List Sc × Int × Int) := f_s_l3Set_io_k g1 h0 h1 h2 some

def f_s_l5Group_io_g4_k {R : Type} (v0 : List Sc) (v1 : Int) (v2 : Int) (v3 : List Sc) (v4 : List Sc) (kA : List Sc × Int × Int × Int → Option R) : Option R :=
  bo (f_s_l3Set_io v4 v0 v1 v2) (0, [], 0, 0) fun r4 =>
  kA (r4.2.1, r4.2.2.1, r4.2.2.2, r4.1)
def f_s_l5Group_io_g4 (v0 : List Sc) (v1 : Int) (v2 : Int) (v3 : List Sc) (v4 : List Sc) : Option (List Sc × Int × Int × Int) := f_s_l5Group_io_g4_k v0 v1 v2 v3 v4 some
def f_s_l5Group_io_g5_k {R : Type} (v0 : List Sc) (v1 : Int) (v2 : Int) (v3 : List Sc) (v4 : List Sc) (t5 : List Sc) (kA : List Sc × Int × Int × Int → Option R) : Option R :=
  bo (f_s_l1Below_io (t5.length : Int) v0 v1 v2) (0, [], 0, 0) fun r10 =>
  br (okAt t5 r10.1)
    (kA (r10.2.1, r10.2.2.1, r10.2.2.2, (atI t5 r10.1)))
    none
def f_s_l5Group_io_g5 (v0 : List Sc) (v1 : Int) (v2 : Int) (v3 : List Sc) (v4 : List Sc) (t5 : List Sc) : Option (List Sc × Int × Int × Int) := f_s_l5Group_io_g5_k v0 v1 v2 v3 v4 t5 some
def f_s_l5Group_io_k {R : Type} (h0 : List Sc) (h1 : Int) (h2 : Int) (kR : List Sc × Int × List Sc × Int × Int → Option R) : Option R :=
  bo (f_s_l2Any_io h0 h1 h2) ([], [], 0, 0) fun r1 =>
  bo (f_s_SubgroupsOf r1.1) ([], false) fun r2 =>
  br ((!r2.2) == false)
    (bo (f_s_l1Once_io 5 r1.2.1 r1.2.2.1 r1.2.2.2) (false, [], 0, 0) fun r3 =>
    br (r3.1)
      (bo (f_s_l5Group_io_g4 r3.2.1 r3.2.2.1 r3.2.2.2 [] r1.1) ([], 0, 0, 0) fun g9 =>
      kR (r1.1, g9.2.2.2, g9.1, g9.2.1, g9.2.2.1))
      (bo (f_s_l5Group_io_g5 r3.2.1 r3.2.2.1 r3.2.2.2 [] r1.1 r2.1) ([], 0, 0, 0) fun g24 =>
      kR (r1.1, g24.2.2.2, g24.1, g24.2.1, g24.2.2.1)))
    (bo (f_s_l5Group_io_g4 r1.2.1 r1.2.2.1 r1.2.2.2 [] r1.1) ([], 0, 0, 0) fun g25 =>
    kR (r1.1, g25.2.2.2, g25.1, g25.2.1, g25.2.2.1))
def f_s_l5Group_io (h0 : List Sc) (h1 : Int) (h2 : Int) : Option (List Sc × Int × List Sc × Int × Int) := f_s_l5Group_io_k h0 h1 h2 some

def f_s_IsSet_k {R : Type} (g0 : List Sc) (a1 : Int) (kR : Bool → Option R) : Option R :=
  bo (f_s_IsGroup g0) false fun r1 =>
  br (r1 == true)
    (bo (f_s_l2Order g0) 0 fun r2 =>
    br (decide (r2 < 0))
      none
      (bo (f_s_l1In a1 0 (w64 ((shl64 1 r2) - 1))) false fun r3 =>
      kR r3))
    (kR false)
def f_s_IsSet (g0 : List Sc) (a1 : Int) : Option (Bool) := f_s_IsSet_k g0 a1 some

def f_s_IsSubgroup_k {R : Type} (g0 : List Sc) (a1 : Int) (kR : Bool → Option R) : Option R :=
  bo (f_s_IsSet g0 a1) false fun r1 =>
  br (r1 == true)
    (bo (f_s_l5Closure g0 a1) 0 fun r2 =>
    kR (r2 == a1))
    (kR false)
def f_s_IsSubgroup (g0 : List Sc) (a1 : Int) : Option (Bool) := f_s_IsSubgroup_k g0 a1 some

def f_s_CosetsOf_k0 {R : Type} (h1 : Int) (g2 : List Sc) (out6 : List Sc) (seen7 : Int) (x8 : Int) (kN : List Sc × Int × Int → Option R) (kA : List Sc → Option R) : Option R :=
  bo (f_s_l2Order g2) 0 fun r2 =>
  br ((decide (x8 < r2)))
    (br (decide (x8 < 0))
      none
      (br (((and64 (shr64 seen7 x8) 1) == 0))
        (bo (f_s_l3Shift g2 h1 x8) 0 fun r3 =>
        br (decide (out6.length + [(Sc.n .i64 r3)].length ≤ lim))
          (kN ((out6 ++ [(Sc.n .i64 r3)]), (or64 seen7 r3), (w64 (x8 + 1))))
          none)
        (kN (out6, seen7, (w64 (x8 + 1))))))
    (kA out6)
def f_s_CosetsOf_r0 (h1 : Int) (g2 : List Sc) : (List Sc × Int × Int) → Option (Ro (List Sc × Int × Int) (List Sc) (Unit)) := fun s => f_s_CosetsOf_k0 h1 g2 s.1 s.2.1 s.2.2 (fun s => some (.again s)) (fun e => some (.one e))
def f_s_CosetsOf_k {R : Type} (g0 : List Sc) (h1 : Int) (kR : List Sc × Bool → Option R) : Option R :=
  bo (f_s_IsSubgroup g0 h1) false fun r1 =>
  br ((!r1))
    (kR ([], false))
    (bl1 (loopL (f_s_CosetsOf_r0 h1 g0) ([], 0, 0)) [] fun e4 =>
    kR (e4, true))
def f_s_CosetsOf (g0 : List Sc) (h1 : Int) : Option (List Sc × Bool) := f_s_CosetsOf_k g0 h1 some

def f_s_l2Negate_k0 {R : Type} (g2 : List Sc) (x1 : Int) (z5 : Int) (step6 : Int) (i7 : Int) (kN : Int × Int × Int × Int → Option R) (kA : Int → Option R) : Option R :=
  br ((decide (i7 < (g2.length : Int))))
    (br (okAt g2 i7)
      (br ((atI g2 i7) == 0)
        none
        (br ((atI g2 i7) == 0)
          none
          (br ((atI g2 i7) == 0)
            none
            (kN ((w64 (x1.tdiv (atI g2 i7))), (w64 (z5 + (w64 (((w64 ((atI g2 i7) - (x1.tmod (atI g2 i7)))).tmod (atI g2 i7)) * step6)))), (w64 (step6 * (atI g2 i7))), (w64 (i7 + 1)))))))
      none)
    (kA z5)
def f_s_l2Negate_r0 (g2 : List Sc) : (Int × Int × Int × Int) → Option (Ro (Int × Int × Int × Int) (Int) (Unit)) := fun s => f_s_l2Negate_k0 g2 s.1 s.2.1 s.2.2.1 s.2.2.2 (fun s => some (.again s)) (fun e => some (.one e))
def f_s_l2Negate_k {R : Type} (g0 : List Sc) (x1 : Int) (kR : Int → Option R) : Option R :=
  bl1 (loopL (f_s_l2Negate_r0 g0) (x1, 0, 1, 0)) 0 fun e1 =>
  kR e1
def f_s_l2Negate (g0 : List Sc) (x1 : Int) : Option (Int) := f_s_l2Negate_k g0 x1 some

def f_s_l20Search_k0 {R : Type} (self : (List Sc × Int × Int × Int × Int × Int) → Option (List Sc)) (t1 : Int) (t2 : Int) (t3 : Int) (t4 : Int) (t5 : Int) (t6 : List Sc) (t13 : Int) (kN : Int → Option R) (kA : Int → Option R) : Option R :=
  br (decide (t13 < 0))
    none
    (br (((and64 (shr64 t3 t13) 1) == 1))
      (kN (w64 (t13 + 1)))
      (kA t13))
def f_s_l20Search_r0 (self : (List Sc × Int × Int × Int × Int × Int) → Option (List Sc)) (t1 : Int) (t2 : Int) (t3 : Int) (t4 : Int) (t5 : Int) (t6 : List Sc) : Int → Option (Ro (Int) (Int) (Unit)) := fun s => f_s_l20Search_k0 self t1 t2 t3 t4 t5 t6 s (fun s => some (.again s)) (fun e => some (.one e))
def f_s_l20Search_k2 {R : Type} (self : (List Sc × Int × Int × Int × Int × Int) → Option (List Sc)) (t1 : Int) (t2 : Int) (t3 : Int) (t4 : Int) (t5 : Int) (t6 : List Sc) (t13 : Int) (t14 : List Sc) (t15 : List Sc) (t16 : Int) (kN : List Sc × List Sc × Int → Option R) (kA : List Sc → Option R) : Option R :=
  br ((decide (t16 < (t15.length : Int))) == true)
    (br ((decide ((t14.length : Int) < t5)))
      (br (inRange t16 (t15).length)
        (br (kAt t15 t16.toNat)
          (bo (f_s_l2Negate t6 (atN t15 t16.toNat)) 0 fun r3 =>
          bo (f_s_l2Add t6 t13 r3) 0 fun r4 =>
          bo (f_s_l3Shift t6 t1 r4) 0 fun r5 =>
          br (((and64 r5 t3) == 0))
            (br (decide (r4 < 0))
              none
              (bo (self (t6, t1, t2, (or64 t3 r5), (or64 t4 (shl64 1 r4)), (w64 (t5 - (t14.length : Int))))) [] fun r6 =>
              br (decide (t14.length + r6.length ≤ lim))
                (kN ((t14 ++ r6), t15, (w64 (t16 + 1))))
                none))
            (kN (t14, t15, (w64 (t16 + 1)))))
          none)
        none)
      (kA t14))
    (kA t14)
def f_s_l20Search_r2 (self : (List Sc × Int × Int × Int × Int × Int) → Option (List Sc)) (t1 : Int) (t2 : Int) (t3 : Int) (t4 : Int) (t5 : Int) (t6 : List Sc) (t13 : Int) : (List Sc × List Sc × Int) → Option (Ro (List Sc × List Sc × Int) (List Sc) (Unit)) := fun s => f_s_l20Search_k2 self t1 t2 t3 t4 t5 t6 t13 s.1 s.2.1 s.2.2 (fun s => some (.again s)) (fun e => some (.one e))
def f_s_l20Search_k {R : Type} (self : (List Sc × Int × Int × Int × Int × Int) → Option (List Sc)) (L0 : List Sc) (p1 : Int) (p2 : Int) (p3 : Int) (p4 : Int) (p5 : Int) (kR : List Sc → Option R) : Option R :=
  br ((p3 == p2))
    (kR [(Sc.n .i64 p4)])
    (bl1 (loopL (f_s_l20Search_r0 self p1 p2 p3 p4 p5 L0) 0) 0 fun e1 =>
    bo (f_s_l3List p1) [] fun r2 =>
    bl1 (loopL (f_s_l20Search_r2 self p1 p2 p3 p4 p5 L0 e1) ([], r2, 0)) [] fun e7 =>
    kR e7)
def f_s_l20Search_n : Nat → (List Sc × Int × Int × Int × Int × Int) → Option (List Sc)
  | 0, _ => none
  | n + 1, a => f_s_l20Search_k (f_s_l20Search_n n) a.1 a.2.1 a.2.2.1 a.2.2.2.1 a.2.2.2.2.1 a.2.2.2.2.2 some
def f_s_l20Search (L0 : List Sc) (p1 : Int) (p2 : Int) (p3 : Int) (p4 : Int) (p5 : Int) : Option (List Sc) := limF f_s_l20Search_n (L0, p1, p2, p3, p4, p5)

def f_s_FindTile_k {R : Type} (g0 : List Sc) (a1 : Int) (kR : Int × Bool → Option R) : Option R :=
  bo (f_s_IsSet g0 a1) false fun r1 =>
  br ((!r1) == false)
    (br ((a1 == 0))
      (kR (0, false))
      (bo (f_s_l2Order g0) 0 fun r2 =>
      br (decide (r2 < 0))
        none
        (bo (f_s_l20Search g0 a1 (w64 ((shl64 1 r2) - 1)) a1 1 1) [] fun r3 =>
        br (((r3.length : Int) == 0))
          (kR (0, false))
          (br (inRange 0 (r3).length)
            (br (kAt r3 (0 : Int).toNat)
              (kR ((atN r3 (0 : Int).toNat), true))
              none)
            none))))
    (kR (0, false))
def f_s_FindTile (g0 : List Sc) (a1 : Int) : Option (Int × Bool) := f_s_FindTile_k g0 a1 some

def f_s_l20Pair_io_g15_k {R : Type} (v0 : List Sc) (v1 : Int) (v2 : Int) (v3 : List Sc) (v4 : List Sc) (t12 : Int) (kA : List Sc × Int × Int × Int → Option R) : Option R :=
  bo (f_s_l3Set_io v4 v0 v1 v2) (0, [], 0, 0) fun r10 =>
  kA (r10.2.1, r10.2.2.1, r10.2.2.2, r10.1)
def f_s_l20Pair_io_g15 (v0 : List Sc) (v1 : Int) (v2 : Int) (v3 : List Sc) (v4 : List Sc) (t12 : Int) : Option (List Sc × Int × Int × Int) := f_s_l20Pair_io_g15_k v0 v1 v2 v3 v4 t12 some
def f_s_l20Pair_io_k0 {R : Type} (t6 : Int) (v0 : List Sc) (v1 : Int) (v2 : Int) (v3 : List Sc) (v4 : List Sc) (t7 : List Sc) (t9 : Int) (t10 : Int) (kN : List Sc × Int × Int × List Sc × List Sc × List Sc × Int × Int → Option R) (kA : List Sc × Int × Int × List Sc × List Sc × Int → Option R) : Option R :=
  br ((decide (t10 < (t7.length : Int))))
    (br (inRange t10 (t7).length)
      (br (kAt t7 t10.toNat)
        (bo (f_s_l3List (atN t7 t10.toNat)) [] fun r5 =>
        bo (f_s_l1Below_io (r5.length : Int) v0 v1 v2) (0, [], 0, 0) fun r6 =>
        br (inRange r6.1 (r5).length)
          (br (kAt r5 r6.1.toNat)
            (br (decide ((atN r5 r6.1.toNat) < 0))
              none
              (kN (r6.2.1, r6.2.2.1, r6.2.2.2, v3, v4, t7, (or64 t9 (shl64 1 (atN r5 r6.1.toNat))), (w64 (t10 + 1)))))
            none)
          none)
        none)
      none)
    (kA (v0, v1, v2, v3, v4, t9))
def f_s_l20Pair_io_r0 (t6 : Int) : (List Sc × Int × Int × List Sc × List Sc × List Sc × Int × Int) → Option (Ro (List Sc × Int × Int × List Sc × List Sc × List Sc × Int × Int) (List Sc × Int × Int × List Sc × List Sc × Int) (Unit)) := fun s => f_s_l20Pair_io_k0 t6 s.1 s.2.1 s.2.2.1 s.2.2.2.1 s.2.2.2.2.1 s.2.2.2.2.2.1 s.2.2.2.2.2.2.1 s.2.2.2.2.2.2.2 (fun s => some (.again s)) (fun e => some (.one e))
def f_s_l20Pair_io_k {R : Type} (h0 : List Sc) (h1 : Int) (h2 : Int) (kR : List Sc × Int × Int × List Sc × Int × Int → Option R) : Option R :=
  bo (f_s_l5Group_io h0 h1 h2) ([], 0, [], 0, 0) fun r1 =>
  bo (f_s_IsSubgroup r1.1 r1.2.1) false fun r2 =>
  br (r2 == true)
    (bo (f_s_l1Once_io 2 r1.2.2.1 r1.2.2.2.1 r1.2.2.2.2) (false, [], 0, 0) fun r3 =>
    br (r3.1)
      (bo (f_s_CosetsOf r1.1 r1.2.1) ([], false) fun r4 =>
      bl1 (loopL (f_s_l20Pair_io_r0 r1.2.1) (r3.2.1, r3.2.2.1, r3.2.2.2, [], r1.1, r4.1, 0, 0)) ([], 0, 0, [], [], 0) fun e7 =>
      kR (e7.2.2.2.2.1, e7.2.2.2.2.2, r1.2.1, e7.1, e7.2.1, e7.2.2.1))
      (bo (f_s_l3Set_io r1.1 r3.2.1 r3.2.2.1 r3.2.2.2) (0, [], 0, 0) fun r8 =>
      bo (f_s_FindTile r1.1 r8.1) (0, false) fun r9 =>
      br (r9.2)
        (kR (r1.1, r8.1, r9.1, r8.2.1, r8.2.2.1, r8.2.2.2))
        (bo (f_s_l20Pair_io_g15 r8.2.1 r8.2.2.1 r8.2.2.2 [] r1.1 r8.1) ([], 0, 0, 0) fun g19 =>
        kR (r1.1, r8.1, g19.2.2.2, g19.1, g19.2.1, g19.2.2.1))))
    (bo (f_s_l3Set_io r1.1 r1.2.2.1 r1.2.2.2.1 r1.2.2.2.2) (0, [], 0, 0) fun r20 =>
    bo (f_s_FindTile r1.1 r20.1) (0, false) fun r21 =>
    br (r21.2)
      (kR (r1.1, r20.1, r21.1, r20.2.1, r20.2.2.1, r20.2.2.2))
      (bo (f_s_l20Pair_io_g15 r20.2.1 r20.2.2.1 r20.2.2.2 [] r1.1 r20.1) ([], 0, 0, 0) fun g22 =>
      kR (r1.1, r20.1, g22.2.2.2, g22.1, g22.2.1, g22.2.2.1)))
def f_s_l20Pair_io (h0 : List Sc) (h1 : Int) (h2 : Int) : Option (List Sc × Int × Int × List Sc × Int × Int) := f_s_l20Pair_io_k h0 h1 h2 some

def f_s_l20Both_k {R : Type} (code0 : List Sc) (kR : List Sc × Int × Int → Option R) : Option R :=
  bo (f_s_l1New code0) ([], 0, 0) fun r1 =>
  bo (f_s_l20Pair_io r1.1 r1.2.1 r1.2.2) ([], 0, 0, [], 0, 0) fun r2 =>
  kR (r2.1, r2.2.1, r2.2.2.1)
def f_s_l20Both (code0 : List Sc) : Option (List Sc × Int × Int) := f_s_l20Both_k code0 some

def f_s_DrawTilesOf_k {R : Type} (code0 : List Sc) (kR : List Sc × Int → Option R) : Option R :=
  bo (f_s_l20Both code0) ([], 0, 0) fun r1 =>
  kR (r1.1, r1.2.1)
def f_s_DrawTilesOf (code0 : List Sc) : Option (List Sc × Int) := f_s_DrawTilesOf_k code0 some

def f_i_within_k {R : Type} (x0 : Int) (lo1 : Int) (hi2 : Int) (kR : Bool → Option R) : Option R :=
  br ((decide (x0 ≥ lo1)) == true)
    (kR (decide (x0 ≤ hi2)))
    (kR false)
def f_i_within (x0 : Int) (lo1 : Int) (hi2 : Int) : Option (Bool) := f_i_within_k x0 lo1 hi2 some

def f_i_IsGroup_k0 {R : Type} (t11 : List Sc) (t12 : Int) (n3 : Int) (t13 : Int) (kN : Int × Int → Option R) (kA : Int → Option R) (kB : Unit → Option R) : Option R :=
  br ((decide (t13 < t12)))
    (br (okAt t11 t13)
      (bo (f_i_within (atI t11 t13) 2 24) false fun r1 =>
      br ((!r1))
        (kB ())
        (kN ((w64 (n3 * (atI t11 t13))), (w64 (t13 + 1)))))
      none)
    (kA n3)
def f_i_IsGroup_r0 (t11 : List Sc) (t12 : Int) : (Int × Int) → Option (Ro (Int × Int) (Int) (Unit)) := fun s => f_i_IsGroup_k0 t11 t12 s.1 s.2 (fun s => some (.again s)) (fun e => some (.one e)) (fun e => some (.two e))
def f_i_IsGroup_k {R : Type} (g0 : List Sc) (kR : Bool → Option R) : Option R :=
  br ((decide ((g0.length : Int) > 3)))
    (kR false)
    (bl (loopL (f_i_IsGroup_r0 g0 (g0.length : Int)) (1, 0)) 0 ()
      (fun e2 =>
        kR (decide (e2 ≤ 24)))
      (fun e2 =>
        kR false))
def f_i_IsGroup (g0 : List Sc) : Option (Bool) := f_i_IsGroup_k g0 some

def f_i_OrderOf_k0 {R : Type} (t10 : List Sc) (t11 : Int) (n3 : Int) (t12 : Int) (kN : Int × Int → Option R) (kA : Int → Option R) : Option R :=
  br ((decide (t12 < t11)))
    (br (okAt t10 t12)
      (kN ((w64 (n3 * (atI t10 t12))), (w64 (t12 + 1))))
      none)
    (kA n3)
def f_i_OrderOf_r0 (t10 : List Sc) (t11 : Int) : (Int × Int) → Option (Ro (Int × Int) (Int) (Unit)) := fun s => f_i_OrderOf_k0 t10 t11 s.1 s.2 (fun s => some (.again s)) (fun e => some (.one e))
def f_i_OrderOf_k {R : Type} (g0 : List Sc) (kR : Int → Option R) : Option R :=
  bo (f_i_IsGroup g0) false fun r1 =>
  br ((!r1))
    (kR 0)
    (bl1 (loopL (f_i_OrderOf_r0 g0 (g0.length : Int)) (1, 0)) 0 fun e2 =>
    kR e2)
def f_i_OrderOf (g0 : List Sc) : Option (Int) := f_i_OrderOf_k g0 some

def f_i_IsSet_k {R : Type} (g0 : List Sc) (a1 : Int) (kR : Bool → Option R) : Option R :=
  bo (f_i_IsGroup g0) false fun r1 =>
  br (r1 == true)
    (br ((decide (a1 ≥ 0)) == true)
      (bo (f_i_OrderOf g0) 0 fun r2 =>
      br (decide (r2 < 0))
        none
        (kR (decide (a1 < (shl64 1 r2)))))
      (kR false))
    (kR false)
def f_i_IsSet (g0 : List Sc) (a1 : Int) : Option (Bool) := f_i_IsSet_k g0 a1 some

def f_i_FullSet_k {R : Type} (g0 : List Sc) (kR : Int → Option R) : Option R :=
  bo (f_i_IsGroup g0) false fun r1 =>
  br ((!r1))
    (kR 0)
    (bo (f_i_OrderOf g0) 0 fun r2 =>
    br (decide (r2 < 0))
      none
      (kR (w64 ((shl64 1 r2) - 1))))
def f_i_FullSet (g0 : List Sc) : Option (Int) := f_i_FullSet_k g0 some

def f_i_in_k {R : Type} (a0 : Int) (x1 : Int) (kR : Bool → Option R) : Option R :=
  br (decide (x1 < 0))
    none
    (kR ((and64 (shr64 a0 x1) 1) == 1))
def f_i_in (a0 : Int) (x1 : Int) : Option (Bool) := f_i_in_k a0 x1 some

def f_i_members_k0 {R : Type} (a0 : Int) (out3 : List Sc) (x4 : Int) (kN : List Sc × Int → Option R) (kA : List Sc → Option R) : Option R :=
  br (decide (x4 < 0))
    none
    (br (((shr64 a0 x4) != 0))
      (br (decide (x4 < 0))
        none
        (br (((and64 (shr64 a0 x4) 1) == 1))
          (br (decide (out3.length + [(Sc.n .i64 x4)].length ≤ lim))
            (kN ((out3 ++ [(Sc.n .i64 x4)]), (w64 (x4 + 1))))
            none)
          (kN (out3, (w64 (x4 + 1))))))
      (kA out3))
def f_i_members_r0 (a0 : Int) : (List Sc × Int) → Option (Ro (List Sc × Int) (List Sc) (Unit)) := fun s => f_i_members_k0 a0 s.1 s.2 (fun s => some (.again s)) (fun e => some (.one e))
def f_i_members_k {R : Type} (a0 : Int) (kR : List Sc → Option R) : Option R :=
  bl1 (loopL (f_i_members_r0 a0) ([], 0)) [] fun e1 =>
  kR e1
def f_i_members (a0 : Int) : Option (List Sc) := f_i_members_k a0 some

def f_i_Group_negate_k0 {R : Type} (t10 : List Sc) (t11 : Int) (x1 : Int) (sum5 : Int) (unit6 : Int) (t12 : Int) (kN : Int × Int × Int × Int → Option R) (kA : Int → Option R) : Option R :=
  br ((decide (t12 < t11)))
    (br (okAt t10 t12)
      (br ((atI t10 t12) == 0)
        none
        (br ((atI t10 t12) == 0)
          none
          (br ((atI t10 t12) == 0)
            none
            (kN ((w64 (x1.tdiv (atI t10 t12))), (w64 (sum5 + (w64 (((w64 ((atI t10 t12) - (x1.tmod (atI t10 t12)))).tmod (atI t10 t12)) * unit6)))), (w64 (unit6 * (atI t10 t12))), (w64 (t12 + 1)))))))
      none)
    (kA sum5)
def f_i_Group_negate_r0 (t10 : List Sc) (t11 : Int) : (Int × Int × Int × Int) → Option (Ro (Int × Int × Int × Int) (Int) (Unit)) := fun s => f_i_Group_negate_k0 t10 t11 s.1 s.2.1 s.2.2.1 s.2.2.2 (fun s => some (.again s)) (fun e => some (.one e))
def f_i_Group_negate_k {R : Type} (g0 : List Sc) (x1 : Int) (kR : Int → Option R) : Option R :=
  bl1 (loopL (f_i_Group_negate_r0 g0 (g0.length : Int)) (x1, 0, 1, 0)) 0 fun e1 =>
  kR e1
def f_i_Group_negate (g0 : List Sc) (x1 : Int) : Option (Int) := f_i_Group_negate_k g0 x1 some

def f_i_Group_add_k0 {R : Type} (t12 : List Sc) (t13 : Int) (x1 : Int) (y2 : Int) (sum7 : Int) (unit8 : Int) (t14 : Int) (kN : Int × Int × Int × Int × Int → Option R) (kA : Int → Option R) : Option R :=
  br ((decide (t14 < t13)))
    (br (okAt t12 t14)
      (br ((atI t12 t14) == 0)
        none
        (br ((atI t12 t14) == 0)
          none
          (br ((atI t12 t14) == 0)
            none
            (br ((atI t12 t14) == 0)
              none
              (br ((atI t12 t14) == 0)
                none
                (kN ((w64 (x1.tdiv (atI t12 t14))), (w64 (y2.tdiv (atI t12 t14))), (w64 (sum7 + (w64 (((w64 ((x1.tmod (atI t12 t14)) + (y2.tmod (atI t12 t14)))).tmod (atI t12 t14)) * unit8)))), (w64 (unit8 * (atI t12 t14))), (w64 (t14 + 1)))))))))
      none)
    (kA sum7)
def f_i_Group_add_r0 (t12 : List Sc) (t13 : Int) : (Int × Int × Int × Int × Int) → Option (Ro (Int × Int × Int × Int × Int) (Int) (Unit)) := fun s => f_i_Group_add_k0 t12 t13 s.1 s.2.1 s.2.2.1 s.2.2.2.1 s.2.2.2.2 (fun s => some (.again s)) (fun e => some (.one e))
def f_i_Group_add_k {R : Type} (g0 : List Sc) (x1 : Int) (y2 : Int) (kR : Int → Option R) : Option R :=
  bl1 (loopL (f_i_Group_add_r0 g0 (g0.length : Int)) (x1, y2, 0, 1, 0)) 0 fun e1 =>
  kR e1
def f_i_Group_add (g0 : List Sc) (x1 : Int) (y2 : Int) : Option (Int) := f_i_Group_add_k g0 x1 y2 some

def f_i_Group_minus_k {R : Type} (g0 : List Sc) (x1 : Int) (y2 : Int) (kR : Int → Option R) : Option R :=
  bo (f_i_Group_negate g0 y2) 0 fun r1 =>
  bo (f_i_Group_add g0 x1 r1) 0 fun r2 =>
  kR r2
def f_i_Group_minus (g0 : List Sc) (x1 : Int) (y2 : Int) : Option (Int) := f_i_Group_minus_k g0 x1 y2 some

def f_i_Group_shift_k0 {R : Type} (a1 : Int) (x2 : Int) (g3 : List Sc) (out7 : Int) (y8 : Int) (kN : Int × Int → Option R) (kA : Int → Option R) : Option R :=
  br (decide (y8 < 0))
    none
    (br (((shr64 a1 y8) != 0))
      (br (decide (y8 < 0))
        none
        (br (((and64 (shr64 a1 y8) 1) == 1))
          (bo (f_i_Group_add g3 x2 y8) 0 fun r1 =>
          br (decide (r1 < 0))
            none
            (kN ((or64 out7 (shl64 1 r1)), (w64 (y8 + 1)))))
          (kN (out7, (w64 (y8 + 1))))))
      (kA out7))
def f_i_Group_shift_r0 (a1 : Int) (x2 : Int) (g3 : List Sc) : (Int × Int) → Option (Ro (Int × Int) (Int) (Unit)) := fun s => f_i_Group_shift_k0 a1 x2 g3 s.1 s.2 (fun s => some (.again s)) (fun e => some (.one e))
def f_i_Group_shift_k {R : Type} (g0 : List Sc) (a1 : Int) (x2 : Int) (kR : Int → Option R) : Option R :=
  bl1 (loopL (f_i_Group_shift_r0 a1 x2 g0) (0, 0)) 0 fun e2 =>
  kR e2
def f_i_Group_shift (g0 : List Sc) (a1 : Int) (x2 : Int) : Option (Int) := f_i_Group_shift_k g0 a1 x2 some

def f_i_tiles_1_k0 {R : Type} (self : (Int × Int × List Sc × Int × Int × List Sc × List Sc × Int × Int) → Option (List Sc × List Sc × Int × Int)) (shifts0 : Int) (reached1 : Int) (t2 : List Sc) (t4 : Int) (t5 : Int) (v0 : List Sc) (v1_0 : List Sc) (v1_1 : Int) (v1_2 : Int) (e9 : Int) (kN : List Sc × List Sc × Int × Int × Int → Option R) (kA : List Sc × List Sc × Int × Int × Int → Option R) : Option R :=
  bo (f_i_in reached1 e9) false fun r2 =>
  br (r2)
    (kN (v0, v1_0, v1_1, v1_2, (w64 (e9 + 1))))
    (kA (v0, v1_0, v1_1, v1_2, e9))
def f_i_tiles_1_r0 (self : (Int × Int × List Sc × Int × Int × List Sc × List Sc × Int × Int) → Option (List Sc × List Sc × Int × Int)) (shifts0 : Int) (reached1 : Int) (t2 : List Sc) (t4 : Int) (t5 : Int) : (List Sc × List Sc × Int × Int × Int) → Option (Ro (List Sc × List Sc × Int × Int × Int) (List Sc × List Sc × Int × Int × Int) (Unit)) := fun s => f_i_tiles_1_k0 self shifts0 reached1 t2 t4 t5 s.1 s.2.1 s.2.2.1 s.2.2.2.1 s.2.2.2.2 (fun s => some (.again s)) (fun e => some (.one e))
def f_i_tiles_1_k2 {R : Type} (self : (Int × Int × List Sc × Int × Int × List Sc × List Sc × Int × Int) → Option (List Sc × List Sc × Int × Int)) (shifts0 : Int) (reached1 : Int) (t2 : List Sc) (t4 : Int) (t5 : Int) (e9 : Int) (t29 : Int) (v0 : List Sc) (v1_0 : List Sc) (v1_1 : Int) (v1_2 : Int) (t28 : List Sc) (t30 : Int) (kN : List Sc × List Sc × Int × Int × List Sc × Int → Option R) (kA : List Sc × List Sc × Int × Int → Option R) : Option R :=
  br ((decide (t30 < t29)))
    (br (inRange t30 (t28).length)
      (br (kAt t28 t30.toNat)
        (bo (f_i_Group_minus t2 e9 (atN t28 t30.toNat)) 0 fun r5 =>
        bo (f_i_Group_shift t2 t4 r5) 0 fun r6 =>
        br (((and64 r6 reached1) == 0) == true)
          (br ((decide ((v0.length : Int) < t5)))
            (br (decide (r5 < 0))
              none
              (bo (self ((or64 shifts0 (shl64 1 r5)), (or64 reached1 r6), v1_0, v1_1, v1_2, v0, v1_0, v1_1, v1_2)) ([], [], 0, 0) fun r7 =>
              kN (r7.1, r7.2.1, r7.2.2.1, r7.2.2.2, t28, (w64 (t30 + 1)))))
            (kN (v0, v1_0, v1_1, v1_2, t28, (w64 (t30 + 1)))))
          (kN (v0, v1_0, v1_1, v1_2, t28, (w64 (t30 + 1)))))
        none)
      none)
    (kA (v0, v1_0, v1_1, v1_2))
def f_i_tiles_1_r2 (self : (Int × Int × List Sc × Int × Int × List Sc × List Sc × Int × Int) → Option (List Sc × List Sc × Int × Int)) (shifts0 : Int) (reached1 : Int) (t2 : List Sc) (t4 : Int) (t5 : Int) (e9 : Int) (t29 : Int) : (List Sc × List Sc × Int × Int × List Sc × Int) → Option (Ro (List Sc × List Sc × Int × Int × List Sc × Int) (List Sc × List Sc × Int × Int) (Unit)) := fun s => f_i_tiles_1_k2 self shifts0 reached1 t2 t4 t5 e9 t29 s.1 s.2.1 s.2.2.1 s.2.2.2.1 s.2.2.2.2.1 s.2.2.2.2.2 (fun s => some (.again s)) (fun e => some (.one e))
def f_i_tiles_1_k {R : Type} (self : (Int × Int × List Sc × Int × Int × List Sc × List Sc × Int × Int) → Option (List Sc × List Sc × Int × Int)) (shifts0 : Int) (reached1 : Int) (p2 : List Sc) (p4 : Int) (p5 : Int) (h0 : List Sc) (h1_0 : List Sc) (h1_1 : Int) (h1_2 : Int) (kR : List Sc × List Sc × Int × Int → Option R) : Option R :=
  bo (f_i_FullSet p2) 0 fun r1 =>
  br ((reached1 == r1))
    (br (decide (h0.length + [(Sc.n .i64 shifts0)].length ≤ lim))
      (kR ((h0 ++ [(Sc.n .i64 shifts0)]), h1_0, h1_1, h1_2))
      none)
    (bl1 (loopL (f_i_tiles_1_r0 self shifts0 reached1 p2 p4 p5) (h0, h1_0, h1_1, h1_2, 0)) ([], [], 0, 0, 0) fun e3 =>
    bo (f_i_members p4) [] fun r4 =>
    bl1 (loopL (f_i_tiles_1_r2 self shifts0 reached1 p2 p4 p5 e3.2.2.2.2 (r4.length : Int)) (e3.1, e3.2.1, e3.2.2.1, e3.2.2.2.1, r4, 0)) ([], [], 0, 0) fun e8 =>
    kR (e8.1, e8.2.1, e8.2.2.1, e8.2.2.2))
def f_i_tiles_1_n : Nat → (Int × Int × List Sc × Int × Int × List Sc × List Sc × Int × Int) → Option (List Sc × List Sc × Int × Int)
  | 0, _ => none
  | n + 1, a => f_i_tiles_1_k (f_i_tiles_1_n n) a.1 a.2.1 a.2.2.1 a.2.2.2.1 a.2.2.2.2.1 a.2.2.2.2.2.1 a.2.2.2.2.2.2.1 a.2.2.2.2.2.2.2.1 a.2.2.2.2.2.2.2.2 some
def f_i_tiles_1 (shifts0 : Int) (reached1 : Int) (p2 : List Sc) (p4 : Int) (p5 : Int) (h0 : List Sc) (h1_0 : List Sc) (h1_1 : Int) (h1_2 : Int) : Option (List Sc × List Sc × Int × Int) := limF f_i_tiles_1_n (shifts0, reached1, p2, p4, p5, h0, h1_0, h1_1, h1_2)

def f_i_tiles_k {R : Type} (g0 : List Sc) (a1 : Int) (most2 : Int) (kR : List Sc → Option R) : Option R :=
  bo (f_i_tiles_1 1 a1 g0 a1 most2 [] g0 a1 most2) ([], [], 0, 0) fun r1 =>
  kR r1.1
def f_i_tiles (g0 : List Sc) (a1 : Int) (most2 : Int) : Option (List Sc) := f_i_tiles_k g0 a1 most2 some

def f_slices_Sort (h0 : List Sc) : Option (List Sc) := sortSc h0

def f_i_TilesOf_k {R : Type} (g0 : List Sc) (a1 : Int) (kR : List Sc × Bool → Option R) : Option R :=
  bo (f_i_IsSet g0 a1) false fun r1 =>
  br ((!r1) == false)
    (br ((a1 == 0))
      (kR ([], false))
      (bo (f_i_tiles g0 a1 200) [] fun r2 =>
      bo (f_slices_Sort r2) [] fun r3 =>
      kR (r3, true)))
    (kR ([], false))
def f_i_TilesOf (g0 : List Sc) (a1 : Int) : Option (List Sc × Bool) := f_i_TilesOf_k g0 a1 some

def f_s_TilesOf_k0 {R : Type} (out6 : List Sc) (l7 : List Sc) (i8 : Int) (kN : List Sc × List Sc × Int → Option R) (kA : List Sc → Option R) : Option R :=
  br ((decide (i8 < (l7.length : Int))))
    (br (inRange i8 (l7).length)
      (br (kAt l7 i8.toNat)
        (bo (f_s_l5Put out6 (atN l7 i8.toNat)) [] fun r4 =>
        kN (r4, l7, (w64 (i8 + 1))))
        none)
      none)
    (kA out6)
def f_s_TilesOf_r0 : (List Sc × List Sc × Int) → Option (Ro (List Sc × List Sc × Int) (List Sc) (Unit)) := fun s => f_s_TilesOf_k0 s.1 s.2.1 s.2.2 (fun s => some (.again s)) (fun e => some (.one e))
def f_s_TilesOf_k {R : Type} (g0 : List Sc) (a1 : Int) (kR : List Sc × Bool → Option R) : Option R :=
  bo (f_s_IsSet g0 a1) false fun r1 =>
  br ((!r1) == false)
    (br ((a1 == 0))
      (kR ([], false))
      (bo (f_s_l2Order g0) 0 fun r2 =>
      br (decide (r2 < 0))
        none
        (bo (f_s_l20Search g0 a1 (w64 ((shl64 1 r2) - 1)) a1 1 200) [] fun r3 =>
        bl1 (loopL (f_s_TilesOf_r0) ([], r3, 0)) [] fun e5 =>
        kR (e5, true))))
    (kR ([], false))
def f_s_TilesOf (g0 : List Sc) (a1 : Int) : Option (List Sc × Bool) := f_s_TilesOf_k g0 a1 some

def f_i_FindTile_k {R : Type} (g0 : List Sc) (a1 : Int) (kR : Int × Bool → Option R) : Option R :=
  bo (f_i_IsSet g0 a1) false fun r1 =>
  br ((!r1) == false)
    (br ((a1 == 0))
      (kR (0, false))
      (bo (f_i_tiles g0 a1 1) [] fun r2 =>
      br (((r2.length : Int) == 0))
        (kR (0, false))
        (br (inRange 0 (r2).length)
          (br (kAt r2 (0 : Int).toNat)
            (kR ((atN r2 (0 : Int).toNat), true))
            none)
          none)))
    (kR (0, false))
def f_i_FindTile (g0 : List Sc) (a1 : Int) : Option (Int × Bool) := f_i_FindTile_k g0 a1 some

def f_l_sameInts_k0 {R : Type} (a0 : List Sc) (b1 : List Sc) (i5 : Int) (kN : Int → Option R) (kA : Unit → Option R) (kB : Unit → Option R) : Option R :=
  br ((decide (i5 < (a0.length : Int))))
    (br (okAt a0 i5)
      (br (okAt b1 i5)
        (br (((atI a0 i5) != (atI b1 i5)))
          (kB ())
          (kN (w64 (i5 + 1))))
        none)
      none)
    (kA ())
def f_l_sameInts_r0 (a0 : List Sc) (b1 : List Sc) : Int → Option (Ro (Int) (Unit) (Unit)) := fun s => f_l_sameInts_k0 a0 b1 s (fun s => some (.again s)) (fun e => some (.one e)) (fun e => some (.two e))
def f_l_sameInts_k {R : Type} (a0 : List Sc) (b1 : List Sc) (kR : Bool → Option R) : Option R :=
  br (((a0.length : Int) != (b1.length : Int)))
    (kR false)
    (bl (loopL (f_l_sameInts_r0 a0 b1) 0) () ()
      (fun e1 =>
        kR true)
      (fun e1 =>
        kR false))
def f_l_sameInts (a0 : List Sc) (b1 : List Sc) : Option (Bool) := f_l_sameInts_k a0 b1 some

def f_i_SplitsOf_k {R : Type} (g0 : List Sc) (a1 : Int) (kR : Int → Option R) : Option R :=
  bo (f_i_TilesOf g0 a1) ([], false) fun r1 =>
  br ((!r1.2))
    (kR (-1))
    (kR (r1.1.length : Int))
def f_i_SplitsOf (g0 : List Sc) (a1 : Int) : Option (Int) := f_i_SplitsOf_k g0 a1 some

def f_s_SplitsOf_k {R : Type} (g0 : List Sc) (a1 : Int) (kR : Int → Option R) : Option R :=
  bo (f_s_TilesOf g0 a1) ([], false) fun r1 =>
  br ((!r1.2))
    (kR (-1))
    (kR (r1.1.length : Int))
def f_s_SplitsOf (g0 : List Sc) (a1 : Int) : Option (Int) := f_s_SplitsOf_k g0 a1 some

def f_i_areSets_k0 {R : Type} (g2 : List Sc) (t7 : List Sc) (t8 : Int) (t9 : Int) (kN : Int → Option R) (kA : Unit → Option R) (kB : Unit → Option R) : Option R :=
  br ((decide (t9 < t8)))
    (br (okAt t7 t9)
      (bo (f_i_IsSet g2 (atI t7 t9)) false fun r1 =>
      br ((!r1))
        (kB ())
        (kN (w64 (t9 + 1))))
      none)
    (kA ())
def f_i_areSets_r0 (g2 : List Sc) (t7 : List Sc) (t8 : Int) : Int → Option (Ro (Int) (Unit) (Unit)) := fun s => f_i_areSets_k0 g2 t7 t8 s (fun s => some (.again s)) (fun e => some (.one e)) (fun e => some (.two e))
def f_i_areSets_k {R : Type} (g0 : List Sc) (l1 : List Sc) (kR : Bool → Option R) : Option R :=
  bl (loopL (f_i_areSets_r0 g0 l1 (l1.length : Int)) 0) () ()
    (fun e2 =>
      bo (f_i_IsGroup g0) false fun r3 =>
      kR r3)
    (fun e2 =>
      kR false)
def f_i_areSets (g0 : List Sc) (l1 : List Sc) : Option (Bool) := f_i_areSets_k g0 l1 some

def f_i_Group_sum_k0 {R : Type} (b2 : Int) (g3 : List Sc) (t12 : Int) (out7 : Int) (t11 : List Sc) (t13 : Int) (kN : Int × List Sc × Int → Option R) (kA : Int → Option R) : Option R :=
  br ((decide (t13 < t12)))
    (br (inRange t13 (t11).length)
      (br (kAt t11 t13.toNat)
        (bo (f_i_Group_shift g3 b2 (atN t11 t13.toNat)) 0 fun r2 =>
        kN ((or64 out7 r2), t11, (w64 (t13 + 1))))
        none)
      none)
    (kA out7)
def f_i_Group_sum_r0 (b2 : Int) (g3 : List Sc) (t12 : Int) : (Int × List Sc × Int) → Option (Ro (Int × List Sc × Int) (Int) (Unit)) := fun s => f_i_Group_sum_k0 b2 g3 t12 s.1 s.2.1 s.2.2 (fun s => some (.again s)) (fun e => some (.one e))
def f_i_Group_sum_k {R : Type} (g0 : List Sc) (a1 : Int) (b2 : Int) (kR : Int → Option R) : Option R :=
  bo (f_i_members a1) [] fun r1 =>
  bl1 (loopL (f_i_Group_sum_r0 b2 g0 (r1.length : Int)) (0, r1, 0)) 0 fun e3 =>
  kR e3
def f_i_Group_sum (g0 : List Sc) (a1 : Int) (b2 : Int) : Option (Int) := f_i_Group_sum_k g0 a1 b2 some

def f_i_bits_k0 {R : Type} (a0 : Int) (n3 : Int) (kN : Int × Int → Option R) (kA : Int → Option R) : Option R :=
  br ((a0 != 0))
    (kN ((and64 a0 (w64 (a0 - 1))), (w64 (n3 + 1))))
    (kA n3)
def f_i_bits_r0 : (Int × Int) → Option (Ro (Int × Int) (Int) (Unit)) := fun s => f_i_bits_k0 s.1 s.2 (fun s => some (.again s)) (fun e => some (.one e))
def f_i_bits_k {R : Type} (a0 : Int) (kR : Int → Option R) : Option R :=
  bl1 (loopL (f_i_bits_r0) (a0, 0)) 0 fun e1 =>
  kR e1
def f_i_bits (a0 : Int) : Option (Int) := f_i_bits_k a0 some

def f_i_IsDirect_k {R : Type} (g0 : List Sc) (a1 : Int) (b2 : Int) (kR : Bool → Option R) : Option R :=
  bo (f_i_areSets g0 [(Sc.n .i64 a1), (Sc.n .i64 b2)]) false fun r1 =>
  br (r1 == true)
    (bo (f_i_Group_sum g0 a1 b2) 0 fun r2 =>
    bo (f_i_bits r2) 0 fun r3 =>
    bo (f_i_bits a1) 0 fun r4 =>
    bo (f_i_bits b2) 0 fun r5 =>
    kR (r3 == (w64 (r4 * r5))))
    (kR false)
def f_i_IsDirect (g0 : List Sc) (a1 : Int) (b2 : Int) : Option (Bool) := f_i_IsDirect_k g0 a1 b2 some

def f_i_IsTiling_k {R : Type} (g0 : List Sc) (a1 : Int) (b2 : Int) (kR : Bool → Option R) : Option R :=
  bo (f_i_IsDirect g0 a1 b2) false fun r1 =>
  br (r1 == true)
    (bo (f_i_Group_sum g0 a1 b2) 0 fun r2 =>
    bo (f_i_FullSet g0) 0 fun r3 =>
    kR (r2 == r3))
    (kR false)
def f_i_IsTiling (g0 : List Sc) (a1 : Int) (b2 : Int) : Option (Bool) := f_i_IsTiling_k g0 a1 b2 some

def f_s_l3Bits_k0 {R : Type} (n3 : Int) (x4 : Int) (kN : Int × Int → Option R) (kA : Int → Option R) : Option R :=
  br ((decide (x4 > 0)))
    (kN ((w64 (n3 + (and64 x4 1))), (shr64 x4 1)))
    (kA n3)
def f_s_l3Bits_r0 : (Int × Int) → Option (Ro (Int × Int) (Int) (Unit)) := fun s => f_s_l3Bits_k0 s.1 s.2 (fun s => some (.again s)) (fun e => some (.one e))
def f_s_l3Bits_k {R : Type} (a0 : Int) (kR : Int → Option R) : Option R :=
  bl1 (loopL (f_s_l3Bits_r0) (0, a0)) 0 fun e1 =>
  kR e1
def f_s_l3Bits (a0 : Int) : Option (Int) := f_s_l3Bits_k a0 some

def f_s_CountSet_k {R : Type} (g0 : List Sc) (a1 : Int) (kR : Int → Option R) : Option R :=
  bo (f_s_IsSet g0 a1) false fun r1 =>
  br ((!r1))
    (kR (-1))
    (bo (f_s_l3Bits a1) 0 fun r2 =>
    kR r2)
def f_s_CountSet (g0 : List Sc) (a1 : Int) : Option (Int) := f_s_CountSet_k g0 a1 some

def f_s_DrawReplaceFactor_g2_k {R : Type} (v0 : List Sc) (v1 : List Sc) (t0 : List Sc) (t7 : Int) (t8 : Int) (kA : Int → Option R) : Option R :=
  br (inRange ((t0.length : Int).tmod 7) ([(Sc.n .i64 1), (Sc.n .i64 (-1)), (Sc.n .i64 2), (Sc.n .i64 3), (Sc.n .i64 5), (Sc.n .i64 7), (Sc.n .i64 101)]).length)
    (br (kAt [(Sc.n .i64 1), (Sc.n .i64 (-1)), (Sc.n .i64 2), (Sc.n .i64 3), (Sc.n .i64 5), (Sc.n .i64 7), (Sc.n .i64 101)] ((t0.length : Int).tmod 7).toNat)
      (kA (atN [(Sc.n .i64 1), (Sc.n .i64 (-1)), (Sc.n .i64 2), (Sc.n .i64 3), (Sc.n .i64 5), (Sc.n .i64 7), (Sc.n .i64 101)] ((t0.length : Int).tmod 7).toNat))
      none)
    none
def f_s_DrawReplaceFactor_g2 (v0 : List Sc) (v1 : List Sc) (t0 : List Sc) (t7 : Int) (t8 : Int) : Option (Int) := f_s_DrawReplaceFactor_g2_k v0 v1 t0 t7 t8 some
def f_s_DrawReplaceFactor_k {R : Type} (code0 : List Sc) (kR : List Sc × Int × Int × Int → Option R) : Option R :=
  bo (f_s_l20Both code0) ([], 0, 0) fun r1 =>
  bo (f_s_DrawReplaceFactor_g2 [] r1.1 code0 r1.2.1 r1.2.2) 0 fun g2 =>
  kR (r1.1, r1.2.1, r1.2.2, g2)
def f_s_DrawReplaceFactor (code0 : List Sc) : Option (List Sc × Int × Int × Int) := f_s_DrawReplaceFactor_k code0 some

def f_i_Group_times_k0 {R : Type} (x1 : Int) (g3 : List Sc) (t15 : Int) (sum7 : Int) (t16 : Int) (kN : Int × Int → Option R) (kA : Int → Option R) : Option R :=
  br ((decide (t16 < t15)))
    (bo (f_i_Group_add g3 sum7 x1) 0 fun r2 =>
    kN (r2, (w64 (t16 + 1))))
    (kA sum7)
def f_i_Group_times_r0 (x1 : Int) (g3 : List Sc) (t15 : Int) : (Int × Int) → Option (Ro (Int × Int) (Int) (Unit)) := fun s => f_i_Group_times_k0 x1 g3 t15 s.1 s.2 (fun s => some (.again s)) (fun e => some (.one e))
def f_i_Group_times_k {R : Type} (g0 : List Sc) (x1 : Int) (n2 : Int) (kR : Int → Option R) : Option R :=
  br ((decide (n2 < 0)))
    (bo (f_i_Group_negate g0 x1) 0 fun r1 =>
    bl1 (loopL (f_i_Group_times_r0 r1 g0 (w64 (0 - n2))) (0, 0)) 0 fun e3 =>
    kR e3)
    (bl1 (loopL (f_i_Group_times_r0 x1 g0 n2) (0, 0)) 0 fun e4 =>
    kR e4)
def f_i_Group_times (g0 : List Sc) (x1 : Int) (n2 : Int) : Option (Int) := f_i_Group_times_k g0 x1 n2 some

def f_i_DilateSet_k0 {R : Type} (n2 : Int) (g3 : List Sc) (t21 : Int) (out7 : Int) (t20 : List Sc) (t22 : Int) (kN : Int × List Sc × Int → Option R) (kA : Int → Option R) : Option R :=
  br ((decide (t22 < t21)))
    (br (inRange t22 (t20).length)
      (br (kAt t20 t22.toNat)
        (bo (f_i_Group_times g3 (atN t20 t22.toNat) n2) 0 fun r4 =>
        br (decide (r4 < 0))
          none
          (kN ((or64 out7 (shl64 1 r4)), t20, (w64 (t22 + 1)))))
        none)
      none)
    (kA out7)
def f_i_DilateSet_r0 (n2 : Int) (g3 : List Sc) (t21 : Int) : (Int × List Sc × Int) → Option (Ro (Int × List Sc × Int) (Int) (Unit)) := fun s => f_i_DilateSet_k0 n2 g3 t21 s.1 s.2.1 s.2.2 (fun s => some (.again s)) (fun e => some (.one e))
def f_i_DilateSet_k {R : Type} (g0 : List Sc) (a1 : Int) (n2 : Int) (kR : Int → Option R) : Option R :=
  bo (f_i_IsSet g0 a1) false fun r1 =>
  br ((!r1) == false)
    (bo (f_i_within n2 (-100) 100) false fun r2 =>
    br ((!r2))
      (kR (-1))
      (bo (f_i_members a1) [] fun r3 =>
      bl1 (loopL (f_i_DilateSet_r0 n2 g0 (r3.length : Int)) (0, r3, 0)) 0 fun e5 =>
      kR e5))
    (kR (-1))
def f_i_DilateSet (g0 : List Sc) (a1 : Int) (n2 : Int) : Option (Int) := f_i_DilateSet_k g0 a1 n2 some

def f_i_ReplaceFactor_k {R : Type} (g0 : List Sc) (a1 : Int) (b2 : Int) (n3 : Int) (kR : Bool → Option R) : Option R :=
  bo (f_i_DilateSet g0 a1 n3) 0 fun r1 =>
  bo (f_i_IsTiling g0 a1 b2) false fun r2 =>
  br (r2 == true)
    (br ((decide (r1 ≥ 0)) == true)
      (bo (f_i_bits r1) 0 fun r3 =>
      bo (f_i_bits a1) 0 fun r4 =>
      br ((r3 == r4) == true)
        (bo (f_i_IsTiling g0 r1 b2) false fun r5 =>
        kR r5)
        (kR false))
      (kR false))
    (kR false)
def f_i_ReplaceFactor (g0 : List Sc) (a1 : Int) (b2 : Int) (n3 : Int) : Option (Bool) := f_i_ReplaceFactor_k g0 a1 b2 n3 some

def f_s_l2Is_k {R : Type} (g0 : List Sc) (x1 : Int) (kR : Bool → Option R) : Option R :=
  br ((decide (x1 ≥ 0)) == true)
    (bo (f_s_OrderOf g0) 0 fun r1 =>
    kR (decide (x1 < r1)))
    (kR false)
def f_s_l2Is (g0 : List Sc) (x1 : Int) : Option (Bool) := f_s_l2Is_k g0 x1 some

def f_s_MultipleOf_k0 {R : Type} (x1 : Int) (n2 : Int) (g3 : List Sc) (z7 : Int) (i8 : Int) (kN : Int × Int → Option R) (kA : Int → Option R) : Option R :=
  br ((decide (i8 < n2)))
    (bo (f_s_l2Add g3 z7 x1) 0 fun r4 =>
    kN (r4, (w64 (i8 + 1))))
    (kA z7)
def f_s_MultipleOf_r0 (x1 : Int) (n2 : Int) (g3 : List Sc) : (Int × Int) → Option (Ro (Int × Int) (Int) (Unit)) := fun s => f_s_MultipleOf_k0 x1 n2 g3 s.1 s.2 (fun s => some (.again s)) (fun e => some (.one e))
def f_s_MultipleOf_k {R : Type} (g0 : List Sc) (x1 : Int) (n2 : Int) (kR : Int → Option R) : Option R :=
  bo (f_s_l2Is g0 x1) false fun r1 =>
  br ((!r1) == false)
    (bo (f_s_l1In n2 (-100) 100) false fun r2 =>
    br ((!r2))
      (kR (-1))
      (br ((decide (n2 < 0)))
        (bo (f_s_l2Negate g0 x1) 0 fun r3 =>
        bl1 (loopL (f_s_MultipleOf_r0 r3 (w64 (0 - n2)) g0) (0, 0)) 0 fun e5 =>
        kR e5)
        (bl1 (loopL (f_s_MultipleOf_r0 x1 n2 g0) (0, 0)) 0 fun e6 =>
        kR e6)))
    (kR (-1))
def f_s_MultipleOf (g0 : List Sc) (x1 : Int) (n2 : Int) : Option (Int) := f_s_MultipleOf_k g0 x1 n2 some

def f_s_DilateSet_k0 {R : Type} (n2 : Int) (g3 : List Sc) (out7 : Int) (l8 : List Sc) (i9 : Int) (kN : Int × List Sc × Int → Option R) (kA : Int → Option R) : Option R :=
  br ((decide (i9 < (l8.length : Int))))
    (br (inRange i9 (l8).length)
      (br (kAt l8 i9.toNat)
        (bo (f_s_MultipleOf g3 (atN l8 i9.toNat) n2) 0 fun r4 =>
        br (decide (r4 < 0))
          none
          (kN ((or64 out7 (shl64 1 r4)), l8, (w64 (i9 + 1)))))
        none)
      none)
    (kA out7)
def f_s_DilateSet_r0 (n2 : Int) (g3 : List Sc) : (Int × List Sc × Int) → Option (Ro (Int × List Sc × Int) (Int) (Unit)) := fun s => f_s_DilateSet_k0 n2 g3 s.1 s.2.1 s.2.2 (fun s => some (.again s)) (fun e => some (.one e))
def f_s_DilateSet_k {R : Type} (g0 : List Sc) (a1 : Int) (n2 : Int) (kR : Int → Option R) : Option R :=
  bo (f_s_IsSet g0 a1) false fun r1 =>
  br ((!r1) == false)
    (bo (f_s_l1In n2 (-100) 100) false fun r2 =>
    br ((!r2))
      (kR (-1))
      (bo (f_s_l3List a1) [] fun r3 =>
      bl1 (loopL (f_s_DilateSet_r0 n2 g0) (0, r3, 0)) 0 fun e5 =>
      kR e5))
    (kR (-1))
def f_s_DilateSet (g0 : List Sc) (a1 : Int) (n2 : Int) : Option (Int) := f_s_DilateSet_k g0 a1 n2 some

def f_s_IsDirect_k {R : Type} (g0 : List Sc) (a1 : Int) (b2 : Int) (kR : Bool → Option R) : Option R :=
  bo (f_s_IsSet g0 a1) false fun r1 =>
  br (r1 == true)
    (bo (f_s_IsSet g0 b2) false fun r2 =>
    br (r2 == true)
      (bo (f_s_l4Sum g0 a1 b2) 0 fun r3 =>
      bo (f_s_l3Bits r3) 0 fun r4 =>
      bo (f_s_l3Bits a1) 0 fun r5 =>
      bo (f_s_l3Bits b2) 0 fun r6 =>
      kR (r4 == (w64 (r5 * r6))))
      (kR false))
    (kR false)
def f_s_IsDirect (g0 : List Sc) (a1 : Int) (b2 : Int) : Option (Bool) := f_s_IsDirect_k g0 a1 b2 some

def f_s_IsTiling_k {R : Type} (g0 : List Sc) (a1 : Int) (b2 : Int) (kR : Bool → Option R) : Option R :=
  bo (f_s_IsDirect g0 a1 b2) false fun r1 =>
  br (r1 == true)
    (bo (f_s_l4Sum g0 a1 b2) 0 fun r2 =>
    bo (f_s_l2Order g0) 0 fun r3 =>
    br (decide (r3 < 0))
      none
      (kR (r2 == (w64 ((shl64 1 r3) - 1)))))
    (kR false)
def f_s_IsTiling (g0 : List Sc) (a1 : Int) (b2 : Int) : Option (Bool) := f_s_IsTiling_k g0 a1 b2 some

def f_s_ReplaceFactor_k {R : Type} (g0 : List Sc) (a1 : Int) (b2 : Int) (n3 : Int) (kR : Bool → Option R) : Option R :=
  bo (f_s_DilateSet g0 a1 n3) 0 fun r1 =>
  bo (f_s_IsTiling g0 a1 b2) false fun r2 =>
  br (r2 == true)
    (br ((decide (r1 ≥ 0)) == true)
      (bo (f_s_l3Bits r1) 0 fun r3 =>
      bo (f_s_l3Bits a1) 0 fun r4 =>
      br ((r3 == r4) == true)
        (bo (f_s_IsTiling g0 r1 b2) false fun r5 =>
        kR r5)
        (kR false))
      (kR false))
    (kR false)
def f_s_ReplaceFactor (g0 : List Sc) (a1 : Int) (b2 : Int) (n3 : Int) : Option (Bool) := f_s_ReplaceFactor_k g0 a1 b2 n3 some

def f_s_DrawIsTiling_k {R : Type} (code0 : List Sc) (kR : List Sc × Int × Int → Option R) : Option R :=
  bo (f_s_l20Both code0) ([], 0, 0) fun r1 =>
  kR (r1.1, r1.2.1, r1.2.2)
def f_s_DrawIsTiling (code0 : List Sc) : Option (List Sc × Int × Int) := f_s_DrawIsTiling_k code0 some

def f_s_DrawHasPeriodicFactor_k {R : Type} (code0 : List Sc) (kR : List Sc × Int × Int → Option R) : Option R :=
  bo (f_s_l20Both code0) ([], 0, 0) fun r1 =>
  kR (r1.1, r1.2.1, r1.2.2)
def f_s_DrawHasPeriodicFactor (code0 : List Sc) : Option (List Sc × Int × Int) := f_s_DrawHasPeriodicFactor_k code0 some

def f_s_DrawIsDirect_k {R : Type} (code0 : List Sc) (kR : List Sc × Int × Int → Option R) : Option R :=
  bo (f_s_l20Both code0) ([], 0, 0) fun r1 =>
  kR (r1.1, r1.2.1, r1.2.2)
def f_s_DrawIsDirect (code0 : List Sc) : Option (List Sc × Int × Int) := f_s_DrawIsDirect_k code0 some

def f_i_StabilizerOf_k0 {R : Type} (a1 : Int) (g2 : List Sc) (t12 : Int) (out5 : Int) (t13 : Int) (kN : Int × Int → Option R) (kA : Int → Option R) : Option R :=
  br ((decide (t13 < t12)))
    (bo (f_i_Group_shift g2 a1 t13) 0 fun r3 =>
    br ((r3 == a1))
      (br (decide (t13 < 0))
        none
        (kN ((or64 out5 (shl64 1 t13)), (w64 (t13 + 1)))))
      (kN (out5, (w64 (t13 + 1)))))
    (kA out5)
def f_i_StabilizerOf_r0 (a1 : Int) (g2 : List Sc) (t12 : Int) : (Int × Int) → Option (Ro (Int × Int) (Int) (Unit)) := fun s => f_i_StabilizerOf_k0 a1 g2 t12 s.1 s.2 (fun s => some (.again s)) (fun e => some (.one e))
def f_i_StabilizerOf_k {R : Type} (g0 : List Sc) (a1 : Int) (kR : Int → Option R) : Option R :=
  bo (f_i_IsSet g0 a1) false fun r1 =>
  br ((!r1))
    (kR (-1))
    (bo (f_i_OrderOf g0) 0 fun r2 =>
    bl1 (loopL (f_i_StabilizerOf_r0 a1 g0 r2) (0, 0)) 0 fun e4 =>
    kR e4)
def f_i_StabilizerOf (g0 : List Sc) (a1 : Int) : Option (Int) := f_i_StabilizerOf_k g0 a1 some

def f_i_IsPeriodic_k {R : Type} (g0 : List Sc) (a1 : Int) (kR : Bool → Option R) : Option R :=
  bo (f_i_IsSet g0 a1) false fun r1 =>
  br (r1 == true)
    (bo (f_i_StabilizerOf g0 a1) 0 fun r2 =>
    bo (f_i_bits r2) 0 fun r3 =>
    kR (decide (r3 > 1)))
    (kR false)
def f_i_IsPeriodic (g0 : List Sc) (a1 : Int) : Option (Bool) := f_i_IsPeriodic_k g0 a1 some

def f_i_HasPeriodicFactor_k {R : Type} (g0 : List Sc) (a1 : Int) (b2 : Int) (kR : Bool → Option R) : Option R :=
  bo (f_i_IsTiling g0 a1 b2) false fun r1 =>
  br (r1 == true)
    (bo (f_i_IsPeriodic g0 a1) false fun r2 =>
    br (r2 == false)
      (bo (f_i_IsPeriodic g0 b2) false fun r3 =>
      kR r3)
      (kR true))
    (kR false)
def f_i_HasPeriodicFactor (g0 : List Sc) (a1 : Int) (b2 : Int) : Option (Bool) := f_i_HasPeriodicFactor_k g0 a1 b2 some

def f_s_l6Stabilizer_k0 {R : Type} (a1 : Int) (g2 : List Sc) (out5 : Int) (x6 : Int) (kN : Int × Int → Option R) (kA : Int → Option R) : Option R :=
  bo (f_s_l2Order g2) 0 fun r1 =>
  br ((decide (x6 < r1)))
    (bo (f_s_l3Shift g2 a1 x6) 0 fun r2 =>
    br ((r2 == a1))
      (br (decide (x6 < 0))
        none
        (kN ((or64 out5 (shl64 1 x6)), (w64 (x6 + 1)))))
      (kN (out5, (w64 (x6 + 1)))))
    (kA out5)
def f_s_l6Stabilizer_r0 (a1 : Int) (g2 : List Sc) : (Int × Int) → Option (Ro (Int × Int) (Int) (Unit)) := fun s => f_s_l6Stabilizer_k0 a1 g2 s.1 s.2 (fun s => some (.again s)) (fun e => some (.one e))
def f_s_l6Stabilizer_k {R : Type} (g0 : List Sc) (a1 : Int) (kR : Int → Option R) : Option R :=
  bl1 (loopL (f_s_l6Stabilizer_r0 a1 g0) (0, 0)) 0 fun e3 =>
  kR e3
def f_s_l6Stabilizer (g0 : List Sc) (a1 : Int) : Option (Int) := f_s_l6Stabilizer_k g0 a1 some

def f_s_IsPeriodic_k {R : Type} (g0 : List Sc) (a1 : Int) (kR : Bool → Option R) : Option R :=
  bo (f_s_IsSet g0 a1) false fun r1 =>
  br (r1 == true)
    (bo (f_s_l6Stabilizer g0 a1) 0 fun r2 =>
    kR (decide (r2 > 1)))
    (kR false)
def f_s_IsPeriodic (g0 : List Sc) (a1 : Int) : Option (Bool) := f_s_IsPeriodic_k g0 a1 some

def f_s_HasPeriodicFactor_k {R : Type} (g0 : List Sc) (a1 : Int) (b2 : Int) (kR : Bool → Option R) : Option R :=
  bo (f_s_IsTiling g0 a1 b2) false fun r1 =>
  br (r1 == true)
    (bo (f_s_IsPeriodic g0 a1) false fun r2 =>
    br (r2 == false)
      (bo (f_s_IsPeriodic g0 b2) false fun r3 =>
      kR r3)
      (kR true))
    (kR false)
def f_s_HasPeriodicFactor (g0 : List Sc) (a1 : Int) (b2 : Int) : Option (Bool) := f_s_HasPeriodicFactor_k g0 a1 b2 some

def f_l_FnTilings_k0 {R : Type} (L0 : List Sc) (t4 : Int) (t7 : List Sc) (t10 : Bool) (v0 : List Sc) (t13 : Int) (kN : List Sc × Int → Option R) (kA : List Sc → Option R) (kB : Unit → Option R) : Option R :=
  br ((decide (t13 < (t7.length : Int))))
    (br (okAt t7 t13)
      (bo (f_i_IsTiling v0 t4 (atI t7 t13)) false fun r10 =>
      br ((!r10) == false)
        (br (okAt t7 t13)
          (bo (f_i_IsTiling v0 (atI t7 t13) t4) false fun r11 =>
          br ((!r11) == false)
            (br (okAt t7 t13)
              (br (((and64 (atI t7 t13) 1) == 0) == false)
                (br (okAt t7 t13)
                  (bo (f_i_IsDirect v0 t4 (atI t7 t13)) false fun r12 =>
                  br ((!r12))
                    (kB ())
                    (kN (v0, (w64 (t13 + 1)))))
                  none)
                (kB ()))
              none)
            (kB ()))
          none)
        (kB ()))
      none)
    (kA v0)
def f_l_FnTilings_r0 (L0 : List Sc) (t4 : Int) (t7 : List Sc) (t10 : Bool) : (List Sc × Int) → Option (Ro (List Sc × Int) (List Sc) (Unit)) := fun s => f_l_FnTilings_k0 L0 t4 t7 t10 s.1 s.2 (fun s => some (.again s)) (fun e => some (.one e)) (fun e => some (.two e))
def f_l_FnTilings_k2 {R : Type} (L0 : List Sc) (t15 : Int) (t16 : Int) (t17 : Int) (t18 : Bool) (t19 : Int) (v1 : List Sc) (t20 : Bool) (t21 : Int) (kN : List Sc × Bool × Int → Option R) (kA : List Sc × Bool → Option R) : Option R :=
  br ((decide (t21 ≤ t19)) == true)
    (br (t20)
      (br (t21 == 0)
        none
        (br (((t19.tmod t21) == 0) == true)
          (br (t21 == 0)
            none
            (br (((t17.tmod t21) == 0))
              (kN (v1, false, (w64 (t21 + 1))))
              (kN (v1, t20, (w64 (t21 + 1))))))
          (kN (v1, t20, (w64 (t21 + 1))))))
      (kA (v1, t20)))
    (kA (v1, t20))
def f_l_FnTilings_r2 (L0 : List Sc) (t15 : Int) (t16 : Int) (t17 : Int) (t18 : Bool) (t19 : Int) : (List Sc × Bool × Int) → Option (Ro (List Sc × Bool × Int) (List Sc × Bool) (Unit)) := fun s => f_l_FnTilings_k2 L0 t15 t16 t17 t18 t19 s.1 s.2.1 s.2.2 (fun s => some (.again s)) (fun e => some (.one e))
def f_l_FnTilings_w30_k {R : Type} (t0 : List Sc) (kA : Bool → Option R) : Option R :=
  bo (f_s_DrawIsTiling t0) ([], 0, 0) fun r22 =>
  bo (f_s_DrawHasPeriodicFactor t0) ([], 0, 0) fun r23 =>
  bo (f_s_DrawIsDirect t0) ([], 0, 0) fun r24 =>
  bo (f_i_IsTiling r22.1 r22.2.1 r22.2.2) false fun r25 =>
  bo (f_s_IsTiling r22.1 r22.2.1 r22.2.2) false fun r26 =>
  br ((r25 == r26) == true)
    (bo (f_i_HasPeriodicFactor r23.1 r23.2.1 r23.2.2) false fun r27 =>
    bo (f_s_HasPeriodicFactor r23.1 r23.2.1 r23.2.2) false fun r28 =>
    br ((r27 == r28) == true)
      (bo (f_i_IsDirect r24.1 r24.2.1 r24.2.2) false fun r29 =>
      bo (f_s_IsDirect r24.1 r24.2.1 r24.2.2) false fun r30 =>
      kA (r29 == r30))
      (kA false))
    (kA false)
def f_l_FnTilings_w30 (t0 : List Sc) : Option (Bool) := f_l_FnTilings_w30_k t0 some
def f_l_FnTilings_w28_k {R : Type} (v1 : List Sc) (t0 : List Sc) (t15 : Int) (t16 : Int) (t18 : Bool) (t20 : Bool) (kA : Bool → Option R) : Option R :=
  br (t20 == true)
    (bo (f_i_IsTiling v1 t15 t16) false fun r21 =>
    br (r21 == true)
      (br ((!t18))
        (kA false)
        (bo (f_l_FnTilings_w30 t0) false fun w31 =>
        kA w31))
      (bo (f_l_FnTilings_w30 t0) false fun w32 =>
      kA w32))
    (bo (f_l_FnTilings_w30 t0) false fun w33 =>
    kA w33)
def f_l_FnTilings_w28 (v1 : List Sc) (t0 : List Sc) (t15 : Int) (t16 : Int) (t18 : Bool) (t20 : Bool) : Option (Bool) := f_l_FnTilings_w28_k v1 t0 t15 t16 t18 t20 some
def f_l_FnTilings_w21_k {R : Type} (v1 : List Sc) (t0 : List Sc) (t15 : Int) (t16 : Int) (t17 : Int) (t18 : Bool) (kA : Bool → Option R) : Option R :=
  bo (f_s_OrderOf v1) 0 fun r19 =>
  br ((decide (t17 ≥ 1)) == true)
    (br ((decide (t17 ≤ 100)) == true)
      (bl1 (loopL (f_l_FnTilings_r2 t0 t15 t16 t17 t18 r19) (v1, (decide (r19 > 0)), 2)) ([], false) fun e20 =>
      bo (f_l_FnTilings_w28 e20.1 t0 t15 t16 t18 e20.2) false fun w34 =>
      kA w34)
      (bl1 (loopL (f_l_FnTilings_r2 t0 t15 t16 t17 t18 r19) (v1, false, 2)) ([], false) fun e35 =>
      bo (f_l_FnTilings_w28 e35.1 t0 t15 t16 t18 e35.2) false fun w36 =>
      kA w36))
    (bl1 (loopL (f_l_FnTilings_r2 t0 t15 t16 t17 t18 r19) (v1, false, 2)) ([], false) fun e37 =>
    bo (f_l_FnTilings_w28 e37.1 t0 t15 t16 t18 e37.2) false fun w38 =>
    kA w38)
def f_l_FnTilings_w21 (v1 : List Sc) (t0 : List Sc) (t15 : Int) (t16 : Int) (t17 : Int) (t18 : Bool) : Option (Bool) := f_l_FnTilings_w21_k v1 t0 t15 t16 t17 t18 some
def f_l_FnTilings_w17_k {R : Type} (t0 : List Sc) (kA : Bool → Option R) : Option R :=
  bo (f_s_DrawReplaceFactor t0) ([], 0, 0, 0) fun r16 =>
  bo (f_i_ReplaceFactor r16.1 r16.2.1 r16.2.2.1 r16.2.2.2) false fun r17 =>
  bo (f_s_ReplaceFactor r16.1 r16.2.1 r16.2.2.1 r16.2.2.2) false fun r18 =>
  br ((!(r17 == r18)))
    (kA false)
    (bo (f_l_FnTilings_w21 r16.1 t0 r16.2.1 r16.2.2.1 r16.2.2.2 r17) false fun w39 =>
    kA w39)
def f_l_FnTilings_w17 (t0 : List Sc) : Option (Bool) := f_l_FnTilings_w17_k t0 some
def f_l_FnTilings_w15_k {R : Type} (v0 : List Sc) (t0 : List Sc) (t4 : Int) (t10 : Bool) (kA : Bool → Option R) : Option R :=
  br (t10 == true)
    (bo (f_s_OrderOf v0) 0 fun r14 =>
    bo (f_s_CountSet v0 t4) 0 fun r15 =>
    br (r15 == 0)
      none
      (br (((r14.tmod r15) != 0))
        (kA false)
        (bo (f_l_FnTilings_w17 t0) false fun w40 =>
        kA w40)))
    (bo (f_l_FnTilings_w17 t0) false fun w41 =>
    kA w41)
def f_l_FnTilings_w15 (v0 : List Sc) (t0 : List Sc) (t4 : Int) (t10 : Bool) : Option (Bool) := f_l_FnTilings_w15_k v0 t0 t4 t10 some
def f_l_FnTilings_w10_k {R : Type} (v0 : List Sc) (t0 : List Sc) (t4 : Int) (t7 : List Sc) (t10 : Bool) (kA : Bool → Option R) : Option R :=
  bl (loopL (f_l_FnTilings_r0 t0 t4 t7 t10) (v0, 0)) [] ()
    (fun e13 =>
      bo (f_l_FnTilings_w15 e13 t0 t4 t10) false fun w42 =>
      kA w42)
    (fun e13 =>
      kA false)
def f_l_FnTilings_w10 (v0 : List Sc) (t0 : List Sc) (t4 : Int) (t7 : List Sc) (t10 : Bool) : Option (Bool) := f_l_FnTilings_w10_k v0 t0 t4 t7 t10 some
def f_l_FnTilings_w3_k {R : Type} (t0 : List Sc) (kA : Bool → Option R) : Option R :=
  bo (f_s_DrawTilesOf t0) ([], 0) fun r2 =>
  bo (f_i_TilesOf r2.1 r2.2) ([], false) fun r3 =>
  bo (f_s_TilesOf r2.1 r2.2) ([], false) fun r4 =>
  bo (f_i_FindTile r2.1 r2.2) (0, false) fun r5 =>
  bo (f_s_FindTile r2.1 r2.2) (0, false) fun r6 =>
  br ((!(r3.2 == r4.2)) == false)
    (bo (f_l_sameInts r3.1 r4.1) false fun r7 =>
    br ((!r7) == false)
      (br ((r5.1 != r6.1) == false)
        (br ((!(r5.2 == r6.2)) == false)
          (bo (f_i_SplitsOf r2.1 r2.2) 0 fun r8 =>
          bo (f_s_SplitsOf r2.1 r2.2) 0 fun r9 =>
          br ((r8 != r9) == false)
            (br (r3.2 == true)
              (br ((!(r5.2 == (decide ((r4.1.length : Int) > 0)))))
                (kA false)
                (bo (f_l_FnTilings_w10 r2.1 t0 r2.2 r4.1 r5.2) false fun w43 =>
                kA w43))
              (bo (f_l_FnTilings_w10 r2.1 t0 r2.2 r4.1 r5.2) false fun w44 =>
              kA w44))
            (kA false))
          (kA false))
        (kA false))
      (kA false))
    (kA false)
def f_l_FnTilings_w3 (t0 : List Sc) : Option (Bool) := f_l_FnTilings_w3_k t0 some
def f_l_FnTilings_k {R : Type} (L0 : List Sc) (kR : Bool → Option R) : Option R :=
  bo (f_l_big L0) false fun r1 =>
  br (r1)
    (kR true)
    (bo (f_l_FnTilings_w3 L0) false fun w45 =>
    kR w45)
def f_l_FnTilings (L0 : List Sc) : Option (Bool) := f_l_FnTilings_k L0 some
end
end Go.Proofs.Ytgbjlmhokkhiaaa
